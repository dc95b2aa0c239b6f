/- WHAT THE EVALUATOR IN CONTINUATION STYLE TAKES FOR TRUE, the other one takes for true too. -/
import Derived.Test.YtmoojbahmkmfiaaGreatEcAgree
import Derived.Test.YtmoojbahmkmfiaaGreatEwBelow
namespace Go.Ec
open Go.Ew

theorem evC_eq (P : Program) (O : Ora) (n : Nat) : cC (Ew.evC P O n) = Ec.evC P O n := by
  funext sz c env H nx
  exact evC_c P O n sz c env H nx
theorem evTrue_c {P : Program} {O : Ora} {n : Nat} {f : FuncId} (h : Ec.evTrue P O n f = true) : Ew.evTrue P O n f = true := by
  unfold Ew.evTrue Ew.evF
  unfold Ec.evTrue at h
  have e := callK_c P (Ew.evC P O n) f [] .lf 0 (fun v H nx => (.ok (v, H, nx) : Ew.Res (AV × Heap × Nat)))
  rw [evC_eq] at e
  have e3 : (fun (v : AV) (H : Heap) (nx : Nat) => toC (.ok (v, H, nx) : Ew.Res (AV × Heap × Nat))) = fun v H nx => Ec.Res.ok (v, H, nx) := rfl
  rw [e3] at e
  rw [← e] at h
  generalize Ew.callK P (Ew.evC P O n) f [] .lf 0 (fun v H nx => (.ok (v, H, nx) : Ew.Res (AV × Heap × Nat))) = x at h ⊢
  cases x with
  | no w => cases h
  | ok r =>
    obtain ⟨v, H, nx⟩ := r
    show Ew.isTrue (Ew.Res.ok (v, H, nx)) = true
    have h : yes v = true := h
    unfold yes at h
    unfold Ew.isTrue
    cases v <;> simp_all
end Go.Ec
