/- PROVED HERE: 'VerdictNames', a law without arguments, returns true in every world, on every tape, and what was there stays as it was. No condition.
   How: the evaluator's run (by the kernel) gives true, and the evaluator is sound over the model. -/
import Derived.Test.YtmoojbahmkmfiaaGreatRows
import Derived.Test.YtmoojbahmkmfiaaGreatEcTrue
import Derived.Test.YtmoojbahmkmfiaaGreatVerdictNamesRun
import Derived.WalkKit
import Derived.ProofKit
import Derived.OpenShut
import Derived.Eval
namespace Go.Proofs.YtmoojbahmkmfiaaGreat.lawVerdictNames
open Go.ChangeShapes Go.WideShapes Go.ChangeAt Go.RowKit

theorem own : ownKnob Tryz.prog.godebug = none := by kernel_rfl

theorem walk (w : World) : Calls Tryz.prog 6 #[] w fun e w' => e = .returned (.bool true) ∧ Below w.heap.size w w' :=
  (Go.Ew.evTrue_calls (Checked.mixed Tryz.checked) Go.Ew.noOra_sound (Go.Ec.evTrue_c run) w).mono fun _ _ h => ⟨h.1, Go.Ew.below_of h.2⟩

set_option maxRecDepth 100000 in
theorem lifted (os : Os) (started : os.Started) (H : Type) (enc : TypeId × Value → H) :
    ReturnsInHanded {} Tryz.checked os 6 .any (Rows.verdictNamesSpec.pre6 enc Tryz.prog Tryz.f6 Rows.verdictNamesRow.domain false) (Rows.verdictNamesSpec.post enc Tryz.prog Tryz.f6 false true false false) := by
  refine returnsInHanded_of_change (C := Tryz.checked) own started (by kernel_rfl) Tryz.func6
    (ChangeSpec.witness6 (enc := enc) (C := Tryz.checked) false ⟨#[], #[], []⟩ 8 (by kernel_rfl) (by kernel_rfl) (by kernel_rfl) (by kernel_rfl)) ?_
  intro W base args ds gs before hval0 hW hcnd _
  have hW' := hW
  obtain ⟨p, q, hA0, hV, rfl, hfz, hnd⟩ := hW
  have hA : DataW.TrodAll enc Tryz.prog W 0 (fun _ => true) true Tryz.f6.params.toList args.toList ds p := hA0
  rw [Tryz.params6] at hA
  obtain ⟨rfl, rfl, rfl⟩ := trodAll_none hA
  obtain ⟨rfl, rfl⟩ := trodVars_none hV
  clear hA0 hval0
  simp only [List.append_nil] at hW'
  refine (walk W).mono fun e W' ⟨he, hg⟩ => ?_
  subst he
  exact ⟨_, rfl, Go.Ew.post_below (pa := []) (pv := []) hW' (fun _ _ _ => (trodAll_cons_mk (shut_bool Tryz.underlying4 _) trodAll_mk0)) (fun sp _ => rfl) (fun _ _ => rfl) rfl
    hg (ok_one (by kernel_rfl) rfl (okWide_bool_mk Tryz.underlying4 _))⟩

theorem over : Rows.verdictNamesRow.holds Tryz.pinned (OpenSpec.ofChange Rows.verdictNamesSpec) :=
  OpenClaim.holds_of_wide 6 Tryz.f6 rfl rfl rfl rfl rfl rfl rfl ⟨rfl, rfl, rfl, rfl, rfl⟩ rfl rfl rfl rfl rfl (by kernel_rfl) Tryz.func6 (by kernel_rfl)
    (of_decide_eq_true (by kernel_rfl)) (by unfold Func.isWrapper; first | (rw [if_pos (by decide +kernel)]; kernel_rfl) | (rw [if_neg (by decide +kernel)]; exact ⟨rfl, rfl⟩))
    (fun os started H enc _ => lifted os started H enc)

theorem proved : Rows.VerdictNamesSaid := over
#print axioms proved
end Go.Proofs.YtmoojbahmkmfiaaGreat.lawVerdictNames
