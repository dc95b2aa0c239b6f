/- What the evaluator's values read as; spiritlevelref12.All up to 6. -/
import Derived.Test.YtcchjefjljpccaaGreatEwD
import Derived.Test.YtcchjefjljpccaaGreatPShrinkFirstx0
import Derived.Test.YtcchjefjljpccaaGreatChecked
import Derived.KernelRfl
namespace Go.Proofs.YtcchjefjljpccaaGreat.SF
set_option linter.unusedVariables false
open Go.RowKit Go.Lib Go.Proofs.YtcchjefjljpccaaGreatW.PrintWords Go.Proofs.YtcchjefjljpccaaGreatW.PrintLast Go.Proofs.YtcchjefjljpccaaGreatW.PrintMore
open Go.Ew (AV Heap Tr HR VR VRL Ix evF Ora)

/-! ### what an abstract value reads as -/
noncomputable def cellsBools (t : Tr AV) : Nat → List Bool → Bool
  | _, [] => true
  | off, b :: r => (match t.get off with | some (.bool c) => Ew.sameBool c b | _ => false) && cellsBools t (off + 1) r
noncomputable def readBools (H : Heap) (v : AV) (L : List Bool) : Bool := match v with
  | .slice b ver off len cap => Nat.ble L.length 1000000 && (Nat.beq len L.length && (match H.get b with
    | some blk => (match blk.ext ver with | some e => Nat.ble (off + len) e && cellsBools blk.cells off L | none => false)
    | none => false))
  | _ => false
noncomputable def cellsRows (H : Heap) (t : Tr AV) : Nat → List (List Bool) → Bool
  | _, [] => true
  | off, l :: r => (match t.get off with | some v => readBools H v l | none => false) && cellsRows H t (off + 1) r
noncomputable def readRows (H : Heap) (v : AV) (L : List (List Bool)) : Bool := match v with
  | .slice b ver off len cap => Nat.ble L.length 1000000 && (Nat.beq len L.length && (match H.get b with
    | some blk => (match blk.ext ver with | some e => Nat.ble (off + len) e && cellsRows H blk.cells off L | none => false)
    | none => false))
  | _ => false

theorem sameBool_eq {a b : Bool} (h : Ew.sameBool a b = true) : a = b := by cases a <;> cases b <;> simp_all [Ew.sameBool]
theorem cellsBools_get {t : Tr AV} : ∀ {L : List Bool} {off : Nat}, cellsBools t off L = true → ∀ j b, L[j]? = some b → t.get (off + j) = some (.bool b)
  | [], _, _, j, b, h => by simp at h
  | c :: r, off, hc, j, b, h => by
    simp only [cellsBools, Bool.and_eq_true] at hc
    obtain ⟨h1, h2⟩ := hc
    cases j with
    | zero =>
      simp at h; subst h
      split at h1
      · rename_i c' hg; rw [Nat.add_zero, hg, sameBool_eq h1]
      · cases h1
    | succ j =>
      have := cellsBools_get h2 j b (by simpa using h)
      rw [show off + (j + 1) = off + 1 + j by omega]; exact this
theorem cellsRows_get {H : Heap} {t : Tr AV} : ∀ {L : List (List Bool)} {off : Nat}, cellsRows H t off L = true → ∀ j b, L[j]? = some b → ∃ v, t.get (off + j) = some v ∧ readBools H v b = true
  | [], _, _, j, b, h => by simp at h
  | c :: r, off, hc, j, b, h => by
    simp only [cellsRows, Bool.and_eq_true] at hc
    obtain ⟨h1, h2⟩ := hc
    cases j with
    | zero =>
      simp at h; subst h
      split at h1
      · rename_i v hg; exact ⟨v, hg, h1⟩
      · cases h1
    | succ j =>
      have := cellsRows_get h2 j b (by simpa using h)
      rw [show off + (j + 1) = off + 1 + j by omega]; exact this
theorem add_lit' (b o j : Nat) : (⟨b, o, none⟩ : Addr).add j = ⟨b, o + j, none⟩ := by unfold Addr.add; split <;> simp_all

theorem slice_of {ι : Ix} {b v off len : Nat} {cap : Ew.Cap} {x : Value} (h : VR ι (.slice b v off len cap) x) : (∃ p c, ι b v = some p ∧ len ≤ c ∧ x = .slice (some ⟨p.blk, off, none⟩) len c) ∨ (len = 0 ∧ ∃ a c, x = .slice a 0 c) := by
  cases h with
  | known hp hl => exact .inl ⟨_, _, hp, hl, rfl⟩
  | opn hp hl hs => exact .inl ⟨_, _, hp, hl, rfl⟩
  | loose => exact .inr ⟨rfl, _, _, rfl⟩

theorem readBools_ok {ι : Ix} {H : Heap} {w : World} {v : AV} {x : Value} {L : List Bool} (hr : HR ι H w) (hv : VR ι v x) (h : readBools H v L = true) :
    ∃ A c, x = .slice A L.length c ∧ L.length ≤ c ∧ Kd.C Kd.bool w A L.length L := by
  unfold readBools at h
  split at h
  · rename_i b ver off len cap
    simp only [Bool.and_eq_true] at h
    obtain ⟨h0, h1, h2⟩ := h
    have hl := Nat.eq_of_beq_eq_true h1
    subst hl
    have h0 := Nat.le_of_ble_eq_true h0
    rcases slice_of hv with ⟨p, c, hp, hc, rfl⟩ | ⟨hz, a, c, rfl⟩
    · refine ⟨_, c, rfl, hc, rfl, by omega, fun _ => ⟨_, rfl, fun j q hq => ⟨[.bool q], rfl, rfl, fun i u hi => ?_⟩⟩⟩
      split at h2
      · rename_i blk hb
        split at h2
        · rename_i e he
          simp only [Bool.and_eq_true] at h2
          obtain ⟨h3, h4⟩ := h2
          have h3 := Nat.le_of_ble_eq_true h3
          obtain ⟨cs, el, hw, hcs, hle, hcell⟩ := hr.cells b blk ver e p hb he hp
          have hj : j < L.length := by
            rcases Nat.lt_or_ge j L.length with h | h
            · exact h
            · rw [List.getElem?_eq_none h] at hq; cases hq
          obtain ⟨a, y, ha, hy, hvr, _⟩ := hcell (off + j) (by omega)
          rw [cellsBools_get h4 j q hq] at ha
          injection ha with ha
          subst ha
          cases hvr
          cases i with
          | zero =>
            simp at hi; subst hi
            rw [add_lit', Ew.cell_at hw]
            simpa [Kd.bool, Kd.scalar] using hy
          | succ i => simp at hi
        · cases h2
      · cases h2
    · refine ⟨_, c, by rw [hz], by omega, rfl, by omega, fun hn => by omega⟩
  · cases h

theorem readRows_ok {ι : Ix} {H : Heap} {w : World} {v : AV} {x : Value} {L : List (List Bool)} (hr : HR ι H w) (hv : VR ι v x) (h : readRows H v L = true) :
    ∃ A c, x = .slice A L.length c ∧ L.length ≤ c ∧ Kd.C (Kd.slice 4 Kd.bool) w A L.length L := by
  unfold readRows at h
  split at h
  · rename_i b ver off len cap
    simp only [Bool.and_eq_true] at h
    obtain ⟨h0, h1, h2⟩ := h
    have hl := Nat.eq_of_beq_eq_true h1
    subst hl
    have h0 := Nat.le_of_ble_eq_true h0
    rcases slice_of hv with ⟨p, c, hp, hc, rfl⟩ | ⟨hz, a, c, rfl⟩
    · refine ⟨_, c, rfl, hc, rfl, by omega, fun _ => ⟨_, rfl, fun j q hq => ?_⟩⟩
      split at h2
      · rename_i blk hb
        split at h2
        · rename_i e he
          simp only [Bool.and_eq_true] at h2
          obtain ⟨h3, h4⟩ := h2
          have h3 := Nat.le_of_ble_eq_true h3
          obtain ⟨cs, el, hw, hcs, hle, hcell⟩ := hr.cells b blk ver e p hb he hp
          have hj : j < L.length := by
            rcases Nat.lt_or_ge j L.length with h | h
            · exact h
            · rw [List.getElem?_eq_none h] at hq; cases hq
          obtain ⟨a, y, ha, hy, hvr, _⟩ := hcell (off + j) (by omega)
          obtain ⟨v', hv', hrd⟩ := cellsRows_get h4 j q hq
          rw [hv'] at ha
          injection ha with ha
          subst ha
          obtain ⟨A', c', rfl, hc', hC⟩ := readBools_ok hr hvr hrd
          refine ⟨[.slice A' q.length c'], rfl, ⟨A', c', rfl, hc', hC⟩, fun i u hi => ?_⟩
          cases i with
          | zero =>
            simp at hi; subst hi
            rw [add_lit', Ew.cell_at hw]
            simpa [Kd.slice] using hy
          | succ i => simp at hi
        · cases h2
      · cases h2
    · refine ⟨_, c, by rw [hz], by omega, rfl, by omega, fun hn => by omega⟩
  · cases h

/-! ### a call with plain arguments, evaluated -/
theorem evF_calls {P : Program} (hmix : P.follows .mixedOrders = true) {O : Ora} (hO : Ew.OraSound P O) {n : Nat} {f : FuncId} {l : List AV} {xs : Array Value} (hx : VRL (fun _ _ => none) l xs.toList) {v : AV} {H' : Heap} {nx' : Nat} (h : evF P O n f l .lf 0 = .ok (v, H', nx')) (w : World) :
    Calls P f xs w fun e w' => ∃ ι' x, e = .returned x ∧ VR ι' v x ∧ HR ι' H' w' ∧ Below w.heap.size w w' := by
  unfold evF at h
  obtain ⟨v1, H1, nx1, hk, _, fn, c, _, _, _, hC⟩ := Ew.callK_ex (Ew.evC_sound hmix hO n).1 h
  have hk := Ew.ok_inj hk
  injection hk with e1 e2
  injection e2 with e2 e3
  subst e1 e2 e3
  have hr0 : HR (fun _ _ => none) .lf w := ⟨fun _ _ _ _ _ h => (by cases h), fun _ _ _ _ h => (by cases h), fun _ _ _ h => (by cases h), fun _ _ h => (by cases h), fun _ _ _ _ _ _ h => (by cases h), fun _ _ _ h => (by cases h), fun _ _ _ _ h => (by cases h)⟩
  rw [← callsIn_wide (n := 0)]
  refine (hC Fence.wide Ew.wide_wide (fun _ _ => none) w nx1 xs hr0 (fun _ _ => rfl) (fun _ _ _ _ => rfl) (Nat.le_refl _) hx).mono ?_
  rintro e w' ⟨ι', x, rfl, hvx, hr, hst⟩
  exact ⟨ι', x, rfl, hvx, hr, Ew.below_of ⟨hst.os, hst.output, hst.tape, hst.size, fun c hc => hst.frame c hc fun _ _ _ h => by cases h⟩⟩

/-- a reading asked of what comes back -/
noncomputable def asked (chk : AV × Heap × Nat → Bool) (r : Ew.Res (AV × Heap × Nat)) : Bool := @Ew.Res.rec _ (fun _ => Bool) chk (fun _ => false) r
theorem evF_of {P : Program} {O : Ora} {n : Nat} {f : FuncId} {l : List AV} {chk : AV × Heap × Nat → Bool} (h : asked chk (evF P O n f l .lf 0) = true) :
    ∃ v H' nx', evF P O n f l .lf 0 = .ok (v, H', nx') ∧ chk (v, H', nx') = true := by
  generalize evF P O n f l .lf 0 = x at h ⊢
  cases x with
  | no w => cases h
  | ok r =>
    obtain ⟨v, H, nx⟩ := r
    exact ⟨v, H, nx, rfl, h⟩
end Go.Proofs.YtcchjefjljpccaaGreat.SF

namespace Go.Proofs.YtcchjefjljpccaaGreat.SF
open Go.RowKit Go.Lib Go.Proofs.YtcchjefjljpccaaGreatW.PrintWords Go.Proofs.YtcchjefjljpccaaGreatW.PrintLast Go.Proofs.YtcchjefjljpccaaGreatW.PrintMore
open Go.Ew (AV Heap Tr HR VR VRL Ix evF Ora)
/-- all lists of n truth values, in order -/
def allB : Nat → List (List Bool)
  | 0 => [[]]
  | n + 1 => (allB n).flatMap fun l => [l ++ [false], l ++ [true]]
noncomputable def allRun (n : Nat) : Bool := asked (fun r => readRows r.2.1 r.1 (allB n)) (evF Tryz.prog (fun _ _ _ _ => none) 100000 15 [.int .i64 (Int.ofNat n)] .lf 0)
set_option maxRecDepth 100000 in
theorem allRun0 : allRun 0 = true := by kernel_rfl
set_option maxRecDepth 100000 in
theorem allRun1 : allRun 1 = true := by kernel_rfl
set_option maxRecDepth 100000 in
theorem allRun2 : allRun 2 = true := by kernel_rfl
set_option maxRecDepth 100000 in
theorem allRun3 : allRun 3 = true := by kernel_rfl
set_option maxRecDepth 100000 in
theorem allRun4 : allRun 4 = true := by kernel_rfl
set_option maxRecDepth 100000 in
theorem allRun5 : allRun 5 = true := by kernel_rfl
set_option maxRecDepth 100000 in
theorem allRun6 : allRun 6 = true := by kernel_rfl
theorem run_all (n : Nat) (h : n ≤ 6) : allRun n = true := by
  match n, h with
  | 0, _ => exact allRun0
  | 1, _ => exact allRun1
  | 2, _ => exact allRun2
  | 3, _ => exact allRun3
  | 4, _ => exact allRun4
  | 5, _ => exact allRun5
  | 6, _ => exact allRun6
  | n + 7, h => exact absurd h (by omega)
theorem all_calls (n : Nat) (h : n ≤ 6) (w : World) :
    Calls Tryz.prog 15 #[.int .i64 (n : Int)] w fun e w' => ∃ A c, e = .returned (.slice A (allB n).length c) ∧ (allB n).length ≤ c ∧ Kd.C (Kd.slice 4 Kd.bool) w' A (allB n).length (allB n) ∧ Below w.heap.size w w' := by
  obtain ⟨v, H', nx', hev, hck⟩ := evF_of (run_all n h)
  refine (evF_calls (Checked.mixed Tryz.checked) (O := fun _ _ _ _ => none) Ew.noOra_sound (.cons (.int _ _) .nil) hev w).mono ?_
  rintro e w' ⟨ι', x, rfl, hv, hr, hb⟩
  obtain ⟨A, c, rfl, hc, hC⟩ := readRows_ok hr hv hck
  exact ⟨A, c, rfl, hc, hC, hb⟩
end Go.Proofs.YtcchjefjljpccaaGreat.SF
