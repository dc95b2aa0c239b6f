/- QUIET OPERATIONS, the rest; and the one theorem on all of them. -/
import Derived.Test.YtmoojbahmkmfiaaGreatEwQ
namespace Go.Ew
section
variable {P : Program} {w : World} {ι : Ix} {H : Heap}

theorem asNat_VR {a : AV} {x : Value} {n : Nat} (h : asNat a = .ok n) (hx : VR ι a x) : ∃ k, x = .int k n := by
  unfold asNat at h
  split at h
  · split at h
    · cases ok_inj h; cases hx; exact ⟨_, rfl⟩
    · cases h
  · cases h
theorem run_asIntOf (k : IntKind) (n : Int) : (asIntOf (.int k n)).run P w = .ok (k, n) w := rfl
theorem sliceBound_run {k : IntKind} {n y : Nat} (c : BoundsCode) (h : n ≤ y) : (Instr.sliceBound (.int k n) y c).run P w = .ok n w := by
  simp [Instr.sliceBound, run_asIntOf, h]
/-- an optional bound in the world -/
inductive OB : Option Nat → Option Value → Prop
  | none : OB none none
  | some {n : Nat} {k : IntKind} : OB (some n) (some (.int k n))
theorem bounds_run {len cap : Nat} {low high max : Option Nat} {lo hi mx : Option Value} (s : Bool) {k : Nat → Nat → Nat → Res AV} {r : AV} (h : bounds len cap low high max k = .ok r)
    (h1 : OB low lo) (h2 : OB high hi) (h3 : OB max mx) (cap' : Nat) (hc : cap ≤ cap') (hlc : len ≤ cap) :
    (Instr.sliceBounds s len cap' lo hi mx).run P w = .ok (low.getD 0, high.getD len, max.getD cap') w ∧
      k (low.getD 0) (high.getD len) (max.getD cap) = .ok r ∧ low.getD 0 ≤ high.getD len ∧ high.getD len ≤ max.getD cap ∧ max.getD cap ≤ cap := by
  unfold bounds at h
  obtain ⟨m1, h⟩ := must_ok h
  obtain ⟨m2, h⟩ := must_ok h
  obtain ⟨m3, h⟩ := must_ok h
  obtain ⟨m4, h⟩ := must_ok h
  have m1 : max.getD cap ≤ cap := ble_iff.1 m1
  cases h3 with
  | none =>
    cases h2 with
    | none =>
      cases h1 with
      | none => exact ⟨by simp [Instr.sliceBounds], h, by simp, by simpa using hlc, m1⟩
      | some =>
        have m4 := ble_iff.1 m4
        simp only [Option.getD] at m4
        exact ⟨by simp [Instr.sliceBounds, sliceBound_run _ m4], h, m4, by simpa using hlc, m1⟩
    | some =>
      have m3 := ble_iff.1 m3
      simp only [Option.getD] at m3
      have m3' := Nat.le_trans m3 hc
      cases h1 with
      | none => exact ⟨by simp [Instr.sliceBounds, sliceBound_run _ m3'], h, by simp, by simpa using m3, m1⟩
      | some =>
        have m4 := ble_iff.1 m4
        simp only [Option.getD] at m4
        exact ⟨by simp [Instr.sliceBounds, sliceBound_run _ m4, sliceBound_run _ m3'], h, m4, by simpa using m3, m1⟩
  | some =>
    simp only [Option.getD] at m1
    have m1' := Nat.le_trans m1 hc
    cases h2 with
    | none => cases m2
    | some =>
      have m3 := ble_iff.1 m3
      simp only [Option.getD] at m3
      cases h1 with
      | none => exact ⟨by simp [Instr.sliceBounds, sliceBound_run _ m3, sliceBound_run _ m1'], h, by simp, by simpa using m3, m1⟩
      | some =>
        have m4 := ble_iff.1 m4
        simp only [Option.getD] at m4
        exact ⟨by simp [Instr.sliceBounds, sliceBound_run _ m4, sliceBound_run _ m3, sliceBound_run _ m1'], h, m4, by simpa using m3, m1⟩

theorem run_slice_slice {t e : TypeId} {n : Nat} (ht : P.underlying t = some (.slice e)) (hn : (sizeOf e).run P w = .ok n w) (a : Option Addr) (len cap : Nat) (lo hi mx : Option Value) {l h m : Nat}
    (hb : (Instr.sliceBounds true len cap lo hi mx).run P w = .ok (l, h, m) w) :
    (Instr.slice t (.slice a len cap) lo hi mx).run P w = .ok (.slice (if m = l then a else a.map (·.add (l * n))) (h - l) (m - l)) w := by
  simp [Instr.slice, run_underlying ht, hn, hb]

theorem sliceA_ok (hr : HR ι H w) {t : TypeId} {a : AV} {x : Value} {low high max : Option Nat} {lo hi mx : Option Value} {r : AV} (h : sliceA P H t a low high max = .ok r) (hx : VR ι a x)
    (h1 : OB low lo) (h2 : OB high hi) (h3 : OB max mx) : ∃ y, (Instr.slice t x lo hi mx).run P w = .ok y w ∧ VR ι r y := by
  obtain ⟨e, he, h⟩ := and_ok h
  obtain ⟨sz, hsz, h⟩ := and_ok h
  have ht := elemT_under he
  have hn := sizeT_run (w := w) hsz
  cases a with
  | nilslice =>
    cases hx
    obtain ⟨hb, h, b1, b2, b3⟩ := bounds_run (P := P) (w := w) true h h1 h2 h3 0 (Nat.le_refl _) (Nat.le_refl _)
    cases ok_inj h
    refine ⟨_, run_slice_slice ht hn none 0 0 lo hi mx hb, ?_⟩
    have e1 : max.getD 0 = 0 := by omega
    have e2 : high.getD 0 = 0 := by omega
    have e3 : low.getD 0 = 0 := by omega
    rw [e1, e2, e3]
    exact .nilslice
  | slice b v off len cap =>
    cases cap with
    | known c =>
      cases hx with
      | known hp hl =>
        obtain ⟨hb, h, b1, b2, b3⟩ := bounds_run (P := P) (w := w) true h h1 h2 h3 c (Nat.le_refl _) hl
        cases ok_inj h
        refine ⟨_, run_slice_slice ht hn _ _ _ lo hi mx hb, ?_⟩
        rw [sel_eq]
        simp only [beq_iff]
        split
        · exact .known hp (by simp only [Nat.sub_eq]; omega)
        · rw [Option.map_some, add_at]; exact .known hp (by simp only [Nat.sub_eq]; omega)
    | opn =>
      cases hx with
      | @opn _ _ _ _ cap' p hp hl hs =>
        obtain ⟨blk, hblk, h⟩ := ofOpt_ok h
        obtain ⟨ex, hex, h⟩ := ofOpt_ok h
        obtain ⟨hes, h⟩ := must_ok h
        have hes : sz = blk.esz := beq_iff.1 hes
        obtain ⟨cs, el, hcs, hcsz, hexle, _⟩ := hr.cells _ _ _ _ _ hblk hex hp
        have hpe := hr.esz _ _ _ _ hblk hp
        have hroom : Nat.max len (Nat.div (Nat.sub ex off) sz) ≤ cap' := by
          refine Nat.max_le.2 ⟨hl, ?_⟩
          show (ex - off) / sz ≤ cap'
          rw [hpe, ← hes] at hs
          rcases Nat.eq_zero_or_pos sz with h0 | h0
          · subst h0; simp
          · rw [Nat.div_le_iff_le_mul_add_pred h0]
            have : sz * cap' = cap' * sz := Nat.mul_comm _ _
            omega
        have hlr : len ≤ Nat.max len (Nat.div (Nat.sub ex off) sz) := Nat.le_max_left _ _
        obtain ⟨hb, h, b1, b2, b3⟩ := bounds_run (P := P) (w := w) true h h1 h2 h3 cap' hroom hlr
        refine ⟨_, run_slice_slice ht hn _ _ _ lo hi mx hb, ?_⟩
        cases h3 with
        | none =>
          simp only [Option.getD_none] at h b2 ⊢
          obtain ⟨_, h⟩ := must_ok h
          rw [sel_eq] at h
          split at h
          · rename_i hlt
            have hlt := blt_iff.1 hlt
            cases ok_inj h
            rw [if_neg (by omega), Option.map_some, add_at]
            refine .opn hp (by simp only [Nat.sub_eq]; omega) ?_
            show off + low.getD 0 * sz + (cap' - low.getD 0) * p.esz = p.size
            rw [hpe, ← hes] at hs ⊢
            rw [Nat.add_assoc, ← Nat.add_mul, show low.getD 0 + (cap' - low.getD 0) = cap' by omega]; exact hs
          · rename_i hge
            have hge : ¬ low.getD 0 < Nat.max len (Nat.div (Nat.sub ex off) sz) := fun hh => hge (blt_iff.2 hh)
            rw [sel_eq] at h
            split at h
            · rename_i h0
              have h0 : low.getD 0 = 0 := beq_iff.1 h0
              cases ok_inj h
              rw [h0]
              have : (if cap' = 0 then some (⟨p.blk, off, none⟩ : Addr) else Option.map (fun a : Addr => a.add (0 * sz)) (some ⟨p.blk, off, none⟩)) = some ⟨p.blk, off, none⟩ := by
                split
                · rfl
                · rw [Option.map_some, add_at]; simp
              rw [this]
              exact .opn hp (by simp only [Nat.sub_eq]; omega) (by simpa using hs)
            · cases ok_inj h
              have e0 : Nat.sub (high.getD len) (low.getD 0) = 0 := by simp only [Nat.sub_eq]; omega
              have e1 : high.getD len - low.getD 0 = 0 := e0
              rw [e0, e1]
              have : ∃ a', (if cap' = low.getD 0 then some (⟨p.blk, off, none⟩ : Addr) else Option.map (fun a : Addr => a.add (low.getD 0 * sz)) (some ⟨p.blk, off, none⟩)) = some a' := by
                split
                · exact ⟨_, rfl⟩
                · exact ⟨_, rfl⟩
              obtain ⟨a', ha'⟩ := this
              rw [ha']; exact .loose
        | some =>
          simp only [Option.getD_some] at h b2 ⊢
          rw [sel_eq] at h
          split at h
          · cases h
          · rename_i hne
            have hne : ¬ _ = low.getD 0 := fun hh => hne (beq_iff.2 hh)
            cases ok_inj h
            rw [if_neg hne, Option.map_some, add_at]
            exact .known hp (by simp only [Nat.sub_eq]; omega)
    | loose => cases h
  | _ => cases h

theorem partA_ok {t : TypeId} {agg : Bool} {n off : Nat} {l : List AV} {cs : Array Value} {r : AV} (hag : (isAgg t).run P w = .ok agg w) (hn : (sizeOf t).run P w = .ok n w) (h : partA agg l off n = .ok r) (hl : VRL ι l cs.toList) :
    ∃ x, (part t cs off).run P w = .ok x w ∧ VR ι r x := by
  unfold partA at h
  split at h
  · cases ok_inj h
    refine ⟨.agg (cs.extract off (off + n)), by simp [part, hag, hn], .agg ?_⟩
    have := VRL.take n (VRL.drop off hl)
    rw [Array.toList_extract]
    simpa [List.extract_eq_take_drop] using this
  · obtain ⟨a, ha, h⟩ := ofOpt_ok h
    cases ok_inj h
    obtain ⟨x, hx, hv⟩ := VRL.get hl off ha
    exact ⟨x, part_one hag (by simpa using hx), hv⟩

theorem indexAddrA_ok {t : TypeId} {n : Nat} {d : TypeDesc} {k : IntKind} {a : AV} {x : Value} {r : AV} (hd : P.underlying t = some d) (h : indexAddrA P n d a = .ok r) (hx : VR ι a x) :
    ∃ y, (Instr.indexAt t x (.int k n)).run P w = .ok y w ∧ VR ι r y := by
  unfold indexAddrA at h
  split at h
  · rename_i e b v off len cap
    obtain ⟨sz, hsz, h⟩ := and_ok h
    obtain ⟨hlt, h⟩ := must_ok h
    have hlt : n < len := blt_iff.1 hlt
    cases ok_inj h
    have hn := sizeT_run (w := w) hsz
    cases hx with
    | known hp hl => exact ⟨_, by simp [Instr.indexAt, run_asIntOf, run_underlying hd, hlt, hn, add_at], .ptr hp⟩
    | opn hp hl hs => exact ⟨_, by simp [Instr.indexAt, run_asIntOf, run_underlying hd, hlt, hn, add_at], .ptr hp⟩
    | loose => omega
  · rename_i len e b v off
    obtain ⟨sz, hsz, h⟩ := and_ok h
    obtain ⟨hlt, h⟩ := must_ok h
    have hlt : n < len := blt_iff.1 hlt
    cases ok_inj h
    have hn := sizeT_run (w := w) hsz
    cases hx with
    | ptr hp => exact ⟨_, by simp [Instr.indexAt, Instr.sureAddr, run_asIntOf, run_underlying hd, hlt, hn, add_at], .ptr hp⟩
  · cases h
end
end Go.Ew
