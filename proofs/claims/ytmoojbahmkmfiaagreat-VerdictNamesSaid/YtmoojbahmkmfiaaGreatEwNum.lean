/- THE EVALUATOR's NUMBERS are the model's. -/
import Derived.Test.YtmoojbahmkmfiaaGreatEwSim
namespace Go.Ew

theorem wrap_i64 {n : Int} (h1 : -9223372036854775808 ≤ n) (h2 : n < 9223372036854775808) : IntKind.wrap .i64 n = n := by
  have e1 : (2 ^ IntKind.bits .i64 : Int) = 18446744073709551616 := by decide
  have e2 : (2 ^ (IntKind.bits .i64 - 1) : Int) = 9223372036854775808 := by decide
  unfold IntKind.wrap
  simp only [e1, e2, IntKind.signed, Bool.true_and, decide_eq_true_eq]
  split <;> omega
theorem wrap_u8 {n : Int} (h1 : 0 ≤ n) (h2 : n < 256) : IntKind.wrap .u8 n = n := by
  have e1 : (2 ^ IntKind.bits .u8 : Int) = 256 := by decide
  unfold IntKind.wrap
  simp only [e1, IntKind.signed, Bool.false_and, Bool.false_eq_true, if_false]
  omega
theorem small_spec {n : Int} (h : small n = true) : -9223372036854775808 ≤ n ∧ n < 9223372036854775808 := by
  cases n <;> simp only [small, ble_iff] at h <;> (try rw [Int.ofNat_eq_natCast]) <;> omega
theorem byte_spec {n : Int} (h : byte n = true) : 0 ≤ n ∧ n < 256 := by
  cases n <;> simp only [byte, blt_iff] at h
  · rw [Int.ofNat_eq_natCast]; omega
  · cases h
theorem wrapQ_eq (k : IntKind) (n : Int) : wrapQ k n = k.wrap n := by
  unfold wrapQ
  split
  · rw [sel_eq]; split
    · rename_i h; exact (wrap_i64 (small_spec h).1 (small_spec h).2).symm
    · rfl
  · rw [sel_eq]; split
    · rename_i h; exact (wrap_u8 (byte_spec h).1 (byte_spec h).2).symm
    · rfl
  · rfl
theorem ltI_eq (x y : Int) : ltI x y = decide (x < y) := by
  rw [Bool.eq_iff_iff]
  cases x <;> cases y <;> simp only [ltI, blt_iff, decide_eq_true_eq, Bool.false_eq_true, Int.ofNat_eq_natCast, true_iff, false_iff] <;> omega
theorem leI_eq (x y : Int) : leI x y = decide (x ≤ y) := by
  rw [Bool.eq_iff_iff]
  cases x <;> cases y <;> simp only [leI, ble_iff, decide_eq_true_eq, Bool.false_eq_true, Int.ofNat_eq_natCast, true_iff, false_iff] <;> omega
theorem sameInt_eq (x y : Int) : sameInt x y = (x == y) := by
  rw [Bool.eq_iff_iff, sameInt_iff]; simp
theorem sameBool_eq (x y : Bool) : sameBool x y = (x == y) := by
  cases x <;> cases y <;> rfl
theorem isZero_eq (y : Int) : isZero y = decide (y = 0) := by
  rw [Bool.eq_iff_iff]
  cases y <;> simp [isZero] <;> omega

section
variable {P : Program} {w : World}
theorem bitsSlow_run {op : BinOp} {k : IntKind} {x y : Int} {r : AV} (h : bitsSlow op k x y = .ok r) : ∃ v, (Op.intBits op k x y).run P w = .ok v w ∧ ∀ ι, VR ι r v := by
  unfold bitsSlow at h
  split at h <;> first
    | (cases h; done)
    | (cases ok_inj h; exact ⟨_, rfl, fun _ => .int _ _⟩)
theorem toNat_ofNat64 {a : Nat} (h : a < 4611686018427387904) : (BitVec.ofInt (IntKind.bits .i64) (Int.ofNat a)).toNat = a := by
  show (BitVec.ofInt 64 (Int.ofNat a)).toNat = a
  rw [BitVec.toNat_ofInt]
  show ((a : Int) % ((2 ^ 64 : Nat) : Int)).toNat = a
  have : ((2 ^ 64 : Nat) : Int) = 18446744073709551616 := by decide
  rw [this]; omega
theorem bits64_run {op : BinOp} {a b : Nat} {r : AV} (ha : a < 4611686018427387904) (hb : b < 4611686018427387904) (h : bits64 op a b = .ok r) :
    ∃ v, (Op.intBits op .i64 (Int.ofNat a) (Int.ofNat b)).run P w = .ok v w ∧ ∀ ι, VR ι r v := by
  have e : (4611686018427387904 : Nat) = 2 ^ 62 := by decide
  have h1 : Nat.land a b < 4611686018427387904 := by rw [e]; rw [e] at ha; exact Nat.and_lt_two_pow _ (by rw [← e]; exact hb)
  have h2 : Nat.lor a b < 4611686018427387904 := by rw [e]; rw [e] at ha hb; exact Nat.or_lt_two_pow ha hb
  have h3 : Nat.xor a b < 4611686018427387904 := by rw [e]; rw [e] at ha hb; exact Nat.xor_lt_two_pow ha hb
  have wr : ∀ n : Nat, n < 4611686018427387904 → IntKind.wrap .i64 (n : Int) = n := fun n hn => wrap_i64 (by omega) (by omega)
  unfold bits64 at h
  split at h
  · cases ok_inj h
    refine ⟨_, rfl, fun ι => ?_⟩
    rw [BitVec.toNat_and, toNat_ofNat64 ha, toNat_ofNat64 hb]
    show VR ι _ (.int .i64 (IntKind.wrap .i64 ((Nat.land a b : Nat) : Int)))
    rw [wr _ h1]; exact .int _ _
  · cases ok_inj h
    refine ⟨_, rfl, fun ι => ?_⟩
    rw [BitVec.toNat_or, toNat_ofNat64 ha, toNat_ofNat64 hb]
    show VR ι _ (.int .i64 (IntKind.wrap .i64 ((Nat.lor a b : Nat) : Int)))
    rw [wr _ h2]; exact .int _ _
  · cases ok_inj h
    refine ⟨_, rfl, fun ι => ?_⟩
    rw [BitVec.toNat_xor, toNat_ofNat64 ha, toNat_ofNat64 hb]
    show VR ι _ (.int .i64 (IntKind.wrap .i64 ((Nat.xor a b : Nat) : Int)))
    rw [wr _ h3]; exact .int _ _
  · cases h
theorem bitsQ_run {op : BinOp} {k : IntKind} {x y : Int} {r : AV} (h : bitsQ op k x y = .ok r) : ∃ v, (Op.intBits op k x y).run P w = .ok v w ∧ ∀ ι, VR ι r v := by
  unfold bitsQ at h
  split at h
  · rw [sel_eq] at h
    split at h
    · rename_i ha
      rw [sel_eq] at h
      split at h
      · rename_i hb; exact bits64_run (blt_iff.1 ha) (blt_iff.1 hb) h
      · exact bitsSlow_run h
    · exact bitsSlow_run h
  · exact bitsSlow_run h
theorem binInt_run {op : BinOp} {k : IntKind} {x y : Int} {r : AV} (t : TypeId) (h : binInt op k x y = .ok r) (hs : op ≠ .shl) (hr : op ≠ .shr) :
    ∃ v, (binOp op t (.int k x) (.int k y)).run P w = .ok v w ∧ ∀ ι, VR ι r v := by
  unfold binInt at h
  split at h
  · cases ok_inj h; exact ⟨.int k (k.wrap (x + y)), by simp [binOp, Op.intArith], fun ι => by rw [wrapQ_eq]; exact .int _ _⟩
  · cases ok_inj h; exact ⟨.int k (k.wrap (x - y)), by simp [binOp, Op.intArith], fun ι => by rw [wrapQ_eq]; exact .int _ _⟩
  · cases ok_inj h; exact ⟨.int k (k.wrap (x * y)), by simp [binOp, Op.intArith], fun ι => by rw [wrapQ_eq]; exact .int _ _⟩
  · obtain ⟨hz, h⟩ := must_ok h
    cases ok_inj h
    have hz : y ≠ 0 := by simpa [isZero_eq] using hz
    exact ⟨.int k (k.wrap (x.tdiv y)), by simp [binOp, Op.intDiv, hz], fun ι => by rw [wrapQ_eq]; exact .int _ _⟩
  · obtain ⟨hz, h⟩ := must_ok h
    cases ok_inj h
    have hz : y ≠ 0 := by simpa [isZero_eq] using hz
    exact ⟨.int k (x.tmod y), by simp [binOp, Op.intDiv, hz], fun ι => .int _ _⟩
  · obtain ⟨v, hv, hr⟩ := bitsQ_run (P := P) (w := w) h; exact ⟨v, by simpa [binOp] using hv, hr⟩
  · obtain ⟨v, hv, hr⟩ := bitsQ_run (P := P) (w := w) h; exact ⟨v, by simpa [binOp] using hv, hr⟩
  · obtain ⟨v, hv, hr⟩ := bitsQ_run (P := P) (w := w) h; exact ⟨v, by simpa [binOp] using hv, hr⟩
  · cases ok_inj h; exact ⟨.bool (x == y), by simp [binOp, Op.intCmp], fun ι => by rw [sameInt_eq]; exact .bool _⟩
  · cases ok_inj h; exact ⟨.bool (x != y), by simp [binOp, Op.intCmp], fun ι => by rw [sameInt_eq]; exact .bool _⟩
  · cases ok_inj h; exact ⟨.bool (decide (x < y)), by simp [binOp, Op.intCmp], fun ι => by rw [ltI_eq]; exact .bool _⟩
  · cases ok_inj h; exact ⟨.bool (decide (x ≤ y)), by simp [binOp, Op.intCmp], fun ι => by rw [leI_eq]; exact .bool _⟩
  · cases ok_inj h; exact ⟨.bool (decide (x > y)), by simp [binOp, Op.intCmp], fun ι => by rw [ltI_eq]; exact .bool _⟩
  · cases ok_inj h; exact ⟨.bool (decide (x ≥ y)), by simp [binOp, Op.intCmp], fun ι => by rw [leI_eq]; exact .bool _⟩
  · cases h
theorem shiftA_run {op : BinOp} {k k' : IntKind} {x y : Int} {r : AV} (t : TypeId) (h : shiftA op k x y = .ok r) : ∃ v, (binOp op t (.int k x) (.int k' y)).run P w = .ok v w ∧ ∀ ι, VR ι r v := by
  unfold shiftA at h
  split at h
  · rename_i n
    obtain ⟨hb, h⟩ := must_ok h
    have hb : n ≤ k.bits := ble_iff.1 hb
    unfold shiftN at h
    have hn : ¬ (Int.ofNat n < 0) := by simp
    have hm : min (Int.ofNat n).toNat k.bits = n := by simp; omega
    have hpow : (2 : Int) ^ n = Int.ofNat (Nat.pow 2 n) := by simp
    split at h
    · cases ok_inj h
      refine ⟨_, by simp only [binOp, Op.shift, hn, if_false, hm]; rfl, fun ι => ?_⟩
      rw [wrapQ_eq, hpow]; exact .int _ _
    · cases ok_inj h
      refine ⟨_, by simp only [binOp, Op.shift, hn, if_false, hm]; rfl, fun ι => ?_⟩
      rw [hpow]; exact .int _ _
    · cases h
  · cases h
end
end Go.Ew
