/- THE BUILTIN append, as the model runs it. -/
import Derived.Test.YtmoojbahmkmfiaaGreatEwAl
namespace Go.Ew
theorem notInt {d : TypeDesc} (hd : ∀ k, d ≠ .int k) : (match d with | .int _ => true | _ => false) = false := by
  cases d <;> first | rfl | exact absurd rfl (hd _)
theorem growBy_le (newLen : Nat) : ∀ (r c : Nat), c ≤ 2000000 → newLen ≤ 1000000 → Builtin.growBy newLen r c ≤ 2000000
  | 0, c, h, _ => h
  | r+1, c, h, hn => by
    unfold Builtin.growBy
    split
    · exact h
    · exact growBy_le newLen r _ (by omega) hn
theorem nextslicecap_le {newLen oldCap : Nat} (h : newLen ≤ 1000000) (ho : oldCap < newLen) : Builtin.nextslicecap newLen oldCap ≤ 2000000 := by
  unfold Builtin.nextslicecap
  split
  · omega
  · split
    · omega
    · exact growBy_le _ _ _ (by omega) h
section
variable {P : Program} {w : World} {ι : Ix} {H H' : Heap}

theorem append_in {sT xT e : TypeId} {d : TypeDesc} {sz n : Nat} {ty : TypeId} {a : Addr} {sLen sCap : Nat} {x : Value} {new : Array Value} {w' : World} (hu : P.underlying sT = some (.slice e)) (hx : P.underlying xT = some d) (hd : ∀ k, d ≠ .int k)
   (hs : (sizeOf e).run P w = .ok sz w) (hl : (Builtin.lenOf x).run P w = .ok n w) (hf : (Builtin.firstCells sz n x).run P w = .ok new w) (hle : sLen + n ≤ sCap) (hst : (storeCells (a.add (sLen * sz)) new.toList).run P w = .ok () w') :
   (Builtin.append_ #[sT, xT] ty #[.slice (some a) sLen sCap, x]).run P w = .ok (.slice (some a) (sLen + n) sCap) w' := by
  simp [Builtin.append_, run_underlying hu, run_underlying hx, hs, hl, hf, hle, hst]
theorem append_nil {sT xT e : TypeId} {d : TypeDesc} {sz : Nat} {ty : TypeId} {x : Value} {new : Array Value} (hu : P.underlying sT = some (.slice e)) (hx : P.underlying xT = some d) (hd : ∀ k, d ≠ .int k)
   (hs : (sizeOf e).run P w = .ok sz w) (hl : (Builtin.lenOf x).run P w = .ok 0 w) (hf : (Builtin.firstCells sz 0 x).run P w = .ok new w) :
   (Builtin.append_ #[sT, xT] ty #[.slice none 0 0, x]).run P w = .ok (.slice none 0 0) w := by
  simp [Builtin.append_, run_underlying hu, run_underlying hx, hs, hl, hf]
theorem append_new {sT xT e : TypeId} {d : TypeDesc} {sz n : Nat} {ty : TypeId} {base : Option Addr} {sLen sCap : Nat} {x : Value} {old new : Array Value} {i : TypeInfo} {z : Value} (hu : P.underlying sT = some (.slice e)) (hx : P.underlying xT = some d) (hd : ∀ k, d ≠ .int k)
   (hi : P.info? e = some i) (hz : i.zero = some z) (hb : i.bytes ≤ 100000) (hn : sLen + n ≤ 1000000) (hsz : sz = i.size) (hl : (Builtin.lenOf x).run P w = .ok n w) (hf : (Builtin.firstCells sz n x).run P w.drew = .ok new w.drew)
   (ho : (Builtin.firstCells sz sLen (.slice base sLen sCap)).run P w.drew = .ok old w.drew) (hle : ¬ sLen + n ≤ sCap) :
   ∃ newCap, sLen + n ≤ newCap ∧ (Builtin.append_ #[sT, xT] ty #[.slice base sLen sCap, x]).run P w = .ok (.slice (some ⟨w.heap.size, 0, none⟩) (sLen + n) newCap) (plus w.drew (old ++ (new ++ Builtin.zeroCells z.cells (newCap - (sLen + n)))) e) := by
  have hc := nextslicecap_le hn (show sCap < sLen + n by omega)
  have hcb : ¬ Builtin.nextslicecap (sLen + n) sCap * i.bytes > 2 ^ 48 := by
    have := Nat.mul_le_mul hc hb
    omega
  refine ⟨(Question.appendCap (sLen + n) sCap e).cut (w.tape w.drawn (Question.appendCap (sLen + n) sCap e)), by simp only [Question.cut]; omega, ?_⟩
  subst hsz
  have hforced : (Question.appendCap (sLen + n) sCap e).forced = false := rfl
  have hti : ∀ w, (typeInfo e).run P w = .ok i w := fun w => by simp [typeInfo, hi]
  have hso : ∀ w, (sizeOf e).run P w = .ok i.size w := fun w => by simp [sizeOf, hti]
  have hzv : ∀ w, (zeroValue e).run P w = .ok z w := fun w => by simp [zeroValue, hti, hz]
  have hm : ¬ ((9223372036854775807 < (sLen : Int) + (n : Int)) ∧ i.bytes = 0) := by omega
  have hmax : IntKind.i64.max = 9223372036854775807 := by decide
  simp [Builtin.append_, run_underlying hu, run_underlying hx, hso, hl, hle, hti, hmax, hm, hcb, hforced, ho, hf, hzv, run_newRow]
theorem append_in_make {sT xT e : TypeId} {k kx : IntKind} {sz n : Nat} {ty : TypeId} {a : Addr} {sLen sCap : Nat} {i : TypeInfo} {z : Value} {w' : World} (hu : P.underlying sT = some (.slice e)) (hx : P.underlying xT = some (.int k))
   (hi : P.info? e = some i) (hz : i.zero = some z) (hb : i.bytes ≤ 100000) (hn : n ≤ 1000000) (hsz : sz = i.size) (hzs : z.cells.size = sz) (hle : sLen + n ≤ sCap) (hst : (storeCells (a.add (sLen * sz)) (zeros z.cells (n * sz)).toList).run P w = .ok () w') :
   (Builtin.append_ #[sT, xT] ty #[.slice (some a) sLen sCap, .int kx n]).run P w = .ok (.slice (some a) (sLen + n) sCap) w' := by
  subst hsz
  have hti : ∀ w, (typeInfo e).run P w = .ok i w := fun w => by simp [typeInfo, hi]
  have hso : ∀ w, (sizeOf e).run P w = .ok i.size w := fun w => by simp [sizeOf, hti]
  have hzv : ∀ w, (zeroValue e).run P w = .ok z w := fun w => by simp [zeroValue, hti, hz]
  have wn : IntKind.wrap .i64 (n : Int) = n := wrap_i64 (by omega) (by omega)
  have hbb : ¬ (281474976710656 < (n : Int) * (i.bytes : Int)) := by
    have := Nat.mul_le_mul hn hb
    have e : ((n * i.bytes : Nat) : Int) ≤ 100000000000 := by omega
    rw [Int.natCast_mul] at e
    omega
  by_cases h0 : n * i.size = 0
  · have hz0 : zeros z.cells (n * i.size) = #[] := by rw [h0]; simp [zeros]
    rw [hz0] at hst
    simp [Builtin.append_, run_underlying hu, run_underlying hx, hso, hti, asInt, run_asIntOf, wn, hbb, hle, h0, hst]
    intro hh; omega
  · have hzc : Builtin.zeroCells z.cells n = zeros z.cells (n * i.size) := by unfold Builtin.zeroCells zeros; rw [hzs]
    simp [Builtin.append_, run_underlying hu, run_underlying hx, hso, hti, asInt, run_asIntOf, wn, hbb, hle, h0, hzv, hzc, hst]
    intro hh; omega
theorem append_nil_make {sT xT e : TypeId} {k kx : IntKind} {ty : TypeId} {i : TypeInfo} (hu : P.underlying sT = some (.slice e)) (hx : P.underlying xT = some (.int k)) (hi : P.info? e = some i) :
   (Builtin.append_ #[sT, xT] ty #[.slice none 0 0, .int kx (0 : Nat)]).run P w = .ok (.slice none 0 0) w := by
  have hti : ∀ w, (typeInfo e).run P w = .ok i w := fun w => by simp [typeInfo, hi]
  have hso : ∀ w, (sizeOf e).run P w = .ok i.size w := fun w => by simp [sizeOf, hti]
  have wn : IntKind.wrap .i64 0 = 0 := wrap_i64 (by omega) (by omega)
  simp [Builtin.append_, run_underlying hu, run_underlying hx, hso, hti, asInt, run_asIntOf, wn]
theorem append_new_make {sT xT e : TypeId} {k kx : IntKind} {sz n : Nat} {ty : TypeId} {base : Option Addr} {sLen sCap : Nat} {old : Array Value} {i : TypeInfo} {z : Value} (hu : P.underlying sT = some (.slice e)) (hx : P.underlying xT = some (.int k))
   (hi : P.info? e = some i) (hz : i.zero = some z) (hb : i.bytes ≤ 100000) (hn : sLen + n ≤ 1000000) (hsz : sz = i.size) (hzs : z.cells.size = sz)
   (ho : (Builtin.firstCells sz sLen (.slice base sLen sCap)).run P w.drew = .ok old w.drew) (hle : ¬ sLen + n ≤ sCap) :
   ∃ newCap, sLen + n ≤ newCap ∧ (Builtin.append_ #[sT, xT] ty #[.slice base sLen sCap, .int kx n]).run P w = .ok (.slice (some ⟨w.heap.size, 0, none⟩) (sLen + n) newCap) (plus w.drew (old ++ (zeros z.cells (n * sz) ++ Builtin.zeroCells z.cells (newCap - (sLen + n)))) e) := by
  have hc := nextslicecap_le hn (show sCap < sLen + n by omega)
  have hcb : ¬ Builtin.nextslicecap (sLen + n) sCap * i.bytes > 2 ^ 48 := by
    have := Nat.mul_le_mul hc hb
    omega
  refine ⟨(Question.appendCap (sLen + n) sCap e).cut (w.tape w.drawn (Question.appendCap (sLen + n) sCap e)), by simp only [Question.cut]; omega, ?_⟩
  subst hsz
  have hforced : (Question.appendCap (sLen + n) sCap e).forced = false := rfl
  have hti : ∀ w, (typeInfo e).run P w = .ok i w := fun w => by simp [typeInfo, hi]
  have hso : ∀ w, (sizeOf e).run P w = .ok i.size w := fun w => by simp [sizeOf, hti]
  have hzv : ∀ w, (zeroValue e).run P w = .ok z w := fun w => by simp [zeroValue, hti, hz]
  have hm : ¬ (9223372036854775807 < (sLen : Int) + (n : Int)) := by omega
  have hmax : IntKind.i64.max = 9223372036854775807 := by decide
  have wn : IntKind.wrap .i64 (n : Int) = n := wrap_i64 (by omega) (by omega)
  have hbb : ¬ (281474976710656 < (n : Int) * (i.bytes : Int)) := by
    have := Nat.mul_le_mul (show n ≤ 1000000 by omega) hb
    have e : ((n * i.bytes : Nat) : Int) ≤ 100000000000 := by omega
    rw [Int.natCast_mul] at e
    omega
  by_cases h0 : n * i.size = 0
  · have hz0 : zeros z.cells 0 = #[] := by simp [zeros]
    simp [Builtin.append_, run_underlying hu, run_underlying hx, hso, hle, hti, hmax, hm, hcb, hforced, ho, hzv, run_newRow, asInt, run_asIntOf, wn, hbb, h0, hz0]
    first | (rw [if_neg (by omega)]; done) | (intro hh; omega)
  · have hzc : Builtin.zeroCells z.cells n = zeros z.cells (n * i.size) := by unfold Builtin.zeroCells zeros; rw [hzs]
    simp [Builtin.append_, run_underlying hu, run_underlying hx, hso, hle, hti, hmax, hm, hcb, hforced, ho, hzv, run_newRow, asInt, run_asIntOf, wn, hbb, h0, hzc]
    first | (rw [if_neg (by omega)]; done) | (intro hh; omega)
end
end Go.Ew
