/- The evaluator: effects, rounds and calls are the model's. -/
import Derived.Test.YtcchjefjljpccaaGreatEwB
import Derived.RangeFuncRecord
import Derived.Below
import Derived.RangeFuncCalls
import Derived.ControlIn
import Derived.LoopNIn
import Derived.OrdersIn
/- THE BUILTIN append, as the model runs it. -/
namespace Go.Ew
theorem notInt {d : TypeDesc} (hd : ∀ k, d ≠ .int k) : (match d with | .int _ => true | _ => false) = false := by
  cases d <;> first | rfl | exact absurd rfl (hd _)
theorem growBy_le (newLen : Nat) : ∀ (r c : Nat), c ≤ 2000000 → newLen ≤ 1000000 → Builtin.growBy newLen r c ≤ 2000000
  | 0, c, h, _ => h
  | r+1, c, h, hn => by
    unfold Builtin.growBy
    split
    · exact h
    · exact growBy_le newLen r _ (by omega) hn
theorem nextslicecap_le {newLen oldCap : Nat} (h : newLen ≤ 1000000) (ho : oldCap < newLen) : Builtin.nextslicecap newLen oldCap ≤ 2000000 := by
  unfold Builtin.nextslicecap
  split
  · omega
  · split
    · omega
    · exact growBy_le _ _ _ (by omega) h
section
variable {P : Program} {w : World} {ι : Ix} {H H' : Heap}

theorem append_in {sT xT e : TypeId} {d : TypeDesc} {sz n : Nat} {ty : TypeId} {a : Addr} {sLen sCap : Nat} {x : Value} {new : Array Value} {w' : World} (hu : P.underlying sT = some (.slice e)) (hx : P.underlying xT = some d) (hd : ∀ k, d ≠ .int k)
   (hs : (sizeOf e).run P w = .ok sz w) (hl : (Builtin.lenOf x).run P w = .ok n w) (hf : (Builtin.firstCells sz n x).run P w = .ok new w) (hle : sLen + n ≤ sCap) (hst : (storeCells (a.add (sLen * sz)) new.toList).run P w = .ok () w') :
   (Builtin.append_ #[sT, xT] ty #[.slice (some a) sLen sCap, x]).run P w = .ok (.slice (some a) (sLen + n) sCap) w' := by
  simp [Builtin.append_, run_underlying hu, run_underlying hx, hs, hl, hf, hle, hst]
theorem append_nil {sT xT e : TypeId} {d : TypeDesc} {sz : Nat} {ty : TypeId} {x : Value} {new : Array Value} (hu : P.underlying sT = some (.slice e)) (hx : P.underlying xT = some d) (hd : ∀ k, d ≠ .int k)
   (hs : (sizeOf e).run P w = .ok sz w) (hl : (Builtin.lenOf x).run P w = .ok 0 w) (hf : (Builtin.firstCells sz 0 x).run P w = .ok new w) :
   (Builtin.append_ #[sT, xT] ty #[.slice none 0 0, x]).run P w = .ok (.slice none 0 0) w := by
  simp [Builtin.append_, run_underlying hu, run_underlying hx, hs, hl, hf]
theorem append_new {sT xT e : TypeId} {d : TypeDesc} {sz n : Nat} {ty : TypeId} {base : Option Addr} {sLen sCap : Nat} {x : Value} {old new : Array Value} {i : TypeInfo} {z : Value} (hu : P.underlying sT = some (.slice e)) (hx : P.underlying xT = some d) (hd : ∀ k, d ≠ .int k)
   (hi : P.info? e = some i) (hz : i.zero = some z) (hb : i.bytes ≤ 100000) (hn : sLen + n ≤ 1000000) (hsz : sz = i.size) (hl : (Builtin.lenOf x).run P w = .ok n w) (hf : (Builtin.firstCells sz n x).run P w.drew = .ok new w.drew)
   (ho : (Builtin.firstCells sz sLen (.slice base sLen sCap)).run P w.drew = .ok old w.drew) (hle : ¬ sLen + n ≤ sCap) :
   ∃ newCap, sLen + n ≤ newCap ∧ (Builtin.append_ #[sT, xT] ty #[.slice base sLen sCap, x]).run P w = .ok (.slice (some ⟨w.heap.size, 0, none⟩) (sLen + n) newCap) (plus w.drew (old ++ (new ++ Builtin.zeroCells z.cells (newCap - (sLen + n)))) e) := by
  have hc := nextslicecap_le hn (show sCap < sLen + n by omega)
  have hcb : ¬ Builtin.nextslicecap (sLen + n) sCap * i.bytes > 2 ^ 48 := by
    have := Nat.mul_le_mul hc hb
    omega
  refine ⟨(Question.appendCap (sLen + n) sCap e).cut (w.tape w.drawn (Question.appendCap (sLen + n) sCap e)), by simp only [Question.cut]; omega, ?_⟩
  subst hsz
  have hforced : (Question.appendCap (sLen + n) sCap e).forced = false := rfl
  have hti : ∀ w, (typeInfo e).run P w = .ok i w := fun w => by simp [typeInfo, hi]
  have hso : ∀ w, (sizeOf e).run P w = .ok i.size w := fun w => by simp [sizeOf, hti]
  have hzv : ∀ w, (zeroValue e).run P w = .ok z w := fun w => by simp [zeroValue, hti, hz]
  have hm : ¬ ((9223372036854775807 < (sLen : Int) + (n : Int)) ∧ i.bytes = 0) := by omega
  have hmax : IntKind.i64.max = 9223372036854775807 := by decide
  simp [Builtin.append_, run_underlying hu, run_underlying hx, hso, hl, hle, hti, hmax, hm, hcb, hforced, ho, hf, hzv, run_newRow]
theorem append_in_make {sT xT e : TypeId} {k kx : IntKind} {sz n : Nat} {ty : TypeId} {a : Addr} {sLen sCap : Nat} {i : TypeInfo} {z : Value} {w' : World} (hu : P.underlying sT = some (.slice e)) (hx : P.underlying xT = some (.int k))
   (hi : P.info? e = some i) (hz : i.zero = some z) (hb : i.bytes ≤ 100000) (hn : n ≤ 1000000) (hsz : sz = i.size) (hzs : z.cells.size = sz) (hle : sLen + n ≤ sCap) (hst : (storeCells (a.add (sLen * sz)) (zeros z.cells (n * sz)).toList).run P w = .ok () w') :
   (Builtin.append_ #[sT, xT] ty #[.slice (some a) sLen sCap, .int kx n]).run P w = .ok (.slice (some a) (sLen + n) sCap) w' := by
  subst hsz
  have hti : ∀ w, (typeInfo e).run P w = .ok i w := fun w => by simp [typeInfo, hi]
  have hso : ∀ w, (sizeOf e).run P w = .ok i.size w := fun w => by simp [sizeOf, hti]
  have hzv : ∀ w, (zeroValue e).run P w = .ok z w := fun w => by simp [zeroValue, hti, hz]
  have wn : IntKind.wrap .i64 (n : Int) = n := wrap_i64 (by omega) (by omega)
  have hbb : ¬ (281474976710656 < (n : Int) * (i.bytes : Int)) := by
    have := Nat.mul_le_mul hn hb
    have e : ((n * i.bytes : Nat) : Int) ≤ 100000000000 := by omega
    rw [Int.natCast_mul] at e
    omega
  by_cases h0 : n * i.size = 0
  · have hz0 : zeros z.cells (n * i.size) = #[] := by rw [h0]; simp [zeros]
    rw [hz0] at hst
    simp [Builtin.append_, run_underlying hu, run_underlying hx, hso, hti, asInt, run_asIntOf, wn, hbb, hle, h0, hst]
    intro hh; omega
  · have hzc : Builtin.zeroCells z.cells n = zeros z.cells (n * i.size) := by unfold Builtin.zeroCells zeros; rw [hzs]
    simp [Builtin.append_, run_underlying hu, run_underlying hx, hso, hti, asInt, run_asIntOf, wn, hbb, hle, h0, hzv, hzc, hst]
    intro hh; omega
theorem append_nil_make {sT xT e : TypeId} {k kx : IntKind} {ty : TypeId} {i : TypeInfo} (hu : P.underlying sT = some (.slice e)) (hx : P.underlying xT = some (.int k)) (hi : P.info? e = some i) :
   (Builtin.append_ #[sT, xT] ty #[.slice none 0 0, .int kx (0 : Nat)]).run P w = .ok (.slice none 0 0) w := by
  have hti : ∀ w, (typeInfo e).run P w = .ok i w := fun w => by simp [typeInfo, hi]
  have hso : ∀ w, (sizeOf e).run P w = .ok i.size w := fun w => by simp [sizeOf, hti]
  have wn : IntKind.wrap .i64 0 = 0 := wrap_i64 (by omega) (by omega)
  simp [Builtin.append_, run_underlying hu, run_underlying hx, hso, hti, asInt, run_asIntOf, wn]
theorem append_new_make {sT xT e : TypeId} {k kx : IntKind} {sz n : Nat} {ty : TypeId} {base : Option Addr} {sLen sCap : Nat} {old : Array Value} {i : TypeInfo} {z : Value} (hu : P.underlying sT = some (.slice e)) (hx : P.underlying xT = some (.int k))
   (hi : P.info? e = some i) (hz : i.zero = some z) (hb : i.bytes ≤ 100000) (hn : sLen + n ≤ 1000000) (hsz : sz = i.size) (hzs : z.cells.size = sz)
   (ho : (Builtin.firstCells sz sLen (.slice base sLen sCap)).run P w.drew = .ok old w.drew) (hle : ¬ sLen + n ≤ sCap) :
   ∃ newCap, sLen + n ≤ newCap ∧ (Builtin.append_ #[sT, xT] ty #[.slice base sLen sCap, .int kx n]).run P w = .ok (.slice (some ⟨w.heap.size, 0, none⟩) (sLen + n) newCap) (plus w.drew (old ++ (zeros z.cells (n * sz) ++ Builtin.zeroCells z.cells (newCap - (sLen + n)))) e) := by
  have hc := nextslicecap_le hn (show sCap < sLen + n by omega)
  have hcb : ¬ Builtin.nextslicecap (sLen + n) sCap * i.bytes > 2 ^ 48 := by
    have := Nat.mul_le_mul hc hb
    omega
  refine ⟨(Question.appendCap (sLen + n) sCap e).cut (w.tape w.drawn (Question.appendCap (sLen + n) sCap e)), by simp only [Question.cut]; omega, ?_⟩
  subst hsz
  have hforced : (Question.appendCap (sLen + n) sCap e).forced = false := rfl
  have hti : ∀ w, (typeInfo e).run P w = .ok i w := fun w => by simp [typeInfo, hi]
  have hso : ∀ w, (sizeOf e).run P w = .ok i.size w := fun w => by simp [sizeOf, hti]
  have hzv : ∀ w, (zeroValue e).run P w = .ok z w := fun w => by simp [zeroValue, hti, hz]
  have hm : ¬ (9223372036854775807 < (sLen : Int) + (n : Int)) := by omega
  have hmax : IntKind.i64.max = 9223372036854775807 := by decide
  have wn : IntKind.wrap .i64 (n : Int) = n := wrap_i64 (by omega) (by omega)
  have hbb : ¬ (281474976710656 < (n : Int) * (i.bytes : Int)) := by
    have := Nat.mul_le_mul (show n ≤ 1000000 by omega) hb
    have e : ((n * i.bytes : Nat) : Int) ≤ 100000000000 := by omega
    rw [Int.natCast_mul] at e
    omega
  by_cases h0 : n * i.size = 0
  · have hz0 : zeros z.cells 0 = #[] := by simp [zeros]
    simp [Builtin.append_, run_underlying hu, run_underlying hx, hso, hle, hti, hmax, hm, hcb, hforced, ho, hzv, run_newRow, asInt, run_asIntOf, wn, hbb, h0, hz0]
    first | (rw [if_neg (by omega)]; done) | (intro hh; omega)
  · have hzc : Builtin.zeroCells z.cells n = zeros z.cells (n * i.size) := by unfold Builtin.zeroCells zeros; rw [hzs]
    simp [Builtin.append_, run_underlying hu, run_underlying hx, hso, hle, hti, hmax, hm, hcb, hforced, ho, hzv, run_newRow, asInt, run_asIntOf, wn, hbb, h0, hzc]
    first | (rw [if_neg (by omega)]; done) | (intro hh; omega)
end
end Go.Ew

/- A VERSION MORE of a block; writes, appends, as the evaluator makes them. -/
namespace Go.Ew
section
variable {P : Program} {w : World} {ι : Ix} {H H' : Heap}

theorem ext_grow {blk : Blk} {t : Tr AV} {size' : Nat} {c : Bool} {v e : Nat} (hv : v ≤ blk.ver)
    (h : (Blk.ext { cells := t, size := size', ver := blk.ver + 1, exts := sel c (blk.size :: blk.exts) [], esz := blk.esz, loop := none } v) = some e) : c = true ∧ blk.ext v = some e := by
  unfold Blk.ext at h ⊢
  simp only [sel_eq, beq_iff, blt_iff] at h ⊢
  rw [if_neg (by omega), if_pos (by omega)] at h
  by_cases hc : c = true
  · rw [if_pos hc] at h
    refine ⟨hc, ?_⟩
    by_cases hv' : v = blk.ver
    · rw [if_pos hv']
      have : Nat.sub (blk.ver + 1) (Nat.succ v) = 0 := by simp only [Nat.sub_eq]; omega
      rw [this] at h; exact h
    · rw [if_neg hv', if_pos (by omega)]
      have : Nat.sub (blk.ver + 1) (Nat.succ v) = Nat.sub blk.ver (Nat.succ v) + 1 := by simp only [Nat.sub_eq]; omega
      rw [this] at h; exact h
  · rw [if_neg hc] at h; cases h

structure Grow (ι : Ix) (w w' : World) (p p' : Pl) (off0 : Nat) (cs' : Array Value) (el : TypeId) : Prop where
  size : w.heap.size ≤ w'.heap.size
  at_ : w'.heap[p'.blk]? = some (.cells cs' el (0, 0))
  sz : cs'.size = p'.size
  other : ∀ c, c < w.heap.size → c ≠ p.blk → w'.heap[c]? = w.heap[c]?
  where_ : (p' = p ∧ ∀ (cs : Array Value) el', w.heap[p.blk]? = some (.cells cs el' (0, 0)) → cs'.size = cs.size ∧ ∀ i, i < off0 → cs'[i]? = cs[i]?) ∨ (p'.blk = w.heap.size ∧ w'.heap[p.blk]? = w.heap[p.blk]?)
  os : w'.os = w.os
  output : w'.output = w.output
  tape : w'.tape = w.tape

theorem HR.grow (hr : HR ι H w) {b off0 size' : Nat} {blk : Blk} {p p' : Pl} {cs' : Array Value} {el : TypeId} {t : Tr AV} {w' : World} {l : List AV} {c : Bool}
    (hb : H.get b = some blk) (hp : ι b blk.ver = some p) (hpe : p'.esz = blk.esz) (hbs : blk.size ≤ size') (hc : c = true → off0 = blk.size)
    (ht : ∀ j, t.get j = if off0 ≤ j ∧ j < off0 + l.length then l[j - off0]? else blk.cells.get j)
    (hH : ∀ j, H'.get j = if j = b then some { cells := t, size := size', ver := blk.ver + 1, exts := sel c (blk.size :: blk.exts) [], esz := blk.esz, loop := none } else H.get j)
    (hw : Grow ι w w' p p' off0 cs' el) (hs : size' ≤ p'.size) (hnew : ∀ i, i < size' → ∃ a x, t.get i = some a ∧ cs'[i]? = some x ∧ VR ι a x ∧ a.one = true) :
    HR (ι.set b (blk.ver + 1) p') H' w' := by
  have hn : ι b (blk.ver + 1) = none := hr.future _ _ _ hb (by omega)
  have hle := Ix.set_le (p := p') hn
  have hpb := hr.bound _ _ _ hp
  refine ⟨fun b1 bk v e q h1 h2 h3 => ?_, fun b1 bk v q h1 h3 => ?_, fun b1 bk v h1 h2 => ?_, fun b1 bk h1 => ?_, fun b1 v1 q1 b2 v2 q2 h1 h2 h3 => ?_, fun b1 v q h => ?_, fun b1 bk r q h1 h2 h3 => ?_⟩
  · rcases Ix.set_cases h3 with ⟨e1, e2, e3⟩ | q3
    · subst e1 e2 e3
      rw [hH, if_pos rfl] at h1
      injection h1 with h1
      subst h1
      rw [ext_ver { cells := t, size := size', ver := blk.ver + 1, exts := sel c (blk.size :: blk.exts) [], esz := blk.esz, loop := none }] at h2
      injection h2 with h2
      subst h2
      refine ⟨cs', el, hw.at_, hw.sz, hs, fun i hi => ?_⟩
      obtain ⟨a, x, g1, g2, g3, g4⟩ := hnew i hi
      exact ⟨a, x, g1, g2, g3.mono hle, g4⟩
    · rw [hH] at h1
      split at h1
      · rename_i hb1
        subst hb1
        injection h1 with h1
        subst h1
        have hv : v ≤ blk.ver := by
          rcases Nat.lt_or_ge blk.ver v with hlt | hge
          · rw [hr.future _ _ _ hb hlt] at q3; cases q3
          · exact hge
        obtain ⟨hct, h4⟩ := ext_grow hv h2
        have hoff := hc hct
        obtain ⟨cs1, el1, g1, g2, g3, g4⟩ := hr.cells _ _ _ _ _ hb h4 q3
        have he : e ≤ off0 := by
          unfold Blk.ext at h4
          simp only [sel_eq, beq_iff, blt_iff] at h4
          split at h4
          · injection h4 with h4; omega
          · split at h4
            · have := Desc.nth (hr.desc _ _ hb) h4; omega
            · cases h4
        have hqb := hr.bound _ _ _ q3
        rcases hw.where_ with ⟨hpp, hsame⟩ | ⟨hpp, hold⟩
        · by_cases hq : q.blk = p.blk
          · rw [hq] at g1
            obtain ⟨s1, s2⟩ := hsame _ _ g1
            refine ⟨cs', el, by rw [hq, ← hpp]; exact hw.at_, by omega, g3, fun i hi => ?_⟩
            obtain ⟨a, x, k1, k2, k3, k4⟩ := g4 i hi
            exact ⟨a, x, by simp only; rw [ht, if_neg (by omega)]; exact k1, by rw [s2 i (by omega)]; exact k2, k3.mono hle, k4⟩
          · refine ⟨cs1, el1, by rw [hw.other _ hqb hq]; exact g1, g2, g3, fun i hi => ?_⟩
            obtain ⟨a, x, k1, k2, k3, k4⟩ := g4 i hi
            exact ⟨a, x, by simp only; rw [ht, if_neg (by omega)]; exact k1, k2, k3.mono hle, k4⟩
        · have : w'.heap[q.blk]? = w.heap[q.blk]? := by
            by_cases hq : q.blk = p.blk
            · rw [hq]; exact hold
            · exact hw.other _ hqb hq
          refine ⟨cs1, el1, by rw [this]; exact g1, g2, g3, fun i hi => ?_⟩
          obtain ⟨a, x, k1, k2, k3, k4⟩ := g4 i hi
          exact ⟨a, x, by simp only; rw [ht, if_neg (by omega)]; exact k1, k2, k3.mono hle, k4⟩
      · rename_i hb1
        obtain ⟨cs1, el1, g1, g2, g3, g4⟩ := hr.cells _ _ _ _ _ h1 h2 q3
        have hqb := hr.bound _ _ _ q3
        have hq : q.blk ≠ p.blk := fun hh => hb1 (hr.inj _ _ _ _ _ _ q3 hp hh)
        refine ⟨cs1, el1, by rw [hw.other _ hqb hq]; exact g1, g2, g3, fun i hi => ?_⟩
        obtain ⟨a, x, k1, k2, k3, k4⟩ := g4 i hi
        exact ⟨a, x, k1, k2, k3.mono hle, k4⟩
  · rcases Ix.set_cases h3 with ⟨e1, e2, e3⟩ | q3
    · subst e1 e2 e3
      rw [hH, if_pos rfl] at h1
      injection h1 with h1; subst h1; exact hpe
    · rw [hH] at h1
      split at h1
      · rename_i hb1; subst hb1; injection h1 with h1; subst h1; have := hr.esz _ _ _ _ hb q3; exact this
      · exact hr.esz _ _ _ _ h1 q3
  · rw [hH] at h1
    unfold Ix.set
    split at h1
    · rename_i hb1; subst hb1; injection h1 with h1; subst h1
      simp only at h2
      rw [if_neg (by omega)]; exact hr.future _ _ _ hb (by omega)
    · rename_i hb1
      rw [if_neg (fun hh => hb1 hh.1)]; exact hr.future _ _ _ h1 h2
  · rw [hH] at h1
    split at h1
    · rename_i hb1; subst hb1; injection h1 with h1; subst h1
      simp only
      rw [sel_eq]; split
      · exact ⟨hbs, hr.desc _ _ hb⟩
      · trivial
    · exact hr.desc _ _ h1
  · have key : ∀ b3 v3 q3, ι b3 v3 = some q3 → q3.blk = p'.blk → b3 = b := by
      intro b3 v3 q3 h4 h5
      have h6 := hr.bound _ _ _ h4
      rcases hw.where_ with ⟨hpp, _⟩ | ⟨hpp, _⟩
      · rw [hpp] at h5; exact hr.inj _ _ _ _ _ _ h4 hp h5
      · omega
    rcases Ix.set_cases h1 with ⟨e1, e2, e3⟩ | g1 <;> rcases Ix.set_cases h2 with ⟨e4, e5, e6⟩ | g2
    · rw [e1, e4]
    · rw [e1]; rw [e3] at h3; exact (key _ _ _ g2 h3.symm).symm
    · rw [e4]; rw [e6] at h3; exact key _ _ _ g1 h3
    · exact hr.inj _ _ _ _ _ _ g1 g2 h3
  · rcases Ix.set_cases h with ⟨e1, e2, e3⟩ | h
    · rw [e3]; exact (Array.getElem?_eq_some_iff.1 hw.at_).1
    · have := hr.bound _ _ _ h; have := hw.size; omega
  · rw [hH] at h1
    split at h1
    · injection h1 with h1; subst h1; cases h2
    · rename_i hb1
      have q3 : ι b1 0 = some q := by
        rcases Ix.set_cases h3 with ⟨_, e2, _⟩ | q3
        · omega
        · exact q3
      obtain ⟨r', g1, g2⟩ := hr.loop _ _ _ _ h1 h2 q3
      have hqb := hr.bound _ _ _ q3
      have hq : q.blk ≠ p.blk := fun hh => hb1 (hr.inj _ _ _ _ _ _ q3 hp hh)
      exact ⟨r', by rw [hw.other _ hqb hq]; exact g1, g2.mono hle⟩

theorem stp_grow (hr : HR ι H w) {nx b off0 : Nat} {blk blk' : Blk} {p p' : Pl} {cs' : Array Value} {el : TypeId} {w' : World}
    (hb : H.get b = some blk) (hp : ι b blk.ver = some p) (hw : Grow ι w w' p p' off0 cs' el) (hH : ∀ j, H'.get j = if j = b then some blk' else H.get j) :
    Stp ι H nx w (ι.set b (blk.ver + 1) p') H' nx w' := by
  have hn : ι b (blk.ver + 1) = none := hr.future _ _ _ hb (by omega)
  refine ⟨Ix.set_le hn, fun b1 v1 q h => ?_, fun c h => ?_, Nat.le_refl _, fun c bk hc hnn => ?_, fun c hc hh => ?_, hw.size, hw.os, hw.output, hw.tape⟩
  · rcases Ix.set_cases h with ⟨e1, e2, e3⟩ | h
    · subst e1 e3
      refine .inr (.inr ⟨by simp [hb], blk.ver, p, hp, ?_⟩)
      rcases hw.where_ with ⟨hpp, _⟩ | ⟨hpp, _⟩
      · left; rw [hpp]
      · right; omega
    · exact .inl h
  · rw [hH] at h
    split at h
    · rename_i he; subst he; exact .inl (by simp [hb])
    · exact .inl h
  · rw [hH, if_neg]
    · exact hc
    · rintro rfl; rw [hnn blk.ver] at hp; cases hp
  · refine hw.other c hc ?_
    rintro rfl
    have := hh b blk.ver p hp rfl
    rw [hb] at this; cases this

/-- A WRITE, as the evaluator makes it: the memory behind it first, then what it is in the world. -/
theorem writeCells_ex (P : Program) {β : Type} {b v off : Nat} {l : List AV} {k : Heap → Res β} {r : β} (h : writeCells H b v off l k = .ok r) :
    ∃ H', k H' = .ok r ∧ ∀ (ι : Ix) (w : World) (p : Pl) (xs : List Value) (nx : Nat), HR ι H w → ι b v = some p → VRL ι l xs →
      ∃ w', (storeCells ⟨p.blk, off, none⟩ xs).run P w = .ok () w' ∧ HR ι H' w' ∧ Stp ι H nx w ι H' nx w' := by
  have h' := h
  unfold writeCells at h
  obtain ⟨blk, hb, h⟩ := ofOpt_ok h
  obtain ⟨hv, h⟩ := must_ok h
  obtain ⟨hoff, h⟩ := must_ok h
  obtain ⟨hone, h⟩ := must_ok h
  obtain ⟨t, h, ht⟩ := setCells_ok _ _ _ _ h
  obtain ⟨H', hk, hH⟩ := setK_ok _ _ _ _ h
  have hv : v = blk.ver := beq_iff.1 hv
  have hoff : off + l.length ≤ blk.size := ble_iff.1 hoff
  refine ⟨H', hk, fun ι w p xs nx hr hp hl => ?_⟩
  rw [hv] at hp
  obtain ⟨cs, el, hcs, hsz, hle, _⟩ := hr.cells _ _ _ _ _ hb (ext_ver blk) hp
  have hlen := hl.length
  obtain ⟨w', cs', h1, h2, h3, h4⟩ := store_run (P := P) hcs (off := off) (xs := xs) (by omega) (hl.one hone)
  rw [← hlen] at h4
  exact ⟨w', h1, hr.write hb hp hone hl hcs h3 h4 h2 ht hH, stp_write hb hp h2 hH⟩
/-- A NEW BLOCK, as the evaluator makes it. -/
theorem newBlk_ex {β : Type} {nx : Nat} {l : List AV} {esz : Nat} {k : Heap → Nat → Res β} {r : β} (h : newBlk H nx l esz k = .ok r) :
    ∃ H', k H' (nx + 1) = .ok r ∧ (∃ blk, (∀ j, H'.get j = if j = nx then some blk else H.get j) ∧ blk.ver = 0 ∧ blk.exts = [] ∧ blk.esz = esz ∧ blk.loop = none ∧ blk.size = l.length ∧ (∀ i, i < l.length → blk.cells.get i = l[i]?) ∧ allOne l = true) ∧
      ∀ (ι : Ix) (w : World) (N : Nat) (cs : Array Value) (el : TypeId) (xs : List Value), HR ι H w → Wf H nx → Fresh ι nx N → nx + 1 ≤ N → VRL ι l xs → l.length ≤ cs.size → (∀ (i : Nat) (x : Value), xs[i]? = some x → cs[i]? = some x) →
        HR (ι.set nx 0 ⟨w.heap.size, cs.size, esz⟩) H' (plus w cs el) ∧ Stp ι H nx w (ι.set nx 0 ⟨w.heap.size, cs.size, esz⟩) H' (nx + 1) (plus w cs el) := by
  obtain ⟨H', blk, hk, hH, h0, h1, h2, hlp, h3, h4, h5⟩ := newBlk_ok h
  exact ⟨H', hk, ⟨blk, hH, h0, h1, h2, hlp, h3, h4, h5⟩, fun ι w N cs el xs hr hw hf hN hl hs hx => stp_new hr hw hf hN hH h0 h1 h2 hlp h3 h4 h5 ⟨xs, hl, hs, hx⟩⟩
end
end Go.Ew

/- append, as the evaluator makes it. -/
namespace Go.Ew
section
variable {P : Program} {w : World} {ι : Ix} {H H' : Heap}

theorem HR.drew (hr : HR ι H w) : HR ι H w.drew := hr.world (Nat.le_refl _) fun _ _ _ _ => rfl
theorem Stp.of_drew {ι' : Ix} {nx nx' : Nat} {w' : World} (h : Stp ι H nx w.drew ι' H' nx' w') : Stp ι H nx w ι' H' nx' w' :=
  ⟨h.le, h.new, h.dom, h.nxle, h.same, h.frame, h.size, h.os, h.output, h.tape⟩

theorem loadCells_all (hr : HR ι H w) {b v off n : Nat} {l : List AV} {p : Pl} (h : readCells H b v off n = .ok l) (hp : ι b v = some p) :
    ∃ xs : List Value, VRL ι l xs ∧ (∀ w1 : World, w1.heap = w.heap → (loadCells ⟨p.blk, off, none⟩ n).run P w1 = .ok xs.toArray w1) ∧ l.length = n ∧ (∀ a ∈ l, a.one = true) := by
  obtain ⟨xs, h1, h2, h3, h4, _⟩ := readCells_ok hr h hp
  refine ⟨xs, h2, fun w1 hw1 => ?_, by rw [h2.length, h1], h4⟩
  have := run_loadCells_list (P := P) w1 ⟨p.blk, off, none⟩ xs (fun j v hv => by
    rw [add_at]
    have := h3 j v hv
    unfold World.cell? at this ⊢
    rw [hw1]; exact this)
  rwa [h1] at this
theorem allOne_of : ∀ {l : List AV}, (∀ a ∈ l, a.one = true) → allOne l = true
  | [], _ => rfl
  | a :: l, hh => by simp only [allOne, sel_eq]; rw [if_pos (hh a (by simp))]; exact allOne_of fun b hb => hh b (by simp [hb])
theorem firstCells_ok (hr : HR ι H w) {s : AV} {y : Value} {sz n : Nat} {l : List AV} (h : firstCells H sz n s = .ok l) (hy : VR ι s y) (hn : s = .nilslice → n = 0) :
    ∃ xs : List Value, VRL ι l xs ∧ (∀ w1 : World, w1.heap = w.heap → (Builtin.firstCells sz n y).run P w1 = .ok xs.toArray w1) ∧ l.length = n * sz ∧ allOne l = true := by
  unfold firstCells at h
  split at h
  · cases ok_inj h
    cases hy
    rw [hn rfl]
    exact ⟨[], .nil, fun w1 _ => by simp [Builtin.firstCells], by simp, rfl⟩
  · rename_i b v off len cap
    rw [sel_eq] at h
    split at h
    · rename_i h0
      have h0 : n = 0 := beq_iff.1 h0
      subst h0
      cases ok_inj h
      refine ⟨[], .nil, fun w1 _ => ?_, by simp, rfl⟩
      cases hy <;> simp [Builtin.firstCells, loadCells, loadCellsFrom]
    · rename_i h0
      obtain ⟨hlo, h⟩ := must_ok h
      cases hy with
      | known hp => obtain ⟨xs, h1, h2, h3, h4⟩ := loadCells_all (P := P) hr h hp; exact ⟨xs, h1, fun w1 hw1 => by have := h2 w1 hw1; exact this, h3, allOne_of h4⟩
      | opn hp => obtain ⟨xs, h1, h2, h3, h4⟩ := loadCells_all (P := P) hr h hp; exact ⟨xs, h1, fun w1 hw1 => by have := h2 w1 hw1; exact this, h3, allOne_of h4⟩
      | loose => cases hlo
  · cases h
/-- how the model's append runs at a slice y and cells xs -/
structure App (P : Program) (sz n : Nat) (xs : List Value) (y : Value) (w : World) (run : Result Value) : Prop where
  nil : n = 0 → y = .slice none 0 0 → run = .ok (.slice none 0 0) w
  in_ : ∀ a len cap w', y = .slice (some a) len cap → len + n ≤ cap → (storeCells (a.add (len * sz)) xs).run P w = .ok () w' → run = .ok (.slice (some a) (len + n) cap) w'
  new : ∀ base len cap old, y = .slice base len cap → len + n ≤ 1000000 → ¬ len + n ≤ cap → (Builtin.firstCells sz len y).run P w.drew = .ok old w.drew →
    ∃ (newCap : Nat) (rest : Array Value) (e : TypeId), len + n ≤ newCap ∧ rest.size = (newCap - (len + n)) * sz ∧ run = .ok (.slice (some ⟨w.heap.size, 0, none⟩) (len + n) newCap) (plus w.drew (old ++ (xs.toArray ++ rest)) e)

theorem nil_of {n sz : Nat} {xs : List Value} (h : xs.length = n * sz) (hn : n = 0) : xs = [] := by
  subst hn; exact List.eq_nil_of_length_eq_zero (by simpa using h)
theorem store_none (a : Addr) : (storeCells a []).run P w = .ok () w := rfl

theorem appendA_ex (P : Program) {β : Type} {sz n nx : Nat} {s : AV} {new : List AV} {k : AV → Heap → Nat → Res β} {r : β} (hsz : 0 < sz) (hnl : new.length = n * sz) (h : appendA sz H nx s n new k = .ok r) :
    ∃ v H' nx', k v H' nx' = .ok r ∧ nx ≤ nx' ∧ ∀ (ι : Ix) (w : World) (N : Nat) (y : Value) (xs : List Value) (run : Result Value), HR ι H w → Wf H nx → Fresh ι nx N → nx' ≤ N → VR ι s y → VRL ι new xs → App P sz n xs y w run →
      ∃ ι' w' y', run = .ok y' w' ∧ VR ι' v y' ∧ HR ι' H' w' ∧ Stp ι H nx w ι' H' nx' w' := by
  unfold appendA at h
  split at h
  · unfold apNil at h
    rw [sel_eq] at h
    split at h
    · rename_i h0
      have h0 : n = 0 := beq_iff.1 h0
      refine ⟨_, _, _, h, Nat.le_refl _, fun ι w N y xs run hr hw hf hN hy hx ha => ?_⟩
      cases hy
      exact ⟨ι, w, _, ha.nil h0 rfl, .nilslice, hr, .refl⟩
    · rename_i h0
      have h0 : n ≠ 0 := fun hh => h0 (beq_iff.2 hh)
      obtain ⟨hmax, h⟩ := must_ok h
      have hmax : n ≤ 1000000 := ble_iff.1 hmax
      obtain ⟨H', hk, _, hH⟩ := newBlk_ex h
      refine ⟨_, _, _, hk, Nat.le_succ _, fun ι w N y xs run hr hw hf hN hy hx ha => ?_⟩
      cases hy
      have hxl := hx.length
      obtain ⟨newCap, rest, e, h1, h2, h3⟩ := ha.new none 0 0 #[] rfl (by omega) (by omega) (by simp [Builtin.firstCells])
      rw [Nat.zero_add] at h1 h2 h3
      have hcs : (#[] ++ (xs.toArray ++ rest)).size = newCap * sz := by
        simp [h2, ← hxl, hnl, ← Nat.add_mul]; rw [Nat.add_sub_cancel' h1]
      obtain ⟨g1, g2⟩ := hH ι w.drew N (#[] ++ (xs.toArray ++ rest)) e xs hr.drew hw hf hN hx (by rw [hcs, hnl]; exact Nat.mul_le_mul_right _ h1) (fun i x hi => by
        simp only [Array.empty_append]
        rw [Array.getElem?_append, if_pos (by simp; exact (List.getElem?_eq_some_iff.1 hi).1)]; simpa using hi)
      refine ⟨_, _, _, h3, ?_, g1, g2.of_drew⟩
      exact .opn (Ix.set_same _ _ _ _) h1 (by rw [hcs]; simp)
  · rename_i b v off len cap
    cases cap with
    | known c =>
      change apKnown sz H nx b v off len c n new k = _ at h
      unfold apKnown at h
      rw [sel_eq] at h
      split at h
      · rename_i hfit
        have hfit : len + n ≤ c := ble_iff.1 hfit
        rw [sel_eq] at h
        split at h
        · rename_i h0
          have h0 : n = 0 := beq_iff.1 h0
          refine ⟨_, _, _, h, Nat.le_refl _, fun ι w N y xs run hr hw hf hN hy hx ha => ?_⟩
          cases hy with
          | known hp hl =>
            have hx0 := nil_of (by rw [← hx.length]; exact hnl) h0
            subst hx0
            have := ha.in_ _ _ _ w rfl hfit (store_none _)
            subst h0
            exact ⟨ι, w, _, this, .known hp hfit, hr, .refl⟩
        · obtain ⟨H', hk, hH⟩ := writeCells_ex P h
          refine ⟨_, _, _, hk, Nat.le_refl _, fun ι w N y xs run hr hw hf hN hy hx ha => ?_⟩
          cases hy with
          | known hp hl =>
            obtain ⟨w', g1, g2, g3⟩ := hH ι w _ xs nx hr hp hx
            exact ⟨ι, w', _, ha.in_ _ _ _ w' rfl hfit (by rw [add_at]; exact g1), .known hp hfit, g2, g3⟩
      · rename_i hfit
        have hfit : ¬ len + n ≤ c := fun hh => hfit (ble_iff.2 hh)
        obtain ⟨hmax, h⟩ := must_ok h
        have hmax : len + n ≤ 1000000 := ble_iff.1 hmax
        obtain ⟨old, hold, h⟩ := and_ok h
        obtain ⟨H', hk, ⟨_, _, _, _, _, _, _, hone⟩, hH⟩ := newBlk_ex h
        refine ⟨_, _, _, hk, Nat.le_succ _, fun ι w N y xs run hr hw hf hN hy hx ha => ?_⟩
        cases hy with
        | @known _ _ _ _ _ p hp hl =>
          have hof : firstCells H sz len (.slice b v off len (.known c)) = .ok old := hold
          obtain ⟨os, o1, o2, o3, _⟩ := firstCells_ok (P := P) hr hof (.known hp hl) (fun hh => by cases hh)
          obtain ⟨newCap, rest, e, h1, h2, h3⟩ := ha.new _ len c os.toArray rfl hmax hfit (o2 w.drew rfl)
          have hxl := hx.length
          have hol := o1.length
          have hcs : (os.toArray ++ (xs.toArray ++ rest)).size = newCap * sz := by
            simp [h2, ← hxl, hnl, ← hol, o3]
            rw [← Nat.add_assoc, ← Nat.add_mul, ← Nat.add_mul, Nat.add_sub_cancel' h1]
          obtain ⟨g1, g2⟩ := hH ι w.drew N (os.toArray ++ (xs.toArray ++ rest)) e (os ++ xs) hr.drew hw hf hN (o1.append hx) (by rw [hcs, List.length_append, o3, hnl, ← Nat.add_mul]; exact Nat.mul_le_mul_right _ h1) (fun i x hi => by
            rw [← Array.append_assoc, Array.getElem?_append, if_pos (by have := (List.getElem?_eq_some_iff.1 hi).1; simpa using this)]; simpa using hi)
          refine ⟨_, _, _, h3, ?_, g1, g2.of_drew⟩
          exact .opn (Ix.set_same _ _ _ _) h1 (by rw [hcs]; simp)
    | opn =>
      change apOpn sz H nx b v off len n new k = _ at h
      unfold apOpn at h
      rw [sel_eq] at h
      split at h
      · rename_i h0
        have h0 : n = 0 := beq_iff.1 h0
        refine ⟨_, _, _, h, Nat.le_refl _, fun ι w N y xs run hr hw hf hN hy hx ha => ?_⟩
        cases hy with
        | opn hp hl hs =>
          have hx0 := nil_of (by rw [← hx.length]; exact hnl) h0
          subst hx0
          have := ha.in_ _ _ _ w rfl (by omega) (store_none _)
          subst h0
          exact ⟨ι, w, _, this, .opn hp hl hs, hr, .refl⟩
      · obtain ⟨blk, hb, h⟩ := ofOpt_ok h
        obtain ⟨hv, h⟩ := must_ok h
        obtain ⟨hoff, h⟩ := must_ok h
        obtain ⟨hes, h⟩ := must_ok h
        obtain ⟨hone, h⟩ := must_ok h
        have hv : v = blk.ver := beq_iff.1 hv
        have hoff : off = 0 := beq_iff.1 hoff
        have hes : sz = blk.esz := beq_iff.1 hes
        rw [sel_eq] at h
        split at h
        · rename_i hfit
          have hfit : (len + n) * sz ≤ blk.size := ble_iff.1 hfit
          obtain ⟨H', hk, hH⟩ := writeCells_ex P h
          refine ⟨_, _, _, hk, Nat.le_refl _, fun ι w N y xs run hr hw hf hN hy hx ha => ?_⟩
          cases hy with
          | @opn _ _ _ _ cap' p hp hl hs =>
            have hpe := hr.esz _ _ _ _ hb hp
            obtain ⟨cs, el, hcs, hcsz, hle, _⟩ := hr.cells _ _ _ _ _ hb (by rw [hv]; exact ext_ver blk) hp
            rw [hpe, ← hes, hoff] at hs
            have hcap : len + n ≤ cap' := by
              have : (len + n) * sz ≤ cap' * sz := by omega
              exact Nat.le_of_mul_le_mul_right this hsz
            obtain ⟨w', g1, g2, g3⟩ := hH ι w _ xs nx hr hp hx
            subst hoff
            exact ⟨ι, w', _, ha.in_ _ _ _ w' rfl hcap (by rw [add_at, Nat.zero_add]; exact g1), .opn hp hcap (by rw [hpe, ← hes]; exact hs), g2, g3⟩
        · rename_i hfit
          have hfit : ¬ (len + n) * sz ≤ blk.size := fun hh => hfit (ble_iff.2 hh)
          unfold apGrow at h
          obtain ⟨hend, h⟩ := must_ok h
          obtain ⟨hmax, h⟩ := must_ok h
          have hend : len * sz ≤ blk.size := ble_iff.1 hend
          have hmax : len + n ≤ 1000000 := ble_iff.1 hmax
          obtain ⟨t, h, ht⟩ := setCells_ok _ _ _ _ h
          rw [forceNat_eq, forceNat_eq] at h
          obtain ⟨H', hk, hH⟩ := setK_ok _ _ _ _ h
          have ht : ∀ j, t.get j = if len * sz ≤ j ∧ j < len * sz + new.length then new[j - len * sz]? else blk.cells.get j := ht
          have hsum : len * sz + n * sz = (len + n) * sz := (Nat.add_mul _ _ _).symm
          refine ⟨_, _, _, hk, Nat.le_refl _, fun ι w N y xs run hr hw hf hN hy hx ha => ?_⟩
          cases hy with
          | @opn _ _ _ _ cap' p hp hl hs =>
            have hpe := hr.esz _ _ _ _ hb hp
            rw [hv] at hp
            obtain ⟨cs, el, hcs, hcsz, hle, hcells⟩ := hr.cells _ _ _ _ _ hb (ext_ver blk) hp
            rw [hpe, ← hes, hoff] at hs
            have hxl := hx.length
            -- the cells behind the append, wherever they come to lie
            have hnew : ∀ (cs' : Array Value), (∀ i, i < (len + n) * sz → cs'[i]? = if len * sz ≤ i ∧ i < len * sz + new.length then xs[i - len * sz]? else cs[i]?) →
                ∀ i, i < (len + n) * sz → ∃ a x, t.get i = some a ∧ cs'[i]? = some x ∧ VR ι a x ∧ a.one = true := by
              intro cs' hcs' i hi
              rw [ht, hcs' i hi]
              by_cases hr' : len * sz ≤ i ∧ i < len * sz + new.length
              · rw [if_pos hr', if_pos hr']
                have hil : i - len * sz < new.length := by omega
                obtain ⟨x, hx', hvx⟩ := hx.get (i - len * sz) (List.getElem?_eq_getElem hil)
                exact ⟨_, x, List.getElem?_eq_getElem hil, hx', hvx, allOne_mem hone _ (List.getElem_mem hil)⟩
              · rw [if_neg hr', if_neg hr']; exact hcells i (by omega)
            by_cases hcap : len + n ≤ cap'
            · have hcapm : (len + n) * sz ≤ cap' * sz := Nat.mul_le_mul_right _ hcap
              obtain ⟨w', cs', g1, g2, g3, g4⟩ := store_run (P := P) hcs (off := len * sz) (xs := xs) (by omega) (hx.one hone)
              rw [← hxl] at g4
              have hG : Grow ι w w' p p (len * sz) cs' el := ⟨by rw [g2.size]; exact Nat.le_refl _, g2.at_, by omega, fun c _ hc => g2.other c hc,
                .inl ⟨rfl, fun cs2 el2 hcs2 => by
                  rw [hcs] at hcs2; injection hcs2 with hcs2; injection hcs2 with hcs2 _ _; subst hcs2
                  exact ⟨g3, fun i hi => by rw [g4 i (by omega), if_neg (by omega)]⟩⟩, g2.os, g2.output, g2.tape⟩
              refine ⟨_, w', _, ha.in_ _ _ _ w' rfl hcap (by rw [add_at, hoff, Nat.zero_add]; exact g1), ?_, hr.grow (c := Nat.beq (len * sz) blk.size) (size' := (len + n) * sz) (off0 := len * sz) hb hp hpe (by omega) (fun hc => beq_iff.1 hc) ht hH hG (by omega) (hnew cs' fun i hi => g4 i (by omega)), stp_grow hr hb hp hG hH⟩
              rw [hoff]
              exact .opn (Ix.set_same _ _ _ _) hcap (by rw [hpe, ← hes]; exact hs)
            · have hold : (Builtin.firstCells sz len (.slice (some ⟨p.blk, off, none⟩) len cap')).run P w.drew = .ok (cs.toList.take (len * sz)).toArray w.drew := by
                have := run_loadCells_list (P := P) w.drew ⟨p.blk, off, none⟩ (cs.toList.take (len * sz)) (fun j v hj => by
                  rw [add_at, hoff, Nat.zero_add, cell_at (w := w.drew) (show w.drew.heap[p.blk]? = _ from hcs)]
                  rw [List.getElem?_take] at hj
                  split at hj
                  · rwa [Array.getElem?_toList] at hj
                  · cases hj)
                rw [show (cs.toList.take (len * sz)).length = len * sz by simp; omega] at this
                simp only [Builtin.firstCells, this]
              obtain ⟨newCap, rest, e, h1, h2, h3⟩ := ha.new _ len cap' _ rfl hmax hcap hold
              have hcs2 : ((cs.toList.take (len * sz)).toArray ++ (xs.toArray ++ rest)).size = newCap * sz := by
                simp only [Array.size_append, List.size_toArray, List.length_take, Array.length_toList, h2]
                rw [← hxl, hnl, Nat.min_eq_left (by omega), ← Nat.add_assoc, hsum, ← Nat.add_mul, Nat.add_sub_cancel' h1]
              have hG : Grow ι w (plus w.drew ((cs.toList.take (len * sz)).toArray ++ (xs.toArray ++ rest)) e) p ⟨w.heap.size, newCap * sz, blk.esz⟩ (len * sz) ((cs.toList.take (len * sz)).toArray ++ (xs.toArray ++ rest)) e :=
                ⟨by rw [plus_size]; exact Nat.le_succ _, plus_new (w := w.drew) _ _, hcs2, fun c hc _ => plus_old (w := w.drew) _ _ hc, .inr ⟨rfl, plus_old (w := w.drew) _ _ (hr.bound _ _ _ hp)⟩, rfl, rfl, rfl⟩
              have hm1 : (len + n) * sz ≤ newCap * sz := Nat.mul_le_mul_right _ h1
              refine ⟨_, _, _, h3, ?_, hr.grow (c := Nat.beq (len * sz) blk.size) (size' := (len + n) * sz) (off0 := len * sz) hb hp rfl (by omega) (fun hc => beq_iff.1 hc) ht hH hG hm1 (hnew _ fun i hi => ?_), stp_grow hr hb hp hG hH⟩
              · exact .opn (Ix.set_same _ _ _ _) h1 (by show 0 + newCap * blk.esz = newCap * sz; rw [hes]; simp)
              · rw [Array.getElem?_append]
                simp only [List.size_toArray, List.length_take, Array.length_toList]
                rw [Nat.min_eq_left (by omega)]
                split
                · rename_i hlt
                  rw [if_neg (by omega), List.getElem?_toArray, List.getElem?_take, if_pos hlt, Array.getElem?_toList]
                · rename_i hge
                  rw [if_pos (by omega), Array.getElem?_append, if_pos (by simp; omega)]
                  simp
    | loose =>
      change sel (Nat.beq n 0) (k (.slice b v off len .loose) H nx) (.no "append to a loose slice") = _ at h
      rw [sel_eq] at h
      split at h
      · rename_i h0
        have h0 : n = 0 := beq_iff.1 h0
        refine ⟨_, _, _, h, Nat.le_refl _, fun ι w N y xs run hr hw hf hN hy hx ha => ?_⟩
        cases hy with
        | loose =>
          have hx0 := nil_of (by rw [← hx.length]; exact hnl) h0
          subst hx0
          have := ha.in_ _ _ _ w rfl (by omega) (store_none _)
          subst h0
          exact ⟨ι, w, _, this, .loose, hr, .refl⟩
      · cases h
  · cases h
end
end Go.Ew

/- EFFECTS are the model's. -/
namespace Go.Ew
section
variable {P : Program} {w : World} {ι : Ix} {H H' : Heap}

theorem mem_VR {ι : Ix} {l : List AV} {xs : List Value} (h : VRL ι l xs) : l.length = xs.length := h.length

theorem app_of {sT xT e : TypeId} {d : TypeDesc} {sz n : Nat} {ty : TypeId} {y x : Value} {new : List Value} {i : TypeInfo} {z : Value} (hu : P.underlying sT = some (.slice e)) (hx : P.underlying xT = some d) (hd : ∀ k, d ≠ .int k)
    (hi : P.info? e = some i) (hz : i.zero = some z) (hb : i.bytes ≤ 100000) (hsz : sz = i.size) (hzs : z.cells.size = sz)
    (hl : ∀ w : World, (Builtin.lenOf x).run P w = .ok n w) (hf : (Builtin.firstCells sz n x).run P w = .ok new.toArray w) (hfd : (Builtin.firstCells sz n x).run P w.drew = .ok new.toArray w.drew) :
    App P sz n new y w ((Builtin.append_ #[sT, xT] ty #[y, x]).run P w) := by
  have hs : (sizeOf e).run P w = .ok sz w := by simp [sizeOf, typeInfo, hi, hsz]
  refine ⟨fun h0 hy => ?_, fun a len cap w' hy hle hst => ?_, fun base len cap old hy hmax hle ho => ?_⟩
  · subst h0 hy; exact append_nil hu hx hd hs (hl w) hf
  · subst hy; exact append_in hu hx hd hs (hl w) hf hle hst
  · subst hy
    obtain ⟨nc, h1, h2⟩ := append_new (ty := ty) hu hx hd hi hz hb hmax hsz (hl w) hfd ho hle
    exact ⟨nc, Builtin.zeroCells z.cells (nc - (len + n)), e, h1, by simp [Builtin.zeroCells, hzs], h2⟩
theorem app_make {sT xT e : TypeId} {k kx : IntKind} {sz n : Nat} {ty : TypeId} {y : Value} {i : TypeInfo} {z : Value} (hu : P.underlying sT = some (.slice e)) (hx : P.underlying xT = some (.int k))
    (hi : P.info? e = some i) (hz : i.zero = some z) (hb : i.bytes ≤ 100000) (hn : n ≤ 1000000) (hsz : sz = i.size) (hzs : z.cells.size = sz) :
    App P sz n (zeros z.cells (n * sz)).toList y w ((Builtin.append_ #[sT, xT] ty #[y, .int kx (n : Nat)]).run P w) := by
  refine ⟨fun h0 hy => ?_, fun a len cap w' hy hle hst => ?_, fun base len cap old hy hmax hle ho => ?_⟩
  · subst h0 hy; exact append_nil_make hu hx hi
  · subst hy; exact append_in_make hu hx hi hz hb hn hsz hzs hle hst
  · subst hy
    obtain ⟨nc, h1, h2⟩ := append_new_make (ty := ty) (kx := kx) hu hx hi hz hb hmax hsz hzs ho hle
    exact ⟨nc, Builtin.zeroCells z.cells (nc - (len + n)), e, h1, by simp [Builtin.zeroCells, hzs], h2⟩

/-- what an effect comes to in a world -/
def Eff (P : Program) (env : Env) (H : Heap) (nx : Nat) (op : Op) (v : AV) (H' : Heap) (nx' : Nat) : Prop :=
  ∀ (ι : Ix) (w : World) (N : Nat) (a : Act) (o : Oper), o.op = op → HR ι H w → Wf H nx → Fresh ι nx N → nx' ≤ N → ER ι env a.tmps →
    ∃ ι' w' x, ((execOp a.eval o).run P w = .ok (.value x) w' ∨ ((execOp a.eval o).run P w = .ok .skip w' ∧ x = undef)) ∧ VR ι' v x ∧ HR ι' H' w' ∧ Stp ι H nx w ι' H' nx' w'
/-- what a builtin comes to in a world -/
def BEff (P : Program) (H : Heap) (nx : Nat) (b : Builtin) (ts : Array TypeId) (l : List AV) (v : AV) (H' : Heap) (nx' : Nat) : Prop :=
  ∀ (ι : Ix) (w : World) (N : Nat) (xs : Array Value), HR ι H w → Wf H nx → Fresh ι nx N → nx' ≤ N → VRL ι l xs.toList →
    ∃ ι' w' x, (∀ ty cc, (builtin b ts ty cc xs).run P w = .ok (.value x) w') ∧ VR ι' v x ∧ HR ι' H' w' ∧ Stp ι H nx w ι' H' nx' w'

theorem run_storeAt {t : TypeId} {n : Nat} {a : Addr} {x : Value} {w' : World} (hn : (sizeOf t).run P w = .ok n w) (hx : x.cells.size = n) (hst : (storeCells a x.cells.toList).run P w = .ok () w') :
    (Instr.storeAt t (.pointer (some a)) x).run P w = .ok () w' := by
  simp [Instr.storeAt, Instr.sureAddr, storeVar, hn, hx, hst]
theorem lenOf_slice {x : Value} {p : Option Addr} {n c : Nat} (h : x = .slice p n c) (w : World) : (Builtin.lenOf x).run P w = .ok n w := by subst h; rfl
theorem lenA_nil {n : Nat} (h : lenA .nilslice = .ok n) : n = 0 := (ok_inj (show Res.ok 0 = Res.ok n from h)).symm
theorem two_args {l m : AV} {xs : Array Value} (h : VRL ι [l, m] xs.toList) : ∃ y u, xs = #[y, u] ∧ VR ι l y ∧ VR ι m u := by
  obtain ⟨y, ys, hy, hyv, hys⟩ := VRL.split h
  obtain ⟨u, us, hu', huv, hus⟩ := VRL.split hys
  cases hus
  exact ⟨y, u, Array.toList_inj.1 (by rw [hy, hu']), hyv, huv⟩
theorem one_arg {l : AV} {xs : Array Value} (h : VRL ι [l] xs.toList) : ∃ y, xs = #[y] ∧ VR ι l y := by
  obtain ⟨y, ys, hy, hyv, hys⟩ := VRL.split h
  cases hys
  exact ⟨y, Array.toList_inj.1 (by rw [hy]), hyv⟩
theorem ts_two {ts : Array TypeId} {a b : TypeId} (h : ts.toList = [a, b]) : ts = #[a, b] := Array.toList_inj.1 (by rw [h])
theorem ts_one {ts : Array TypeId} {a : TypeId} (h : ts.toList = [a]) : ts = #[a] := Array.toList_inj.1 (by rw [h])
theorem firstCells_len {s : AV} {sz n : Nat} {l : List AV} (h : firstCells H sz n s = .ok l) (hn : s = .nilslice → n = 0) : l.length = n * sz := by
  unfold firstCells at h
  split at h
  · cases ok_inj h; rw [hn rfl]; simp
  · rw [sel_eq] at h
    split at h
    · rename_i h0
      cases ok_inj h; rw [beq_iff.1 h0]; simp
    · obtain ⟨_, h⟩ := must_ok h
      obtain ⟨_, _, h⟩ := ofOpt_ok h
      obtain ⟨_, _, h⟩ := ofOpt_ok h
      obtain ⟨_, h⟩ := must_ok h
      obtain ⟨_, hm, h⟩ := ofOpt_ok h
      cases ok_inj h
      exact (cellsAt_ok _ _ _ hm).1
  · cases h

theorem eAppend_ex {β : Type} {nx : Nat} {ts : Array TypeId} {s x : AV} {k : AV → Heap → Nat → Res β} {r : β} (h : eAppend P H nx ts.toList s x k = .ok r) :
    ∃ v H' nx', k v H' nx' = .ok r ∧ nx ≤ nx' ∧ BEff P H nx .append ts [s, x] v H' nx' := by
  unfold eAppend at h
  split at h
  · rename_i st xt hts
    cases ts_two hts
    obtain ⟨e, he, h⟩ := and_ok h
    obtain ⟨sz, hsz, h⟩ := and_ok h
    obtain ⟨d, hd, h⟩ := ofOpt_ok h
    unfold eAppendTo at h
    obtain ⟨i, hi, h⟩ := ofOpt_ok h
    obtain ⟨hby, h⟩ := must_ok h
    obtain ⟨z, hz, h⟩ := ofOpt_ok h
    obtain ⟨hzs, h⟩ := must_ok h
    obtain ⟨hpos, h⟩ := must_ok h
    have hby : i.bytes ≤ 100000 := ble_iff.1 hby
    have hzs : z.cells.size = sz := beq_iff.1 hzs
    have hpos : 0 < sz := blt_iff.1 hpos
    have hu := elemT_under he
    have hszi : sz = i.size := by
      obtain ⟨i', hi', hsz⟩ := ofOpt_ok hsz
      rw [hi] at hi'; injection hi' with hi'; subst hi'; exact (ok_inj hsz).symm
    split at h
    · rename_i kd
      obtain ⟨n, hn, h⟩ := and_ok h
      obtain ⟨hmax, h⟩ := must_ok h
      have hmax : n ≤ 1000000 := ble_iff.1 hmax
      obtain ⟨zl, hzl, h⟩ := and_ok h
      have hzr : ∀ ι, VRL ι zl z.cells.toList := fun ι => by
        obtain ⟨i2, v2, hi2, hv2, hzr2⟩ := info_size (ι := ι) hzl
        rw [hi] at hi2; injection hi2 with hi2; subst hi2
        rw [hz] at hv2; injection hv2 with hv2; subst hv2
        exact hzr2
      have hzll : zl.length = sz := by rw [(hzr fun _ _ => none).length, ← hzs]; simp
      obtain ⟨v, H', nx', hk, hnx, hH⟩ := appendA_ex P hpos (by rw [rep_length, hzll]) h
      refine ⟨v, H', nx', hk, hnx, fun ι w N xs hr hw hf hN hl => ?_⟩
      obtain ⟨y, u, rfl, hyv, huv⟩ := two_args hl
      obtain ⟨kx, rfl⟩ := asNat_VR hn huv
      have hrow := zeros_VRL (hzr ι) n
      rw [hzs] at hrow
      obtain ⟨ι', w', y', g1, g2, g3, g4⟩ := hH ι w N y _ ((Builtin.append_ #[st, xt] 0 #[y, .int kx (n : Nat)]).run P w) hr hw hf hN hyv hrow (app_make hu hd hi hz hby hmax hszi hzs)
      refine ⟨ι', w', y', fun ty cc => ?_, g2, g3, g4⟩
      have g1' : (Builtin.append_ #[st, xt] ty #[y, .int kx (n : Nat)]).run P w = .ok y' w' := g1
      simp only [builtin, Sem.run_bind, g1', Result.andThen_ok, Sem.run_pure]
    · rename_i hnd
      obtain ⟨n, hn, h⟩ := and_ok h
      obtain ⟨new, hnew, h⟩ := and_ok h
      have hnil : x = AV.nilslice → n = 0 := fun hh => by subst hh; exact lenA_nil hn
      obtain ⟨v, H', nx', hk, hnx, hH⟩ := appendA_ex P hpos (firstCells_len hnew hnil) h
      refine ⟨v, H', nx', hk, hnx, fun ι w N xs hr hw hf hN hl => ?_⟩
      obtain ⟨y, u, rfl, hyv, huv⟩ := two_args hl
      obtain ⟨p, c, hux⟩ := lenA_VR hn huv
      obtain ⟨xs, x1, x2, _, _⟩ := firstCells_ok (P := P) hr hnew huv hnil
      obtain ⟨ι', w', y', g1, g2, g3, g4⟩ := hH ι w N y xs ((Builtin.append_ #[st, xt] 0 #[y, u]).run P w) hr hw hf hN hyv x1 (app_of hu hd hnd hi hz hby hszi hzs (lenOf_slice hux) (x2 w rfl) (x2 w.drew rfl))
      refine ⟨ι', w', y', fun ty cc => ?_, g2, g3, g4⟩
      have g1' : (Builtin.append_ #[st, xt] ty #[y, u]).run P w = .ok y' w' := g1
      simp only [builtin, Sem.run_bind, g1', Result.andThen_ok, Sem.run_pure]
  · cases h

theorem eClear_ex {β : Type} {nx : Nat} {ts : Array TypeId} {x : AV} {k : AV → Heap → Nat → Res β} {r : β} (h : eClear P H nx ts.toList x k = .ok r) :
    ∃ v H' nx', k v H' nx' = .ok r ∧ nx ≤ nx' ∧ BEff P H nx .clear ts [x] v H' nx' := by
  unfold eClear at h
  split at h
  · rename_i st hts
    cases ts_one hts
    obtain ⟨e, he, h⟩ := and_ok h
    obtain ⟨z, hz, h⟩ := and_ok h
    have hu := elemT_under he
    cases x with
    | nilslice =>
      refine ⟨_, _, _, h, Nat.le_refl _, fun ι w N xs hr hw hf hN hl => ?_⟩
      obtain ⟨y, rfl, hyv⟩ := one_arg hl
      cases hyv
      refine ⟨ι, w, undef, fun ty cc => ?_, .tuple .nil, hr, .refl⟩
      simp [builtin, Builtin.clear_, run_underlying hu, undef]
    | slice b v off n cap =>
      simp only [sel_eq] at h
      split at h
      · rename_i h0
        have h0 : n = 0 := beq_iff.1 h0
        refine ⟨_, _, _, h, Nat.le_refl _, fun ι w N xs hr hw hf hN hl => ?_⟩
        obtain ⟨y, rfl, hyv⟩ := one_arg hl
        subst h0
        refine ⟨ι, w, undef, fun ty cc => ?_, .tuple .nil, hr, .refl⟩
        cases hyv <;> simp [builtin, Builtin.clear_, run_underlying hu, undef]
      · rename_i h0
        have h0 : n ≠ 0 := fun hh => h0 (beq_iff.2 hh)
        obtain ⟨H', hk, hH⟩ := writeCells_ex P h
        refine ⟨_, _, _, hk, Nat.le_refl _, fun ι w N xs hr hw hf hN hl => ?_⟩
        obtain ⟨y, rfl, hyv⟩ := one_arg hl
        obtain ⟨i, zv, hi, hzv, hzr⟩ := info_size (ι := ι) hz
        have hrow := zeros_VRL hzr n
        have hzvr : ∀ w : World, (zeroValue e).run P w = .ok zv w := fun w => by simp [zeroValue, typeInfo, hi, hzv]
        have hzc : Builtin.zeroCells zv.cells n = zeros zv.cells (n * zv.cells.size) := rfl
        obtain ⟨m, rfl⟩ : ∃ m, n = m + 1 := ⟨n - 1, by omega⟩
        cases hyv with
        | known hp hle =>
          obtain ⟨w', g1, g2, g3⟩ := hH ι w _ _ nx hr hp hrow
          rw [← hzc] at g1
          exact ⟨ι, w', undef, fun ty cc => by simp [builtin, Builtin.clear_, run_underlying hu, undef, hzvr, g1], .tuple .nil, g2, g3⟩
        | opn hp hle hs =>
          obtain ⟨w', g1, g2, g3⟩ := hH ι w _ _ nx hr hp hrow
          rw [← hzc] at g1
          exact ⟨ι, w', undef, fun ty cc => by simp [builtin, Builtin.clear_, run_underlying hu, undef, hzvr, g1], .tuple .nil, g2, g3⟩
    | _ => cases h
  · cases h

theorem eCopy_ex {β : Type} {nx : Nat} {ts : Array TypeId} {d s : AV} {k : AV → Heap → Nat → Res β} {r : β} (h : eCopy P H nx ts.toList d s k = .ok r) :
    ∃ v H' nx', k v H' nx' = .ok r ∧ nx ≤ nx' ∧ BEff P H nx .copy ts [d, s] v H' nx' := by
  unfold eCopy at h
  split at h
  · rename_i dt x0 hts
    cases ts_two hts
    obtain ⟨e, he, h⟩ := and_ok h
    obtain ⟨sz, hsz, h⟩ := and_ok h
    obtain ⟨ns, hns, h⟩ := and_ok h
    obtain ⟨nd, hnd, h⟩ := and_ok h
    rw [forceNat_eq] at h
    obtain ⟨cells, hcells, h⟩ := and_ok h
    have hu := elemT_under he
    have hnil : s = AV.nilslice → Nat.min ns nd = 0 := fun hh => by subst hh; rw [lenA_nil hns]; exact Nat.zero_min _
    have hlen := firstCells_len hcells hnil
    cases d with
    | nilslice =>
      have h0 : nd = 0 := lenA_nil hnd
      rw [h0] at hcells hlen hnil h
      refine ⟨_, _, _, h, Nat.le_refl _, fun ι w N xs hr hw hf hN hl => ?_⟩
      obtain ⟨y, u, rfl, hyv, huv⟩ := two_args hl
      obtain ⟨p, c, hux⟩ := lenA_VR hns huv
      obtain ⟨xs, x1, x2, _, _⟩ := firstCells_ok (P := P) hr hcells huv hnil
      cases hyv
      have hlo : (Builtin.lenOf u).run P w = .ok ns w := lenOf_slice hux w
      have x3 := x2 w rfl
      refine ⟨ι, w, .int .i64 (0 : Nat), fun ty cc => ?_, .int _ _, hr, .refl⟩
      have hm : Nat.min ns 0 = 0 := Nat.min_zero _
      rw [hm] at x3
      simp [builtin, Builtin.copy_, run_underlying hu, hlo, sizeT_run hsz, x3, goInt]
    | slice b v off n cap =>
      have hdn : nd = n := (ok_inj (show Res.ok n = Res.ok nd from hnd)).symm
      rw [hdn] at hcells hlen hnil h
      simp only [sel_eq] at h
      split at h
      · rename_i h0
        have h0 : Nat.min ns n = 0 := beq_iff.1 h0
        refine ⟨_, _, _, h, Nat.le_refl _, fun ι w N xs hr hw hf hN hl => ?_⟩
        obtain ⟨y, u, rfl, hyv, huv⟩ := two_args hl
        obtain ⟨p, c, hux⟩ := lenA_VR hns huv
        obtain ⟨xs, x1, x2, _, _⟩ := firstCells_ok (P := P) hr hcells huv hnil
        have hlo : (Builtin.lenOf u).run P w = .ok ns w := lenOf_slice hux w
        have x3 := x2 w rfl
        have h0' : min ns n = 0 := h0
        have hxs : xs = [] := List.eq_nil_of_length_eq_zero (by rw [← x1.length, hlen, h0]; simp)
        subst hxs
        refine ⟨ι, w, .int .i64 (0 : Nat), fun ty cc => ?_, .int _ _, hr, .refl⟩
        have x3' : (Builtin.firstCells sz 0 u).run P w = .ok #[] w := by rw [h0] at x3; exact x3
        cases hyv <;> simp [builtin, Builtin.copy_, run_underlying hu, hlo, sizeT_run hsz, x3, x3', goInt, store_none] <;> omega
      · rename_i hne
        obtain ⟨H', hk, hH⟩ := writeCells_ex P h
        refine ⟨_, _, _, hk, Nat.le_refl _, fun ι w N xs hr hw hf hN hl => ?_⟩
        obtain ⟨y, u, rfl, hyv, huv⟩ := two_args hl
        obtain ⟨p, c, hux⟩ := lenA_VR hns huv
        obtain ⟨xs, x1, x2, _, _⟩ := firstCells_ok (P := P) hr hcells huv hnil
        have hlo : (Builtin.lenOf u).run P w = .ok ns w := lenOf_slice hux w
        have x3 := x2 w rfl
        cases hyv with
        | known hp hle =>
          obtain ⟨w', g1, g2, g3⟩ := hH ι w _ _ nx hr hp x1
          exact ⟨ι, w', .int .i64 (Nat.min ns n : Nat), fun ty cc => by simp [builtin, Builtin.copy_, run_underlying hu, hlo, sizeT_run hsz, x3, goInt, g1], .int _ _, g2, g3⟩
        | opn hp hle hs =>
          obtain ⟨w', g1, g2, g3⟩ := hH ι w _ _ nx hr hp x1
          exact ⟨ι, w', .int .i64 (Nat.min ns n : Nat), fun ty cc => by simp [builtin, Builtin.copy_, run_underlying hu, hlo, sizeT_run hsz, x3, goInt, g1], .int _ _, g2, g3⟩
        | loose => exact absurd (beq_iff.2 (Nat.min_zero _)) hne
    | _ => cases h
  · cases h

theorem eBuiltin_ex {β : Type} {nx : Nat} {b : Builtin} {ts : Array TypeId} {l : List AV} {k : AV → Heap → Nat → Res β} {r : β} (h : eBuiltin P H nx b ts.toList l k = .ok r) :
    ∃ v H' nx', k v H' nx' = .ok r ∧ nx ≤ nx' ∧ BEff P H nx b ts l v H' nx' := by
  unfold eBuiltin at h
  split at h
  · exact eAppend_ex h
  · exact eClear_ex h
  · exact eCopy_ex h
  · cases h

theorem evE_ex {β : Type} {env : Env} {nx : Nat} {op : Op} {k : AV → Heap → Nat → Res β} {r : β} (h : evE P env H nx op k = .ok r) :
    ∃ v H' nx', k v H' nx' = .ok r ∧ nx ≤ nx' ∧ Eff P env H nx op v H' nx' := by
  cases op with
  | store t ao xo =>
    obtain ⟨av, hav, h⟩ := and_ok h
    obtain ⟨xv, hxv, h⟩ := and_ok h
    unfold storeA at h
    split at h
    · obtain ⟨n, hn, h⟩ := and_ok h
      obtain ⟨hlen, h⟩ := must_ok h
      have hlen : xv.cells.length = n := beq_iff.1 hlen
      obtain ⟨H', hk, hH⟩ := writeCells_ex P h
      refine ⟨_, _, _, hk, Nat.le_refl _, fun ι w N a o ho hr hw hf hN he => ?_⟩
      obtain ⟨dst, op, type, pos, after, guard⟩ := o
      simp only at ho
      subst ho
      have ha := arg_VR he hav
      have hx := arg_VR he hxv
      cases hax : a.eval ao <;> rw [hax] at ha <;> cases ha
      rename_i p hp
      obtain ⟨w', g1, g2, g3⟩ := hH ι w p (a.eval xo).cells.toList nx hr hp hx.cells
      refine ⟨ι, w', undef, .inr ⟨?_, rfl⟩, .tuple .nil, g2, g3⟩
      have := run_storeAt (P := P) (w := w) (t := t) (x := a.eval xo) (sizeT_run hn) (by rw [← hlen, hx.cells.length]; simp) g1
      simp only [execOp, hax, Sem.run_bind, this, Result.andThen_ok, Sem.run_pure]
    · cases h
  | call c =>
    obtain ⟨callee, cargs, cts⟩ := c
    cases callee with
    | value f => cases h
    | invoke => cases h
    | builtin b =>
      obtain ⟨l, hl, h⟩ := and_ok h
      obtain ⟨v, H', nx', hk, hnx, hH⟩ := eBuiltin_ex h
      refine ⟨v, H', nx', hk, hnx, fun ι w N a o ho hr hw hf hN he => ?_⟩
      obtain ⟨ι', w', x, g1, g2, g3, g4⟩ := hH ι w N (cargs.map a.eval) hr hw hf hN (by rw [Array.toList_map]; exact args_VR he hl)
      refine ⟨ι', w', x, .inl ?_, g2, g3, g4⟩
      obtain ⟨dst, op, type, pos, after, guard⟩ := o
      simp only at ho
      subst ho
      simp only [execOp, resolve, Sem.run_bind, Sem.run_pure, Result.andThen_ok, invoke]
      exact g1 _ _
  | _ => cases h
end
end Go.Ew

/- LOOPS OVER FUNCTIONS: their records in memory; the marks that they leave among an activation's deferred calls. -/
namespace Go.Ew
open Go.RowKit

/-- a fence that lets everything in -/
structure Wide (F : Fence) : Prop where
  fn : ∀ f, F.fn f
  depth : F.depth = none
theorem wide_wide : Wide Fence.wide := ⟨fun _ => trivial, rfl⟩
theorem Wide.inRound {F : Fence} (h : Wide F) (l : Nat) : Wide (F.inRound l) := ⟨h.fn, h.depth⟩
theorem Wide.plain {F : Fence} (h : Wide F) : Wide F.plain := ⟨h.fn, h.depth⟩
theorem Wide.room {F : Fence} (h : Wide F) : F.depth.isSome = true → 1 ≤ 0 := fun hh => by rw [h.depth] at hh; cases hh

def mark (D : Nat) : Deferred := { target := .collected D, args := #[] }
/-- an activation's deferred calls: marks alone, of blocks from m on that nothing turns -/
def Marks (m : Nat) (ι : Ix) (w : World) (ds : List Deferred) : Prop :=
  ∃ Ds : List Nat, ds = Ds.map mark ∧ Ds.Nodup ∧ ∀ D ∈ Ds, m ≤ D ∧ w.heap[D]? = some (.deferred (some [])) ∧ ∀ b v p, ι b v = some p → p.blk ≠ D
theorem Marks.nil {m : Nat} {ι : Ix} {w : World} : Marks m ι w [] := ⟨[], rfl, List.nodup_nil, by simp⟩
theorem lt_of_get {w : World} {c : Nat} {o : Obj} (h : w.heap[c]? = some o) : c < w.heap.size := (Array.getElem?_eq_some_iff.1 h).1

section
variable {P : Program} {w : World} {ι : Ix} {H H' : Heap}

theorem Marks.step {m : Nat} {ds : List Deferred} {ι' : Ix} {nx nx' : Nat} {w' : World} (h : Marks m ι w ds) (s : Stp ι H nx w ι' H' nx' w') : Marks m ι' w' ds := by
  obtain ⟨Ds, rfl, hn, hd⟩ := h
  refine ⟨Ds, rfl, hn, fun D hD => ?_⟩
  obtain ⟨h1, h2, h3⟩ := hd D hD
  have hlt := lt_of_get h2
  refine ⟨h1, by rw [s.frame D hlt fun b v p hp hpc => absurd hpc (h3 b v p hp)]; exact h2, fun b v p hp hpc => ?_⟩
  rcases s.new b v p hp with g | ⟨_, g⟩ | ⟨_, v0, p0, g1, g2⟩
  · exact h3 b v p g hpc
  · omega
  · rcases g2 with g2 | g2
    · exact h3 b v0 p0 g1 (by rw [g2]; exact hpc)
    · omega

/-- an unplaced block of the world, from the start's size on, turned -/
theorem Stp.turn {nx nx' : Nat} {ι' : Ix} {w1 w2 : World} (s : Stp ι H nx w ι' H' nx' w1) (hs : w2.heap.size = w1.heap.size) (hh : ∀ c, c < w.heap.size → w2.heap[c]? = w1.heap[c]?) (ho : w2.os = w1.os) (hu : w2.output = w1.output) (ht : w2.tape = w1.tape) :
    Stp ι H nx w ι' H' nx' w2 :=
  ⟨s.le, s.new, s.dom, s.nxle, s.same, fun c hc hf => (hh c hc).trans (s.frame c hc hf), by rw [hs]; exact s.size, ho.trans s.os, hu.trans s.output, ht.trans s.tape⟩

/-- leaving with marks -/
theorem leaves_marks {F : Fence} {fn : Func} {tmps : Array Value} {R : Ending → World → Prop} : ∀ (Ds : List Nat) {w1 : World}, Ds.Nodup → (∀ D ∈ Ds, w1.heap[D]? = some (.deferred (some []))) →
    (∀ w2 : World, w2.heap.size = w1.heap.size → (∀ c, c ∉ Ds → w2.heap[c]? = w1.heap[c]?) → w2.os = w1.os → w2.output = w1.output → w2.tape = w1.tape → ∃ v, (results fn tmps).run P w2 = .ok v w2 ∧ R (.returned v) w2) →
    LeavesInM F 0 P fn tmps R (Ds.map mark) .returning w1
  | [], w1, _, _, h => by
    show LeavesIn F 0 P fn tmps R [] .returning w1
    exact h w1 rfl (fun _ _ => rfl) rfl rfl rfl
  | D :: Ds, w1, hn, hd, h => by
    have hD := hd D (List.mem_cons_self ..)
    have hlt := lt_of_get hD
    rw [List.nodup_cons] at hn
    refine ⟨by simp, .inl ⟨D, _, rfl, run_takeDeferred hD, leaves_marks Ds hn.2 (fun E hE => ?_) fun w2 h1 h2 h3 h4 h5 => h w2 ?_ (fun c hc => ?_) h3 h4 h5⟩⟩
    · rw [World.putObj_heap_other (by rintro rfl; exact hn.1 hE)]; exact hd E (List.mem_cons_of_mem _ hE)
    · rw [h1, World.putObj_size]
    · rw [List.mem_cons, not_or] at hc
      rw [h2 c hc.2, World.putObj_heap_other hc.1]

theorem getLoop_ok {β : Type} {b : Nat} {k : LRec → Res β} {r : β} (h : getLoop H b k = .ok r) : ∃ blk l, H.get b = some blk ∧ blk.loop = some l ∧ k l = .ok r := by
  unfold getLoop at h
  obtain ⟨blk, hb, h⟩ := ofOpt_ok h
  obtain ⟨l, hl, h⟩ := ofOpt_ok h
  exact ⟨blk, l, hb, hl, h⟩
theorem setLoop_ok {β : Type} {b st : Nat} {x : X} {k : Heap → Res β} {r : β} (h : setLoop H b st x k = .ok r) :
    ∃ blk l H', H.get b = some blk ∧ blk.loop = some l ∧ k H' = .ok r ∧ ∀ j, H'.get j = if j = b then some { blk with loop := some { l with st := st, jump := x } } else H.get j := by
  unfold setLoop at h
  obtain ⟨blk, hb, h⟩ := ofOpt_ok h
  obtain ⟨l, hl, h⟩ := ofOpt_ok h
  obtain ⟨H', h, hH⟩ := setK_ok _ _ _ _ h
  exact ⟨blk, l, H', hb, hl, h, hH⟩

/-- a loop's record turned -/
theorem loop_turn (hr : HR ι H w) {nx b st : Nat} {x : X} {blk : Blk} {l : LRec} {p : Pl} {r' r2 : Loop} (hb : H.get b = some blk) (hp : ι b 0 = some p) (hw : w.heap[p.blk]? = some (.loop r'))
    (hH : ∀ j, H'.get j = if j = b then some { blk with loop := some { l with st := st, jump := x } } else H.get j) (h2 : LR ι { l with st := st, jump := x } r2) :
    HR ι H' (w.putObj p.blk (.loop r2)) ∧ Stp ι H nx w ι H' nx (w.putObj p.blk (.loop r2)) := by
  have hlt := lt_of_get hw
  refine ⟨⟨fun b1 bk v e q h1 h2 h3 => ?_, fun b1 bk v q h1 h3 => ?_, fun b1 bk v h1 h2 => ?_, fun b1 bk h1 => ?_, hr.inj, fun b1 v q h => by rw [World.putObj_size]; exact hr.bound _ _ _ h, fun b1 bk l1 q h1 h2 h3 => ?_⟩,
    ⟨fun _ _ _ h => h, fun _ _ _ h => .inl h, fun c h => ?_, Nat.le_refl _, fun c bk hc hn => ?_, fun c hc hh => ?_, by rw [World.putObj_size]; exact Nat.le_refl _, rfl, rfl, rfl⟩⟩
  · have key : ∃ bk0, H.get b1 = some bk0 ∧ bk.cells = bk0.cells ∧ bk0.ext v = some e := by
      rw [hH] at h1
      split at h1
      · rename_i hb1; subst hb1; injection h1 with h1; subst h1; exact ⟨_, hb, rfl, h2⟩
      · exact ⟨_, h1, rfl, h2⟩
    obtain ⟨bk0, k1, k2, k3⟩ := key
    obtain ⟨cs, el, g1, g2, g3, g4⟩ := hr.cells _ _ _ _ _ k1 k3 h3
    refine ⟨cs, el, ?_, g2, g3, by rw [k2]; exact g4⟩
    rw [World.putObj_heap_other]
    · exact g1
    · intro hh; rw [hh, hw] at g1; cases g1
  · rw [hH] at h1
    split at h1
    · rename_i hb1; subst hb1; injection h1 with h1; subst h1; have := hr.esz _ _ _ _ hb h3; exact this
    · exact hr.esz _ _ _ _ h1 h3
  · rw [hH] at h1
    split at h1
    · rename_i hb1; subst hb1; injection h1 with h1; subst h1; have := hr.future _ _ v hb h2; exact this
    · exact hr.future _ _ _ h1 h2
  · rw [hH] at h1
    split at h1
    · rename_i hb1; subst hb1; injection h1 with h1; subst h1; have := hr.desc _ _ hb; exact this
    · exact hr.desc _ _ h1
  · rw [hH] at h1
    split at h1
    · rename_i hb1; subst hb1; injection h1 with h1; subst h1
      injection h2 with h2; subst h2
      rw [hp] at h3; injection h3 with h3; subst h3
      exact ⟨r2, World.putObj_heap_same hlt, by assumption⟩
    · rename_i hb1
      obtain ⟨r3, g1, g2⟩ := hr.loop _ _ _ _ h1 h2 h3
      have hq : q.blk ≠ p.blk := fun hh => hb1 (hr.inj _ _ _ _ _ _ h3 hp hh)
      exact ⟨r3, by rw [World.putObj_heap_other hq]; exact g1, g2⟩
  · rw [hH] at h
    split at h
    · rename_i he; subst he; exact .inl (by simp [hb])
    · exact .inl h
  · rw [hH, if_neg]
    · exact hc
    · rintro rfl; rw [hn 0] at hp; cases hp
  · refine World.putObj_heap_other ?_
    rintro rfl
    have := hh b 0 p hp rfl
    rw [hb] at this; cases this

/-- a loop's record laid: two blocks of the world more -/
theorem newLoop_ok {β : Type} {nx : Nat} {l : LRec} {k : Heap → Nat → Res β} {r : β} (h : newLoop H nx l k = .ok r) :
    ∃ H', k H' (nx + 1) = .ok r ∧ ∀ j, H'.get j = if j = nx then some { cells := .lf, size := 0, ver := 1, exts := [], esz := 0, loop := some l } else H.get j := by
  unfold newLoop at h
  obtain ⟨H', h, hH⟩ := setK_ok _ _ _ _ h
  rw [forceNat_eq] at h
  exact ⟨H', h, hH⟩

theorem loop_new (hr : HR ι H w) {nx N : Nat} (hw : Wf H nx) (hf : Fresh ι nx N) (hN : nx + 1 ≤ N) {l : LRec} {r' : Loop} (hl : LR ι l r')
    (hH : ∀ j, H'.get j = if j = nx then some { cells := .lf, size := 0, ver := 1, exts := [], esz := 0, loop := some l } else H.get j) :
    HR (ι.set nx 0 ⟨w.heap.size + 1, 0, 0⟩) H' ((w.alloc (.deferred (some []))).alloc (.loop r')) ∧ Stp ι H nx w (ι.set nx 0 ⟨w.heap.size + 1, 0, 0⟩) H' (nx + 1) ((w.alloc (.deferred (some []))).alloc (.loop r')) := by
  have hn : ∀ v, ι nx v = none := fun v => hf nx v (Nat.le_refl _) (by omega)
  have hle := Ix.set_le (p := ⟨w.heap.size + 1, 0, 0⟩) (hn 0)
  have hsz : ((w.alloc (.deferred (some []))).alloc (.loop r')).heap.size = w.heap.size + 2 := by simp [World.size_alloc]
  have hold : ∀ c, c < w.heap.size → ((w.alloc (.deferred (some []))).alloc (.loop r')).heap[c]? = w.heap[c]? := by
    intro c hc
    rw [Below.heap_alloc _ _ _ (by simp [World.size_alloc]; omega), Below.heap_alloc _ _ _ hc]
  have hnew : ((w.alloc (.deferred (some []))).alloc (.loop r')).heap[w.heap.size + 1]? = some (.loop r') := by
    have := World.alloc_heap_new (w.alloc (.deferred (some []))) (.loop r')
    rwa [World.size_alloc] at this
  refine ⟨⟨fun b blk v e p h1 h2 h3 => ?_, fun b blk v p h1 h3 => ?_, fun b blk v h1 h2 => ?_, fun b blk h1 => ?_, fun b v p b' v' p' h1 h2 h3 => ?_, fun b v p h => ?_, fun b blk r p h1 h2 h3 => ?_⟩,
    ⟨hle, fun b v p h => ?_, fun b h => ?_, by omega, fun b bk hb _ => ?_, fun c hc _ => hold c hc, by omega, rfl, rfl, rfl⟩⟩
  · rcases Ix.set_cases h3 with ⟨e1, e2, e3⟩ | h3
    · subst e1 e2
      rw [hH, if_pos rfl] at h1
      injection h1 with h1; subst h1
      cases h2
    · rw [hH] at h1
      split at h1
      · rename_i hb; rw [hb, hn] at h3; cases h3
      · obtain ⟨cs, el, g1, g2, g3, g4⟩ := hr.cells _ _ _ _ _ h1 h2 h3
        refine ⟨cs, el, by rw [hold _ (hr.bound _ _ _ h3)]; exact g1, g2, g3, fun i hi => ?_⟩
        obtain ⟨a, x, k1, k2, k3, k4⟩ := g4 i hi
        exact ⟨a, x, k1, k2, k3.mono hle, k4⟩
  · rcases Ix.set_cases h3 with ⟨e1, e2, e3⟩ | h3
    · subst e1 e2 e3
      rw [hH, if_pos rfl] at h1
      injection h1 with h1; subst h1; rfl
    · rw [hH] at h1
      split at h1
      · rename_i hb; rw [hb, hn] at h3; cases h3
      · exact hr.esz _ _ _ _ h1 h3
  · unfold Ix.set
    rw [hH] at h1
    split at h1
    · rename_i hb; injection h1 with h1; subst h1
      simp only at h2
      rw [if_neg (by omega), hb]; exact hn v
    · rename_i hb
      rw [if_neg (fun hh => hb hh.1)]; exact hr.future _ _ _ h1 h2
  · rw [hH] at h1
    split at h1
    · injection h1 with h1; subst h1; trivial
    · exact hr.desc _ _ h1
  · rcases Ix.set_cases h1 with ⟨e1, e2, e3⟩ | g1 <;> rcases Ix.set_cases h2 with ⟨e4, e5, e6⟩ | g2
    · rw [e1, e4]
    · have := hr.bound _ _ _ g2; rw [e3] at h3; simp only at h3; omega
    · have := hr.bound _ _ _ g1; rw [e6] at h3; simp only at h3; omega
    · exact hr.inj _ _ _ _ _ _ g1 g2 h3
  · rw [hsz]
    rcases Ix.set_cases h with ⟨_, _, e3⟩ | h
    · rw [e3]; simp only; omega
    · have := hr.bound _ _ _ h; omega
  · rcases Ix.set_cases h3 with ⟨e1, e2, e3⟩ | h3
    · subst e1 e3
      rw [hH, if_pos rfl] at h1
      injection h1 with h1; subst h1
      injection h2 with h2; subst h2
      exact ⟨r', hnew, hl.mono hle⟩
    · rw [hH] at h1
      split at h1
      · rename_i hb; rw [hb, hn] at h3; cases h3
      · obtain ⟨r3, g1, g2⟩ := hr.loop _ _ _ _ h1 h2 h3
        exact ⟨r3, by rw [hold _ (hr.bound _ _ _ h3)]; exact g1, g2.mono hle⟩
  · rcases Ix.set_cases h with ⟨e1, e2, e3⟩ | h
    · subst e1 e3; exact .inr (.inl ⟨⟨Nat.le_refl _, by omega⟩, by simp only; omega⟩)
    · exact .inl h
  · rw [hH] at h
    split at h
    · rename_i hb; exact .inr ⟨by omega, by omega⟩
    · exact .inl h
  · rw [hH, if_neg]
    · exact hb
    · rintro rfl
      rw [hw _ (Nat.le_refl _)] at hb; cases hb

/-- yield's arguments in a round's slots -/
theorem putPs_ok {β : Type} {sz : Nat} : ∀ {ps : List Tmp} {l : List AV} {env : Env} {k : Env → Res β} {r : β}, putPs sz env ps l k = .ok r →
    ∃ env', k env' = .ok r ∧ ps.length = l.length ∧ ∀ (ι : Ix) (tmps : Array Value) (xs : List Value), ER ι env tmps → tmps.size = sz → VRL ι l xs →
      ER ι env' ((ps.zip xs).foldl (fun tmps (t, a) => tmps.setIfInBounds t a) tmps) ∧ ((ps.zip xs).foldl (fun tmps (t, a) => tmps.setIfInBounds t a) tmps).size = sz
  | [], [], env, k, r, h => ⟨env, h, rfl, fun ι tmps xs he hs _ => ⟨he, hs⟩⟩
  | [], _ :: _, env, k, r, h => by cases h
  | _ :: _, [], env, k, r, h => by cases h
  | t :: ps, v :: l, env, k, r, h => by
    unfold putPs at h
    rw [sel_eq] at h
    split at h
    · rename_i ht
      have ht := blt_iff.1 ht
      obtain ⟨env1, h, hg⟩ := setK_ok _ _ _ _ h
      obtain ⟨env', k1, k2, k3⟩ := putPs_ok h
      refine ⟨env', k1, by simp [k2], fun ι tmps xs he hs hl => ?_⟩
      cases hl with
      | cons hv hl =>
        rename_i x xs
        have e1 : ER ι env1 (tmps.setIfInBounds t x) := by
          intro j u hu
          rw [hg] at hu
          split at hu
          · rename_i hj; subst hj; injection hu with hu; subst hu
            exact ⟨x, by rw [Array.getElem?_setIfInBounds, if_pos rfl, if_pos (by rw [hs]; exact ht)], hv⟩
          · rename_i hj
            obtain ⟨y, hy, hvy⟩ := he j u hu
            exact ⟨y, by rw [Array.getElem?_setIfInBounds_ne (Ne.symm hj)]; exact hy, hvy⟩
        have := k3 ι _ xs e1 (by simp [hs]) hl
        simpa using this
    · cases h
end
end Go.Ew

/- CALLS, and regions in the order of their text. -/
namespace Go.Ew

def X.toExit : X → Exit
  | .normal => .normal
  | .exit id => .exit id
  | .ret => .ret

/-- what is known behind code -/
def Post (m : Nat) (ι : Ix) (H : Heap) (nx : Nat) (w : World) (sz : Nat) (fin : Fin) (Q : Exit → Act → World → Prop) : Prop :=
  ∀ ι' a' w', HR ι' fin.H w' → Stp ι H nx w ι' fin.H fin.nx w' → ER ι' fin.env a'.tmps → a'.tmps.size = sz → Marks m ι' w' a'.defers → Q fin.x.toExit a' w'
/-- AN EVALUATOR OF CODE IS SOUND. -/
def Sound (P : Program) (ev : CodeFn) : Prop := ∀ sz c env H nx fin, ev sz c env H nx = .ok fin → nx ≤ fin.nx ∧
  ∀ F, Wide F → (F.round = none ∨ noRange c = true) → ∀ m ι w N a Q, HR ι H w → Wf H nx → Fresh ι nx N → fin.nx ≤ N → ER ι env a.tmps → a.tmps.size = sz → m ≤ w.heap.size → Marks m ι w a.defers → Post m ι H nx w sz fin Q → c.wpIn F 0 P Q a w
/-- what is known of a call -/
def CallOk (P : Program) (f : FuncId) (l : List AV) (H : Heap) (nx : Nat) (v : AV) (H' : Heap) (nx' : Nat) : Prop :=
  nx ≤ nx' ∧ ∃ fn c, P.funcs[f]? = some fn ∧ fn.body = some c ∧ (fn.name != "runtime.NumGoroutine") = true ∧
    ∀ F, Wide F → ∀ ι w N (xs : Array Value), HR ι H w → Wf H nx → Fresh ι nx N → nx' ≤ N → VRL ι l xs.toList →
      CallsIn F 0 P f xs w fun e w' => ∃ ι' x, e = .returned x ∧ VR ι' v x ∧ HR ι' H' w' ∧ Stp ι H nx w ι' H' nx' w'
def OraSound (P : Program) (O : Ora) : Prop := ∀ f l H nx v H' nx', O f l H nx = some (v, H', nx') → CallOk P f l H nx v H' nx'
structure SoundE (P : Program) (ev : Evr) : Prop where
  code : Sound P ev.code
  ora : OraSound P ev.ora

section
variable {P : Program} {w : World} {ι : Ix} {H H' : Heap}

theorem Fresh.le {nx N M : Nat} (h : Fresh ι nx N) (hM : M ≤ N) : Fresh ι nx M := fun b v h1 h2 => h b v h1 (by omega)

theorem wpIn_intro {F : Fence} (hF : Wide F) {o : Oper} {a : Act} {K : Act → World → Prop} {Q : Exit → Act → World → Prop} (hd : ∀ c, o.op ≠ .defer c) (h : o.uponIn F 0 P a K Q ((execOp a.eval o).run P w)) : o.wpIn F 0 P a w K Q :=
  ⟨fun f _ => hF.fn f, by rw [Oper.semAt_eq _ _ _ hd]; exact h⟩
theorem evQ_nd {env : Env} {op : Op} {v : AV} (h : evQ P env H op = .ok v) : ∀ c, op ≠ .defer c := by rintro c rfl; cases h
theorem evAl_nd {env : Env} {op : Op} {v : List AV × Option (Nat × Nat)} (h : evAl P env op = .ok v) : ∀ c, op ≠ .defer c := by rintro c rfl; cases h
theorem evE_nd {env : Env} {op : Op} {nx : Nat} {β : Type} {k : AV → Heap → Nat → Res β} {r : β} (h : evE P env H nx op k = .ok r) : ∀ c, op ≠ .defer c := by rintro c rfl; cases h
theorem evCall_nd {env : Env} {op : Op} {q : Callee × List AV} (h : evCall env op = .ok q) : ∀ c, op ≠ .defer c := by rintro c rfl; cases h

theorem evCall_run {env : Env} {a : Act} (he : ER ι env a.tmps) {o : Oper} {g : FuncId} {l : List AV} {fn : Func} {c : Code} (h : evCall env o.op = .ok (.fn g, l)) (hf : P.funcs[g]? = some fn) (hb : fn.body = some c) (hn : (fn.name != "runtime.NumGoroutine") = true) :
    ∃ xs : Array Value, (execOp a.eval o).run P w = .ok (.enter g xs) w ∧ VRL ι l xs.toList := by
  obtain ⟨dst, op, type, pos, after, guard⟩ := o
  simp only at h
  cases op with
  | call cl =>
    obtain ⟨callee, cargs, cts⟩ := cl
    cases callee with
    | value f =>
      obtain ⟨fv, hfv, h⟩ := and_ok h
      unfold calleeA at h
      split at h
      · obtain ⟨m, hm, h⟩ := and_ok h
        have := ok_inj h
        injection this with h1 h2
        injection h1 with h1
        subst h1 h2
        have hfr := arg_VR he hfv
        cases hfe : a.eval f <;> rw [hfe] at hfr <;> cases hfr
        rename_i f1 c1 hfst hc
        have hne : (fn.name == "runtime.NumGoroutine") = false := by simpa using hn
        refine ⟨f1 ++ cargs.map a.eval ++ c1, ?_, ?_⟩
        · simp only [execOp, resolve, hfe, Deferred.ofValue, Sem.run_bind, Sem.run_pure, Result.andThen_ok, invoke, callFunc, run_program, hf, hne, hb, Option.isNone_some, Bool.false_eq_true, if_false]
        · simp only [Array.toList_append, Array.toList_map]
          exact (hfst.append (args_VR he hm)).append hc
      · obtain ⟨m, hm, h⟩ := and_ok h
        have := ok_inj h
        injection this with h1 h2
        cases h1
      · cases h
    | invoke => cases h
    | builtin => cases h
  | _ => cases h
/-- a call of yield, as the model runs it -/
theorem evCall_yield {env : Env} {a : Act} (he : ER ι env a.tmps) {o : Oper} {b : Nat} {l : List AV} (h : evCall env o.op = .ok (.yield b, l)) :
    ∃ (p : Pl) (xs : Array Value), ι b 0 = some p ∧ VRL ι l xs.toList ∧ (execOp a.eval o).run P w = (Instr.yield p.blk xs).run P w := by
  obtain ⟨dst, op, type, pos, after, guard⟩ := o
  simp only at h
  cases op with
  | call cl =>
    obtain ⟨callee, cargs, cts⟩ := cl
    cases callee with
    | value f =>
      obtain ⟨fv, hfv, h⟩ := and_ok h
      unfold calleeA at h
      split at h
      · obtain ⟨m, hm, h⟩ := and_ok h
        have := ok_inj h
        injection this with h1 h2
        cases h1
      · obtain ⟨m, hm, h⟩ := and_ok h
        have := ok_inj h
        injection this with h1 h2
        injection h1 with h1
        subst h1 h2
        have hfr := arg_VR he hfv
        cases hfe : a.eval f <;> rw [hfe] at hfr <;> cases hfr
        rename_i p hp
        refine ⟨p, cargs.map a.eval, hp, ?_, ?_⟩
        · rw [Array.toList_map]; exact args_VR he hm
        · simp [execOp, resolve, hfe, Deferred.ofValue, invoke]
      · cases h
    | invoke => cases h
    | builtin => cases h
  | _ => cases h

theorem resultsA_ok (hr : HR ι H w) {env : Env} {tmps : Array Value} (he : ER ι env tmps) : ∀ {rs : List ResultVar} {l : List AV}, resultsA P env H rs = .ok l →
    ∃ vs : List Value, (rs.mapM (m := Sem) fun | .tmp t => pure (tmps.getD t undef) | .cell a t => do loadVar t (← asAddr (tmps.getD a undef))).run P w = .ok vs w ∧ VRL ι l vs
  | [], l, h => by cases ok_inj (show Res.ok [] = Res.ok l from h); exact ⟨[], by simp, .nil⟩
  | .tmp t :: rs, l, h => by
    obtain ⟨v, hv, h⟩ := ofOpt_ok h
    obtain ⟨m, hm, h⟩ := and_ok h
    cases ok_inj h
    obtain ⟨vs, h1, h2⟩ := resultsA_ok hr he hm
    obtain ⟨x, hx, hvx⟩ := he _ _ hv
    refine ⟨x :: vs, ?_, .cons hvx h2⟩
    simp only [List.mapM_cons, Sem.run_bind, Sem.run_pure, Result.andThen_ok, h1]
    rw [show tmps.getD t undef = x by simp [hx]]
  | .cell a t :: rs, l, h => by
    obtain ⟨p, hp, h⟩ := ofOpt_ok h
    obtain ⟨v, hv, h⟩ := and_ok h
    obtain ⟨m, hm, h⟩ := and_ok h
    cases ok_inj h
    obtain ⟨vs, h1, h2⟩ := resultsA_ok hr he hm
    obtain ⟨x, hx, hpx⟩ := he _ _ hp
    obtain ⟨pa, y, hxa, h3, h4⟩ := loadA_ok (P := P) hr hv hpx
    refine ⟨y :: vs, ?_, .cons h4 h2⟩
    have : tmps.getD a undef = .pointer (some pa) := by rw [← hxa]; simp [hx]
    have hpa : (asAddr (tmps.getD a undef)).run P w = .ok pa w := by rw [this]; rfl
    simp only [List.mapM_cons, Sem.run_bind, Sem.run_pure, Result.andThen_ok, h1, hpa, h3]
theorem results_run (hr : HR ι H w) {env : Env} {tmps : Array Value} (he : ER ι env tmps) {fn : Func} {l : List AV} (h : resultsA P env H fn.results.toList = .ok l) :
    ∃ x, (results fn tmps).run P w = .ok x w ∧ VR ι (ofList l) x := by
  obtain ⟨vs, h1, h2⟩ := resultsA_ok (P := P) hr he h
  have hm : (fn.results.mapM (m := Sem) fun | .tmp t => pure (tmps.getD t undef) | .cell a t => do loadVar t (← asAddr (tmps.getD a undef))).run P w = .ok vs.toArray w := by
    rw [Array.mapM_eq_mapM_toList]
    simp only [Sem.run_map, h1, Result.andThen_ok]
  have hres : (results fn tmps).run P w = ((fn.results.mapM (m := Sem) fun | .tmp t => pure (tmps.getD t undef) | .cell a t => do loadVar t (← asAddr (tmps.getD a undef))).run P w).andThen fun vs w' => .ok (if h : vs.size = 1 then vs[0] else .tuple vs) w' := by
    unfold results
    simp only [Sem.run_bind, Sem.run_pure]
    rfl
  rw [hres, hm]
  simp only [Result.andThen_ok]
  cases h2 with
  | nil => exact ⟨_, rfl, .tuple .nil⟩
  | cons ha ht =>
    cases ht with
    | nil => exact ⟨_, rfl, ha⟩
    | cons hb ht => exact ⟨_, rfl, .tuple (.cons ha (.cons hb ht))⟩

theorem natMax_eq (a b : Nat) : natMax a b = max a b := by
  unfold natMax
  rw [sel_eq]
  simp only [ble_iff]
  split <;> omega

/-- A CALL. -/
theorem callK_ex {ev : CodeFn} (hs : Sound P ev) {β : Type} {f : FuncId} {l : List AV} {nx : Nat} {k : AV → Heap → Nat → Res β} {r : β} (h : callK P ev f l H nx k = .ok r) :
    ∃ v H' nx', k v H' nx' = .ok r ∧ CallOk P f l H nx v H' nx' := by
  unfold callK at h
  obtain ⟨fn, hf, h⟩ := ofOpt_ok h
  obtain ⟨c, hb, h⟩ := ofOpt_ok h
  obtain ⟨hn, h⟩ := must_ok h
  obtain ⟨env, h, henv⟩ := setCells_ok _ _ _ _ h
  obtain ⟨fin, hfin, h⟩ := and_ok h
  unfold endK at h
  obtain ⟨hx, h⟩ := must_ok h
  obtain ⟨m, hm, h⟩ := and_ok h
  obtain ⟨hnx, hsound⟩ := hs _ _ _ _ _ _ hfin
  refine ⟨_, _, _, h, hnx, fn, c, hf, hb, hn, fun F hF ι w N xs hr hw hfr hN hl => ?_⟩
  have hlen : l.length = xs.size := by rw [hl.length]; simp
  refine (callsIn_of_wp_marks (F := F.plain) hf hb (hF.fn f) (hsound F.plain hF.plain (.inl rfl) w.heap.size ι w N _ _ hr hw hfr hN ?_ ?_ (Nat.le_refl _) .nil ?_) rfl :)
  · intro t v ht
    rw [henv] at ht
    split at ht
    · rename_i hh
      obtain ⟨x, hx, hv⟩ := hl.get t ht
      have hx : xs[t]? = some x := by simpa using hx
      refine ⟨x, ?_, hv⟩
      rw [Array.getElem?_append, if_pos (Array.getElem?_eq_some_iff.1 hx).1]; exact hx
    · cases ht
  · simp only [Array.size_append, Array.size_replicate]
    rw [natMax_eq, hlen]; omega
  · intro ι' a' w' h1 h2 h3 h4 h5
    obtain ⟨Ds, hds, hnd, hD⟩ := h5
    have key : LeavesInM F.plain 0 P fn a'.tmps (fun e w' => ∃ ι' x, e = .returned x ∧ VR ι' (ofList m) x ∧ HR ι' fin.H w' ∧ Stp ι H nx w ι' fin.H fin.nx w') a'.defers .returning w' := by
      rw [hds]
      refine leaves_marks Ds hnd (fun D hh => (hD D hh).2.1) fun w2 q1 q2 q3 q4 q5 => ?_
      have hr2 : HR ι' fin.H w2 := h1.world (by omega) fun b v p hp => q2 _ fun hh => (hD _ hh).2.2 b v p hp rfl
      obtain ⟨x, hx', hvx⟩ := results_run (P := P) hr2 h3 hm
      exact ⟨x, hx', ι', x, rfl, hvx, hr2, h2.turn q1 (fun c hc => q2 c fun hh => by have := (hD c hh).1; omega) q3 q4 q5⟩
    cases hfx : fin.x with
    | exit id => rw [hfx] at hx; cases hx
    | normal => exact key
    | ret => exact key
theorem callO_ex {ev : Evr} (hs : SoundE P ev) {β : Type} {f : FuncId} {l : List AV} {nx : Nat} {k : AV → Heap → Nat → Res β} {r : β} (h : callO P ev f l H nx k = .ok r) :
    ∃ v H' nx', k v H' nx' = .ok r ∧ CallOk P f l H nx v H' nx' := by
  unfold callO at h
  cases ho : ev.ora f l H nx with
  | none => rw [ho] at h; exact callK_ex hs.code h
  | some q => rw [ho] at h; obtain ⟨v, H', nx'⟩ := q; exact ⟨v, H', nx', h, hs.ora _ _ _ _ _ _ _ ho⟩

theorem isNormal_ok {x : X} (h : x.isNormal = true) : x = .normal := by cases x <;> first | rfl | cases h

theorem roundEnd_ex {β : Type} {b : Nat} {g : Fin} {k : AV → Heap → Nat → Res β} {r : β} (h : roundEnd b g k = .ok r) :
    ∃ v H' st, k v H' g.nx = .ok r ∧ v = .bool g.x.isNormal ∧ (∃ blk l, g.H.get b = some blk ∧ blk.loop = some l ∧ ∀ j, H'.get j = if j = b then some { blk with loop := some { l with st := st, jump := g.x } } else g.H.get j) ∧
      ((g.x.isNormal = true ∧ st = 0) ∨ (g.x.isNormal = false ∧ st = 2)) := by
  unfold roundEnd at h
  rw [sel_eq] at h
  split at h
  · rename_i hx
    obtain ⟨blk, l, H', h1, h2, h3, h4⟩ := setLoop_ok h
    exact ⟨_, H', 0, h3, by rw [hx], ⟨blk, l, h1, h2, by rw [isNormal_ok hx]; exact h4⟩, .inl ⟨hx, rfl⟩⟩
  · rename_i hx
    have hx : g.x.isNormal = false := by simpa using hx
    obtain ⟨blk, l, H', h1, h2, h3, h4⟩ := setLoop_ok h
    exact ⟨_, H', 2, h3, by rw [hx], ⟨blk, l, h1, h2, h4⟩, .inr ⟨hx, rfl⟩⟩

/-- A ROUND. -/
def YieldOk (P : Program) (b : Nat) (l : List AV) (H : Heap) (nx : Nat) (v : AV) (H' : Heap) (nx' : Nat) : Prop :=
  nx ≤ nx' ∧ ∀ F, Wide F → ∀ ι w N (xs : Array Value) p, HR ι H w → Wf H nx → Fresh ι nx N → nx' ≤ N → VRL ι l xs.toList → ι b 0 = some p →
    ∃ f tmps assign body, (Instr.yield p.blk xs).run P w = .ok (.round p.blk f tmps assign body) w ∧
      RoundIn F 0 P p.blk f tmps assign body w fun e w' => ∃ ι' x, e = .returned x ∧ VR ι' v x ∧ HR ι' H' w' ∧ Stp ι H nx w ι' H' nx' w'
theorem yieldK_ex {ev : CodeFn} (hs : Sound P ev) {β : Type} {b : Nat} {l : List AV} {nx : Nat} {k : AV → Heap → Nat → Res β} {r : β} (h : yieldK ev b l H nx k = .ok r) :
    ∃ v H' nx', k v H' nx' = .ok r ∧ YieldOk P b l H nx v H' nx' := by
  unfold yieldK at h
  obtain ⟨blk, lr, hb, hlr, h⟩ := getLoop_ok h
  obtain ⟨hna, h⟩ := must_ok h
  obtain ⟨hnb, h⟩ := must_ok h
  obtain ⟨env, h, hlen, henv⟩ := putPs_ok h
  obtain ⟨f1, hf1, h⟩ := and_ok h
  obtain ⟨hx1, h⟩ := must_ok h
  obtain ⟨blk1, lr1, hb1, hl1, h⟩ := getLoop_ok h
  obtain ⟨hst, h⟩ := must_ok h
  have hst : lr1.st = 0 := beq_iff.1 hst
  obtain ⟨blk2, lr2, H2, hb2, hl2, h, hH2⟩ := setLoop_ok h
  rw [hb1] at hb2; injection hb2 with hb2; subst hb2
  rw [hl1] at hl2; injection hl2 with hl2; subst hl2
  obtain ⟨g, hg, h⟩ := and_ok h
  obtain ⟨v, H', st, hk, hv, ⟨blk3, lr3, hb3, hl3, hH3⟩, hst3⟩ := roundEnd_ex h
  obtain ⟨n1, s1⟩ := hs _ _ _ _ _ _ hf1
  obtain ⟨n2, s2⟩ := hs _ _ _ _ _ _ hg
  refine ⟨v, H', g.nx, hk, by omega, fun F hF ι w N xs p hr hw hf hN hl hp => ?_⟩
  obtain ⟨r', hr', hLR⟩ := hr.loop _ _ _ _ hb hlr hp
  have hsize : xs.size = r'.params.size := by
    have e1 := hl.length
    have e2 : r'.params.toList.length = lr.params.length := by rw [hLR.params]
    simp only [Array.length_toList] at e1 e2
    omega
  refine ⟨_, _, _, _, run_yield hr' hsize, roundIn_of_wpIn (hF.fn _) ?_⟩
  have hfold : (r'.params.zip xs).foldl (fun tmps (t, a) => tmps.setIfInBounds t a) r'.tmps = (lr.params.zip xs.toList).foldl (fun tmps (t, a) => tmps.setIfInBounds t a) r'.tmps := by
    rw [← Array.foldl_toList, Array.toList_zip, hLR.params]
  rw [hfold, hLR.assign, hLR.body]
  obtain ⟨q1, q2⟩ := henv ι r'.tmps xs.toList hLR.env hLR.sz hl
  refine s1 (F.inRound p.blk) (hF.inRound _) (.inr hna) w.heap.size ι w N _ _ hr hw hf (by omega) q1 q2 (Nat.le_refl _) .nil fun ι1 a1 w1 g1 g2 g3 g4 g5 => ?_
  rw [isNormal_ok hx1]
  have hp1 := g2.le _ _ _ hp
  obtain ⟨r1, hr1, hL1⟩ := g1.loop _ _ _ _ hb1 hl1 hp1
  refine ⟨_, run_beginRound hr1 (hL1.ready hst), ?_⟩
  obtain ⟨t1, t2⟩ := loop_turn (nx := f1.nx) g1 hb1 hp1 hr1 hH2 (r2 := { r1 with state := .busy }) ⟨hL1.env, hL1.sz, hL1.params, hL1.assign, hL1.body, fun h => (by cases h), fun h => (by cases h), fun _ h => absurd rfl h⟩
  have hw1 := g2.wf hw
  have hf1' := g2.fresh hf hw
  refine s2 (F.inRound p.blk) (hF.inRound _) (.inr hnb) w.heap.size ι1 _ N _ _ t1 (t2.wf hw1) (t2.fresh hf1' hw1) (by omega) g3 g4 (by rw [World.putObj_size]; exact g2.size) (g5.step t2) fun ι3 a3 w3 k1 k2 k3 k4 k5 => ?_
  have hp3 := k2.le _ _ _ hp1
  obtain ⟨r3, hr3, hL3⟩ := k1.loop _ _ _ _ hb3 hl3 hp3
  have fin : ∀ (jump : Option Code), jump = g.x.code → jump.isNone = g.x.isNormal → ∃ v' w', (Instr.endRound p.blk jump).run P w3 = .ok v' w' ∧ ∃ ι' x, Ending.returned v' = .returned x ∧ VR ι' v x ∧ HR ι' H' w' ∧ Stp ι H nx w ι' H' g.nx w' := by
    intro jump hj hn
    refine ⟨_, _, run_endRound jump hr3, ι3, _, rfl, ?_, ?_⟩
    · rw [hv, hn]; exact .bool _
    · obtain ⟨u1, u2⟩ := loop_turn (nx := g.nx) k1 hb3 hp3 hr3 hH3 (r2 := { r3 with state := if jump.isNone then .ready else .done, pending := jump }) ⟨hL3.env, hL3.sz, hL3.params, hL3.assign, hL3.body, fun h => by
          simp only at h
          rcases hst3 with ⟨e1, e2⟩ | ⟨e1, e2⟩
          · simp [hn, e1]
          · omega, fun h => by
          simp only at h
          rcases hst3 with ⟨e1, e2⟩ | ⟨e1, e2⟩
          · omega
          · simp [hn, e1], fun _ _ => hj⟩
      have s12 := (g2.trans t2 hf (N := N) (by omega) hw)
      have s13 := s12.trans k2 hf (N := N) (by omega) hw
      exact ⟨u1, s13.trans u2 hf (N := N) (by omega) hw⟩
  cases hgx : g.x with
  | normal => exact fin none (by rw [hgx]; rfl) (by rw [hgx]; rfl)
  | exit id => exact fin (some (.exit id)) (by rw [hgx]; rfl) (by rw [hgx]; rfl)
  | ret => exact fin (some .ret) (by rw [hgx]; rfl) (by rw [hgx]; rfl)

/-- A CALL, of whatever kind, as an operation. -/
theorem anyK_ex {ev : Evr} (hs : SoundE P ev) {β : Type} {env : Env} {op : Op} {q : Callee × List AV} {nx : Nat} {k : AV → Heap → Nat → Res β} {r : β} (hq : evCall env op = .ok q) (h : anyK P ev q.1 q.2 H nx k = .ok r) :
    ∃ v H' nx', k v H' nx' = .ok r ∧ nx ≤ nx' ∧ ∀ F, Wide F → ∀ ι w N a (o : Oper) (K : Act → World → Prop) Q, o.op = op → HR ι H w → Wf H nx → Fresh ι nx N → nx' ≤ N → ER ι env a.tmps →
      (∀ ι' w' x, VR ι' v x → HR ι' H' w' → Stp ι H nx w ι' H' nx' w' → K (a.put o.dst x) w') → o.wpIn F 0 P a w K Q := by
  obtain ⟨c, l⟩ := q
  cases c with
  | fn f =>
    obtain ⟨v, H', nx', hk, hnx, fn, c, hfn, hbd, hnm, hC⟩ := callO_ex hs (show callO P ev f l H nx k = .ok r from h)
    refine ⟨v, H', nx', hk, hnx, fun F hF ι w N a o K Q ho hr hw hf hN he hK => ?_⟩
    subst ho
    obtain ⟨xs, g1, g2⟩ := evCall_run (P := P) (w := w) he hq hfn hbd hnm
    refine wpIn_intro hF (evCall_nd hq) ?_
    simp only [g1, Oper.uponIn]
    refine ⟨hF.room, (hC F hF ι w N xs hr hw hf hN g2).mono ?_⟩
    rintro e w1 ⟨ι1, x, rfl, g3, g4, g5⟩
    exact hK ι1 w1 x g3 g4 g5
  | yield b =>
    obtain ⟨v, H', nx', hk, hnx, hY⟩ := yieldK_ex hs.code (show yieldK ev.code b l H nx k = .ok r from h)
    refine ⟨v, H', nx', hk, hnx, fun F hF ι w N a o K Q ho hr hw hf hN he hK => ?_⟩
    subst ho
    obtain ⟨p, xs, g0, g1, g2⟩ := evCall_yield (P := P) (w := w) he hq
    obtain ⟨f, tmps, assign, body, g3, g4⟩ := hY F hF ι w N xs p hr hw hf hN g1 g0
    refine wpIn_intro hF (evCall_nd hq) ?_
    simp only [g2, g3, Oper.uponIn]
    refine ⟨hF.room, g4.mono ?_⟩
    rintro e w1 ⟨ι1, x, rfl, g3, g4, g5⟩
    exact hK ι1 w1 x g3 g4 g5

theorem guard_ok {env : Env} {a : Act} {ops : Array Oper} {o : Oper} {g : Bool} (he : ER ι env a.tmps) (h : guardA ops env o = .ok g) : Region.wanted o (yielded ops a.tmps) = g := by
  unfold guardA at h
  unfold Region.wanted
  split at h
  · rename_i hg; rw [hg]; exact ok_inj h
  · rename_i j wv hg
    rw [hg]
    obtain ⟨t, ht, h⟩ := ofOpt_ok h
    obtain ⟨v, hv, h⟩ := ofOpt_ok h
    obtain ⟨x, hx, hvx⟩ := he _ _ hv
    have hy : ((ops[j]?).bind (·.dst)).bind (a.tmps[·]?) = some x := by rw [ht]; exact hx
    rw [← ok_inj h]
    unfold yielded
    simp only [hy]
    cases hvx <;> first | (simp [isIt, sameBool_eq]; done) | rfl

theorem put_ER {env env' : Env} {a : Act} {d : Option Tmp} {v : AV} {x : Value} {sz : Nat} (he : ER ι env a.tmps) (hs : a.tmps.size = sz) (hd : ∀ t, d = some t → t < sz)
    (hg : ∀ j, env'.get j = if d = some j then some v else env.get j) (hv : VR ι v x) : ER ι env' (a.put d x).tmps ∧ (a.put d x).tmps.size = sz := by
  cases d with
  | none => exact ⟨fun t u hu => he t u (by rw [hg, if_neg (by simp)] at hu; exact hu), hs⟩
  | some t =>
    have ht := hd t rfl
    refine ⟨fun j u hu => ?_, by simp [Act.put, hs]⟩
    rw [hg] at hu
    simp only [Act.put]
    by_cases hj : t = j
    · subst hj
      rw [if_pos rfl] at hu
      injection hu with hu; subst hu
      exact ⟨x, by rw [Array.getElem?_setIfInBounds, if_pos rfl, if_pos (by rw [hs]; exact ht)], hv⟩
    · rw [if_neg (by simpa using hj)] at hu
      obtain ⟨y, hy, hvy⟩ := he j u hu
      exact ⟨y, by rw [Array.getElem?_setIfInBounds_ne hj]; exact hy, hvy⟩
theorem put_defers {a : Act} {d : Option Tmp} {x : Value} : (a.put d x).defers = a.defers := by cases d <;> rfl

theorem Post.trans {m nx nx1 N sz : Nat} {w1 : World} {ι1 : Ix} {H1 : Heap} {fin : Fin} {Q : Exit → Act → World → Prop} (h : Post m ι H nx w sz fin Q) (s : Stp ι H nx w ι1 H1 nx1 w1) (hf : Fresh ι nx N) (hN : fin.nx ≤ N) (hw : Wf H nx) : Post m ι1 H1 nx1 w1 sz fin Q :=
  fun ι' a' w' h1 h2 h3 h4 h5 => h ι' a' w' h1 (s.trans h2 hf hN hw) h3 h4 h5

/-- the operations of a region from i on -/
def From (ops : Array Oper) (i : Nat) (l : List Oper) : Prop := ∀ j, l[j]? = if j < l.length then ops[i + j]? else none
theorem From.cons {ops : Array Oper} {i : Nat} {o : Oper} {l : List Oper} (h : From ops i (o :: l)) : ops[i]? = some o ∧ From ops (i + 1) l := by
  refine ⟨?_, fun j => ?_⟩
  · have := h 0; simp at this; exact this.symm
  · have := h (j + 1)
    simp only [List.getElem?_cons_succ, List.length_cons, Nat.add_lt_add_iff_right] at this
    rw [this, show i + (j + 1) = i + 1 + j by omega]

theorem evSeq_ok {ev : Evr} (hs : SoundE P ev) {sz : Nat} {ops : Array Oper} : ∀ {l : List Oper} {i : Nat} {env : Env} {H : Heap} {nx : Nat} {fin : Fin}, From ops i l → evSeq P ev sz ops l env H nx = .ok fin →
    nx ≤ fin.nx ∧ ∀ F, Wide F → ∀ m ι w N a Q, HR ι H w → Wf H nx → Fresh ι nx N → fin.nx ≤ N → ER ι env a.tmps → a.tmps.size = sz → m ≤ w.heap.size → Marks m ι w a.defers → Post m ι H nx w sz fin Q → wpOpsIn F 0 P ops Q (List.range' i l.length) a w
  | [], i, env, H, nx, fin, _, h => by
    cases ok_inj (show Res.ok (⟨.normal, env, H, nx⟩ : Fin) = Res.ok fin from h)
    exact ⟨Nat.le_refl _, fun F hF m ι w N a Q hr hw hf hN he hsz hm hd hp => hp ι a w hr .refl he hsz hd⟩
  | o :: l, i, env, H, nx, fin, hfrom, h => by
    obtain ⟨hoi, hfrom'⟩ := hfrom.cons
    change seqStep P ev sz ops o (evSeq P ev sz ops l) env H nx = .ok fin at h
    unfold seqStep at h
    obtain ⟨g, hg, h⟩ := and_ok h
    rw [sel_eq] at h
    have hrange : List.range' i (o :: l).length = i :: List.range' (i + 1) l.length := by simp [List.range'_succ]
    -- a value put, and the rest
    have put : ∀ {v : AV} {env' : Env} {H1 : Heap} {nx1 : Nat}, evSeq P ev sz ops l env' H1 nx1 = .ok fin → (∀ t, o.dst = some t → t < sz) → (∀ j, env'.get j = if o.dst = some j then some v else env.get j) →
        nx1 ≤ fin.nx ∧ ∀ (F : Fence), Wide F → ∀ (m : Nat) (ι : Ix) (w : World) (ι1 : Ix) (w1 : World) (N : Nat) (a : Act) (Q : Exit → Act → World → Prop) (x : Value), HR ι1 H1 w1 → Wf H nx → Fresh ι nx N → fin.nx ≤ N → Stp ι H nx w ι1 H1 nx1 w1 → ER ι env a.tmps → a.tmps.size = sz → m ≤ w.heap.size → Marks m ι w a.defers → VR ι1 v x → Post m ι H nx w sz fin Q →
          wpOpsIn F 0 P ops Q (List.range' (i + 1) l.length) (a.put o.dst x) w1 := by
      intro v env' H1 nx1 hk hd hgt
      obtain ⟨h1, h2⟩ := evSeq_ok hs hfrom' hk
      refine ⟨h1, fun F hF m ι w ι1 w1 N a Q x hr1 hw hf hN hst he hsz hm hdf hv hp => ?_⟩
      obtain ⟨e1, e2⟩ := put_ER (he.mono hst.le) hsz hd hgt hv
      exact h2 F hF m ι1 w1 N _ Q hr1 (hst.wf hw) (hst.fresh hf hw) hN e1 e2 (Nat.le_trans hm hst.size) (by rw [put_defers]; exact hdf.step hst) (hp.trans hst hf hN hw)
    split at h
    case isFalse hgf =>
      obtain ⟨env', hk, hd, hgt⟩ := putQ_ok h
      obtain ⟨h1, h2⟩ := put hk hd hgt
      refine ⟨h1, fun F hF m ι w N a Q hr hw hf hN he hsz hm hdf hp => ?_⟩
      rw [hrange]
      have hwant := guard_ok he hg
      simp only [wpOpsIn, hoi]
      rw [if_neg (by rw [hwant]; exact hgf)]
      exact ⟨fun f _ => hF.fn f, h2 F hF m ι w ι w N a Q undef hr hw hf hN .refl he hsz hm hdf (.tuple .nil) hp⟩
    case isTrue hgt0 =>
      have enter : ∀ {F : Fence} {ι : Ix} {a : Act} {w : World} {Q : Exit → Act → World → Prop}, ER ι env a.tmps → o.wpIn F 0 P a w (wpOpsIn F 0 P ops Q (List.range' (i + 1) l.length)) Q → wpOpsIn F 0 P ops Q (List.range' i (o :: l).length) a w := by
        intro F ι a w Q he hh
        rw [hrange]
        have hwant := guard_ok he hg
        simp only [wpOpsIn, hoi]
        rw [if_pos (by rw [hwant]; exact hgt0)]
        exact hh
      have quiet : ∀ {v : AV} {env' : Env}, evQ P env H o.op = .ok v → evSeq P ev sz ops l env' H nx = .ok fin → (∀ t, o.dst = some t → t < sz) → (∀ j, env'.get j = if o.dst = some j then some v else env.get j) →
          nx ≤ fin.nx ∧ ∀ (F : Fence), Wide F → ∀ (m : Nat) (ι : Ix) (w : World) (N : Nat) (a : Act) (Q : Exit → Act → World → Prop), HR ι H w → Wf H nx → Fresh ι nx N → fin.nx ≤ N → ER ι env a.tmps → a.tmps.size = sz → m ≤ w.heap.size → Marks m ι w a.defers → Post m ι H nx w sz fin Q → wpOpsIn F 0 P ops Q (List.range' i (o :: l).length) a w := by
        intro v env' hv hk hd hgt
        obtain ⟨h1, h2⟩ := put hk hd hgt
        refine ⟨h1, fun F hF m ι w N a Q hr hw hf hN he hsz hm hdf hp => enter he ?_⟩
        obtain ⟨x, g1, g2⟩ := evQ_ok (P := P) hr he hv
        refine wpIn_intro hF (evQ_nd hv) ?_
        simp only [g1, Oper.uponIn]
        exact h2 F hF m ι w ι w N a Q x hr hw hf hN .refl he hsz hm hdf g2 hp
      unfold seqDo at h
      split at h
      · obtain ⟨v, hv, h⟩ := and_ok h
        obtain ⟨env', hk, hd, hgt⟩ := putQ_ok h
        exact quiet hv hk hd hgt
      · obtain ⟨v, hv, h⟩ := and_ok h
        obtain ⟨env', hk, hd, hgt⟩ := putK_ok h
        exact quiet hv hk hd hgt
      · obtain ⟨v, hv, h⟩ := and_ok h
        obtain ⟨env', hk, hd, hgt⟩ := putK_ok h
        exact quiet hv hk hd hgt
      · obtain ⟨q, hq, h⟩ := and_ok h
        obtain ⟨H1, hk, _, hH⟩ := newBlk_ex h
        obtain ⟨env', hk, hd, hgt⟩ := putK_ok hk
        obtain ⟨h1, h2⟩ := put hk hd hgt
        refine ⟨by omega, fun F hF m ι w N a Q hr hw hf hN he hsz hm hdf hp => enter he ?_⟩
        obtain ⟨cs, el, g1, g2, g3⟩ := evAl_ok (P := P) (w := w) he hq
        obtain ⟨g4, g5⟩ := hH ι w N cs el cs.toList hr hw hf (by omega) g2 (by rw [g2.length]; simp) (fun i x hx => by simpa using hx)
        refine wpIn_intro hF (evAl_nd hq) ?_
        simp only [g1, Oper.uponIn]
        exact h2 F hF m ι w _ _ N a Q _ g4 hw hf hN g5 he hsz hm hdf (newVal_VR (p := ⟨w.heap.size, cs.size, 0⟩) (Ix.set_same _ _ _ _) g3) hp
      · have hnd := evE_nd h
        obtain ⟨v, H1, nx1, hk, hnx, hE⟩ := evE_ex (P := P) h
        obtain ⟨env', hk, hd, hgt⟩ := putK_ok hk
        obtain ⟨h1, h2⟩ := put hk hd hgt
        refine ⟨by omega, fun F hF m ι w N a Q hr hw hf hN he hsz hm hdf hp => enter he ?_⟩
        obtain ⟨ι1, w1, x, g1, g2, g3, g4⟩ := hE ι w N a o rfl hr hw hf (by omega) he
        refine wpIn_intro hF hnd ?_
        rcases g1 with g1 | ⟨g1, rfl⟩
        · simp only [g1, Oper.uponIn]
          exact h2 F hF m ι w ι1 w1 N a Q x g3 hw hf hN g4 he hsz hm hdf g2 hp
        · simp only [g1, Oper.uponIn]
          exact h2 F hF m ι w ι1 w1 N a Q undef g3 hw hf hN g4 he hsz hm hdf g2 hp
      · obtain ⟨q, hq, h⟩ := and_ok h
        obtain ⟨v, H1, nx1, hk, hnx, hC⟩ := anyK_ex hs hq h
        obtain ⟨env', hk, hd, hgt⟩ := putQ_ok hk
        obtain ⟨h1, h2⟩ := put hk hd hgt
        refine ⟨by omega, fun F hF m ι w N a Q hr hw hf hN he hsz hm hdf hp => enter he ?_⟩
        exact hC F hF ι w N a o _ Q rfl hr hw hf (by omega) he fun ι1 w1 x g3 g4 g5 => h2 F hF m ι w ι1 w1 N a Q x g4 hw hf hN g5 he hsz hm hdf g3 hp
end
end Go.Ew
