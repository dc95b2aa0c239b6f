/- DRAWN REGIONS: which operations come before which; the slots that an operation looks at. -/
import Derived.Test.YtmoojbahmkmfiaaGreatEwSeq
import Derived.Orders
namespace Go.Ew

/-- a set of operations that holds, with each, all that its edges name -/
def Closed (ops : Array Oper) (X : Nat → Prop) : Prop := ∀ j o, X j → ops[j]? = some o → ∀ e ∈ o.after, Region.binds .any e = true → X e.on
/-- i comes before j in every order -/
def Bef (ops : Array Oper) (j i : Nat) : Prop := ∀ X, Closed ops X → X j → X i
theorem Bef.trans {ops : Array Oper} {i j k : Nat} (h : Bef ops k j) (h' : Bef ops j i) : Bef ops k i := fun X hX hk => h' X hX (h X hX hk)

theorem fold_bits (bs : List Nat) (n j : Nat) : ∀ (l : List Edge) (s : Nat), Nat.testBit (l.foldl (fun s e => sel (Region.binds .any e) (Nat.lor (Nat.lor s (Nat.shiftLeft 1 e.on)) (bs.getD (Nat.sub n (Nat.succ e.on)) 0)) s) s) j = true →
    Nat.testBit s j = true ∨ ∃ e ∈ l, Region.binds .any e = true ∧ (j = e.on ∨ Nat.testBit (bs.getD (n - (e.on + 1)) 0) j = true)
  | [], s, h => .inl h
  | e :: l, s, h => by
    simp only [List.foldl_cons] at h
    rcases fold_bits bs n j l _ h with h | ⟨e', he', h⟩
    · rw [sel_eq] at h
      split at h
      · rename_i hb
        have h : ((s ||| (1 <<< e.on)) ||| (bs.getD (n - (e.on + 1)) 0)).testBit j = true := h
        rw [Nat.testBit_or, Nat.testBit_or, Bool.or_eq_true, Bool.or_eq_true] at h
        rcases h with (h | h) | h
        · exact .inl h
        · refine .inr ⟨e, by simp, hb, .inl ?_⟩
          rw [Nat.one_shiftLeft, Nat.testBit_two_pow] at h
          have := of_decide_eq_true h
          exact this.symm
        · exact .inr ⟨e, by simp, hb, .inr h⟩
      · exact .inl h
    · exact .inr ⟨e', by simp [he'], h⟩

/-- rows of bits, the newest first, that tell what comes before -/
def RowsOk (ops : Array Oper) (bs : List Nat) (n : Nat) : Prop := bs.length = n ∧ ∀ k, k < n → ∀ j, Nat.testBit (bs.getD (n - (k + 1)) 0) j = true → Bef ops k j
theorem befAll_ok {ops : Array Oper} : ∀ {l : List Oper} {bs : List Nat} {n : Nat}, From ops n l → edgesOk l n = true → RowsOk ops bs n → RowsOk ops (befAll l bs n) (n + l.length)
  | [], bs, n, _, _, h => by simpa [befAll] using h
  | o :: l, bs, n, hf, he, h => by
    obtain ⟨ho, hf'⟩ := hf.cons
    simp only [edgesOk, sel_eq] at he
    split at he
    case isFalse => cases he
    rename_i hall
    rw [befAll]
    have := befAll_ok (bs := befStep bs n o :: bs) hf' he ⟨by simp [h.1], fun k hk j hj => ?_⟩
    · rw [show n + (o :: l).length = Nat.succ n + l.length by simp; omega]; exact this
    · by_cases hkn : k = n
      · subst hkn
        rw [show Nat.succ k - (k + 1) = 0 by omega] at hj
        simp only [List.getD_cons_zero] at hj
        rcases fold_bits bs k j _ 0 hj with hj | ⟨e, hem, hb, hj⟩
        · simp at hj
        · have hlt : e.on < k := by
            have := List.all_eq_true.1 hall e hem
            rw [hb] at this
            simpa using this
          intro X hX hk'
          have hon := hX k o hk' ho e (by simpa using hem) hb
          rcases hj with hj | hj
          · subst hj; exact hon
          · exact h.2 e.on hlt j hj X hX hon
      · rw [show Nat.succ n - (k + 1) = (n - (k + 1)) + 1 by omega] at hj
        simp only [List.getD_cons_succ] at hj
        exact h.2 k (by omega) j hj
theorem From.all (ops : Array Oper) : From ops 0 ops.toList := fun j => by
  simp only [Array.length_toList, Nat.zero_add, Array.getElem?_toList]
  split
  · rfl
  · rename_i h; exact Array.getElem?_eq_none (by omega)
theorem befs_ok {ops : Array Oper} (he : edgesOk ops.toList 0 = true) {k b j : Nat} (h : (befs ops.toList)[k]? = some b) (hb : Nat.testBit b j = true) : Bef ops k j := by
  obtain ⟨h1, h2⟩ := befAll_ok (bs := []) (From.all ops) he ⟨rfl, fun k hk => by omega⟩
  unfold befs at h
  have hk : k < (befAll ops.toList [] 0).length := by
    have := (List.getElem?_eq_some_iff.1 h).1; simpa using this
  rw [h1] at hk
  refine h2 k hk j ?_
  rw [List.getElem?_reverse (by rw [h1]; exact hk)] at h
  rw [h1] at h
  have : (befAll ops.toList [] 0).getD (0 + ops.toList.length - (k + 1)) 0 = b := by
    rw [List.getD_eq_getElem?_getD, show 0 + ops.toList.length - (k + 1) = 0 + ops.toList.length - 1 - k by omega, h]; rfl
  rw [this]; exact hb

theorem looks1_bit (t : Nat) : ∀ (l : List Operand) (s : Nat), Nat.testBit (l.foldl looks1 s) t = true ↔ Nat.testBit s t = true ∨ .tmp t ∈ l
  | [], s => by simp
  | x :: l, s => by
    simp only [List.foldl_cons, looks1_bit t l, List.mem_cons]
    have : Nat.testBit (looks1 s x) t = true ↔ Nat.testBit s t = true ∨ .tmp t = x := by
      cases x with
      | tmp u =>
        show Nat.testBit (s ||| (1 <<< u)) t = true ↔ _
        rw [Nat.testBit_or, Bool.or_eq_true, Nat.one_shiftLeft, Nat.testBit_two_pow, decide_eq_true_eq]
        constructor
        · rintro (h | h)
          · exact .inl h
          · subst h; exact .inr rfl
        · rintro (h | h)
          · exact .inl h
          · injection h with h; exact .inr h.symm
      | _ => simp [looks1]
    rw [this, or_assoc]
theorem looksAt_mem {ops : Array Oper} {o : Oper} {t : Nat} : t ∈ o.looksAt ops ↔ .tmp t ∈ o.op.operands.toList ∨ ∃ g w, o.guard = some (g, w) ∧ (ops[g]?).bind (·.dst) = some t := by
  unfold Oper.looksAt
  rw [List.mem_append, List.mem_filterMap]
  refine or_congr ⟨?_, fun h => ⟨_, h, rfl⟩⟩ ?_
  · rintro ⟨x, hx, h⟩
    cases x <;> simp at h
    subst h; exact hx
  · cases hg : o.guard with
    | none => simp
    | some gw =>
      obtain ⟨g, wv⟩ := gw
      simp only [Option.mem_toList]
      constructor
      · intro h; exact ⟨g, wv, rfl, h⟩
      · rintro ⟨g', w', h, h'⟩
        injection h with h; injection h with h1 h2
        subst h1; exact h'
theorem looks_bit {ops : Array Oper} {o : Oper} {t : Nat} : Nat.testBit (looks ops o) t = true ↔ t ∈ o.looksAt ops := by
  rw [looksAt_mem]
  have h1 : Nat.testBit (o.op.operands.toList.foldl looks1 0) t = true ↔ .tmp t ∈ o.op.operands.toList := by
    rw [looks1_bit]; simp
  unfold looks
  cases hg : o.guard with
  | none => simp only [h1]; simp
  | some gw =>
    obtain ⟨g, wv⟩ := gw
    simp only
    cases ht : (ops[g]?).bind (·.dst) with
    | none =>
      simp only [h1]
      constructor
      · exact .inl
      · rintro (h | ⟨g', w', h, h'⟩)
        · exact h
        · injection h with h; injection h with h2 h3
          subst h2; rw [ht] at h'; cases h'
    | some u =>
      show Nat.testBit (_ ||| (1 <<< u)) t = true ↔ _
      rw [Nat.testBit_or, Bool.or_eq_true, h1, Nat.one_shiftLeft, Nat.testBit_two_pow, decide_eq_true_eq]
      refine or_congr Iff.rfl ⟨fun h => ⟨g, wv, rfl, by rw [ht, h]⟩, ?_⟩
      rintro ⟨g', w', h, h'⟩
      injection h with h; injection h with h2 h3
      subst h2; rw [ht] at h'; injection h'
theorem writes_bit {o : Oper} {t : Nat} : Nat.testBit (writes o) t = true ↔ o.dst = some t := by
  unfold writes
  cases o.dst with
  | none => simp
  | some u =>
    show Nat.testBit (1 <<< u) t = true ↔ _
    rw [Nat.one_shiftLeft, Nat.testBit_two_pow]; simp

/-- two operations share a slot that one of them writes -/
def Share (ops : Array Oper) (x y : Oper) : Prop := ∃ t, (x.dst = some t ∧ (t ∈ y.looksAt ops ∨ y.dst = some t)) ∨ (t ∈ x.looksAt ops ∧ y.dst = some t)
theorem slotsOk1_ok {ops : Array Oper} {bj : Nat} {y : Oper} : ∀ {l : List (Nat × Nat × Nat)}, slotsOk1 bj (looks ops y) (writes y) l = true → ∀ i x, (i, looks ops x, writes x) ∈ l → Share ops x y → Nat.testBit bj i = true
  | [], _, i, x, h, _ => by simp at h
  | (k, lk, wk) :: l, h, i, x, hm, hs => by
    simp only [slotsOk1, sel_eq, beq_iff] at h
    rw [List.mem_cons] at hm
    rcases hm with hm | hm
    · injection hm with h1 h2
      injection h2 with h2 h3
      subst h1 h2 h3
      split at h
      · rename_i h0
        exfalso
        have h0 : ((writes x &&& (looks ops y ||| writes y)) ||| (looks ops x &&& writes y)) = 0 := h0
        obtain ⟨t, ht⟩ := hs
        have hz : Nat.testBit ((writes x &&& (looks ops y ||| writes y)) ||| (looks ops x &&& writes y)) t = false := by rw [h0]; simp
        simp only [Nat.testBit_or, Nat.testBit_and, Bool.or_eq_false_iff, Bool.and_eq_false_iff] at hz
        obtain ⟨hz1, hz2⟩ := hz
        rcases ht with ⟨h1, h2⟩ | ⟨h1, h2⟩
        · rcases hz1 with hz1 | ⟨hz1, hz3⟩
          · rw [writes_bit.2 h1] at hz1; cases hz1
          · rcases h2 with h2 | h2
            · rw [looks_bit.2 h2] at hz1; cases hz1
            · rw [writes_bit.2 h2] at hz3; cases hz3
        · rcases hz2 with hz2 | hz2
          · rw [looks_bit.2 h1] at hz2; cases hz2
          · rw [writes_bit.2 h2] at hz2; cases hz2
      · split at h
        · assumption
        · cases h
    · split at h
      · exact slotsOk1_ok h i x hm hs
      · split at h
        · exact slotsOk1_ok h i x hm hs
        · cases h
theorem slotsOk_ok {ops : Array Oper} : ∀ {l : List Oper} {bs : List Nat} {n : Nat} {acc : List (Nat × Nat × Nat)}, slotsOk ops l bs n acc = true → ∀ j y b, l[j]? = some y → bs[j]? = some b →
    (∀ i x, (i, looks ops x, writes x) ∈ acc → Share ops x y → Nat.testBit b i = true) ∧ (∀ i x, i < j → l[i]? = some x → Share ops x y → Nat.testBit b (n + i) = true)
  | [], bs, n, acc, _, j, y, b, h, _ => by simp at h
  | o :: l, [], n, acc, h, _, _, _, _, hb => by simp at hb
  | o :: l, b0 :: bs, n, acc, h, j, y, b, hy, hb => by
    simp only [slotsOk, sel_eq] at h
    split at h
    case isFalse => cases h
    rename_i h1
    cases j with
    | zero =>
      simp only [List.getElem?_cons_zero] at hy hb
      injection hy with hy; subst hy
      injection hb with hb; subst hb
      exact ⟨fun i x hm hs => slotsOk1_ok h1 i x hm hs, fun i x hi => by omega⟩
    | succ j =>
      simp only [List.getElem?_cons_succ] at hy hb
      obtain ⟨g1, g2⟩ := slotsOk_ok h j y b hy hb
      refine ⟨fun i x hm hs => g1 i x (by simp [hm]) hs, fun i x hi hx hs => ?_⟩
      cases i with
      | zero =>
        simp only [List.getElem?_cons_zero] at hx
        injection hx with hx; subst hx
        exact g1 n _ (by simp) hs
      | succ i =>
        simp only [List.getElem?_cons_succ] at hx
        have := g2 i x (by omega) hx hs
        rw [show n + (i + 1) = Nat.succ n + i by omega]; exact this
/-- what drawOk says -/
theorem drawOk_ok {ops : Array Oper} (h : drawOk ops = true) : edgesOk ops.toList 0 = true ∧ ∀ i j x y, i < j → ops[i]? = some x → ops[j]? = some y → Share ops x y → Bef ops j i := by
  simp only [drawOk, sel_eq] at h
  split at h
  case isFalse => cases h
  rename_i he
  refine ⟨he, fun i j x y hij hx hy hs => ?_⟩
  have hlen : (befs ops.toList).length = ops.size := by
    have := (befAll_ok (bs := []) (From.all ops) he ⟨rfl, fun k hk => by omega⟩).1
    unfold befs; rw [List.length_reverse, this]; simp
  have hj : j < ops.size := (Array.getElem?_eq_some_iff.1 hy).1
  have hb : (befs ops.toList)[j]? = some ((befs ops.toList)[j]'(by omega)) := List.getElem?_eq_getElem _
  have := (slotsOk_ok h j y _ (by simpa using hy) hb).2 i x hij (by simpa using hx) hs
  rw [Nat.zero_add] at this
  exact befs_ok he hb this
end Go.Ew
