/- The evaluator: drawn regions, code: it is sound. -/
import Derived.Test.YtcchjefjljpccaaGreatEwC
import Derived.Orders
import Derived.Scope
import Derived.Below
import Derived.ChangeSame
/- DRAWN REGIONS: which operations come before which; the slots that an operation looks at. -/
namespace Go.Ew

/-- a set of operations that holds, with each, all that its edges name -/
def Closed (ops : Array Oper) (X : Nat → Prop) : Prop := ∀ j o, X j → ops[j]? = some o → ∀ e ∈ o.after, Region.binds .any e = true → X e.on
/-- i comes before j in every order -/
def Bef (ops : Array Oper) (j i : Nat) : Prop := ∀ X, Closed ops X → X j → X i
theorem Bef.trans {ops : Array Oper} {i j k : Nat} (h : Bef ops k j) (h' : Bef ops j i) : Bef ops k i := fun X hX hk => h' X hX (h X hX hk)

theorem fold_bits (bs : List Nat) (n j : Nat) : ∀ (l : List Edge) (s : Nat), Nat.testBit (l.foldl (fun s e => sel (Region.binds .any e) (Nat.lor (Nat.lor s (Nat.shiftLeft 1 e.on)) (bs.getD (Nat.sub n (Nat.succ e.on)) 0)) s) s) j = true →
    Nat.testBit s j = true ∨ ∃ e ∈ l, Region.binds .any e = true ∧ (j = e.on ∨ Nat.testBit (bs.getD (n - (e.on + 1)) 0) j = true)
  | [], s, h => .inl h
  | e :: l, s, h => by
    simp only [List.foldl_cons] at h
    rcases fold_bits bs n j l _ h with h | ⟨e', he', h⟩
    · rw [sel_eq] at h
      split at h
      · rename_i hb
        have h : ((s ||| (1 <<< e.on)) ||| (bs.getD (n - (e.on + 1)) 0)).testBit j = true := h
        rw [Nat.testBit_or, Nat.testBit_or, Bool.or_eq_true, Bool.or_eq_true] at h
        rcases h with (h | h) | h
        · exact .inl h
        · refine .inr ⟨e, by simp, hb, .inl ?_⟩
          rw [Nat.one_shiftLeft, Nat.testBit_two_pow] at h
          have := of_decide_eq_true h
          exact this.symm
        · exact .inr ⟨e, by simp, hb, .inr h⟩
      · exact .inl h
    · exact .inr ⟨e', by simp [he'], h⟩

/-- rows of bits, the newest first, that tell what comes before -/
def RowsOk (ops : Array Oper) (bs : List Nat) (n : Nat) : Prop := bs.length = n ∧ ∀ k, k < n → ∀ j, Nat.testBit (bs.getD (n - (k + 1)) 0) j = true → Bef ops k j
theorem befAll_ok {ops : Array Oper} : ∀ {l : List Oper} {bs : List Nat} {n : Nat}, From ops n l → edgesOk l n = true → RowsOk ops bs n → RowsOk ops (befAll l bs n) (n + l.length)
  | [], bs, n, _, _, h => by simpa [befAll] using h
  | o :: l, bs, n, hf, he, h => by
    obtain ⟨ho, hf'⟩ := hf.cons
    simp only [edgesOk, sel_eq] at he
    split at he
    case isFalse => cases he
    rename_i hall
    rw [befAll]
    have := befAll_ok (bs := befStep bs n o :: bs) hf' he ⟨by simp [h.1], fun k hk j hj => ?_⟩
    · rw [show n + (o :: l).length = Nat.succ n + l.length by simp; omega]; exact this
    · by_cases hkn : k = n
      · subst hkn
        rw [show Nat.succ k - (k + 1) = 0 by omega] at hj
        simp only [List.getD_cons_zero] at hj
        rcases fold_bits bs k j _ 0 hj with hj | ⟨e, hem, hb, hj⟩
        · simp at hj
        · have hlt : e.on < k := by
            have := List.all_eq_true.1 hall e hem
            rw [hb] at this
            simpa using this
          intro X hX hk'
          have hon := hX k o hk' ho e (by simpa using hem) hb
          rcases hj with hj | hj
          · subst hj; exact hon
          · exact h.2 e.on hlt j hj X hX hon
      · rw [show Nat.succ n - (k + 1) = (n - (k + 1)) + 1 by omega] at hj
        simp only [List.getD_cons_succ] at hj
        exact h.2 k (by omega) j hj
theorem From.all (ops : Array Oper) : From ops 0 ops.toList := fun j => by
  simp only [Array.length_toList, Nat.zero_add, Array.getElem?_toList]
  split
  · rfl
  · rename_i h; exact Array.getElem?_eq_none (by omega)
theorem befs_ok {ops : Array Oper} (he : edgesOk ops.toList 0 = true) {k b j : Nat} (h : (befs ops.toList)[k]? = some b) (hb : Nat.testBit b j = true) : Bef ops k j := by
  obtain ⟨h1, h2⟩ := befAll_ok (bs := []) (From.all ops) he ⟨rfl, fun k hk => by omega⟩
  unfold befs at h
  have hk : k < (befAll ops.toList [] 0).length := by
    have := (List.getElem?_eq_some_iff.1 h).1; simpa using this
  rw [h1] at hk
  refine h2 k hk j ?_
  rw [List.getElem?_reverse (by rw [h1]; exact hk)] at h
  rw [h1] at h
  have : (befAll ops.toList [] 0).getD (0 + ops.toList.length - (k + 1)) 0 = b := by
    rw [List.getD_eq_getElem?_getD, show 0 + ops.toList.length - (k + 1) = 0 + ops.toList.length - 1 - k by omega, h]; rfl
  rw [this]; exact hb

theorem looks1_bit (t : Nat) : ∀ (l : List Operand) (s : Nat), Nat.testBit (l.foldl looks1 s) t = true ↔ Nat.testBit s t = true ∨ .tmp t ∈ l
  | [], s => by simp
  | x :: l, s => by
    simp only [List.foldl_cons, looks1_bit t l, List.mem_cons]
    have : Nat.testBit (looks1 s x) t = true ↔ Nat.testBit s t = true ∨ .tmp t = x := by
      cases x with
      | tmp u =>
        show Nat.testBit (s ||| (1 <<< u)) t = true ↔ _
        rw [Nat.testBit_or, Bool.or_eq_true, Nat.one_shiftLeft, Nat.testBit_two_pow, decide_eq_true_eq]
        constructor
        · rintro (h | h)
          · exact .inl h
          · subst h; exact .inr rfl
        · rintro (h | h)
          · exact .inl h
          · injection h with h; exact .inr h.symm
      | _ => simp [looks1]
    rw [this, or_assoc]
theorem looksAt_mem {ops : Array Oper} {o : Oper} {t : Nat} : t ∈ o.looksAt ops ↔ .tmp t ∈ o.op.operands.toList ∨ ∃ g w, o.guard = some (g, w) ∧ (ops[g]?).bind (·.dst) = some t := by
  unfold Oper.looksAt
  rw [List.mem_append, List.mem_filterMap]
  refine or_congr ⟨?_, fun h => ⟨_, h, rfl⟩⟩ ?_
  · rintro ⟨x, hx, h⟩
    cases x <;> simp at h
    subst h; exact hx
  · cases hg : o.guard with
    | none => simp
    | some gw =>
      obtain ⟨g, wv⟩ := gw
      simp only [Option.mem_toList]
      constructor
      · intro h; exact ⟨g, wv, rfl, h⟩
      · rintro ⟨g', w', h, h'⟩
        injection h with h; injection h with h1 h2
        subst h1; exact h'
theorem looks_bit {ops : Array Oper} {o : Oper} {t : Nat} : Nat.testBit (looks ops o) t = true ↔ t ∈ o.looksAt ops := by
  rw [looksAt_mem]
  have h1 : Nat.testBit (o.op.operands.toList.foldl looks1 0) t = true ↔ .tmp t ∈ o.op.operands.toList := by
    rw [looks1_bit]; simp
  unfold looks
  cases hg : o.guard with
  | none => simp only [h1]; simp
  | some gw =>
    obtain ⟨g, wv⟩ := gw
    simp only
    cases ht : (ops[g]?).bind (·.dst) with
    | none =>
      simp only [h1]
      constructor
      · exact .inl
      · rintro (h | ⟨g', w', h, h'⟩)
        · exact h
        · injection h with h; injection h with h2 h3
          subst h2; rw [ht] at h'; cases h'
    | some u =>
      show Nat.testBit (_ ||| (1 <<< u)) t = true ↔ _
      rw [Nat.testBit_or, Bool.or_eq_true, h1, Nat.one_shiftLeft, Nat.testBit_two_pow, decide_eq_true_eq]
      refine or_congr Iff.rfl ⟨fun h => ⟨g, wv, rfl, by rw [ht, h]⟩, ?_⟩
      rintro ⟨g', w', h, h'⟩
      injection h with h; injection h with h2 h3
      subst h2; rw [ht] at h'; injection h'
theorem writes_bit {o : Oper} {t : Nat} : Nat.testBit (writes o) t = true ↔ o.dst = some t := by
  unfold writes
  cases o.dst with
  | none => simp
  | some u =>
    show Nat.testBit (1 <<< u) t = true ↔ _
    rw [Nat.one_shiftLeft, Nat.testBit_two_pow]; simp

/-- two operations share a slot that one of them writes -/
def Share (ops : Array Oper) (x y : Oper) : Prop := ∃ t, (x.dst = some t ∧ (t ∈ y.looksAt ops ∨ y.dst = some t)) ∨ (t ∈ x.looksAt ops ∧ y.dst = some t)
theorem slotsOk1_ok {ops : Array Oper} {bj : Nat} {y : Oper} : ∀ {l : List (Nat × Nat × Nat)}, slotsOk1 bj (looks ops y) (writes y) l = true → ∀ i x, (i, looks ops x, writes x) ∈ l → Share ops x y → Nat.testBit bj i = true
  | [], _, i, x, h, _ => by simp at h
  | (k, lk, wk) :: l, h, i, x, hm, hs => by
    simp only [slotsOk1, sel_eq, beq_iff] at h
    rw [List.mem_cons] at hm
    rcases hm with hm | hm
    · injection hm with h1 h2
      injection h2 with h2 h3
      subst h1 h2 h3
      split at h
      · rename_i h0
        exfalso
        have h0 : ((writes x &&& (looks ops y ||| writes y)) ||| (looks ops x &&& writes y)) = 0 := h0
        obtain ⟨t, ht⟩ := hs
        have hz : Nat.testBit ((writes x &&& (looks ops y ||| writes y)) ||| (looks ops x &&& writes y)) t = false := by rw [h0]; simp
        simp only [Nat.testBit_or, Nat.testBit_and, Bool.or_eq_false_iff, Bool.and_eq_false_iff] at hz
        obtain ⟨hz1, hz2⟩ := hz
        rcases ht with ⟨h1, h2⟩ | ⟨h1, h2⟩
        · rcases hz1 with hz1 | ⟨hz1, hz3⟩
          · rw [writes_bit.2 h1] at hz1; cases hz1
          · rcases h2 with h2 | h2
            · rw [looks_bit.2 h2] at hz1; cases hz1
            · rw [writes_bit.2 h2] at hz3; cases hz3
        · rcases hz2 with hz2 | hz2
          · rw [looks_bit.2 h1] at hz2; cases hz2
          · rw [writes_bit.2 h2] at hz2; cases hz2
      · split at h
        · assumption
        · cases h
    · split at h
      · exact slotsOk1_ok h i x hm hs
      · split at h
        · exact slotsOk1_ok h i x hm hs
        · cases h
theorem slotsOk_ok {ops : Array Oper} : ∀ {l : List Oper} {bs : List Nat} {n : Nat} {acc : List (Nat × Nat × Nat)}, slotsOk ops l bs n acc = true → ∀ j y b, l[j]? = some y → bs[j]? = some b →
    (∀ i x, (i, looks ops x, writes x) ∈ acc → Share ops x y → Nat.testBit b i = true) ∧ (∀ i x, i < j → l[i]? = some x → Share ops x y → Nat.testBit b (n + i) = true)
  | [], bs, n, acc, _, j, y, b, h, _ => by simp at h
  | o :: l, [], n, acc, h, _, _, _, _, hb => by simp at hb
  | o :: l, b0 :: bs, n, acc, h, j, y, b, hy, hb => by
    simp only [slotsOk, sel_eq] at h
    split at h
    case isFalse => cases h
    rename_i h1
    cases j with
    | zero =>
      simp only [List.getElem?_cons_zero] at hy hb
      injection hy with hy; subst hy
      injection hb with hb; subst hb
      exact ⟨fun i x hm hs => slotsOk1_ok h1 i x hm hs, fun i x hi => by omega⟩
    | succ j =>
      simp only [List.getElem?_cons_succ] at hy hb
      obtain ⟨g1, g2⟩ := slotsOk_ok h j y b hy hb
      refine ⟨fun i x hm hs => g1 i x (by simp [hm]) hs, fun i x hi hx hs => ?_⟩
      cases i with
      | zero =>
        simp only [List.getElem?_cons_zero] at hx
        injection hx with hx; subst hx
        exact g1 n _ (by simp) hs
      | succ i =>
        simp only [List.getElem?_cons_succ] at hx
        have := g2 i x (by omega) hx hs
        rw [show n + (i + 1) = Nat.succ n + i by omega]; exact this
/-- what drawOk says -/
theorem drawOk_ok {ops : Array Oper} (h : drawOk ops = true) : edgesOk ops.toList 0 = true ∧ ∀ i j x y, i < j → ops[i]? = some x → ops[j]? = some y → Share ops x y → Bef ops j i := by
  simp only [drawOk, sel_eq] at h
  split at h
  case isFalse => cases h
  rename_i he
  refine ⟨he, fun i j x y hij hx hy hs => ?_⟩
  have hlen : (befs ops.toList).length = ops.size := by
    have := (befAll_ok (bs := []) (From.all ops) he ⟨rfl, fun k hk => by omega⟩).1
    unfold befs; rw [List.length_reverse, this]; simp
  have hj : j < ops.size := (Array.getElem?_eq_some_iff.1 hy).1
  have hb : (befs ops.toList)[j]? = some ((befs ops.toList)[j]'(by omega)) := List.getElem?_eq_getElem _
  have := (slotsOk_ok h j y _ (by simpa using hy) hb).2 i x hij (by simpa using hx) hs
  rw [Nat.zero_add] at this
  exact befs_ok he hb this
end Go.Ew

/- AN OPERATION LOOKS AT ITS OPERANDS' SLOTS ALONE. -/
namespace Go.Ew

def Agrees (env env' : Env) (l : List Operand) : Prop := ∀ x ∈ l, arg env x = arg env' x
theorem args_congr {env env' : Env} : ∀ {l : List Operand}, Agrees env env' l → args env l = args env' l
  | [], _ => rfl
  | x :: l, h => by
    simp only [args, h x (by simp), args_congr (l := l) fun y hy => h y (by simp [hy])]
theorem parts_congr {env env' : Env} : ∀ {l : List (Nat × Operand)}, Agrees env env' (l.map (·.2)) → parts env l = parts env' l
  | [], _ => rfl
  | (i, x) :: l, h => by
    simp only [parts, h x (by simp), parts_congr (l := l) fun y hy => h y (by simp only [List.map_cons, List.mem_cons]; exact .inr hy)]
theorem argO_congr {env env' : Env} {o : Option Operand} (h : ∀ x, o = some x → arg env x = arg env' x) : argO env o = argO env' o := by
  cases o with
  | none => rfl
  | some x => simp only [argO, h x rfl]
section
variable {P : Program}
theorem evQ_congr {env env' : Env} (H : Heap) {op : Op} (h : Agrees env env' op.operands.toList) : evQ P env H op = evQ P env' H op := by
  cases op with
  | move x => exact h x (by simp [Op.operands])
  | assign x => exact h x (by simp [Op.operands])
  | pick c a b => simp only [evQ, qPick, h c (by simp [Op.operands]), h a (by simp [Op.operands]), h b (by simp [Op.operands])]
  | load t a => simp only [evQ, qLoad, h a (by simp [Op.operands])]
  | nilCheck x => simp only [evQ, qNil, h x (by simp [Op.operands])]
  | binOp op t x y yt => simp only [evQ, qBin, h x (by simp [Op.operands]), h y (by simp [Op.operands])]
  | unOp op t x => simp only [evQ, qUn, h x (by simp [Op.operands])]
  | convert s d x => simp only [evQ, qConv, h x (by simp [Op.operands])]
  | makeFunc fn a c =>
    simp only [evQ, qFunc, args_congr (l := a.toList) fun x hx => h x (by simp [Op.operands]; simp at hx; exact .inl hx), args_congr (l := c.toList) fun x hx => h x (by simp [Op.operands]; simp at hx; exact .inr hx)]
  | slice t x lo hi mx =>
    simp only [evQ, qSlice, h x (by simp [Op.operands]), argO_congr (o := lo) fun y hy => h y (by subst hy; simp [Op.operands]), argO_congr (o := hi) fun y hy => h y (by subst hy; simp [Op.operands]), argO_congr (o := mx) fun y hy => h y (by subst hy; simp [Op.operands])]
  | fieldAddr t x i => simp only [evQ, qFieldAddr, h x (by simp [Op.operands])]
  | field t x i => simp only [evQ, qField, h x (by simp [Op.operands])]
  | indexAddr t x i => simp only [evQ, qIndexAddr, h x (by simp [Op.operands]), h i (by simp [Op.operands])]
  | index t x i =>
    have hx := h x (by simp [Op.operands])
    simp only [evQ, qIndex, h i (by simp [Op.operands])]
    congr 1; funext v; congr 1; funext n; congr 1; funext d
    cases d <;> first | rfl | (simp only [hx]; done) | (cases x <;> first | rfl | (rename_i v2; cases v2 <;> rfl))
  | extract x i => simp only [evQ, qExtract, h x (by simp [Op.operands])]
  | build t ps => simp only [evQ, qBuild, parts_congr (l := ps.toList) fun x hx => h x (by simpa [Op.operands] using hx)]
  | call c =>
    obtain ⟨callee, cargs, cts⟩ := c
    cases callee <;> first
      | rfl
      | simp only [evQ, qCall, args_congr (l := cargs.toList) fun x hx => h x (by simp [Op.operands, Call.operands]; simpa using hx)]
  | _ => rfl
theorem evAl_congr {env env' : Env} {op : Op} (h : Agrees env env' op.operands.toList) : evAl P env op = evAl P env' op := by
  cases op with
  | box t x => simp only [evAl, alBox, h x (by simp [Op.operands])]
  | buildSlice t n ps => simp only [evAl, alSlice, parts_congr (l := ps.toList) fun x hx => h x (by simpa [Op.operands] using hx)]
  | makeSlice t l c => simp only [evAl, alMake, h l (by simp [Op.operands]), h c (by simp [Op.operands])]
  | _ => rfl
theorem evE_congr {β : Type} {env env' : Env} (H : Heap) (nx : Nat) (k : AV → Heap → Nat → Res β) {op : Op} (h : Agrees env env' op.operands.toList) : evE P env H nx op k = evE P env' H nx op k := by
  cases op with
  | store t a x => simp only [evE, h a (by simp [Op.operands]), h x (by simp [Op.operands])]
  | call c =>
    obtain ⟨callee, cargs, cts⟩ := c
    cases callee <;> first
      | rfl
      | simp only [evE, args_congr (l := cargs.toList) fun x hx => h x (by simp [Op.operands, Call.operands]; simpa using hx)]
  | _ => rfl
theorem evCall_congr {env env' : Env} {op : Op} (h : Agrees env env' op.operands.toList) : evCall env op = evCall env' op := by
  cases op with
  | call c =>
    obtain ⟨callee, cargs, cts⟩ := c
    cases callee with
    | value f =>
      have h1 : args env cargs.toList = args env' cargs.toList := args_congr (l := cargs.toList) fun x hx => h x (by simp [Op.operands, Call.operands]; exact .inr (by simpa using hx))
      have h2 : arg env f = arg env' f := h f (by simp [Op.operands, Call.operands])
      have h3 : calleeA env cargs.toList = calleeA env' cargs.toList := by funext v; simp only [calleeA, h1]
      simp only [evCall, h2, h3]
    | _ => rfl
  | _ => rfl
/-- quiet operations that do not read memory -/
theorem evQ_heap {env : Env} {H H' : Heap} {op : Op} (h1 : ∀ t a, op ≠ .load t a) (h2 : ∀ t x l h m, op ≠ .slice t x l h m) : evQ P env H op = evQ P env H' op := by
  cases op <;> first | rfl | exact absurd rfl (h1 _ _) | exact absurd rfl (h2 _ _ _ _ _)
end

/-- the values at some numbers alone -/
def Tr.keep {α : Type} : Tr α → (Nat → Bool) → Tr α
  | .lf, _ => .lf
  | .nd v l r, p => .nd (if p 0 then v else none) (l.keep fun i => p (2 * i + 1)) (r.keep fun i => p (2 * i + 2))
theorem keep_get {α : Type} : ∀ (t : Tr α) (p : Nat → Bool) (j : Nat), (t.keep p).get j = if p j then t.get j else none
  | .lf, p, j => by simp [Tr.keep, get_lf]
  | .nd v l r, p, j => by
    rw [Tr.keep, get_nd, get_nd]
    by_cases h0 : j = 0
    · subst h0; simp
    · rw [if_neg h0, if_neg h0]
      by_cases h1 : j % 2 = 1
      · rw [if_pos h1, if_pos h1, keep_get l, show 2 * (j / 2) + 1 = j by omega]
      · rw [if_neg h1, if_neg h1, keep_get r, show 2 * (j / 2 - 1) + 2 = j by omega]

/-- the slots that an operation looks at, alone -/
noncomputable def cut (ops : Array Oper) (o : Oper) (env : Env) : Env := env.keep fun t => Nat.testBit (looks ops o) t
theorem cut_get {ops : Array Oper} {o : Oper} {env : Env} {t : Nat} {v : AV} (h : (cut ops o env).get t = some v) : t ∈ o.looksAt ops ∧ env.get t = some v := by
  unfold cut at h
  rw [keep_get] at h
  split at h
  · rename_i hb; exact ⟨looks_bit.1 hb, h⟩
  · cases h
theorem cut_agrees {ops : Array Oper} {o : Oper} {env : Env} : Agrees env (cut ops o env) o.op.operands.toList := by
  intro x hx
  cases x with
  | tmp t =>
    have : t ∈ o.looksAt ops := looksAt_mem.2 (.inl hx)
    simp only [arg, cut, keep_get, looks_bit.2 this, if_true]
  | _ => rfl
theorem cut_guard {ops : Array Oper} {o : Oper} {env : Env} : guardA ops (cut ops o env) o = guardA ops env o := by
  unfold guardA
  cases hg : o.guard with
  | none => rfl
  | some gw =>
    obtain ⟨g, wv⟩ := gw
    simp only [guardJ]
    cases ht : (ops[g]?).bind (·.dst) with
    | none => rfl
    | some t =>
      have : t ∈ o.looksAt ops := looksAt_mem.2 (.inr ⟨g, wv, hg, ht⟩)
      show ofOpt ((cut ops o env).get t) _ _ = ofOpt (env.get t) _ _
      rw [cut, keep_get, looks_bit.2 this, if_pos rfl]
end Go.Ew

/- WHAT THE EVALUATOR's RUN THROUGH A DRAWN REGION TELLS, operation by operation. -/
namespace Go.Ew

inductive Kd where
  | skip | q | rd | al | e
def Kd.goes : Kd → Bool
  | .skip => false
  | _ => true

def Kd.isE : Kd → Bool
  | .e => true
  | _ => false
def Kd.isRd : Kd → Bool
  | .rd => true
  | _ => false

/-- what an effect (or a call) comes to, whatever the slots beside its own hold -/
def EffW (P : Program) (ops : Array Oper) (o : Oper) (env : Env) (H : Heap) (nx : Nat) (v : AV) (H' : Heap) (nx' : Nat) : Prop :=
  ∀ (F : Fence), Wide F → ∀ (ι : Ix) (w : World) (N : Nat) (a : Act) (K : Act → World → Prop) (Q : Exit → Act → World → Prop), HR ι H w → Wf H nx → Fresh ι nx N → nx' ≤ N → ER ι (cut ops o env) a.tmps →
    (∀ ι' w' x, VR ι' v x → HR ι' H' w' → Stp ι H nx w ι' H' nx' w' → K (a.put o.dst x) w') → o.wpIn F 0 P a w K Q
/-- a block as it was made -/
structure Made (nx : Nat) (l : List AV) (blk : Blk) (H H' : Heap) : Prop where
  get : ∀ j, H'.get j = if j = nx then some blk else H.get j
  ver : blk.ver = 0
  exts : blk.exts = []
  esz : blk.esz = 0
  loop : blk.loop = none
  size : blk.size = l.length
  cells : ∀ i, i < l.length → blk.cells.get i = l[i]?
  one : allOne l = true
def Does (P : Program) (ops : Array Oper) (o : Oper) (env : Env) (H : Heap) (nx : Nat) (v : AV) (H' : Heap) (nx' : Nat) : Kd → Prop
  | .skip => v = noVal ∧ H' = H ∧ nx' = nx
  | .q => evQ P env H o.op = .ok v ∧ (∀ t a, o.op ≠ .load t a) ∧ (∀ t x l h m, o.op ≠ .slice t x l h m) ∧ H' = H ∧ nx' = nx
  | .rd => evQ P env H o.op = .ok v ∧ H' = H ∧ nx' = nx
  | .al => ∃ r blk, evAl P env o.op = .ok r ∧ v = madeVal nx r.2 ∧ nx' = nx + 1 ∧ Made nx r.1 blk H H'
  | .e => EffW P ops o env H nx v H' nx'
structure At (P : Program) (ops : Array Oper) (sz : Nat) (o : Oper) (kd : Kd) (env : Env) (H : Heap) (nx : Nat) (v : AV) (env' : Env) (H' : Heap) (nx' : Nat) : Prop where
  dst : ∀ t, o.dst = some t → t < sz
  put : ∀ j, env'.get j = if o.dst = some j then some v else env.get j
  nxle : nx ≤ nx'
  guard : guardA ops env o = .ok kd.goes
  does : Does P ops o env H nx v H' nx' kd

structure Tc (P : Program) (ops : Array Oper) (sz i n : Nat) (m : Mem) (En : Nat → Env) (Hp : Nat → Heap) (Nx : Nat → Nat) (Vl : Nat → AV) (kd : Nat → Kd) : Prop where
  at_ : ∀ k, i ≤ k → k < n → ∃ o, ops[k]? = some o ∧ At P ops sz o (kd k) (En k) (Hp k) (Nx k) (Vl k) (En (k + 1)) (Hp (k + 1)) (Nx (k + 1))
  chain0 : ∀ k, i ≤ k → k < n → kd k = .e → ∀ e ∈ m.effs, Bef ops k e.1
  chain : ∀ k, i ≤ k → k < n → kd k = .e → ∀ j, i ≤ j → j < k → kd j = .e → Bef ops k j
  rdE0 : ∀ k, i ≤ k → k < n → kd k = .e → ∀ e ∈ m.reads, Bef ops k e.1 ∨ evQ P e.2.1 (Hp (k + 1)) e.2.2.1 = .ok e.2.2.2
  rdE : ∀ k, i ≤ k → k < n → kd k = .e → ∀ j o, i ≤ j → j < k → kd j = .rd → ops[j]? = some o → Bef ops k j ∨ evQ P (En j) (Hp (k + 1)) o.op = .ok (Vl j)
  eRd0 : ∀ k o, i ≤ k → k < n → kd k = .rd → ops[k]? = some o → ∀ e ∈ m.effs, Bef ops k e.1 ∨ evQ P (En k) e.2 o.op = .ok (Vl k)
  eRd : ∀ k o, i ≤ k → k < n → kd k = .rd → ops[k]? = some o → ∀ j, i ≤ j → j < k → kd j = .e → Bef ops k j ∨ evQ P (En k) (Hp j) o.op = .ok (Vl k)

/-- the effects that are remembered stand in a chain -/
def Chained (ops : Array Oper) (m : Mem) : Prop := match m.effs with
  | [] => True
  | (h, _) :: r => ∀ e ∈ r, Bef ops h e.1

def upd {α : Type} (i : Nat) (x : α) (f : Nat → α) : Nat → α := fun k => if k = i then x else f k
theorem upd_at {α : Type} {i : Nat} {x : α} {f : Nat → α} : upd i x f i = x := by simp [upd]
theorem upd_ne {α : Type} {i k : Nat} {x : α} {f : Nat → α} (h : k ≠ i) : upd i x f k = f k := by simp [upd, h]

section
variable {P : Program} {ops : Array Oper}

/-- one operation ahead of a trace -/
theorem Tc.cons {sz i n : Nat} {m m' : Mem} {En : Nat → Env} {Hp : Nat → Heap} {Nx : Nat → Nat} {Vl : Nat → AV} {kd : Nat → Kd} {o : Oper} {env : Env} {H : Heap} {nx : Nat} {v : AV} {κ : Kd}
    (h : Tc P ops sz (i + 1) n m' En Hp Nx Vl kd) (ho : ops[i]? = some o) (ha : At P ops sz o κ env H nx v (En (i + 1)) (Hp (i + 1)) (Nx (i + 1)))
    (he : m'.effs = if κ.isE = true then (i, H) :: m.effs else m.effs) (hrd : m'.reads = if κ.isRd = true then (i, env, o.op, v) :: m.reads else m.reads)
    (c1 : κ = .e → ∀ e ∈ m.effs, Bef ops i e.1) (c2 : κ = .e → ∀ e ∈ m.reads, Bef ops i e.1 ∨ evQ P e.2.1 (Hp (i + 1)) e.2.2.1 = .ok e.2.2.2)
    (c3 : κ = .rd → ∀ e ∈ m.effs, Bef ops i e.1 ∨ evQ P env e.2 o.op = .ok v) :
    Tc P ops sz i n m (upd i env En) (upd i H Hp) (upd i nx Nx) (upd i v Vl) (upd i κ kd) := by
  have sub : ∀ e ∈ m.effs, e ∈ m'.effs := fun e h' => by rw [he]; split <;> simp [h']
  have sub2 : ∀ e ∈ m.reads, e ∈ m'.reads := fun e h' => by rw [hrd]; split <;> simp [h']
  refine ⟨fun k h1 h2 => ?_, fun k h1 h2 h3 e hm => ?_, fun k h1 h2 h3 j h4 h5 h6 => ?_, fun k h1 h2 h3 e hm => ?_, fun k h1 h2 h3 j oj h4 h5 h6 h7 => ?_, fun k ok h1 h2 h3 h4 e hm => ?_, fun k ok h1 h2 h3 h4 j h5 h6 h7 => ?_⟩
  · by_cases hk : k = i
    · subst hk
      refine ⟨o, ho, ?_⟩
      rw [upd_at, upd_at, upd_at, upd_at, upd_at, upd_ne (by omega), upd_ne (by omega), upd_ne (by omega)]
      exact ha
    · obtain ⟨ok, g1, g2⟩ := h.at_ k (by omega) h2
      refine ⟨ok, g1, ?_⟩
      rw [upd_ne hk, upd_ne hk, upd_ne hk, upd_ne hk, upd_ne hk, upd_ne (by omega), upd_ne (by omega), upd_ne (by omega)]
      exact g2
  · by_cases hk : k = i
    · subst hk; rw [upd_at] at h3; exact c1 h3 e hm
    · rw [upd_ne hk] at h3; exact h.chain0 k (by omega) h2 h3 e (sub e hm)
  · have hk : k ≠ i := by omega
    rw [upd_ne hk] at h3
    by_cases hj : j = i
    · subst hj
      rw [upd_at] at h6
      refine h.chain0 k (by omega) h2 h3 (j, H) ?_
      rw [he, h6]; simp [Kd.isE]
    · rw [upd_ne hj] at h6; exact h.chain k (by omega) h2 h3 j (by omega) h5 h6
  · by_cases hk : k = i
    · subst hk; rw [upd_at] at h3; rw [upd_ne (by omega)]; exact c2 h3 e hm
    · rw [upd_ne hk] at h3; rw [upd_ne (by omega)]; exact h.rdE0 k (by omega) h2 h3 e (sub2 e hm)
  · have hk : k ≠ i := by omega
    rw [upd_ne hk] at h3
    rw [upd_ne (show k + 1 ≠ i by omega)]
    by_cases hj : j = i
    · subst hj
      rw [upd_at] at h6
      rw [upd_at, upd_at]
      rw [ho] at h7; injection h7 with h7; subst h7
      refine h.rdE0 k (by omega) h2 h3 (j, env, o.op, v) ?_
      rw [hrd, h6]; simp [Kd.isRd]
    · rw [upd_ne hj] at h6
      rw [upd_ne hj, upd_ne hj]
      exact h.rdE k (by omega) h2 h3 j oj (by omega) h5 h6 h7
  · by_cases hk : k = i
    · subst hk
      rw [upd_at] at h3
      rw [upd_at, upd_at]
      rw [ho] at h4; injection h4 with h4; subst h4
      exact c3 h3 e hm
    · rw [upd_ne hk] at h3
      rw [upd_ne hk, upd_ne hk]
      exact h.eRd0 k ok (by omega) h2 h3 h4 e (sub e hm)
  · have hk : k ≠ i := by omega
    rw [upd_ne hk] at h3
    rw [upd_ne hk, upd_ne hk]
    by_cases hj : j = i
    · subst hj
      rw [upd_at] at h7
      rw [upd_at]
      refine h.eRd0 k ok (by omega) h2 h3 h4 (j, H) ?_
      rw [he, h7]; simp [Kd.isE]
    · rw [upd_ne hj] at h7
      rw [upd_ne hj]
      exact h.eRd k ok (by omega) h2 h3 h4 j (by omega) h6 h7

theorem againReads_ok {bi : Nat} {H : Heap} : ∀ {l : List (Nat × Env × Op × AV)}, againReads P bi H l = true → ∀ e ∈ l, Nat.testBit bi e.1 = true ∨ evQ P e.2.1 H e.2.2.1 = .ok e.2.2.2
  | [], _, e, h => by simp at h
  | (j, env, op, v) :: l, h, e, hm => by
    rw [againReads, sel_eq] at h
    split at h
    case isFalse => cases h
    rename_i h1
    rw [sel_eq] at h1
    rw [List.mem_cons] at hm
    rcases hm with hm | hm
    · subst hm
      split at h1
      · exact .inl (by assumption)
      · right
        unfold isOk at h1
        split at h1
        · rename_i u hu; rw [← same_eq h1]; exact hu
        · cases h1
    · exact againReads_ok h e hm
theorem againEffs_ok {bi : Nat} {env : Env} {op : Op} {v : AV} : ∀ {l : List (Nat × Heap)}, againEffs P bi env op v l = true → ∀ e ∈ l, Nat.testBit bi e.1 = true ∨ evQ P env e.2 op = .ok v
  | [], _, e, h => by simp at h
  | (j, H) :: l, h, e, hm => by
    rw [againEffs, sel_eq] at h
    split at h
    case isFalse => cases h
    rename_i h1
    rw [sel_eq] at h1
    rw [List.mem_cons] at hm
    rcases hm with hm | hm
    · subst hm
      split at h1
      · exact .inl (by assumption)
      · right
        unfold isOk at h1
        split at h1
        · rename_i u hu; rw [← same_eq h1]; exact hu
        · cases h1
    · exact againEffs_ok h e hm
theorem chainOk_ok {m : Mem} {bi i : Nat} (hc : Chained ops m) (hb : ∀ j, Nat.testBit bi j = true → Bef ops i j) (h : chainOk bi m.effs = true) : ∀ e ∈ m.effs, Bef ops i e.1 := by
  unfold Chained at hc
  intro e he
  cases hm : m.effs with
  | nil => rw [hm] at he; simp at he
  | cons x r =>
    rw [hm] at he hc h
    obtain ⟨j, Hj⟩ := x
    have hj := hb j h
    rw [List.mem_cons] at he
    rcases he with he | he
    · subst he; exact hj
    · exact hj.trans (hc e he)

/-- an effect by evE -/
theorem evE_effW {β : Type} {o : Oper} {env : Env} {H : Heap} {nx : Nat} {k : AV → Heap → Nat → Res β} {r : β} (h : evE P env H nx o.op k = .ok r) :
    ∃ v H' nx', k v H' nx' = .ok r ∧ nx ≤ nx' ∧ EffW P ops o env H nx v H' nx' := by
  rw [evE_congr H nx k (cut_agrees (ops := ops))] at h
  have hnd := evE_nd h
  obtain ⟨v, H', nx', hk, hnx, hE⟩ := evE_ex (P := P) h
  refine ⟨v, H', nx', hk, hnx, fun F hF ι w N a K Q hr hw hf hN he hK => ?_⟩
  obtain ⟨ι', w', x, g1, g2, g3, g4⟩ := hE ι w N a o rfl hr hw hf hN he
  refine wpIn_intro hF hnd ?_
  rcases g1 with g1 | ⟨g1, rfl⟩
  · simp only [g1, Oper.uponIn]; exact hK ι' w' x g2 g3 g4
  · simp only [g1, Oper.uponIn]; exact hK ι' w' undef g2 g3 g4
theorem call_effW {ev : Evr} (hs : SoundE P ev) {β : Type} {o : Oper} {env : Env} {H : Heap} {nx : Nat} {q : Callee × List AV} {k : AV → Heap → Nat → Res β} {r : β} (hq : evCall env o.op = .ok q) (h : anyK P ev q.1 q.2 H nx k = .ok r) :
    ∃ v H' nx', k v H' nx' = .ok r ∧ nx ≤ nx' ∧ EffW P ops o env H nx v H' nx' := by
  rw [evCall_congr (cut_agrees (ops := ops))] at hq
  obtain ⟨v, H', nx', hk, hnx, hC⟩ := anyK_ex hs hq h
  exact ⟨v, H', nx', hk, hnx, fun F hF ι w N a K Q hr hw hf hN he hK => hC F hF ι w N a o K Q rfl hr hw hf hN he hK⟩

theorem evDrw_tc {ev : Evr} (hs : SoundE P ev) {sz : Nat} (hbits : ∀ (k b j : Nat), (befs ops.toList)[k]? = some b → Nat.testBit b j = true → Bef ops k j) :
    ∀ {l : List Oper} {bs : List Nat} {i : Nat} {m : Mem} {env : Env} {H : Heap} {nx : Nat} {fin : Fin}, From ops i l → (∀ j, bs[j]? = (befs ops.toList)[i + j]?) → Chained ops m → evDrw P ev sz ops l bs i m env H nx = .ok fin →
      fin.x = .normal ∧ ∃ En Hp Nx Vl kd, Tc P ops sz i (i + l.length) m En Hp Nx Vl kd ∧ En i = env ∧ Hp i = H ∧ Nx i = nx ∧ En (i + l.length) = fin.env ∧ Hp (i + l.length) = fin.H ∧ Nx (i + l.length) = fin.nx
  | [], bs, i, m, env, H, nx, fin, _, _, _, h => by
    cases ok_inj (show Res.ok (⟨.normal, env, H, nx⟩ : Fin) = Res.ok fin from h)
    refine ⟨rfl, fun _ => env, fun _ => H, fun _ => nx, fun _ => noVal, fun _ => .skip, ?_, rfl, rfl, rfl, rfl, rfl, rfl⟩
    constructor <;> (intros; simp only [List.length_nil] at *; omega)
  | o :: l, bs, i, m, env, H, nx, fin, hfrom, hbs, hch, h => by
    obtain ⟨hoi, hfrom'⟩ := hfrom.cons
    change drwStep P ev sz ops o (evDrw P ev sz ops l) bs i m env H nx = .ok fin at h
    unfold drwStep at h
    cases bs with
    | nil => cases h
    | cons b bs =>
      simp only at h
      have hb0 : (befs ops.toList)[i]? = some b := by have := hbs 0; simpa using this.symm
      have hbit : ∀ j, Nat.testBit b j = true → Bef ops i j := fun j => hbits i b j hb0
      have hbs' : ∀ j, bs[j]? = (befs ops.toList)[i + 1 + j]? := fun j => by
        have := hbs (j + 1)
        rw [List.getElem?_cons_succ] at this
        rw [this, show i + (j + 1) = i + 1 + j by omega]
      obtain ⟨g, hg, h⟩ := and_ok h
      -- a step, and the rest
      have step : ∀ {κ : Kd} {v : AV} {env' : Env} {H' : Heap} {nx' : Nat} {m' : Mem}, evDrw P ev sz ops l bs (Nat.succ i) m' env' H' nx' = .ok fin →
          Does P ops o env H nx v H' nx' κ → guardA ops env o = .ok κ.goes → nx ≤ nx' → (∀ t, o.dst = some t → t < sz) → (∀ j, env'.get j = if o.dst = some j then some v else env.get j) →
          (m'.effs = if κ.isE = true then (i, H) :: m.effs else m.effs) → (m'.reads = if κ.isRd = true then (i, env, o.op, v) :: m.reads else m.reads) →
          (κ = .e → ∀ e ∈ m.effs, Bef ops i e.1) → (κ = .e → ∀ e ∈ m.reads, Bef ops i e.1 ∨ evQ P e.2.1 H' e.2.2.1 = .ok e.2.2.2) → (κ = .rd → ∀ e ∈ m.effs, Bef ops i e.1 ∨ evQ P env e.2 o.op = .ok v) →
          fin.x = .normal ∧ ∃ En Hp Nx Vl kd, Tc P ops sz i (i + (o :: l).length) m En Hp Nx Vl kd ∧ En i = env ∧ Hp i = H ∧ Nx i = nx ∧ En (i + (o :: l).length) = fin.env ∧ Hp (i + (o :: l).length) = fin.H ∧ Nx (i + (o :: l).length) = fin.nx := by
        intro κ v env' H' nx' m' hk hdo hgu hnx hd hput he hrd c1 c2 c3
        have hch' : Chained ops m' := by
          unfold Chained
          rw [he]
          by_cases hκ : κ = .e
          · subst hκ; exact c1 rfl
          · have : κ.isE = false := by cases κ <;> first | rfl | exact absurd rfl hκ
            rw [this]; exact hch
        obtain ⟨hx, En, Hp, Nx, Vl, kd, ht, e1, e2, e3, e4, e5, e6⟩ := evDrw_tc hs hbits hfrom' hbs' hch' hk
        have hlen : i + (o :: l).length = i + 1 + l.length := by simp; omega
        rw [hlen]
        refine ⟨hx, upd i env En, upd i H Hp, upd i nx Nx, upd i v Vl, upd i κ kd, ?_, upd_at, upd_at, upd_at, ?_, ?_, ?_⟩
        · refine ht.cons hoi ⟨hd, ?_, ?_, hgu, ?_⟩ he hrd c1 ?_ c3
          · rw [e1]; exact hput
          · rw [e3]; exact hnx
          · rw [e2, e3]; exact hdo
          · rw [e2]; exact c2
        · rw [upd_ne (by omega)]; exact e4
        · rw [upd_ne (by omega)]; exact e5
        · rw [upd_ne (by omega)]; exact e6
      rw [sel_eq] at h
      split at h
      case isFalse hgf =>
        have hgf : g = false := by simpa using hgf
        subst hgf
        obtain ⟨env', hk, hd, hgt⟩ := putQ_ok h
        exact step (κ := .skip) hk ⟨rfl, rfl, rfl⟩ hg (Nat.le_refl _) hd hgt rfl rfl (by simp) (by simp) (by simp)
      case isTrue hgt0 =>
        subst hgt0
        unfold drwDo at h
        have hcls : ∀ c, cls o.op = c → (c = .mv ∨ c = .q) → (∀ t a, o.op ≠ .load t a) ∧ (∀ t x l h m, o.op ≠ .slice t x l h m) := by
          intro c hc hcc
          refine ⟨fun t a ho => ?_, fun t x l h m ho => ?_⟩ <;> (rw [ho] at hc; rcases hcc with rfl | rfl <;> cases hc)
        cases hc : cls o.op with
        | mv =>
          rw [hc] at h
          obtain ⟨v, hv, h⟩ := and_ok h
          obtain ⟨env', hk, hd, hgt⟩ := putQ_ok h
          obtain ⟨n1, n2⟩ := hcls _ hc (.inl rfl)
          exact step (κ := .q) hk ⟨hv, n1, n2, rfl, rfl⟩ hg (Nat.le_refl _) hd hgt rfl rfl (by simp) (by simp) (by simp)
        | q =>
          rw [hc] at h
          obtain ⟨v, hv, h⟩ := and_ok h
          obtain ⟨env', hk, hd, hgt⟩ := putK_ok h
          obtain ⟨n1, n2⟩ := hcls _ hc (.inr rfl)
          exact step (κ := .q) hk ⟨hv, n1, n2, rfl, rfl⟩ hg (Nat.le_refl _) hd hgt rfl rfl (by simp) (by simp) (by simp)
        | rd =>
          rw [hc] at h
          obtain ⟨v, hv, h⟩ := and_ok h
          obtain ⟨hag, h⟩ := must_ok h
          obtain ⟨env', hk, hd, hgt⟩ := putK_ok h
          exact step (κ := .rd) hk ⟨hv, rfl, rfl⟩ hg (Nat.le_refl _) hd hgt rfl rfl (by simp) (by simp) (fun _ e he => (againEffs_ok hag e he).imp (hbit _) id)
        | al =>
          rw [hc] at h
          obtain ⟨q, hq, h⟩ := and_ok h
          obtain ⟨H1, hk, ⟨blk, b1, b2, b3, b4, b0, b5, b6, b7⟩, _⟩ := newBlk_ex h
          obtain ⟨env', hk, hd, hgt⟩ := putK_ok hk
          exact step (κ := .al) hk ⟨q, blk, hq, rfl, rfl, ⟨b1, b2, b3, b4, b0, b5, b6, b7⟩⟩ hg (Nat.le_succ _) hd hgt rfl rfl (by simp) (by simp) (by simp)
        | e =>
          rw [hc] at h
          obtain ⟨hco, h⟩ := must_ok h
          obtain ⟨v, H', nx', hk, hnx, hE⟩ := evE_effW (ops := ops) h
          obtain ⟨hag, hk⟩ := must_ok hk
          obtain ⟨env', hk, hd, hgt⟩ := putK_ok hk
          exact step (κ := .e) hk hE hg hnx hd hgt rfl rfl (fun _ => chainOk_ok hch hbit hco) (fun _ e he => (againReads_ok hag e he).imp (hbit _) id) (by simp)
        | call =>
          rw [hc] at h
          obtain ⟨hco, h⟩ := must_ok h
          obtain ⟨q, hq, h⟩ := and_ok h
          obtain ⟨v, H', nx', hk, hnx, hE⟩ := call_effW (ops := ops) hs hq h
          obtain ⟨hag, hk⟩ := must_ok hk
          obtain ⟨env', hk, hd, hgt⟩ := putK_ok hk
          exact step (κ := .e) hk hE hg hnx hd hgt rfl rfl (fun _ => chainOk_ok hch hbit hco) (fun _ e he => (againReads_ok hag e he).imp (hbit _) id) (by simp)
end
end Go.Ew

/- A DRAWN REGION, in whatever order. -/
namespace Go.Ew
section
variable {P : Program} {w : World} {ι : Ix} {H H' : Heap}

theorem HR.add' (hr : HR ι H w) {b0 : Nat} {blk : Blk} (hH : ∀ j, H'.get j = if j = b0 then some blk else H.get j) (hver : blk.ver = 0) (hexts : blk.exts = []) (hlp : blk.loop = none) (h0 : ∀ v, v ≠ 0 → ι b0 v = none)
    (hc : ∀ p, ι b0 0 = some p → p.esz = blk.esz ∧ ∃ cs el, w.heap[p.blk]? = some (.cells cs el (0, 0)) ∧ cs.size = p.size ∧ blk.size ≤ p.size ∧ ∀ i, i < blk.size → ∃ a x, blk.cells.get i = some a ∧ cs[i]? = some x ∧ VR ι a x ∧ a.one = true) : HR ι H' w := by
  refine ⟨fun b bk v e p h1 h2 h3 => ?_, fun b bk v p h1 h3 => ?_, fun b bk v h1 h2 => ?_, fun b bk h1 => ?_, hr.inj, hr.bound, fun b bk r p h1 h2 h3 => ?_⟩
  · rw [hH] at h1
    split at h1
    · rename_i hb
      subst hb
      injection h1 with h1; subst h1
      by_cases hv : v = 0
      · subst hv
        obtain ⟨_, cs, el, g1, g2, g3, g4⟩ := hc p h3
        have : e = blk.size := by
          have := ext_ver blk
          rw [hver] at this; rw [this] at h2; injection h2 with h2; exact h2.symm
        subst this
        exact ⟨cs, el, g1, g2, g3, g4⟩
      · rw [h0 v hv] at h3; cases h3
    · exact hr.cells b bk v e p h1 h2 h3
  · rw [hH] at h1
    split at h1
    · rename_i hb
      subst hb
      injection h1 with h1; subst h1
      by_cases hv : v = 0
      · subst hv; exact (hc p h3).1
      · rw [h0 v hv] at h3; cases h3
    · exact hr.esz b bk v p h1 h3
  · rw [hH] at h1
    split at h1
    · rename_i hb
      subst hb
      injection h1 with h1; subst h1
      exact h0 v (by omega)
    · exact hr.future b bk v h1 h2
  · rw [hH] at h1
    split at h1
    · injection h1 with h1; subst h1; rw [hexts]; trivial
    · exact hr.desc b bk h1
  · rw [hH] at h1
    split at h1
    · injection h1 with h1; subst h1; rw [hlp] at h2; cases h2
    · exact hr.loop b bk r p h1 h2 h3
theorem HR.sub (hr : HR ι H w) (h : ∀ b blk, H'.get b = some blk → H.get b = some blk) : HR ι H' w :=
  ⟨fun b bk v e p h1 h2 h3 => hr.cells b bk v e p (h _ _ h1) h2 h3, fun b bk v p h1 h3 => hr.esz b bk v p (h _ _ h1) h3, fun b bk v h1 h2 => hr.future b bk v (h _ _ h1) h2, fun b bk h1 => hr.desc b bk (h _ _ h1), hr.inj, hr.bound, fun b bk r p h1 h2 h3 => hr.loop b bk r p (h _ _ h1) h2 h3⟩
theorem Stp.trans' {ι1 ι2 : Ix} {H1 H2 : Heap} {nx M m m2 : Nat} {w1 w2 : World} (a : Stp ι H nx w ι1 H1 M w1) (b : Stp ι1 H1 m w1 ι2 H2 m2 w2) (h1 : nx ≤ m) (h2 : m2 ≤ M)
    (hf : Fresh ι nx M) (hw : Wf H nx) : Stp ι H nx w ι2 H2 M w2 := by
  have hsz := a.size
  refine ⟨fun x v p h => b.le _ _ _ (a.le _ _ _ h), fun x v p h => ?_, fun x h => ?_, a.nxle, fun x blk h hn => ?_, fun c hc hh => ?_, Nat.le_trans hsz b.size, b.os.trans a.os, b.output.trans a.output, b.tape.trans a.tape⟩
  · rcases b.new x v p h with g1 | ⟨⟨g1, g2⟩, g3⟩ | ⟨g1, v0, p0, g2, g3⟩
    · exact a.new x v p g1
    · exact .inr (.inl ⟨⟨by omega, by omega⟩, by omega⟩)
    · rcases a.new x v0 p0 g2 with h4 | ⟨⟨h4, h5⟩, h6⟩ | ⟨h4, v1, p1, h5, h6⟩
      · rcases a.dom x g1 with h5 | ⟨h5, h6⟩
        · exact .inr (.inr ⟨h5, v0, p0, h4, g3.imp id (fun h => by omega)⟩)
        · rw [hf x v0 h5 h6] at h4; cases h4
      · exact .inr (.inl ⟨⟨h4, h5⟩, by rcases g3 with h3 | h3 <;> omega⟩)
      · exact .inr (.inr ⟨h4, v1, p1, h5, by rcases g3 with h3 | h3 <;> rcases h6 with h6 | h6 <;> first | (left; omega) | (right; omega)⟩)
  · rcases b.dom x h with g1 | g1
    · exact a.dom x g1
    · exact .inr ⟨by omega, by omega⟩
  · refine b.same x blk (a.same x blk h hn) fun v => ?_
    cases hv : ι1 x v with
    | none => rfl
    | some p =>
      rcases a.new x v p hv with h1 | ⟨⟨h1, _⟩, _⟩ | ⟨_, v0, p0, h1, _⟩
      · rw [hn v] at h1; cases h1
      · rw [hw x h1] at h; cases h
      · rw [hn v0] at h1; cases h1
  · have h1 := a.frame c hc hh
    rw [← h1]
    refine b.frame c (by omega) fun x v p hp hpc => ?_
    rcases a.new x v p hp with h2 | ⟨_, h2⟩ | ⟨h2, v0, p0, h3, h4⟩
    · have h3 := hh x v p h2 hpc
      cases hx : H1.get x with
      | none => rfl
      | some blk =>
        rcases a.dom x (by simp [hx]) with h4 | ⟨h4, h5⟩
        · rw [h3] at h4; cases h4
        · rw [hf x v h4 h5] at h2; cases h2
    · omega
    · rcases h4 with h4 | h4
      · have := hh x v0 p0 h3 (by omega)
        rw [this] at h2; cases h2
      · omega
end

/-- a drawn region's trace, and what its text was asked -/
structure Rg (P : Program) (ops : Array Oper) (sz : Nat) (En : Nat → Env) (Hp : Nat → Heap) (Nx : Nat → Nat) (Vl : Nat → AV) (kd : Nat → Kd) : Prop where
  tc : Tc P ops sz 0 ops.size ⟨[], []⟩ En Hp Nx Vl kd
  edges : edgesOk ops.toList 0 = true
  share : ∀ i j x y, i < j → ops[i]? = some x → ops[j]? = some y → Share ops x y → Bef ops j i

section
variable {P : Program} {ops : Array Oper} {sz : Nat} {En : Nat → Env} {Hp : Nat → Heap} {Nx : Nat → Nat} {Vl : Nat → AV} {kd : Nat → Kd} (R : Rg P ops sz En Hp Nx Vl kd)
include R

theorem Rg.at_ {k : Nat} (h : k < ops.size) : ∃ o, ops[k]? = some o ∧ At P ops sz o (kd k) (En k) (Hp k) (Nx k) (Vl k) (En (k + 1)) (Hp (k + 1)) (Nx (k + 1)) := R.tc.at_ k (Nat.zero_le _) h
theorem Rg.nx_le {i : Nat} : ∀ (d : Nat), i + d ≤ ops.size → Nx i ≤ Nx (i + d)
  | 0, _ => Nat.le_refl _
  | d+1, h => by
    obtain ⟨o, _, ha⟩ := R.at_ (k := i + d) (by omega)
    exact Nat.le_trans (Rg.nx_le d (by omega)) ha.nxle
theorem Rg.nx_mono {i j : Nat} (h : i ≤ j) (hj : j ≤ ops.size) : Nx i ≤ Nx j := by
  have := R.nx_le (i := i) (j - i) (by omega)
  rwa [show i + (j - i) = j by omega] at this
theorem Rg.al {k : Nat} (h : k < ops.size) (hk : kd k = .al) : ∃ o r blk, ops[k]? = some o ∧ evAl P (En k) o.op = .ok r ∧ Vl k = madeVal (Nx k) r.2 ∧ Nx (k + 1) = Nx k + 1 ∧ Made (Nx k) r.1 blk (Hp k) (Hp (k + 1)) := by
  obtain ⟨o, ho, ha⟩ := R.at_ h
  have := ha.does
  rw [hk] at this
  obtain ⟨r, blk, h1, h2, h3, h4⟩ := this
  exact ⟨o, r, blk, ho, h1, h2, h3, h4⟩
theorem Rg.nx_al {k : Nat} (h : k < ops.size) (hk : kd k = .al) : Nx (k + 1) = Nx k + 1 := by
  obtain ⟨_, _, _, _, _, _, h3, _⟩ := R.al h hk; exact h3
theorem Rg.nx_ne {i j : Nat} (hi : i < ops.size) (hj : j < ops.size) (h1 : kd i = .al) (h2 : kd j = .al) (hne : i ≠ j) : Nx i ≠ Nx j := by
  have a1 := R.nx_al hi h1
  have a2 := R.nx_al hj h2
  rcases Nat.lt_or_ge i j with h | h
  · have := R.nx_mono (i := i + 1) (j := j) h (by omega); omega
  · have := R.nx_mono (i := j + 1) (j := i) (by omega) (by omega); omega

/-- between effects memory grows by new blocks alone -/
theorem Rg.gap {s : Nat} (hw : Wf (Hp s) (Nx s)) : ∀ (d : Nat), s + d ≤ ops.size → (∀ k, s ≤ k → k < s + d → kd k ≠ .e) →
    Wf (Hp (s + d)) (Nx (s + d)) ∧ (∀ b blk, (Hp s).get b = some blk → (Hp (s + d)).get b = some blk) ∧ (∀ b, ((Hp (s + d)).get b).isSome → ((Hp s).get b).isSome ∨ (Nx s ≤ b ∧ b < Nx (s + d)))
  | 0, _, _ => ⟨hw, fun _ _ h => h, fun _ h => .inl h⟩
  | d+1, hle, hne => by
    obtain ⟨h1, h2, h3⟩ := Rg.gap hw d (by omega) fun k a b => hne k a (by omega)
    obtain ⟨o, ho, ha⟩ := R.at_ (k := s + d) (by omega)
    have hkd := hne (s + d) (by omega) (by omega)
    have hnx := R.nx_mono (i := s) (j := s + d) (by omega) (by omega)
    rw [show s + (d + 1) = s + d + 1 by omega]
    have hdo := ha.does
    cases hk : kd (s + d) with
    | e => exact absurd hk hkd
    | skip => rw [hk] at hdo; obtain ⟨_, e1, e2⟩ := hdo; rw [e1, e2]; exact ⟨h1, h2, h3⟩
    | q => rw [hk] at hdo; obtain ⟨_, _, _, e1, e2⟩ := hdo; rw [e1, e2]; exact ⟨h1, h2, h3⟩
    | rd => rw [hk] at hdo; obtain ⟨_, e1, e2⟩ := hdo; rw [e1, e2]; exact ⟨h1, h2, h3⟩
    | al =>
      rw [hk] at hdo
      obtain ⟨r, blk, _, _, e2, hm⟩ := hdo
      refine ⟨fun b hb => ?_, fun b bk hb => ?_, fun b hb => ?_⟩
      · rw [hm.get, if_neg (by omega)]; exact h1 b (by omega)
      · rw [hm.get, if_neg]
        · exact h2 b bk hb
        · rintro rfl
          have := h2 _ _ hb
          rw [h1 _ (Nat.le_refl _)] at this; cases this
      · rw [hm.get] at hb
        split at hb
        · rename_i he; right; omega
        · rcases h3 b hb with h | h
          · exact .inl h
          · right; omega
theorem Rg.gap' {s g : Nat} (hw : Wf (Hp s) (Nx s)) (hsg : s ≤ g) (hg : g ≤ ops.size) (hne : ∀ k, s ≤ k → k < g → kd k ≠ .e) :
    Wf (Hp g) (Nx g) ∧ (∀ b blk, (Hp s).get b = some blk → (Hp g).get b = some blk) ∧ (∀ b, ((Hp g).get b).isSome → ((Hp s).get b).isSome ∨ (Nx s ≤ b ∧ b < Nx g)) := by
  have := R.gap hw (g - s) (by omega) (fun k a b => hne k a (by omega))
  rwa [show s + (g - s) = g by omega] at this

/-- no writer between: the slot holds what it held -/
theorem Rg.keeps {t i : Nat} : ∀ (d : Nat), i + d ≤ ops.size → (∀ k o, i ≤ k → k < i + d → ops[k]? = some o → o.dst ≠ some t) → (En (i + d)).get t = (En i).get t
  | 0, _, _ => rfl
  | d+1, hle, hne => by
    obtain ⟨o, ho, ha⟩ := R.at_ (k := i + d) (by omega)
    rw [show i + (d + 1) = i + d + 1 by omega, ha.put, if_neg (hne _ o (by omega) (by omega) ho)]
    exact Rg.keeps d (by omega) fun k o a b => hne k o a (by omega)

end

theorem next_e (kd : Nat → Kd) (n : Nat) : ∀ (d s : Nat), s + d = n → ∃ g, s ≤ g ∧ g ≤ n ∧ (∀ k, s ≤ k → k < g → kd k ≠ .e) ∧ (g < n → kd g = .e)
  | 0, s, h => ⟨s, Nat.le_refl _, by omega, fun k a b => by omega, fun h' => by omega⟩
  | d+1, s, h => by
    by_cases hs : kd s = .e
    · exact ⟨s, Nat.le_refl _, by omega, fun k a b => by omega, fun _ => hs⟩
    · obtain ⟨g, h1, h2, h3, h4⟩ := next_e kd n d (s + 1) (by omega)
      refine ⟨g, by omega, h2, fun k a b => ?_, h4⟩
      by_cases hk : k = s
      · subst hk; exact hs
      · exact h3 k (by omega) b

/-- the operations that have been -/
def In (l : Array Bool) (k : Nat) : Prop := l.getD k false = true
theorem In.set {l : Array Bool} {i k : Nat} (hi : i < l.size) : In (l.setIfInBounds i true) k ↔ k = i ∨ In l k := by
  unfold In
  by_cases h : i = k
  · subst h; simp [hi]
  · rw [getD_set_ne false h]
    constructor
    · exact .inr
    · rintro (h' | h')
      · exact absurd h'.symm h
      · exact h'

/-- what holds in the middle of a drawn region -/
structure Inv (P : Program) (ops : Array Oper) (sz : Nat) (ds : List Deferred) (En : Nat → Env) (Hp : Nat → Heap) (Nx : Nat → Nat) (kd : Nat → Kd) (ι0 : Ix) (w0 : World) (l : Array Bool) (ι : Ix) (g : Nat) (a : Act) (w : World) : Prop where
  lsize : l.size = ops.size
  closed : Closed ops (In l)
  gle : g ≤ ops.size
  before : ∀ k, k < g → kd k = .e → In l k
  behind : ∀ k, g ≤ k → k < ops.size → kd k = .e → ¬ In l k
  here : g < ops.size → kd g = .e
  hr : HR ι (Hp g) w
  wf : ∀ k, k ≤ g → Wf (Hp k) (Nx k)
  unmapped : ∀ k, k < ops.size → kd k = .al → ¬ In l k → ∀ v, ι (Nx k) v = none
  pend : ∀ k, g ≤ k → k < ops.size → kd k = .al → In l k → (∀ v, v ≠ 0 → ι (Nx k) v = none) ∧ ∃ p, ι (Nx k) 0 = some p ∧ p.esz = 0 ∧ ∃ cs el, w.heap[p.blk]? = some (.cells cs el (0, 0)) ∧ cs.size = p.size ∧
    ∀ blk, (Hp (k + 1)).get (Nx k) = some blk → blk.size ≤ p.size ∧ ∀ i, i < blk.size → ∃ a x, blk.cells.get i = some a ∧ cs[i]? = some x ∧ VR ι a x ∧ a.one = true
  initial : ∀ k, k < g → kd k = .al → ¬ In l k → (Hp g).get (Nx k) = (Hp (k + 1)).get (Nx k)
  fresh : ∀ b v p, Nx g ≤ b → b < Nx ops.size → ι b v = some p → ∃ k, g ≤ k ∧ k < ops.size ∧ kd k = .al ∧ In l k ∧ b = Nx k
  slots : ∀ t v k, k ≤ ops.size → (∀ j o, ops[j]? = some o → o.dst = some t → (j < k ↔ In l j)) → (En k).get t = some v → ∃ x, a.tmps[t]? = some x ∧ VR ι v x
  tsize : a.tmps.size = sz
  defers : a.defers = ds
  stp : Stp ι0 (Hp 0) (Nx 0) w0 ι (Hp g) (Nx ops.size) w
end Go.Ew

/- A DRAWN REGION, in whatever order: every step keeps what holds in the middle; the end. -/
namespace Go.Ew
section
variable {P : Program} {ops : Array Oper} {sz : Nat} {ds : List Deferred} {En : Nat → Env} {Hp : Nat → Heap} {Nx : Nat → Nat} {Vl : Nat → AV} {kd : Nat → Kd} {ι0 : Ix} {w0 : World} {l : Array Bool} {ι : Ix} {g : Nat} {a : Act} {w : World} {i : Nat} {o : Oper}

theorem bef_in (hcl : Closed ops fun k => k = i ∨ In l k) {j : Nat} (h : Bef ops i j) (hne : j ≠ i) : In l j := (h _ hcl (.inl rfl)).resolve_left hne

theorem Inv.cutER (I : Inv P ops sz ds En Hp Nx kd ι0 w0 l ι g a w) (R : Rg P ops sz En Hp Nx Vl kd) (hi : i < ops.size) (hni : ¬ In l i) (hcl : Closed ops fun k => k = i ∨ In l k) (ho : ops[i]? = some o) :
    ER ι (cut ops o (En i)) a.tmps := by
  intro t v ht
  obtain ⟨hl, hv⟩ := cut_get ht
  refine I.slots t v i (by omega) (fun j oj hoj hdj => ?_) hv
  rcases Nat.lt_trichotomy j i with hj | hj | hj
  · have := R.share j i oj o hj hoj ho ⟨t, .inl ⟨hdj, .inl hl⟩⟩
    exact ⟨fun _ => bef_in hcl this (by omega), fun _ => hj⟩
  · subst hj; exact ⟨fun h => by omega, fun h => absurd h hni⟩
  · have := R.share i j o oj hj ho hoj ⟨t, .inr ⟨hl, hdj⟩⟩
    exact ⟨fun h => by omega, fun h => absurd (this _ I.closed h) hni⟩

theorem Inv.slotsPut (I : Inv P ops sz ds En Hp Nx kd ι0 w0 l ι g a w) (R : Rg P ops sz En Hp Nx Vl kd) (hi : i < ops.size) (hni : ¬ In l i) (hcl : Closed ops fun k => k = i ∨ In l k) (ho : ops[i]? = some o)
    {ι' : Ix} {x : Value} (hle : ι.le ι') (hx : VR ι' (Vl i) x) (hd : ∀ t, o.dst = some t → t < sz) :
    ∀ t v k, k ≤ ops.size → (∀ j o', ops[j]? = some o' → o'.dst = some t → (j < k ↔ In (l.setIfInBounds i true) j)) → (En k).get t = some v → ∃ y, (a.put o.dst x).tmps[t]? = some y ∧ VR ι' v y := by
  intro t v k hk hwr hv
  have hset : ∀ j, In (l.setIfInBounds i true) j ↔ j = i ∨ In l j := fun j => In.set (by rw [I.lsize]; exact hi)
  by_cases hdt : o.dst = some t
  · have hik : i < k := (hwr i o ho hdt).2 ((hset i).2 (.inl rfl))
    obtain ⟨o', ho', ha⟩ := R.at_ hi
    rw [ho] at ho'; injection ho' with ho'; subst ho'
    have hkeep := R.keeps (t := t) (i := i + 1) (k - (i + 1)) (by omega) fun j oj h1 h2 hoj hdj => by
      have hin := (hset j).1 ((hwr j oj hoj hdj).1 (by omega))
      rcases hin with hin | hin
      · omega
      · exact hni (R.share i j o oj (by omega) ho hoj ⟨t, .inl ⟨hdt, .inr hdj⟩⟩ _ I.closed hin)
    rw [show i + 1 + (k - (i + 1)) = k by omega, ha.put, if_pos hdt] at hkeep
    rw [hkeep] at hv
    injection hv with hv; subst hv
    have := hd t hdt
    refine ⟨x, ?_, hx⟩
    simp only [Act.put, hdt]
    rw [Array.getElem?_setIfInBounds, if_pos rfl, if_pos (by rw [I.tsize]; exact this)]
  · obtain ⟨y, h1, h2⟩ := I.slots t v k hk (fun j oj hoj hdj => by
      have hji : j ≠ i := by
        rintro rfl
        rw [ho] at hoj; injection hoj with hoj; subst hoj; exact hdt hdj
      rw [hwr j oj hoj hdj, hset]
      exact ⟨fun h => h.resolve_left hji, .inr⟩) hv
    refine ⟨y, ?_, h2.mono hle⟩
    cases hdo : o.dst with
    | none => exact h1
    | some u =>
      have hne : u ≠ t := fun h => hdt (by rw [hdo, h])
      simp only [Act.put]
      rw [Array.getElem?_setIfInBounds_ne hne]; exact h1

theorem put_size {d : Option Tmp} {x : Value} : (a.put d x).tmps.size = a.tmps.size := by cases d <;> simp [Act.put]

/-- a step that leaves memory alone -/
theorem Inv.still (I : Inv P ops sz ds En Hp Nx kd ι0 w0 l ι g a w) (R : Rg P ops sz En Hp Nx Vl kd) (hi : i < ops.size) (hni : ¬ In l i) (hcl : Closed ops fun k => k = i ∨ In l k) (ho : ops[i]? = some o)
    (h1 : kd i ≠ .e) (h2 : kd i ≠ .al) {x : Value} (hx : VR ι (Vl i) x) (hd : ∀ t, o.dst = some t → t < sz) :
    Inv P ops sz ds En Hp Nx kd ι0 w0 (l.setIfInBounds i true) ι g (a.put o.dst x) w := by
  have hset : ∀ j, In (l.setIfInBounds i true) j ↔ j = i ∨ In l j := fun j => In.set (by rw [I.lsize]; exact hi)
  refine ⟨by simp [I.lsize], fun j oj hj hoj e he hb => ?_, I.gle, fun k a1 a2 => (hset k).2 (.inr (I.before k a1 a2)), fun k a1 a2 a3 a4 => ?_, I.here, I.hr, I.wf, fun k a1 a2 a3 => I.unmapped k a1 a2 fun h => a3 ((hset k).2 (.inr h)),
    fun k a1 a2 a3 a4 => ?_, fun k a1 a2 a3 => I.initial k a1 a2 fun h => a3 ((hset k).2 (.inr h)), fun b v p a1 a2 a3 => ?_, I.slotsPut R hi hni hcl ho (fun _ _ _ h => h) hx hd, by rw [put_size]; exact I.tsize, by rw [put_defers]; exact I.defers, I.stp⟩
  · rw [hset] at hj ⊢; exact hcl j oj hj hoj e he hb
  · rcases (hset k).1 a4 with h | h
    · subst h; exact h1 a3
    · exact I.behind k a1 a2 a3 h
  · rcases (hset k).1 a4 with h | h
    · subst h; exact absurd a3 h2
    · exact I.pend k a1 a2 a3 h
  · obtain ⟨k, g1, g2, g3, g4, g5⟩ := I.fresh b v p a1 a2 a3
    exact ⟨k, g1, g2, g3, (hset k).2 (.inr g4), g5⟩

/-- a step that makes a block -/
theorem Inv.made (I : Inv P ops sz ds En Hp Nx kd ι0 w0 l ι g a w) (R : Rg P ops sz En Hp Nx Vl kd) (hw0 : Wf (Hp 0) (Nx 0)) (hf0 : Fresh ι0 (Nx 0) (Nx ops.size)) (hi : i < ops.size) (hni : ¬ In l i) (hcl : Closed ops fun k => k = i ∨ In l k) (ho : ops[i]? = some o)
    (hk : kd i = .al) {r : List AV × Option (Nat × Nat)} {blk : Blk} (hv : Vl i = madeVal (Nx i) r.2) (hm : Made (Nx i) r.1 blk (Hp i) (Hp (i + 1))) {cs : Array Value} {el : TypeId} (hcs : VRL ι r.1 cs.toList) (hs : ∀ n m, r.2 = some (n, m) → n ≤ m) (hd : ∀ t, o.dst = some t → t < sz) :
    Inv P ops sz ds En Hp Nx kd ι0 w0 (l.setIfInBounds i true) (ι.set (Nx i) 0 ⟨w.heap.size, cs.size, 0⟩) g (a.put o.dst (newVal w.heap.size r.2)) (plus w cs el) := by
  have hset : ∀ j, In (l.setIfInBounds i true) j ↔ j = i ∨ In l j := fun j => In.set (by rw [I.lsize]; exact hi)
  have hn := I.unmapped i hi hk hni
  have hle := Ix.set_le (p := ⟨w.heap.size, cs.size, 0⟩) (hn 0)
  have hlen : r.1.length = cs.size := by rw [hcs.length]; simp
  have hnx := R.nx_al hi hk
  have hnxn := R.nx_mono (i := i + 1) (j := ops.size) (by omega) (Nat.le_refl _)
  have hnx0 := R.nx_mono (i := 0) (j := i) (by omega) (by omega)
  have hne : ∀ k, k < ops.size → kd k = .al → k ≠ i → ∀ v, ι.set (Nx i) 0 ⟨w.heap.size, cs.size, 0⟩ (Nx k) v = ι (Nx k) v := by
    intro k h1 h2 h3 v
    unfold Ix.set
    rw [if_neg]
    intro hh
    exact R.nx_ne h1 hi h2 hk h3 hh.1
  have hcont : ∀ bk, (Hp (i + 1)).get (Nx i) = some bk → bk = blk := fun bk h => by
    rw [hm.get, if_pos rfl] at h; injection h with h; exact h.symm
  have hcells : ∀ j, j < blk.size → ∃ u x, blk.cells.get j = some u ∧ cs[j]? = some x ∧ VR ι u x ∧ u.one = true := by
    intro j hj
    have hj' : j < r.1.length := by rw [← hm.size]; exact hj
    obtain ⟨x, hx, hvx⟩ := hcs.get j (List.getElem?_eq_getElem hj')
    exact ⟨r.1[j], x, by rw [hm.cells j hj', List.getElem?_eq_getElem hj'], by simpa using hx, hvx, allOne_mem hm.one _ (List.getElem_mem hj')⟩
  have hmap : HR (ι.set (Nx i) 0 ⟨w.heap.size, cs.size, 0⟩) (Hp g) (plus w cs el) := by
    refine I.hr.map hn fun bk hbk => ?_
    have hig : i < g := by
      rcases Nat.lt_or_ge i g with h | h
      · exact h
      · rw [I.wf g (Nat.le_refl _) (Nx i) (R.nx_mono h (by omega))] at hbk; cases hbk
    rw [I.initial i hig hk hni] at hbk
    cases hcont bk hbk
    exact ⟨hm.ver, hm.exts, hm.esz, hm.loop, by rw [hm.size]; omega, hcells⟩
  refine ⟨by simp [I.lsize], fun j oj hj hoj e he hb => ?_, I.gle, fun k a1 a2 => (hset k).2 (.inr (I.before k a1 a2)), fun k a1 a2 a3 a4 => ?_, I.here, hmap, I.wf, fun k a1 a2 a3 v => ?_,
    fun k a1 a2 a3 a4 => ?_, fun k a1 a2 a3 => I.initial k a1 a2 fun h => a3 ((hset k).2 (.inr h)), fun b v p a1 a2 a3 => ?_, I.slotsPut R hi hni hcl ho hle ?_ hd, by rw [put_size]; exact I.tsize, by rw [put_defers]; exact I.defers, ?_⟩
  · rw [hset] at hj ⊢; exact hcl j oj hj hoj e he hb
  · rcases (hset k).1 a4 with h | h
    · subst h; rw [hk] at a3; cases a3
    · exact I.behind k a1 a2 a3 h
  · have hki : k ≠ i := fun h => a3 ((hset k).2 (.inl h))
    rw [hne k a1 a2 hki]
    exact I.unmapped k a1 a2 (fun h => a3 ((hset k).2 (.inr h))) v
  · by_cases hki : k = i
    · subst hki
      refine ⟨fun v hv => ?_, ⟨w.heap.size, cs.size, 0⟩, Ix.set_same _ _ _ _, rfl, cs, el, plus_new _ _, rfl, fun bk hbk => ?_⟩
      · unfold Ix.set; rw [if_neg (fun hh => hv hh.2)]; exact hn v
      · cases hcont bk hbk
        refine ⟨by rw [hm.size]; exact Nat.le_of_eq hlen, fun j hj => ?_⟩
        obtain ⟨u, x, h1, h2, h3, h4⟩ := hcells j hj
        exact ⟨u, x, h1, h2, h3.mono hle, h4⟩
    · obtain ⟨h1, p, h2, h3, cs1, el1, h4, h5, h6⟩ := I.pend k a1 a2 a3 (((hset k).1 a4).resolve_left hki)
      refine ⟨fun v hv => by rw [hne k a2 a3 hki]; exact h1 v hv, p, by rw [hne k a2 a3 hki]; exact h2, h3, cs1, el1, by rw [plus_old _ _ (I.hr.bound _ _ _ h2)]; exact h4, h5, fun bk hbk => ?_⟩
      obtain ⟨g1, g2⟩ := h6 bk hbk
      refine ⟨g1, fun j hj => ?_⟩
      obtain ⟨u, x, k1, k2, k3, k4⟩ := g2 j hj
      exact ⟨u, x, k1, k2, k3.mono hle, k4⟩
  · rcases Ix.set_cases a3 with ⟨e1, e2, e3⟩ | a3
    · refine ⟨i, ?_, hi, hk, (hset i).2 (.inl rfl), e1⟩
      rcases Nat.lt_or_ge i g with h | h
      · have := R.nx_mono (i := i + 1) (j := g) h I.gle; omega
      · exact h
    · obtain ⟨k, g1, g2, g3, g4, g5⟩ := I.fresh b v p a1 a2 a3
      exact ⟨k, g1, g2, g3, (hset k).2 (.inr g4), g5⟩
  · rw [hv]; exact newVal_VR (p := ⟨w.heap.size, cs.size, 0⟩) (Ix.set_same _ _ _ _) hs
  · have hst : Stp ι (Hp g) (Nx i) w (ι.set (Nx i) 0 ⟨w.heap.size, cs.size, 0⟩) (Hp g) (Nx i + 1) (plus w cs el) := by
      refine ⟨hle, fun b v p h => ?_, fun b h => .inl h, by omega, fun b bk hb _ => hb, fun c hc _ => plus_old _ _ hc, by rw [plus_size]; omega, rfl, rfl, rfl⟩
      rcases Ix.set_cases h with ⟨e1, e2, e3⟩ | h
      · subst e1 e3; exact .inr (.inl ⟨⟨Nat.le_refl _, by omega⟩, Nat.le_refl _⟩)
      · exact .inl h
    exact I.stp.trans' hst hnx0 (by omega) hf0 hw0

/-- memory at the end of a gap, out of memory at its begin -/
theorem adv (R : Rg P ops sz En Hp Nx Vl kd) {s : Nat} (hw : Wf (Hp s) (Nx s)) (hr : HR ι (Hp s) w)
    (hal : ∀ k, s ≤ k → k < ops.size → kd k = .al → (∀ v, ι (Nx k) v = none) ∨ ((∀ v, v ≠ 0 → ι (Nx k) v = none) ∧ ∃ p, ι (Nx k) 0 = some p ∧ p.esz = 0 ∧ ∃ cs el, w.heap[p.blk]? = some (.cells cs el (0, 0)) ∧ cs.size = p.size ∧
      ∀ blk, (Hp (k + 1)).get (Nx k) = some blk → blk.size ≤ p.size ∧ ∀ i, i < blk.size → ∃ a x, blk.cells.get i = some a ∧ cs[i]? = some x ∧ VR ι a x ∧ a.one = true)) :
    ∀ (d : Nat), s + d ≤ ops.size → (∀ k, s ≤ k → k < s + d → kd k ≠ .e) → HR ι (Hp (s + d)) w
  | 0, _, _ => hr
  | d+1, hle, hne => by
    have ih := adv R hw hr hal d (by omega) fun k a b => hne k a (by omega)
    obtain ⟨o, ho, ha⟩ := R.at_ (k := s + d) (by omega)
    have hkd := hne (s + d) (by omega) (by omega)
    rw [show s + (d + 1) = s + d + 1 by omega]
    have hdo := ha.does
    cases hk : kd (s + d) with
    | e => exact absurd hk hkd
    | skip => rw [hk] at hdo; obtain ⟨_, e1, _⟩ := hdo; rw [e1]; exact ih
    | q => rw [hk] at hdo; obtain ⟨_, _, _, e1, _⟩ := hdo; rw [e1]; exact ih
    | rd => rw [hk] at hdo; obtain ⟨_, e1, _⟩ := hdo; rw [e1]; exact ih
    | al =>
      rw [hk] at hdo
      obtain ⟨r, blk, _, _, _, hm⟩ := hdo
      have hget : (Hp (s + d + 1)).get (Nx (s + d)) = some blk := by rw [hm.get, if_pos rfl]
      rcases hal (s + d) (by omega) (by omega) hk with h | ⟨h1, p, h2, h3, cs, el, h4, h5, h6⟩
      · exact ih.add' hm.get hm.ver hm.exts hm.loop (fun v _ => h v) (fun p hp => by rw [h 0] at hp; cases hp)
      · refine ih.add' hm.get hm.ver hm.exts hm.loop h1 fun p' hp' => ?_
        rw [h2] at hp'; injection hp' with hp'; subst hp'
        obtain ⟨g1, g2⟩ := h6 blk hget
        exact ⟨by rw [h3, hm.esz], cs, el, h4, h5, g1, g2⟩

/-- a step that has an effect: memory behind it, at the end of the next gap -/
theorem Inv.effect (I : Inv P ops sz ds En Hp Nx kd ι0 w0 l ι g a w) (R : Rg P ops sz En Hp Nx Vl kd) (hw0 : Wf (Hp 0) (Nx 0)) (hf0 : Fresh ι0 (Nx 0) (Nx ops.size)) (hi : i < ops.size) (hni : ¬ In l i) (hcl : Closed ops fun k => k = i ∨ In l k) (ho : ops[i]? = some o)
    (hig : i = g) (hk : kd i = .e) {ι' : Ix} {w' : World} {x : Value} (hx : VR ι' (Vl i) x) (hr' : HR ι' (Hp (i + 1)) w') (hst : Stp ι (Hp i) (Nx i) w ι' (Hp (i + 1)) (Nx (i + 1)) w') (hd : ∀ t, o.dst = some t → t < sz) :
    ∃ g', Inv P ops sz ds En Hp Nx kd ι0 w0 (l.setIfInBounds i true) ι' g' (a.put o.dst x) w' := by
  have hset : ∀ j, In (l.setIfInBounds i true) j ↔ j = i ∨ In l j := fun j => In.set (by rw [I.lsize]; exact hi)
  obtain ⟨g', n1, n2, n3, n4⟩ := next_e kd ops.size (ops.size - (i + 1)) (i + 1) (by omega)
  subst hig
  have hwi := I.wf i (Nat.le_refl _)
  have hwf1 := hst.wf hwi
  have hnx1 := hst.nxle
  -- blocks of operations behind the effect: as they were
  have later : ∀ k, i + 1 ≤ k → k < ops.size → kd k = .al → ∀ v p, ι' (Nx k) v = some p → ι (Nx k) v = some p := by
    intro k h1 h2 h3 v p hp
    have hm := R.nx_mono (i := i + 1) (j := k) h1 (by omega)
    rcases hst.new _ _ _ hp with h | ⟨⟨_, h⟩, _⟩ | ⟨h, _⟩
    · exact h
    · omega
    · rw [hwi (Nx k) (by omega)] at h; cases h
  have pend' : ∀ k, i + 1 ≤ k → k < ops.size → kd k = .al → In l k → (∀ v, v ≠ 0 → ι' (Nx k) v = none) ∧ ∃ p, ι' (Nx k) 0 = some p ∧ p.esz = 0 ∧ ∃ cs el, w'.heap[p.blk]? = some (.cells cs el (0, 0)) ∧ cs.size = p.size ∧
      ∀ blk, (Hp (k + 1)).get (Nx k) = some blk → blk.size ≤ p.size ∧ ∀ i, i < blk.size → ∃ a x, blk.cells.get i = some a ∧ cs[i]? = some x ∧ VR ι' a x ∧ a.one = true := by
    intro k h1 h2 h3 h4
    obtain ⟨g1, p, g2, g3, cs, el, g4, g5, g6⟩ := I.pend k (by omega) h2 h3 h4
    have hm := R.nx_mono (i := i + 1) (j := k) h1 (by omega)
    refine ⟨fun v hv => ?_, p, hst.le _ _ _ g2, g3, cs, el, ?_, g5, fun blk hb => ?_⟩
    · cases hq : ι' (Nx k) v with
      | none => rfl
      | some q => have := later k h1 h2 h3 v q hq; rw [g1 v hv] at this; cases this
    · rw [hst.frame p.blk (I.hr.bound _ _ _ g2) fun b v q hq hqb => ?_]
      · exact g4
      · have := I.hr.inj _ _ _ _ _ _ hq g2 hqb
        subst this
        exact hwi _ (by omega)
    · obtain ⟨k1, k2⟩ := g6 blk hb
      refine ⟨k1, fun j hj => ?_⟩
      obtain ⟨u, y, m1, m2, m3, m4⟩ := k2 j hj
      exact ⟨u, y, m1, m2, m3.mono hst.le, m4⟩
  have un' : ∀ k, k < ops.size → kd k = .al → ¬ In (l.setIfInBounds i true) k → ∀ v, ι' (Nx k) v = none := by
    intro k h1 h2 h3 v
    have h4 : ¬ In l k := fun h => h3 ((hset k).2 (.inr h))
    have hki : k ≠ i := fun h => h3 ((hset k).2 (.inl h))
    cases hq : ι' (Nx k) v with
    | none => rfl
    | some q =>
      exfalso
      rcases Nat.lt_or_ge k i with hlt | hge
      · have hm := R.nx_mono (i := k + 1) (j := i) hlt (by omega)
        have hnk := R.nx_al h1 h2
        rcases hst.new _ _ _ hq with h | ⟨⟨h, _⟩, _⟩ | ⟨_, v0, p0, h, _⟩
        · rw [I.unmapped k h1 h2 h4 v] at h; cases h
        · omega
        · rw [I.unmapped k h1 h2 h4 v0] at h; cases h
      · have := later k (by omega) h1 h2 v q hq
        rw [I.unmapped k h1 h2 h4 v] at this; cases this
  have hr2 : HR ι' (Hp g') w' := by
    have := adv R hwf1 hr' (fun k h1 h2 h3 => by
      by_cases hin : In l k
      · exact .inr (pend' k h1 h2 h3 hin)
      · exact .inl (un' k h2 h3 fun h => by
          rcases (hset k).1 h with h | h
          · omega
          · exact hin h)) (g' - (i + 1)) (by omega) (fun k h1 h2 => n3 k h1 (by omega))
    rwa [show i + 1 + (g' - (i + 1)) = g' by omega] at this
  have hgap := fun m (h1 : i + 1 ≤ m) (h2 : m ≤ g') => R.gap' hwf1 h1 (Nat.le_trans h2 n2) fun k a1 a2 => n3 k a1 (by omega)
  refine ⟨g', ⟨by simp [I.lsize], fun j oj hj hoj e he hb => ?_, n2, fun k a1 a2 => ?_, fun k a1 a2 a3 a4 => ?_, n4, hr2, fun k a1 => ?_, un', fun k a1 a2 a3 a4 => ?_, fun k a1 a2 a3 => ?_, fun b v p a1 a2 a3 => ?_, I.slotsPut R hi hni hcl ho hst.le hx hd, by rw [put_size]; exact I.tsize, by rw [put_defers]; exact I.defers, ?_⟩⟩
  · rw [hset] at hj ⊢; exact hcl j oj hj hoj e he hb
  · rw [hset]
    by_cases hki : k = i
    · exact .inl hki
    · rcases Nat.lt_or_ge k i with h | h
      · exact .inr (I.before k h a2)
      · exact absurd a2 (n3 k (by omega) a1)
  · rcases (hset k).1 a4 with h | h
    · omega
    · exact I.behind k (by omega) a2 a3 h
  · rcases Nat.lt_or_ge i k with h | h
    · exact (hgap k h a1).1
    · exact I.wf k h
  · have hki : k ≠ i := by omega
    exact pend' k (by omega) a2 a3 (((hset k).1 a4).resolve_left hki)
  · have h4 : ¬ In l k := fun h => a3 ((hset k).2 (.inr h))
    have hki : k ≠ i := fun h => a3 ((hset k).2 (.inl h))
    obtain ⟨oo, r, blk, q1, q2, q3, q4, hm⟩ := R.al (k := k) (by omega) a2
    have hget : (Hp (k + 1)).get (Nx k) = some blk := by rw [hm.get, if_pos rfl]
    rw [hget]
    rcases Nat.lt_or_ge k i with hlt | hge
    · have h5 := I.initial k hlt a2 h4
      rw [hget] at h5
      have h6 := hst.same _ _ h5 (I.unmapped k (by omega) a2 h4)
      exact (hgap g' (by omega) (Nat.le_refl _)).2.1 _ _ h6
    · have hwk := (hgap (k + 1) (by omega) (by omega)).1
      exact (R.gap' hwk (by omega) n2 fun j b1 b2 => n3 j (by omega) b2).2.1 _ _ hget
  · have hm := R.nx_mono (i := i + 1) (j := g') n1 n2
    rcases hst.new _ _ _ a3 with h | ⟨⟨_, h⟩, _⟩ | ⟨h, _⟩
    · obtain ⟨k, g1, g2, g3, g4, g5⟩ := I.fresh b v p (by omega) a2 h
      refine ⟨k, ?_, g2, g3, (hset k).2 (.inr g4), g5⟩
      rcases Nat.lt_or_ge k g' with hlt | hge
      · exfalso
        have hki : k ≠ i := fun h => by rw [h, hk] at g3; cases g3
        have := R.nx_mono (i := k + 1) (j := g') (by omega) n2
        have := R.nx_al g2 g3
        omega
      · exact hge
    · omega
    · rw [hwi b (by omega)] at h; cases h
  · have hadv : Stp ι' (Hp (i + 1)) (Nx (i + 1)) w' ι' (Hp g') (Nx g') w' := by
      obtain ⟨h1, h2, h3⟩ := hgap g' n1 (Nat.le_refl _)
      exact ⟨fun _ _ _ h => h, fun _ _ _ h => .inl h, fun b h => h3 b h, R.nx_mono n1 n2, fun b bk h _ => h2 b bk h, fun _ _ _ => rfl, Nat.le_refl _, rfl, rfl, rfl⟩
    have hm0 := R.nx_mono (i := 0) (j := i) (by omega) (by omega)
    have hm1 := R.nx_mono (i := i + 1) (j := ops.size) (by omega) (Nat.le_refl _)
    have hm2 := R.nx_mono (i := g') (j := ops.size) n2 (Nat.le_refl _)
    exact (I.stp.trans' hst hm0 hm1 hf0 hw0).trans' hadv (by omega) hm2 hf0 hw0
end
end Go.Ew

/- A DRAWN REGION: the whole. -/
namespace Go.Ew

theorem last_e (kd : Nat → Kd) (i : Nat) : ∀ (d : Nat), (∀ k, i < k → k < i + 1 + d → kd k ≠ .e) ∨ ∃ j, i < j ∧ j < i + 1 + d ∧ kd j = .e ∧ ∀ k, j < k → k < i + 1 + d → kd k ≠ .e
  | 0 => .inl fun k h1 h2 => by omega
  | d+1 => by
    by_cases h : kd (i + 1 + d) = .e
    · exact .inr ⟨i + 1 + d, by omega, by omega, h, fun k h1 h2 => by omega⟩
    · rcases last_e kd i d with g | ⟨j, g1, g2, g3, g4⟩
      · refine .inl fun k h1 h2 => ?_
        by_cases hk : k = i + 1 + d
        · subst hk; exact h
        · exact g k h1 (by omega)
      · refine .inr ⟨j, g1, by omega, g3, fun k h1 h2 => ?_⟩
        by_cases hk : k = i + 1 + d
        · subst hk; exact h
        · exact g4 k h1 (by omega)

/-- how many operations have not been -/
def cnt (l : Array Bool) : Nat → Nat
  | 0 => 0
  | m+1 => cnt l m + if l.getD m false then 0 else 1
theorem cnt_le {l l' : Array Bool} (h : ∀ k, In l k → In l' k) : ∀ m, cnt l' m ≤ cnt l m
  | 0 => Nat.le_refl _
  | m+1 => by
    have := cnt_le h m
    unfold cnt
    by_cases hm : l.getD m false = true
    · rw [if_pos hm, if_pos (show l'.getD m false = true from h m hm)]; omega
    · rw [if_neg hm]; split <;> omega
theorem cnt_lt {l l' : Array Bool} (h : ∀ k, In l k → In l' k) {i : Nat} (h1 : ¬ In l i) (h2 : In l' i) : ∀ m, i < m → cnt l' m < cnt l m
  | 0, hm => by omega
  | m+1, hm => by
    unfold cnt
    by_cases hi : i = m
    · subst hi
      have := cnt_le h i
      rw [if_pos (show l'.getD i false = true from h2), if_neg (show ¬ l.getD i false = true from h1)]; omega
    · have := cnt_lt h h1 h2 m (by omega)
      by_cases hm : l.getD m false = true
      · rw [if_pos hm, if_pos (show l'.getD m false = true from h m hm)]; omega
      · rw [if_neg hm]; split <;> omega
theorem cnt_zero {l : Array Bool} : ∀ {m : Nat}, cnt l m = 0 → ∀ k, k < m → In l k
  | 0, _, k, hk => by omega
  | m+1, h, k, hk => by
    unfold cnt at h
    by_cases hm : l.getD m false = true
    · by_cases hkm : k = m
      · subst hkm; exact hm
      · exact cnt_zero (m := m) (by omega) k (by omega)
    · rw [if_neg hm] at h; omega
theorem cnt_max (l : Array Bool) : ∀ m, cnt l m ≤ m
  | 0 => Nat.le_refl _
  | m+1 => by have := cnt_max l m; unfold cnt; split <;> omega

section
variable {P : Program} {ops : Array Oper} {sz : Nat} {ds : List Deferred} {En : Nat → Env} {Hp : Nat → Heap} {Nx : Nat → Nat} {Vl : Nat → AV} {kd : Nat → Kd} {ι0 : Ix} {w0 : World} {l : Array Bool} {ι : Ix} {g : Nat} {a : Act} {w : World} {i : Nat} {o : Oper}

/-- what a reading gives, whenever it is its turn -/
theorem Inv.reads (I : Inv P ops sz ds En Hp Nx kd ι0 w0 l ι g a w) (R : Rg P ops sz En Hp Nx Vl kd) (hi : i < ops.size) (hni : ¬ In l i) (hcl : Closed ops fun k => k = i ∨ In l k) (ho : ops[i]? = some o)
    (hk : kd i = .rd) (hev : evQ P (En i) (Hp i) o.op = .ok (Vl i)) : ∃ Hx, HR ι Hx w ∧ evQ P (En i) Hx o.op = .ok (Vl i) := by
  rcases Nat.lt_trichotomy i g with h | h | h
  · rcases last_e kd i (g - (i + 1)) with hn | ⟨j, h1, h2, h3, h4⟩
    · refine ⟨Hp i, I.hr.sub ?_, hev⟩
      refine (R.gap' (I.wf i (by omega)) (by omega) I.gle fun k a1 a2 => ?_).2.1
      by_cases hki : k = i
      · subst hki; rw [hk]; simp
      · exact hn k (by omega) (by omega)
    · have hin := I.before j (by omega) h3
      have hjn : j < ops.size := by have := I.gle; omega
      rcases R.tc.rdE j (Nat.zero_le _) hjn h3 i o (Nat.zero_le _) h1 hk ho with hb | hb
      · exact absurd (hb _ I.closed hin) hni
      · refine ⟨Hp (j + 1), I.hr.sub ?_, hb⟩
        exact (R.gap' (I.wf (j + 1) (by omega)) (by omega) I.gle fun k a1 a2 => h4 k (by omega) (by omega)).2.1
  · subst h
    rw [I.here hi] at hk; cases hk
  · have hg : g < ops.size := by omega
    have he := I.here hg
    rcases R.tc.eRd i o (Nat.zero_le _) hi hk ho g (Nat.zero_le _) h he with hb | hb
    · exact absurd (bef_in hcl hb (by omega)) (I.behind g (Nat.le_refl _) hg he)
    · exact ⟨Hp g, I.hr, hb⟩

theorem Inv.op {F : Fence} (hF : Wide F) (I : Inv P ops sz ds En Hp Nx kd ι0 w0 l ι g a w) (R : Rg P ops sz En Hp Nx Vl kd) (hw0 : Wf (Hp 0) (Nx 0)) (hf0 : Fresh ι0 (Nx 0) (Nx ops.size)) (hi : i < ops.size) (hni : ¬ In l i) (hcl : Closed ops fun k => k = i ∨ In l k)
    {K : Act → World → Prop} {Q : Exit → Act → World → Prop} (hK : ∀ ι' g' a' w', Inv P ops sz ds En Hp Nx kd ι0 w0 (l.setIfInBounds i true) ι' g' a' w' → K a' w') : wpOpIn F 0 P ops Q i K a w := by
  obtain ⟨o, ho, ha⟩ := R.at_ hi
  have her := I.cutER R hi hni hcl ho
  have hguard := guard_ok her (by rw [cut_guard]; exact ha.guard)
  unfold wpOpIn
  rw [ho]
  simp only [hguard]
  have hdo := ha.does
  cases hk : kd i with
  | skip =>
    rw [hk] at hdo
    obtain ⟨e1, _, _⟩ := hdo
    rw [if_neg (by simp [Kd.goes])]
    refine ⟨fun f _ => hF.fn f, ?_⟩
    exact hK _ _ _ _ (I.still R hi hni hcl ho (by simp [hk]) (by simp [hk]) (by rw [e1]; exact .tuple .nil) ha.dst)
  | q =>
    rw [hk] at hdo
    obtain ⟨e1, e2, e3, _, _⟩ := hdo
    rw [if_pos (by simp [Kd.goes])]
    rw [evQ_congr _ (cut_agrees (ops := ops)), evQ_heap (H' := Hp g) e2 e3] at e1
    obtain ⟨x, g1, g2⟩ := evQ_ok (P := P) I.hr her e1
    refine wpIn_intro hF (evQ_nd e1) ?_
    simp only [g1, Oper.uponIn]
    exact hK _ _ _ _ (I.still R hi hni hcl ho (by simp [hk]) (by simp [hk]) g2 ha.dst)
  | rd =>
    rw [hk] at hdo
    obtain ⟨e1, _, _⟩ := hdo
    rw [if_pos (by simp [Kd.goes])]
    obtain ⟨Hx, hr, hx⟩ := I.reads R hi hni hcl ho hk e1
    rw [evQ_congr _ (cut_agrees (ops := ops))] at hx
    obtain ⟨x, g1, g2⟩ := evQ_ok (P := P) hr her hx
    refine wpIn_intro hF (evQ_nd hx) ?_
    simp only [g1, Oper.uponIn]
    exact hK _ _ _ _ (I.still R hi hni hcl ho (by simp [hk]) (by simp [hk]) g2 ha.dst)
  | al =>
    rw [hk] at hdo
    obtain ⟨r, blk, e1, e2, e3, hm⟩ := hdo
    rw [if_pos (by simp [Kd.goes])]
    rw [evAl_congr (cut_agrees (ops := ops))] at e1
    obtain ⟨cs, el, g1, g2, g3⟩ := evAl_ok (P := P) (w := w) her e1
    refine wpIn_intro hF (evAl_nd e1) ?_
    simp only [g1, Oper.uponIn]
    exact hK _ _ _ _ (I.made R hw0 hf0 hi hni hcl ho hk e2 hm g2 g3 ha.dst)
  | e =>
    rw [hk] at hdo
    rw [if_pos (by simp [Kd.goes])]
    have hig : i = g := by
      rcases Nat.lt_trichotomy i g with h | h | h
      · exact absurd (I.before i h hk) hni
      · exact h
      · have hg : g < ops.size := by omega
        have he := I.here hg
        have := R.tc.chain i (Nat.zero_le _) hi hk g (Nat.zero_le _) h he
        exact absurd (bef_in hcl this (by omega)) (I.behind g (Nat.le_refl _) hg he)
    have hfr : Fresh ι (Nx i) (Nx (i + 1)) := by
      intro b v h1 h2
      cases hq : ι b v with
      | none => rfl
      | some p =>
        have hm := R.nx_mono (i := i + 1) (j := ops.size) (by omega) (Nat.le_refl _)
        obtain ⟨k, k1, k2, k3, k4, k5⟩ := I.fresh b v p (by rw [← hig]; exact h1) (by omega) hq
        have hki : k ≠ i := fun h => by rw [h, hk] at k3; cases k3
        have := R.nx_mono (i := i + 1) (j := k) (by omega) (by omega)
        omega
    refine hdo F hF ι w (Nx (i + 1)) a K Q (by rw [hig]; exact I.hr) (I.wf i (by omega)) hfr (Nat.le_refl _) her fun ι' w' x h1 h2 h3 => ?_
    obtain ⟨g', hI⟩ := I.effect R hw0 hf0 hi hni hcl ho hig hk h1 h2 h3 ha.dst
    exact hK _ _ _ _ hI

theorem Inv.any {F : Fence} (hF : Wide F) (R : Rg P ops sz En Hp Nx Vl kd) (hw0 : Wf (Hp 0) (Nx 0)) (hf0 : Fresh ι0 (Nx 0) (Nx ops.size)) {Q : Exit → Act → World → Prop}
    (hQ : ∀ ι a w, HR ι (Hp ops.size) w → Stp ι0 (Hp 0) (Nx 0) w0 ι (Hp ops.size) (Nx ops.size) w → ER ι (En ops.size) a.tmps → a.tmps.size = sz → a.defers = ds → Q .normal a w) :
    ∀ (fuel : Nat) (l : Array Bool) (ι : Ix) (g : Nat) (a : Act) (w : World), Inv P ops sz ds En Hp Nx kd ι0 w0 l ι g a w → cnt l ops.size ≤ fuel → wpAnyIn F 0 P .any ops Q fuel l a w := by
  have fin : ∀ (l : Array Bool) (ι : Ix) (g : Nat) (a : Act) (w : World), Inv P ops sz ds En Hp Nx kd ι0 w0 l ι g a w → (∀ k, k < ops.size → In l k) → Q .normal a w := by
    intro l ι g a w I hall
    have hg : g = ops.size := by
      rcases Nat.lt_or_ge g ops.size with h | h
      · exact absurd (hall g h) (I.behind g (Nat.le_refl _) h (I.here h))
      · have := I.gle; omega
    subst hg
    refine hQ ι a w I.hr I.stp (fun t v hv => I.slots t v ops.size (Nat.le_refl _) (fun j o ho hd => ?_) hv) I.tsize I.defers
    have : j < ops.size := (Array.getElem?_eq_some_iff.1 ho).1
    exact ⟨fun _ => hall j this, fun _ => this⟩
  have rdy : ∀ (l : Array Bool) (i : Nat), l.size = ops.size → i ∈ Region.ready .any ops l → i < ops.size ∧ ¬ In l i ∧ ∃ o, ops[i]? = some o ∧ ∀ e ∈ o.after, Region.binds .any e = true → In l e.on := by
    intro l i hs hi
    obtain ⟨h1, o, h2, h3⟩ := mem_ready.1 hi
    have hlt : i < ops.size := (Array.getElem?_eq_some_iff.1 h2).1
    refine ⟨hlt, ?_, o, h2, h3⟩
    unfold In
    have hl : i < l.size := by omega
    simp [hl] at h1 ⊢
    exact h1
  have done : ∀ (l : Array Bool), l.size = ops.size → Region.ready .any ops l = [] → ∀ k, k < ops.size → In l k := by
    intro l hs hr k
    induction k using Nat.strongRecOn with
    | _ k ih =>
      intro hk
      cases hin : l.getD k false with
      | true => exact hin
      | false =>
        exfalso
        have hmem : k ∈ Region.ready .any ops l := by
          have ho : ops[k]? = some ops[k] := Array.getElem?_eq_getElem hk
          refine mem_ready.2 ⟨?_, _, ho, fun e he hb => ?_⟩
          · have hl : k < l.size := by omega
            simp [hl] at hin ⊢; exact hin
          · have hed : e.on < k := by
              have key : ∀ (l : List Oper) (n j : Nat) (o : Oper), edgesOk l n = true → l[j]? = some o → ∀ e ∈ o.after, Region.binds .any e = true → e.on < n + j := by
                intro l
                induction l with
                | nil => intro n j o _ h; simp at h
                | cons x l ihl =>
                  intro n j o h hj e he hb
                  simp only [edgesOk, sel_eq] at h
                  split at h
                  case isFalse => cases h
                  rename_i hall
                  cases j with
                  | zero =>
                    simp only [List.getElem?_cons_zero] at hj
                    injection hj with hj; subst hj
                    have := List.all_eq_true.1 hall e (by simpa using he)
                    rw [hb] at this
                    simpa using this
                  | succ j =>
                    simp only [List.getElem?_cons_succ] at hj
                    have := ihl (Nat.succ n) j o h hj e he hb
                    omega
              have := key ops.toList 0 k ops[k] R.edges (by simp) e he hb
              omega
            exact ih e.on hed (by omega)
        rw [hr] at hmem; cases hmem
  intro fuel
  induction fuel with
  | zero =>
    intro l ι g a w I hc
    have hall := cnt_zero (m := ops.size) (Nat.le_zero.1 hc)
    refine ⟨?_, fin l ι g a w I hall⟩
    cases hr : Region.ready .any ops l with
    | nil => rfl
    | cons x xs =>
      obtain ⟨h1, h2, _⟩ := rdy l x I.lsize (by rw [hr]; simp)
      exact absurd (hall x h1) h2
  | succ fuel ih =>
    intro l ι g a w I hc
    refine ⟨fun hr => fin l ι g a w I (done l I.lsize hr), fun i hi => ?_⟩
    obtain ⟨h1, h2, o, h3, h4⟩ := rdy l i I.lsize hi
    have hcl : Closed ops fun k => k = i ∨ In l k := by
      intro j oj hj hoj e he hb
      rcases hj with hj | hj
      · subst hj
        rw [h3] at hoj; injection hoj with hoj; subst hoj
        exact .inr (h4 e he hb)
      · exact .inr (I.closed j oj hj hoj e he hb)
    refine I.op hF R hw0 hf0 h1 h2 hcl fun ι' g' a' w' I' => ih _ ι' g' a' w' I' ?_
    have hset : ∀ j, In (l.setIfInBounds i true) j ↔ j = i ∨ In l j := fun j => In.set (by rw [I.lsize]; exact h1)
    have := cnt_lt (l := l) (l' := l.setIfInBounds i true) (fun k hk => (hset k).2 (.inr hk)) h2 ((hset i).2 (.inl rfl)) ops.size h1
    omega

/-- A DRAWN REGION. -/
theorem evDrw_ok {ev : Evr} (hs : SoundE P ev) (hmix : P.follows .mixedOrders = true) {env : Env} {H : Heap} {nx rid : Nat} {fin : Fin} (hd : drawOk ops = true) (h : evDrw P ev sz ops ops.toList (befs ops.toList) 0 ⟨[], []⟩ env H nx = .ok fin) :
    nx ≤ fin.nx ∧ ∀ F, Wide F → ∀ m ι w N a Q, HR ι H w → Wf H nx → Fresh ι nx N → fin.nx ≤ N → ER ι env a.tmps → a.tmps.size = sz → m ≤ w.heap.size → Marks m ι w a.defers → Post m ι H nx w sz fin Q → (Code.region rid ops true).wpIn F 0 P Q a w := by
  obtain ⟨he, hsh⟩ := drawOk_ok hd
  obtain ⟨hx, En, Hp, Nx, Vl, kd, ht, e1, e2, e3, e4, e5, e6⟩ := evDrw_tc hs (fun k b j h1 h2 => befs_ok he h1 h2) (From.all ops) (fun j => by rw [Nat.zero_add]) (show Chained ops ⟨[], []⟩ from trivial) h
  have hlen : 0 + ops.toList.length = ops.size := by simp
  rw [hlen] at ht e4 e5 e6
  have R : Rg P ops sz En Hp Nx Vl kd := ⟨ht, he, hsh⟩
  refine ⟨by rw [← e3, ← e6]; exact R.nx_mono (Nat.zero_le _) (Nat.le_refl _), fun F hF m ι w N a Q hr hw hf hN her hsz hm hdf hp => wpIn_region_any hmix ?_⟩
  have hr' : HR ι H { w with drawn := w.drawn + 1 } := hr.drew
  have hf0 : Fresh ι (Nx 0) (Nx ops.size) := by rw [e3]; exact hf.le (by rw [e6]; exact hN)
  have hw0 : Wf (Hp 0) (Nx 0) := by rw [e2, e3]; exact hw
  refine Inv.any (ds := a.defers) hF (ι0 := ι) (w0 := { w with drawn := w.drawn + 1 }) R hw0 hf0 (fun ι' a' w' h1 h2 h3 h4 h5 => ?_) ops.size _ ι ((next_e kd ops.size ops.size 0 (by omega)).choose) a _ ?_ (cnt_max _ _)
  · have hst : Stp ι H nx w ι' fin.H fin.nx w' := by
      rw [e5, e6, e2, e3] at h2
      exact Stp.of_drew (w := w) h2
    have := hp ι' a' w' (by rw [← e5]; exact h1) hst (by rw [← e4]; exact h3) h4 (by rw [h5]; exact hdf.step hst)
    rw [hx] at this; exact this
  · obtain ⟨g1, g2, g3, g4⟩ := (next_e kd ops.size ops.size 0 (by omega)).choose_spec
    generalize (next_e kd ops.size ops.size 0 (by omega)).choose = g at g1 g2 g3 g4
    have hno : ∀ k, ¬ In (Array.replicate ops.size false) k := fun k => by
      unfold In
      simp only [Array.getD_eq_getD_getElem?, Array.getElem?_replicate]
      split <;> simp
    have hun : ∀ k, k < ops.size → kd k = .al → ∀ v, ι (Nx k) v = none := fun k h1 h2 v => by
      have m1 := R.nx_mono (i := 0) (j := k) (Nat.zero_le _) (by omega)
      have m2 := R.nx_mono (i := k + 1) (j := ops.size) (by omega) (Nat.le_refl _)
      have := R.nx_al h1 h2
      exact hf0 (Nx k) v m1 (by omega)
    have hgap := fun m (h1 : m ≤ g) => R.gap' hw0 (Nat.zero_le m) (by omega) fun k a1 a2 => g3 k a1 (by omega)
    have hr0 : HR ι (Hp 0) { w with drawn := w.drawn + 1 } := by rw [e2]; exact hr'
    have hrg : HR ι (Hp g) { w with drawn := w.drawn + 1 } := by
      have := adv R hw0 hr0 (fun k h1 h2 h3 => .inl (hun k h2 h3)) g (by omega) (fun k h1 h2 => g3 k h1 (by omega))
      rwa [Nat.zero_add] at this
    refine ⟨by simp, fun j oj hj => absurd hj (hno j), g2, fun k a1 a2 => absurd a2 (g3 k (Nat.zero_le _) a1), fun k _ _ _ => hno k, g4, hrg, fun k a1 => (hgap k a1).1, fun k a1 a2 _ => hun k a1 a2, fun k _ _ _ a4 => absurd a4 (hno k),
      fun k a1 a2 _ => ?_, fun b v p a1 a2 a3 => ?_, fun t v k hk hwr hv => ?_, hsz, rfl, ?_⟩
    · obtain ⟨oo, r, blk, q1, q2, q3, q4, hm⟩ := R.al (k := k) (by omega) a2
      have hget : (Hp (k + 1)).get (Nx k) = some blk := by rw [hm.get, if_pos rfl]
      rw [hget]
      exact (R.gap' (hgap (k + 1) (by omega)).1 (by omega) g2 fun j b1 b2 => g3 j (Nat.zero_le _) b2).2.1 _ _ hget
    · have m1 := R.nx_mono (i := 0) (j := g) (Nat.zero_le _) g2
      rw [hf0 b v (by omega) a2] at a3; cases a3
    · have hk0 := R.keeps (t := t) (i := 0) k (by omega) fun j oj h1 h2 hoj hdj => hno j ((hwr j oj hoj hdj).1 (by omega))
      rw [Nat.zero_add] at hk0
      rw [hk0, e1] at hv
      exact her t v hv
    · obtain ⟨h1, h2, h3⟩ := hgap g (Nat.le_refl _)
      have m2 := R.nx_mono (i := g) (j := ops.size) g2 (Nat.le_refl _)
      exact ⟨fun _ _ _ h => h, fun _ _ _ h => .inl h, fun b hb => (h3 b hb).imp id fun h => ⟨h.1, by omega⟩, R.nx_mono (Nat.zero_le _) (Nat.le_refl _), fun b bk hb _ => h2 b bk hb, fun _ _ _ => rfl, Nat.le_refl _, rfl, rfl, rfl⟩
end
end Go.Ew

/- THE EVALUATOR IS SOUND: code, and whole calls. -/
namespace Go.Ew
open Go.RowKit
section
variable {P : Program}

theorem wpIn_scope_straight {F : Fence} {c : Code} {Q : Exit → Act → World → Prop} {a : Act} {w : World} (h : c.wpIn F 0 P (Exit.noGoto Q) a w) : (Code.scope c).wpIn F 0 P Q a w := by
  intro b k cs hro hb hr
  have s0 : step P (lone (b.atR a (.code (.scope c) :: k)) cs w) = .next (lone (b.atR a (.code c :: .inScope c :: k)) cs w) := step_lone_go (by simp [stepG, stepG.exec, Frame.atR])
  obtain ⟨e, a₁, w₁, hq, harr⟩ := h b (.inScope c :: k) cs hro hb hr
  refine (fun (hh : ∃ e a' w', Q e a' w' ∧ ArrivesIn (Machine.fenced P F) P (lone (b.atR a (.code c :: .inScope c :: k)) cs w) b k cs e a' w') => ?_) ?_
  · obtain ⟨e', a', w', h1, h2⟩ := hh
    exact ⟨e', a', w', h1, .of_steps (.one (fenced_calm hb hr rfl) s0) h2⟩
  · cases e with
    | normal => 
      have s1 : step P (lone (b.atR a₁ (.inScope c :: k)) cs w₁) = .next (lone (b.atR a₁ k) cs w₁) := step_lone_go (by simp [stepG, stepG.exec, Frame.atR])
      exact ⟨.normal, a₁, w₁, hq, StepsIn.trans harr (.one (fenced_calm hb hr rfl) s1)⟩
    | exit id => exact ⟨.exit id, a₁, w₁, hq, fun k' hk => harr.1 k' (by simp [exitTo, hk]), fun hr hk => harr.2 hr (by simp [exitTo, hk])⟩
    | goto l => exact hq.elim
    | ret => exact ⟨_, a₁, w₁, hq, harr⟩
    | panic ch => exact ⟨_, a₁, w₁, hq, harr⟩
    | outgrown => exact ⟨_, a₁, w₁, hq, harr⟩

/-- a loop, as so many rounds -/
def SoundL (P : Program) (ev : CodeFn) : Prop := ∀ sz c env H nx fin, ev sz (.loop c) env H nx = .ok fin → nx ≤ fin.nx ∧ ∃ n,
  ∀ F, Wide F → (F.round = none ∨ noRange c = true) → ∀ m ι w N a Q, HR ι H w → Wf H nx → Fresh ι nx N → fin.nx ≤ N → ER ι env a.tmps → a.tmps.size = sz → m ≤ w.heap.size → Marks m ι w a.defers → Post m ι H nx w sz fin Q → Code.roundsIn F 0 P c Q n a w

theorem toExit_not {x : X} (h : ¬ x.isNormal = true) {K : Act → World → Prop} {Q : Exit → Act → World → Prop} {a : Act} {w : World} (hq : Q x.toExit a w) : Exit.then K Q x.toExit a w := by
  cases x with
  | normal => exact absurd rfl h
  | exit id => exact hq
  | ret => exact hq

theorem step_loopL {ev : CodeFn} {O : Ora} (hs : Sound P ev) (hl : SoundL P ev) : SoundL P (stepC P ⟨ev, O⟩) := by
  intro sz c env H nx fin h
  change stSeq ev sz c (.loop c) env H nx = .ok fin at h
  unfold stSeq at h
  obtain ⟨r, hr, h⟩ := and_ok h
  obtain ⟨h1, h2⟩ := hs _ _ _ _ _ _ hr
  unfold thenK at h
  rw [sel_eq] at h
  split at h
  · rename_i hn
    obtain ⟨h3, n, h4⟩ := hl _ _ _ _ _ _ h
    refine ⟨by omega, n + 1, fun F hF hno m ι w N a Q hr hw hf hN he hsz hm hd hp => ?_⟩
    rw [roundsIn_succ]
    refine h2 F hF hno m ι w N a _ hr hw hf (by omega) he hsz hm hd fun ι' a' w' g1 g2 g3 g4 g5 => ?_
    rw [isNormal_ok hn]
    exact h4 F hF hno m ι' w' N a' Q g1 (g2.wf hw) (g2.fresh hf hw) hN g3 g4 (Nat.le_trans hm g2.size) g5 (hp.trans g2 hf hN hw)
  · rename_i hn
    cases ok_inj h
    refine ⟨h1, 1, fun F hF hno m ι w N a Q hr hw hf hN he hsz hm hd hp => ?_⟩
    rw [roundsIn_succ]
    refine h2 F hF hno m ι w N a _ hr hw hf hN he hsz hm hd fun ι' a' w' g1 g2 g3 g4 g5 => ?_
    exact toExit_not hn (hp ι' a' w' g1 g2 g3 g4 g5)

theorem noGoto_of {x : X} {Q : Exit → Act → World → Prop} {a : Act} {w : World} (h : Q x.toExit a w) : Exit.noGoto Q x.toExit a w := by cases x <;> exact h

theorem noRange_two {a b : Code} {F : Fence} (h : F.round = none ∨ sel (noRange a) (noRange b) false = true) : (F.round = none ∨ noRange a = true) ∧ (F.round = none ∨ noRange b = true) := by
  rcases h with h | h
  · exact ⟨.inl h, .inl h⟩
  · rw [sel_eq] at h
    split at h
    · exact ⟨.inr (by assumption), .inr h⟩
    · cases h

/-- A RANGE OVER A FUNCTION. -/
theorem range_ok {ev : Evr} (hs : SoundE P ev) {sz : Nat} {f : Operand} {ps : Array Tmp} {x y : Code} {env : Env} {H : Heap} {nx : Nat} {fin : Fin} (h : stRange P ev sz f ps.toList x y env H nx = .ok fin) :
    nx ≤ fin.nx ∧ ∀ F, Wide F → F.round = none → ∀ m ι w N a Q, HR ι H w → Wf H nx → Fresh ι nx N → fin.nx ≤ N → ER ι env a.tmps → a.tmps.size = sz → m ≤ w.heap.size → Marks m ι w a.defers → Post m ι H nx w sz fin Q → (Code.rangeFunc f ps x y).wpIn F 0 P Q a w := by
  unfold stRange at h
  obtain ⟨fv, hfv, h⟩ := and_ok h
  unfold rangeK at h
  split at h
  · rename_i g first captured
    obtain ⟨H1, h, hH1⟩ := newLoop_ok h
    obtain ⟨v, H2, nx2, h, hnx, fn, c, hfn, hbd, hnm, hC⟩ := callO_ex hs h
    obtain ⟨blk, lr, hb, hlr, h⟩ := getLoop_ok h
    obtain ⟨hst, h⟩ := must_ok h
    obtain ⟨blk2, lr2, H3, hb2, hl2, h, hH3⟩ := setLoop_ok h
    rw [hb] at hb2; injection hb2 with hb2; subst hb2
    rw [hlr] at hl2; injection hl2 with hl2; subst hl2
    cases ok_inj h
    have hst : lr.st = 0 ∨ lr.st = 2 := by
      rw [Bool.or_eq_true] at hst
      rcases hst with hst | hst
      · have := ble_iff.1 hst; omega
      · exact .inr (beq_iff.1 hst)
    refine ⟨by simp only; omega, fun F hF hround m ι w N a Q hr hw hf hN he hsz hm hd hp => ?_⟩
    simp only at hN
    refine wpIn_rangeFunc fun fid _ => ?_
    rw [hround]
    have hfr := arg_VR he hfv
    cases hfe : a.eval f <;> rw [hfe] at hfr <;> cases hfr
    rename_i f1 c1 hfst hcap
    have hLR : LR ι { env := env, sz := sz, params := ps.toList, assign := x, body := y, st := 0, jump := .normal } { state := .ready, pending := none, fn := fid, tmps := a.tmps, params := ps, assign := x, body := y, defers := w.heap.size } :=
      ⟨he, hsz, rfl, rfl, rfl, fun _ => rfl, fun h => (by cases h), fun _ _ => rfl⟩
    obtain ⟨g1, g2⟩ := loop_new hr hw hf (by omega) hLR hH1
    have hw1 := g2.wf hw
    have hf1 := g2.fresh hf hw
    have hp1 := Ix.set_same ι nx 0 ⟨w.heap.size + 1, 0, 0⟩
    have hne : (fn.name == "runtime.NumGoroutine") = false := by simpa using hnm
    have hmarks : Marks m (ι.set nx 0 ⟨w.heap.size + 1, 0, 0⟩) ((w.alloc (.deferred (some []))).alloc (.loop { state := .ready, pending := none, fn := fid, tmps := a.tmps, params := ps, assign := x, body := y, defers := w.heap.size })) ([{ target := .collected w.heap.size, args := #[] }] ++ a.defers) := by
      obtain ⟨Ds, e1, e2, e3⟩ := hd.step g2
      obtain ⟨Ds', e1', _, e3'⟩ := hd
      have hDs : ∀ D ∈ Ds, D < w.heap.size := by
        intro D hD
        have : mark D ∈ Ds'.map mark := by rw [← e1', e1]; exact List.mem_map_of_mem hD
        obtain ⟨D', h1, h2⟩ := List.mem_map.1 this
        have h3 : D' = D := by
          have := congrArg Deferred.target h2
          simp only [mark] at this
          injection this
        subst h3
        exact lt_of_get (e3' _ h1).2.1
      refine ⟨w.heap.size :: Ds, by rw [e1]; rfl, List.nodup_cons.2 ⟨fun hh => absurd (hDs _ hh) (Nat.lt_irrefl _), e2⟩, fun D hD => ?_⟩
      rcases List.mem_cons.1 hD with rfl | hD
      · refine ⟨hm, ?_, fun b v p hbp hpc => ?_⟩
        · rw [Below.heap_alloc _ _ _ (by simp [World.size_alloc])]; exact World.alloc_heap_new w _
        · rcases Ix.set_cases hbp with ⟨_, _, e3⟩ | h4
          · rw [e3] at hpc; simp only at hpc; omega
          · have := hr.bound _ _ _ h4; omega
      · exact e3 D hD
    refine ⟨_, _, ((w.alloc (.deferred (some []))).alloc (.loop { state := .ready, pending := none, fn := fid, tmps := a.tmps, params := ps, assign := x, body := y, defers := w.heap.size })), { target := .fn (.func g) c1, args := f1 ++ #[.func (.yield (w.heap.size + 1)) #[] #[]] }, ((w.alloc (.deferred (some []))).alloc (.loop { state := .ready, pending := none, fn := fid, tmps := a.tmps, params := ps, assign := x, body := y, defers := w.heap.size })), g, f1 ++ #[.func (.yield (w.heap.size + 1)) #[] #[]] ++ c1, ((w.alloc (.deferred (some []))).alloc (.loop { state := .ready, pending := none, fn := fid, tmps := a.tmps, params := ps, assign := x, body := y, defers := w.heap.size })), run_enterLoop_outer fid a.tmps ps x y, ?_, fun f' _ => hF.fn f', ?_, hF.room, ?_⟩
    · simp only [resolve, hfe, Deferred.ofValue, Sem.run_pure]
      simp [Act.eval]
    · simp only [invoke, callFunc, Sem.run_bind, run_program, Sem.run_pure, Result.andThen_ok, hfn, hne, hbd, Option.isNone_some, Bool.false_eq_true, if_false]
    · have hargs : VRL (ι.set nx 0 ⟨w.heap.size + 1, 0, 0⟩) (first ++ [.yield nx] ++ captured) (f1 ++ #[Value.func (.yield (w.heap.size + 1)) #[] #[]] ++ c1).toList := by
        simp only [Array.toList_append]
        exact ((hfst.mono g2.le).append (.cons (.yield hp1) .nil)).append (hcap.mono g2.le)
      refine (hC F hF _ _ N _ g1 hw1 hf1 (by omega) hargs).mono ?_
      rintro e w2 ⟨ι2, xv, rfl, k1, k2, k3⟩
      have hp2 := k3.le _ _ _ hp1
      obtain ⟨r2, hr2, hL2⟩ := k2.loop _ _ _ _ hb hlr hp2
      have hbusy : r2.state ≠ .busy := by
        rcases hst with h0 | h0
        · rw [hL2.ready h0]; simp
        · rw [hL2.done h0]; simp
      have hpend : r2.pending = lr.jump.code := hL2.jump (by omega) (by omega)
      obtain ⟨u1, u2⟩ := loop_turn (nx := nx2) k2 hb hp2 hr2 hH3 (r2 := { r2 with state := .exhausted }) ⟨hL2.env, hL2.sz, hL2.params, hL2.assign, hL2.body, fun h => (by cases h), fun h => (by cases h), fun h => absurd (show 3 ≤ 2 from h) (by decide)⟩
      have s2 := g2.trans k3 hf (N := N) (by omega) hw
      have s3 := s2.trans u2 hf (N := N) (by omega) hw
      have hq := hp ι2 { a with defers := [{ target := .collected w.heap.size, args := #[] }] ++ a.defers } _ u1 s3 (he.mono s3.le) hsz ((hmarks.step k3).step u2)
      have hend : (Instr.endLoop (w.heap.size + 1)).run P w2 = .ok lr.jump.code (w2.putObj (w.heap.size + 1) (.loop { r2 with state := .exhausted })) := by rw [← hpend]; exact run_endLoop hr2 hbusy
      refine ⟨_, _, hend, ?_⟩
      simp only at hq
      cases hj : lr.jump with
      | normal => rw [hj] at hq; exact hq
      | exit id => rw [hj] at hq; exact wpIn_exit hq
      | ret => rw [hj] at hq; exact wpIn_ret hq
  · cases h

theorem step_sound {ev : Evr} (hmix : P.follows .mixedOrders = true) (hs : SoundE P ev) (hl : SoundL P ev.code) : Sound P (stepC P ev) := by
  intro sz c env H nx fin h
  cases c with
  | skip =>
    cases ok_inj (show Res.ok (⟨.normal, env, H, nx⟩ : Fin) = Res.ok fin from h)
    exact ⟨Nat.le_refl _, fun F hF hno m ι w N a Q hr hw hf hN he hsz hm hd hp => wpIn_skip (hp ι a w hr .refl he hsz hd)⟩
  | label l =>
    cases ok_inj (show Res.ok (⟨.normal, env, H, nx⟩ : Fin) = Res.ok fin from h)
    exact ⟨Nat.le_refl _, fun F hF hno m ι w N a Q hr hw hf hN he hsz hm hd hp => wpIn_label (hp ι a w hr .refl he hsz hd)⟩
  | exit id =>
    cases ok_inj (show Res.ok (⟨.exit id, env, H, nx⟩ : Fin) = Res.ok fin from h)
    exact ⟨Nat.le_refl _, fun F hF hno m ι w N a Q hr hw hf hN he hsz hm hd hp => wpIn_exit (hp ι a w hr .refl he hsz hd)⟩
  | ret =>
    cases ok_inj (show Res.ok (⟨.ret, env, H, nx⟩ : Fin) = Res.ok fin from h)
    exact ⟨Nat.le_refl _, fun F hF hno m ι w N a Q hr hw hf hN he hsz hm hd hp => wpIn_ret (hp ι a w hr .refl he hsz hd)⟩
  | goto l => cases h
  | refuse why => cases h
  | rangeFunc f p x y =>
    obtain ⟨h1, h2⟩ := range_ok hs (show stRange P ev sz f p.toList x y env H nx = .ok fin from h)
    refine ⟨h1, fun F hF hno => h2 F hF (hno.resolve_right fun hh => by cases hh)⟩
  | region rid ops draw =>
    change stRegion P ev sz ops draw env H nx = .ok fin at h
    unfold stRegion at h
    cases draw with
    | true =>
      obtain ⟨hd, h⟩ := must_ok (show must (drawOk ops) "draw" _ = _ from h)
      obtain ⟨h1, h2⟩ := evDrw_ok (rid := rid) hs hmix hd h
      exact ⟨h1, fun F hF _ => h2 F hF⟩
    | false =>
      have h : evSeq P ev sz ops ops.toList env H nx = .ok fin := h
      obtain ⟨h1, h2⟩ := evSeq_ok hs (From.all ops) h
      refine ⟨h1, fun F hF hno m ι w N a Q hr hw hf hN he hsz hm hd hp => wpIn_region ?_⟩
      have := h2 F hF m ι w N a Q hr hw hf hN he hsz hm hd hp
      rwa [Array.length_toList, ← List.range_eq_range'] at this
  | seq a b =>
    change stSeq ev.code sz a b env H nx = .ok fin at h
    unfold stSeq at h
    obtain ⟨r, hr, h⟩ := and_ok h
    obtain ⟨h1, h2⟩ := hs.code _ _ _ _ _ _ hr
    unfold thenK at h
    rw [sel_eq] at h
    split at h
    · rename_i hn
      obtain ⟨h3, h4⟩ := hs.code _ _ _ _ _ _ h
      refine ⟨by omega, fun F hF hno m ι w N act Q hr hw hf hN he hsz hm hd hp => wpIn_seq ?_⟩
      obtain ⟨n1, n2⟩ := noRange_two (show F.round = none ∨ sel (noRange a) (noRange b) false = true from hno)
      refine h2 F hF n1 m ι w N act _ hr hw hf (by omega) he hsz hm hd fun ι' a' w' g1 g2 g3 g4 g5 => ?_
      rw [isNormal_ok hn]
      exact h4 F hF n2 m ι' w' N a' Q g1 (g2.wf hw) (g2.fresh hf hw) hN g3 g4 (Nat.le_trans hm g2.size) g5 (hp.trans g2 hf hN hw)
    · rename_i hn
      cases ok_inj h
      refine ⟨h1, fun F hF hno m ι w N act Q hr hw hf hN he hsz hm hd hp => wpIn_seq ?_⟩
      obtain ⟨n1, n2⟩ := noRange_two (show F.round = none ∨ sel (noRange a) (noRange b) false = true from hno)
      refine h2 F hF n1 m ι w N act _ hr hw hf hN he hsz hm hd fun ι' a' w' g1 g2 g3 g4 g5 => ?_
      exact toExit_not hn (hp ι' a' w' g1 g2 g3 g4 g5)
  | cond c a b =>
    change stCond ev.code sz c a b env H nx = .ok fin at h
    unfold stCond at h
    obtain ⟨v, hv, h⟩ := and_ok h
    obtain ⟨t, ht, h⟩ := and_ok h
    have hvb : v = .bool t := by
      cases v <;> first | (cases ok_inj (show Res.ok _ = Res.ok t from ht); rfl) | (cases ht)
    subst hvb
    obtain ⟨h1, h2⟩ := hs.code _ _ _ _ _ _ h
    refine ⟨h1, fun F hF hno m ι w N act Q hr hw hf hN he hsz hm hd hp => ?_⟩
    obtain ⟨n1, n2⟩ := noRange_two (show F.round = none ∨ sel (noRange a) (noRange b) false = true from hno)
    have hc := arg_VR he hv
    have hce : act.eval c = .bool t := by
      cases hx : act.eval c <;> rw [hx] at hc <;> cases hc; rfl
    refine wpIn_cond hce ?_
    have := h2 F hF (by cases t <;> assumption) m ι w N act Q hr hw hf hN he hsz hm hd hp
    rw [sel_eq] at this
    exact this
  | block id a =>
    change stBlock ev.code sz id a env H nx = .ok fin at h
    unfold stBlock at h
    obtain ⟨r, hr, h⟩ := and_ok h
    cases ok_inj h
    obtain ⟨h1, h2⟩ := hs.code _ _ _ _ _ _ hr
    refine ⟨h1, fun F hF hno m ι w N act Q hr hw hf hN he hsz hm hd hp => wpIn_block ?_⟩
    refine h2 F hF hno m ι w N act _ hr hw hf hN he hsz hm hd fun ι' a' w' g1 g2 g3 g4 g5 => ?_
    have hq := hp ι' a' w' g1 g2 g3 g4 g5
    simp only at hq
    cases hx : r.x with
    | normal => rw [hx] at hq; exact hq
    | ret => rw [hx] at hq; exact hq
    | exit id' =>
      rw [hx] at hq
      simp only [X.out, sel_eq, beq_iff] at hq
      show (if id' = id then Q .normal a' w' else Q (.exit id') a' w')
      split
      · rename_i he; rw [if_pos he] at hq; exact hq
      · rename_i he; rw [if_neg he] at hq; exact hq
  | loop a =>
    obtain ⟨h1, n, h2⟩ := step_loopL (O := ev.ora) hs.code hl _ _ _ _ _ _ h
    exact ⟨h1, fun F hF hno m ι w N act Q hr hw hf hN he hsz hm hd hp => wpIn_loop_rounds n (h2 F hF hno m ι w N act Q hr hw hf hN he hsz hm hd hp)⟩
  | scope a =>
    have h : ev.code sz a env H nx = .ok fin := h
    obtain ⟨h1, h2⟩ := hs.code _ _ _ _ _ _ h
    exact ⟨h1, fun F hF hno m ι w N act Q hr hw hf hN he hsz hm hd hp => wpIn_scope_straight (h2 F hF hno m ι w N act _ hr hw hf hN he hsz hm hd fun ι' a' w' g1 g2 g3 g4 g5 => noGoto_of (hp ι' a' w' g1 g2 g3 g4 g5))⟩

theorem evC_sound (hmix : P.follows .mixedOrders = true) {O : Ora} (hO : OraSound P O) : ∀ n, Sound P (evC P O n) ∧ SoundL P (evC P O n)
  | 0 => ⟨fun _ _ _ _ _ _ h => (by cases h), fun _ _ _ _ _ _ h => (by cases h)⟩
  | n+1 =>
    let ⟨h1, h2⟩ := evC_sound hmix hO n
    ⟨step_sound hmix ⟨h1, hO⟩ h2, step_loopL h1 h2⟩

/-- the table that knows nothing -/
def noOra : Ora := fun _ _ _ _ => none
theorem noOra_sound : OraSound P noOra := fun _ _ _ _ _ _ _ h => by cases h

/-- A CALL WITHOUT ARGUMENTS THAT THE EVALUATOR TAKES FOR TRUE returns true in every world, and leaves what was there as it was. -/
theorem evTrue_calls (hmix : P.follows .mixedOrders = true) {O : Ora} (hO : OraSound P O) {n : Nat} {f : FuncId} (h : evTrue P O n f = true) (w : World) :
    Calls P f #[] w fun e w' => e = .returned (.bool true) ∧ w'.os = w.os ∧ w'.output = w.output ∧ w'.tape = w.tape ∧ w.heap.size ≤ w'.heap.size ∧ ∀ c, c < w.heap.size → w'.heap[c]? = w.heap[c]? := by
  unfold evTrue isTrue at h
  split at h
  · rename_i b H' nx' hev
    subst h
    unfold evF at hev
    obtain ⟨v, H1, nx1, hk, _, fn, c, _, _, _, hC⟩ := callK_ex (evC_sound hmix hO n).1 hev
    have hk := ok_inj hk
    injection hk with e1 e2
    injection e2 with e2 e3
    subst e1 e2 e3
    have hr0 : HR (fun _ _ => none) .lf w := ⟨fun _ _ _ _ _ h => (by cases h), fun _ _ _ _ h => (by cases h), fun _ _ _ h => (by cases h), fun _ _ h => (by cases h), fun _ _ _ _ _ _ h => (by cases h), fun _ _ _ h => (by cases h), fun _ _ _ _ h => (by cases h)⟩
    rw [← callsIn_wide (n := 0)]
    refine (hC Fence.wide wide_wide (fun _ _ => none) w nx1 #[] hr0 (fun _ _ => rfl) (fun _ _ _ _ => rfl) (Nat.le_refl _) .nil).mono ?_
    rintro e w' ⟨ι', x, rfl, hx, _, hst⟩
    cases hx
    exact ⟨rfl, hst.os, hst.output, hst.tape, hst.size, fun c hc => hst.frame c hc fun _ _ _ h => by cases h⟩
  · cases h
end
end Go.Ew

/- A row's last step where of the world behind the call 'Below' alone is known. -/
namespace Go.Ew
open Go.RowKit Go.WideShapes Go.ChangeShapes

theorem below_of {w w' : World} (h : w'.os = w.os ∧ w'.output = w.output ∧ w'.tape = w.tape ∧ w.heap.size ≤ w'.heap.size ∧ ∀ c, c < w.heap.size → w'.heap[c]? = w.heap[c]?) : Below w.heap.size w w' :=
  ⟨h.1, h.2.2.1, h.2.1, h.2.2.2.1, h.2.2.2.2⟩

section
variable {H : Type} {enc : TypeId × Value → H} {P : Program}
theorem post_below {f : Func} {s : ChangeSpec} {apart fresh handsOn again : Bool} {W W' : World} {args : Array Value} {v : Value} {ds gs : List (DataW H)} {before pa pv : List MemPlace}
    (hW : DataW.Whole enc P f.params.toList s.vars apart W args.toList ds gs before)
    (hres : ∀ (b : Nat) (sp : Nat → Bool) (hd : Bool), DataW.TrodAll enc P W' b sp hd f.resultTypes.toList (v.resultList f.resultTypes.size) (s.fn H (ds ++ gs)).results [])
    (hargs : ∀ sp : Nat → Bool, (∀ p ∈ before, sp p.block = true) → DataW.TrodAll enc P W' 0 sp true f.params.toList args.toList (s.fn H (ds ++ gs)).args pa)
    (hvars : ∀ sp : Nat → Bool, (∀ p ∈ before, sp p.block = true) → DataW.TrodVars enc P W' sp s.vars (s.fn H (ds ++ gs)).vars pv)
    (hps : before = pa ++ pv) (hb : Below W.heap.size W W')
    (hok : ∀ (j : Nat) (t : TypeId) (r : Value), f.resultTypes[j]? = some t → (v.resultList f.resultTypes.size)[j]? = some r → Value.okWide P W' .any 0 t r) :
    s.post enc P f apart fresh handsOn again W args v W' := by
  have hlt : ∀ p ∈ before, p.block < W.heap.size := fun p hp => hW.lt p hp
  have hold : ∀ p ∈ before, (fun b => decide (b < W.heap.size)) p.block = true := fun p hp => by simpa using hlt p hp
  refine ⟨ds, gs, before, [], pa, pv, hW, hres _ _ _, hargs _ hold, hvars _ hold, World.keptBut_mono (fun p hp => ⟨hp, ?_⟩) (hb.frame (· ∈ before)), fun _ => ?_⟩
  · rw [hps, List.mem_append] at hp
    exact Or.inr hp
  · obtain ⟨_, _, _, _, _, hz, hn⟩ := hW
    refine ⟨hok, _, _, ([] ++ pa) ++ pv, ⟨[] ++ pa, pv, trodAll_append (hargs _ (fun _ _ => rfl)) (hres _ _ _), hvars _ (fun _ _ => rfl), rfl, ?_, ?_⟩, ?_⟩
    · intro b off hp
      have hin : MemPlace.cell b off ∈ before := by rw [hps]; simpa using hp
      rw [hb.frozen (hlt _ hin)]
      exact hz b off hin
    · intro ha
      have := hn ha
      rw [hps] at this
      simpa using this
    · intro p hp _
      rw [hps]
      simpa using hp
end
end Go.Ew
