/- AN OPERATION LOOKS AT ITS OPERANDS' SLOTS ALONE. -/
import Derived.Test.YtmoojbahmkmfiaaGreatEwD1
namespace Go.Ew

def Agrees (env env' : Env) (l : List Operand) : Prop := ∀ x ∈ l, arg env x = arg env' x
theorem args_congr {env env' : Env} : ∀ {l : List Operand}, Agrees env env' l → args env l = args env' l
  | [], _ => rfl
  | x :: l, h => by
    simp only [args, h x (by simp), args_congr (l := l) fun y hy => h y (by simp [hy])]
theorem parts_congr {env env' : Env} : ∀ {l : List (Nat × Operand)}, Agrees env env' (l.map (·.2)) → parts env l = parts env' l
  | [], _ => rfl
  | (i, x) :: l, h => by
    simp only [parts, h x (by simp), parts_congr (l := l) fun y hy => h y (by simp only [List.map_cons, List.mem_cons]; exact .inr hy)]
theorem argO_congr {env env' : Env} {o : Option Operand} (h : ∀ x, o = some x → arg env x = arg env' x) : argO env o = argO env' o := by
  cases o with
  | none => rfl
  | some x => simp only [argO, h x rfl]
section
variable {P : Program}
theorem evQ_congr {env env' : Env} (H : Heap) {op : Op} (h : Agrees env env' op.operands.toList) : evQ P env H op = evQ P env' H op := by
  cases op with
  | move x => exact h x (by simp [Op.operands])
  | assign x => exact h x (by simp [Op.operands])
  | pick c a b => simp only [evQ, qPick, h c (by simp [Op.operands]), h a (by simp [Op.operands]), h b (by simp [Op.operands])]
  | load t a => simp only [evQ, qLoad, h a (by simp [Op.operands])]
  | nilCheck x => simp only [evQ, qNil, h x (by simp [Op.operands])]
  | binOp op t x y yt => simp only [evQ, qBin, h x (by simp [Op.operands]), h y (by simp [Op.operands])]
  | unOp op t x => simp only [evQ, qUn, h x (by simp [Op.operands])]
  | convert s d x => simp only [evQ, qConv, h x (by simp [Op.operands])]
  | makeFunc fn a c =>
    simp only [evQ, qFunc, args_congr (l := a.toList) fun x hx => h x (by simp [Op.operands]; simp at hx; exact .inl hx), args_congr (l := c.toList) fun x hx => h x (by simp [Op.operands]; simp at hx; exact .inr hx)]
  | slice t x lo hi mx =>
    simp only [evQ, qSlice, h x (by simp [Op.operands]), argO_congr (o := lo) fun y hy => h y (by subst hy; simp [Op.operands]), argO_congr (o := hi) fun y hy => h y (by subst hy; simp [Op.operands]), argO_congr (o := mx) fun y hy => h y (by subst hy; simp [Op.operands])]
  | fieldAddr t x i => simp only [evQ, qFieldAddr, h x (by simp [Op.operands])]
  | field t x i => simp only [evQ, qField, h x (by simp [Op.operands])]
  | indexAddr t x i => simp only [evQ, qIndexAddr, h x (by simp [Op.operands]), h i (by simp [Op.operands])]
  | index t x i =>
    have hx := h x (by simp [Op.operands])
    simp only [evQ, qIndex, h i (by simp [Op.operands])]
    congr 1; funext v; congr 1; funext n; congr 1; funext d
    cases d <;> first | rfl | (simp only [hx]; done) | (cases x <;> first | rfl | (rename_i v2; cases v2 <;> rfl))
  | extract x i => simp only [evQ, qExtract, h x (by simp [Op.operands])]
  | build t ps => simp only [evQ, qBuild, parts_congr (l := ps.toList) fun x hx => h x (by simpa [Op.operands] using hx)]
  | call c =>
    obtain ⟨callee, cargs, cts⟩ := c
    cases callee <;> first
      | rfl
      | simp only [evQ, qCall, args_congr (l := cargs.toList) fun x hx => h x (by simp [Op.operands, Call.operands]; simpa using hx)]
  | _ => rfl
theorem evAl_congr {env env' : Env} {op : Op} (h : Agrees env env' op.operands.toList) : evAl P env op = evAl P env' op := by
  cases op with
  | box t x => simp only [evAl, alBox, h x (by simp [Op.operands])]
  | buildSlice t n ps => simp only [evAl, alSlice, parts_congr (l := ps.toList) fun x hx => h x (by simpa [Op.operands] using hx)]
  | makeSlice t l c => simp only [evAl, alMake, h l (by simp [Op.operands]), h c (by simp [Op.operands])]
  | _ => rfl
theorem evE_congr {β : Type} {env env' : Env} (H : Heap) (nx : Nat) (k : AV → Heap → Nat → Res β) {op : Op} (h : Agrees env env' op.operands.toList) : evE P env H nx op k = evE P env' H nx op k := by
  cases op with
  | store t a x => simp only [evE, h a (by simp [Op.operands]), h x (by simp [Op.operands])]
  | call c =>
    obtain ⟨callee, cargs, cts⟩ := c
    cases callee <;> first
      | rfl
      | simp only [evE, args_congr (l := cargs.toList) fun x hx => h x (by simp [Op.operands, Call.operands]; simpa using hx)]
  | _ => rfl
theorem evCall_congr {env env' : Env} {op : Op} (h : Agrees env env' op.operands.toList) : evCall env op = evCall env' op := by
  cases op with
  | call c =>
    obtain ⟨callee, cargs, cts⟩ := c
    cases callee with
    | value f =>
      have h1 : args env cargs.toList = args env' cargs.toList := args_congr (l := cargs.toList) fun x hx => h x (by simp [Op.operands, Call.operands]; exact .inr (by simpa using hx))
      have h2 : arg env f = arg env' f := h f (by simp [Op.operands, Call.operands])
      have h3 : calleeA env cargs.toList = calleeA env' cargs.toList := by funext v; simp only [calleeA, h1]
      simp only [evCall, h2, h3]
    | _ => rfl
  | _ => rfl
/-- quiet operations that do not read memory -/
theorem evQ_heap {env : Env} {H H' : Heap} {op : Op} (h1 : ∀ t a, op ≠ .load t a) (h2 : ∀ t x l h m, op ≠ .slice t x l h m) : evQ P env H op = evQ P env H' op := by
  cases op <;> first | rfl | exact absurd rfl (h1 _ _) | exact absurd rfl (h2 _ _ _ _ _)
end

/-- the values at some numbers alone -/
def Tr.keep {α : Type} : Tr α → (Nat → Bool) → Tr α
  | .lf, _ => .lf
  | .nd v l r, p => .nd (if p 0 then v else none) (l.keep fun i => p (2 * i + 1)) (r.keep fun i => p (2 * i + 2))
theorem keep_get {α : Type} : ∀ (t : Tr α) (p : Nat → Bool) (j : Nat), (t.keep p).get j = if p j then t.get j else none
  | .lf, p, j => by simp [Tr.keep, get_lf]
  | .nd v l r, p, j => by
    rw [Tr.keep, get_nd, get_nd]
    by_cases h0 : j = 0
    · subst h0; simp
    · rw [if_neg h0, if_neg h0]
      by_cases h1 : j % 2 = 1
      · rw [if_pos h1, if_pos h1, keep_get l, show 2 * (j / 2) + 1 = j by omega]
      · rw [if_neg h1, if_neg h1, keep_get r, show 2 * (j / 2 - 1) + 2 = j by omega]

/-- the slots that an operation looks at, alone -/
noncomputable def cut (ops : Array Oper) (o : Oper) (env : Env) : Env := env.keep fun t => Nat.testBit (looks ops o) t
theorem cut_get {ops : Array Oper} {o : Oper} {env : Env} {t : Nat} {v : AV} (h : (cut ops o env).get t = some v) : t ∈ o.looksAt ops ∧ env.get t = some v := by
  unfold cut at h
  rw [keep_get] at h
  split at h
  · rename_i hb; exact ⟨looks_bit.1 hb, h⟩
  · cases h
theorem cut_agrees {ops : Array Oper} {o : Oper} {env : Env} : Agrees env (cut ops o env) o.op.operands.toList := by
  intro x hx
  cases x with
  | tmp t =>
    have : t ∈ o.looksAt ops := looksAt_mem.2 (.inl hx)
    simp only [arg, cut, keep_get, looks_bit.2 this, if_true]
  | _ => rfl
theorem cut_guard {ops : Array Oper} {o : Oper} {env : Env} : guardA ops (cut ops o env) o = guardA ops env o := by
  unfold guardA
  cases hg : o.guard with
  | none => rfl
  | some gw =>
    obtain ⟨g, wv⟩ := gw
    simp only [guardJ]
    cases ht : (ops[g]?).bind (·.dst) with
    | none => rfl
    | some t =>
      have : t ∈ o.looksAt ops := looksAt_mem.2 (.inr ⟨g, wv, hg, ht⟩)
      show ofOpt ((cut ops o env).get t) _ _ = ofOpt (env.get t) _ _
      rw [cut, keep_get, looks_bit.2 this, if_pos rfl]
end Go.Ew
