/- HOW ABSTRACT MEMORY LIES IN A WORLD, and what a step keeps. -/
import Derived.Test.YtmoojbahmkmfiaaGreatEwTr
import Derived.Laws.Cells
import Derived.Laws.CopyRow
namespace Go.Ew

/-- where a version of a block lies: the world's block, its cells' number, the size of an element where append made it -/
structure Pl where
  blk : Nat
  size : Nat
  esz : Nat
abbrev Ix := Nat → Nat → Option Pl

mutual
inductive VR (ι : Ix) : AV → Value → Prop
  | bool (b : Bool) : VR ι (.bool b) (.bool b)
  | int (k : IntKind) (n : Int) : VR ι (.int k n) (.int k n)
  | nilptr : VR ι .nilptr (.pointer none)
  | ptr {b v off : Nat} {p : Pl} (h : ι b v = some p) : VR ι (.ptr b v off) (.pointer (some ⟨p.blk, off, none⟩))
  | nilslice : VR ι .nilslice (.slice none 0 0)
  | known {b v off len cap : Nat} {p : Pl} (h : ι b v = some p) (hl : len ≤ cap) : VR ι (.slice b v off len (.known cap)) (.slice (some ⟨p.blk, off, none⟩) len cap)
  | opn {b v off len cap : Nat} {p : Pl} (h : ι b v = some p) (hl : len ≤ cap) (hs : off + cap * p.esz = p.size) : VR ι (.slice b v off len .opn) (.slice (some ⟨p.blk, off, none⟩) len cap)
  | loose {b v off cap : Nat} {a : Addr} : VR ι (.slice b v off 0 .loose) (.slice (some a) 0 cap)
  | nilFunc : VR ι .nilFunc .nilFunc
  | func {f : FuncId} {l c : List AV} {l' c' : Array Value} (h1 : VRL ι l l'.toList) (h2 : VRL ι c c'.toList) : VR ι (.func f l c) (.func (.func f) l' c')
  | agg {l : List AV} {cs : Array Value} (h : VRL ι l cs.toList) : VR ι (.agg l) (.agg cs)
  | tuple {l : List AV} {cs : Array Value} (h : VRL ι l cs.toList) : VR ι (.tuple l) (.tuple cs)
  | yield {b : Nat} {p : Pl} (h : ι b 0 = some p) : VR ι (.yield b) (.func (.yield p.blk) #[] #[])
inductive VRL (ι : Ix) : List AV → List Value → Prop
  | nil : VRL ι [] []
  | cons {a : AV} {x : Value} {l : List AV} {xs : List Value} (h : VR ι a x) (t : VRL ι l xs) : VRL ι (a :: l) (x :: xs)
end

def Ix.le (ι ι' : Ix) : Prop := ∀ b v p, ι b v = some p → ι' b v = some p
mutual
theorem VR.mono {ι ι' : Ix} (h : ι.le ι') : ∀ {a : AV} {x : Value}, VR ι a x → VR ι' a x
  | _, _, .bool b => .bool b
  | _, _, .int k n => .int k n
  | _, _, .nilptr => .nilptr
  | _, _, .ptr hp => .ptr (h _ _ _ hp)
  | _, _, .nilslice => .nilslice
  | _, _, .known hp hl => .known (h _ _ _ hp) hl
  | _, _, .opn hp hl hs => .opn (h _ _ _ hp) hl hs
  | _, _, .loose => .loose
  | _, _, .nilFunc => .nilFunc
  | _, _, .func h1 h2 => .func (VRL.mono h h1) (VRL.mono h h2)
  | _, _, .agg h1 => .agg (VRL.mono h h1)
  | _, _, .tuple h1 => .tuple (VRL.mono h h1)
  | _, _, .yield hp => .yield (h _ _ _ hp)
theorem VRL.mono {ι ι' : Ix} (h : ι.le ι') : ∀ {a : List AV} {x : List Value}, VRL ι a x → VRL ι' a x
  | _, _, .nil => .nil
  | _, _, .cons h1 h2 => .cons (VR.mono h h1) (VRL.mono h h2)
end
theorem VRL.length {ι : Ix} : ∀ {l : List AV} {xs : List Value}, VRL ι l xs → l.length = xs.length
  | _, _, .nil => rfl
  | _, _, .cons _ t => by simp [VRL.length t]
theorem VRL.get {ι : Ix} : ∀ {l : List AV} {xs : List Value}, VRL ι l xs → ∀ (i : Nat) {a : AV}, l[i]? = some a → ∃ x, xs[i]? = some x ∧ VR ι a x
  | _, _, .nil, i, a, h => by simp at h
  | _, _, .cons h1 _, 0, a, h => by simp at h; subst h; exact ⟨_, rfl, h1⟩
  | _, _, .cons _ t, i+1, a, h => by simpa using VRL.get t i (by simpa using h)
theorem VRL.of_get {ι : Ix} : ∀ {l : List AV} {xs : List Value}, l.length = xs.length → (∀ (i : Nat) (a : AV) (x : Value), l[i]? = some a → xs[i]? = some x → VR ι a x) → VRL ι l xs
  | [], [], _, _ => .nil
  | [], _ :: _, h, _ => by simp at h
  | _ :: _, [], h, _ => by simp at h
  | a :: l, x :: xs, h, hh => .cons (hh 0 a x rfl rfl) (VRL.of_get (by simpa using h) fun i a x h1 h2 => hh (i + 1) a x (by simpa using h1) (by simpa using h2))
theorem VRL.append {ι : Ix} : ∀ {l m : List AV} {xs ys : List Value}, VRL ι l xs → VRL ι m ys → VRL ι (l ++ m) (xs ++ ys)
  | _, _, _, _, .nil, h => h
  | _, _, _, _, .cons h1 t, h => .cons h1 (VRL.append t h)
theorem VRL.drop {ι : Ix} : ∀ (n : Nat) {l : List AV} {xs : List Value}, VRL ι l xs → VRL ι (l.drop n) (xs.drop n)
  | 0, _, _, h => by simpa using h
  | _+1, _, _, .nil => by simpa using VRL.nil
  | n+1, _, _, .cons _ t => by simpa using VRL.drop n t
theorem VRL.take {ι : Ix} : ∀ (n : Nat) {l : List AV} {xs : List Value}, VRL ι l xs → VRL ι (l.take n) (xs.take n)
  | 0, _, _, _ => by simpa using VRL.nil
  | _+1, _, _, .nil => by simpa using VRL.nil
  | n+1, _, _, .cons h t => by simpa using VRL.cons h (VRL.take n t)

theorem VR.one {ι : Ix} {a : AV} {x : Value} (h : VR ι a x) (ha : a.one = true) : x.oneCell' = true := by
  cases h <;> first | rfl | (cases ha)
theorem allOne_cons {v : AV} {r : List AV} (h : allOne (v :: r) = true) : v.one = true ∧ allOne r = true := by
  simp only [allOne, sel_eq] at h
  split at h
  · exact ⟨by assumption, h⟩
  · cases h
theorem VRL.one {ι : Ix} : ∀ {l : List AV} {xs : List Value}, VRL ι l xs → allOne l = true → ∀ x ∈ xs, x.oneCell' = true
  | _, _, .nil, _ => by simp
  | _, _, .cons h t, ha => by
    obtain ⟨h1, h2⟩ := allOne_cons ha
    intro x hx
    cases hx with
    | head => exact VR.one h h1
    | tail _ hm => exact VRL.one t h2 x hm
theorem allOne_mem : ∀ {l : List AV}, allOne l = true → ∀ a ∈ l, a.one = true
  | [], _ => by simp
  | v :: r, h => by
    obtain ⟨h1, h2⟩ := allOne_cons h
    intro a ha
    cases ha with
    | head => exact h1
    | tail _ hm => exact allOne_mem h2 a hm
theorem VR.cells {ι : Ix} {a : AV} {x : Value} (h : VR ι a x) : VRL ι a.cells x.cells.toList := by
  cases h with
  | agg h => exact h
  | bool => exact .cons (.bool _) .nil
  | int => exact .cons (.int _ _) .nil
  | nilptr => exact .cons .nilptr .nil
  | ptr h => exact .cons (.ptr h) .nil
  | nilslice => exact .cons .nilslice .nil
  | known h hl => exact .cons (.known h hl) .nil
  | opn h hl hs => exact .cons (.opn h hl hs) .nil
  | loose => exact .cons .loose .nil
  | nilFunc => exact .cons .nilFunc .nil
  | func h1 h2 => exact .cons (.func h1 h2) .nil
  | tuple h => exact .cons (.tuple h) .nil
  | yield h => exact .cons (.yield h) .nil

theorem ofScalar_VR {ι : Ix} {v : Value} {a : AV} (h : ofScalar v = some a) : VR ι a v := by
  unfold ofScalar at h
  split at h <;> first | (cases h; done) | (injection h with h; subst h; constructor)
theorem ofScalars_VR {ι : Ix} : ∀ {l : List Value} {m : List AV}, ofScalars l = some m → VRL ι m l
  | [], m, h => by simp [ofScalars] at h; subst h; exact .nil
  | v :: r, m, h => by
    simp only [ofScalars] at h
    split at h
    · cases h
    · rename_i a ha
      split at h
      · cases h
      · rename_i l hl
        injection h with h; subst h
        exact .cons (ofScalar_VR ha) (ofScalars_VR hl)
theorem ofConst_VR {ι : Ix} {v : Value} {a : AV} (h : ofConst v = some a) : VR ι a v := by
  unfold ofConst at h
  split at h
  · split at h
    · rename_i l hl; injection h with h; subst h; exact .agg (ofScalars_VR hl)
    · cases h
  · exact ofScalar_VR h

def ER (ι : Ix) (env : Env) (tmps : Array Value) : Prop := ∀ t v, env.get t = some v → ∃ x, tmps[t]? = some x ∧ VR ι v x
theorem ER.mono {ι ι' : Ix} {env : Env} {tmps : Array Value} (h : ER ι env tmps) (hl : ι.le ι') : ER ι' env tmps := fun t v ht =>
  let ⟨x, hx, hv⟩ := h t v ht; ⟨x, hx, hv.mono hl⟩
theorem arg_VR {ι : Ix} {env : Env} {a : Act} {o : Operand} {v : AV} (he : ER ι env a.tmps) (h : arg env o = .ok v) : VR ι v (a.eval o) := by
  unfold arg at h
  split at h
  · obtain ⟨u, hu, hk⟩ := ofOpt_ok h
    cases ok_inj hk
    obtain ⟨x, hx, hv⟩ := he _ _ hu
    simp only [Act.eval]
    rw [show a.tmps.getD _ undef = x by simp [hx]]
    exact hv
  · obtain ⟨u, hu, hk⟩ := ofOpt_ok h
    cases ok_inj hk
    exact ofConst_VR hu
  · cases ok_inj h; exact .func .nil .nil
  · cases h
theorem args_VR {ι : Ix} {env : Env} {a : Act} (he : ER ι env a.tmps) : ∀ {l : List Operand} {m : List AV}, args env l = .ok m → VRL ι m (l.map a.eval)
  | [], m, h => by cases ok_inj h; exact .nil
  | o :: r, m, h => by
    obtain ⟨v, hv, h⟩ := and_ok h
    obtain ⟨t, ht, h⟩ := and_ok h
    cases ok_inj h
    exact .cons (arg_VR he hv) (args_VR he ht)
/-- the parts of an aggregate -/
inductive PR (ι : Ix) : List (Nat × AV) → List (Nat × Value) → Prop
  | nil : PR ι [] []
  | cons {i : Nat} {a : AV} {x : Value} {l : List (Nat × AV)} {xs : List (Nat × Value)} (h : VR ι a x) (t : PR ι l xs) : PR ι ((i, a) :: l) ((i, x) :: xs)
theorem parts_PR {ι : Ix} {env : Env} {a : Act} (he : ER ι env a.tmps) : ∀ {l : List (Nat × Operand)} {m : List (Nat × AV)}, parts env l = .ok m → PR ι m (l.map fun (i, x) => (i, a.eval x))
  | [], m, h => by cases ok_inj h; exact .nil
  | (i, o) :: r, m, h => by
    obtain ⟨v, hv, h⟩ := and_ok h
    obtain ⟨t, ht, h⟩ := and_ok h
    cases ok_inj h
    exact .cons (arg_VR he hv) (parts_PR he ht)

/-- extents that go down -/
def Desc : Nat → List Nat → Prop
  | _, [] => True
  | n, e :: r => e ≤ n ∧ Desc e r
theorem Desc.mono {n m : Nat} (h : n ≤ m) : ∀ {l : List Nat}, Desc n l → Desc m l
  | [], _ => trivial
  | _ :: _, ⟨h1, h2⟩ => ⟨Nat.le_trans h1 h, h2⟩
theorem Desc.nth : ∀ {l : List Nat} {n : Nat}, Desc n l → ∀ {i e : Nat}, nth l i = some e → e ≤ n
  | [], _, _, _, _, h => by simp [Ew.nth] at h
  | e :: r, n, ⟨h1, h2⟩, i, e', h => by
    cases i with
    | zero => simp [Ew.nth] at h; omega
    | succ i => exact Nat.le_trans (Desc.nth h2 (i := i) (by simpa [Ew.nth] using h)) h1

def X.code : X → Option Code
  | .normal => none
  | .exit id => some (.exit id)
  | .ret => some .ret
/-- a loop's record in the world -/
structure LR (ι : Ix) (r : LRec) (r' : Loop) : Prop where
  env : ER ι r.env r'.tmps
  sz : r'.tmps.size = r.sz
  params : r'.params.toList = r.params
  assign : r'.assign = r.assign
  body : r'.body = r.body
  ready : r.st = 0 → r'.state = .ready
  done : r.st = 2 → r'.state = .done
  jump : r.st ≤ 2 → r.st ≠ 1 → r'.pending = r.jump.code
theorem LR.mono {ι ι' : Ix} {r : LRec} {r' : Loop} (h : LR ι r r') (hl : ι.le ι') : LR ι' r r' := { h with env := h.env.mono hl }

structure HR (ι : Ix) (H : Heap) (w : World) : Prop where
  cells : ∀ b blk v e p, H.get b = some blk → blk.ext v = some e → ι b v = some p → ∃ cs el, w.heap[p.blk]? = some (.cells cs el (0, 0)) ∧ cs.size = p.size ∧ e ≤ p.size ∧
    ∀ i, i < e → ∃ a x, blk.cells.get i = some a ∧ cs[i]? = some x ∧ VR ι a x ∧ a.one = true
  esz : ∀ b blk v p, H.get b = some blk → ι b v = some p → p.esz = blk.esz
  future : ∀ b blk v, H.get b = some blk → blk.ver < v → ι b v = none
  desc : ∀ b blk, H.get b = some blk → Desc blk.size blk.exts
  inj : ∀ b v p b' v' p', ι b v = some p → ι b' v' = some p' → p.blk = p'.blk → b = b'
  bound : ∀ b v p, ι b v = some p → p.blk < w.heap.size
  loop : ∀ b blk r p, H.get b = some blk → blk.loop = some r → ι b 0 = some p → ∃ r', w.heap[p.blk]? = some (.loop r') ∧ LR ι r r'

/-- what a step of the evaluator keeps -/
structure Stp (ι : Ix) (H : Heap) (nx : Nat) (w : World) (ι' : Ix) (H' : Heap) (nx' : Nat) (w' : World) : Prop where
  le : ι.le ι'
  new : ∀ b v p, ι' b v = some p → ι b v = some p ∨ ((nx ≤ b ∧ b < nx') ∧ w.heap.size ≤ p.blk) ∨ ((H.get b).isSome ∧ ∃ v0 p0, ι b v0 = some p0 ∧ (p0.blk = p.blk ∨ w.heap.size ≤ p.blk))
  dom : ∀ b, (H'.get b).isSome → (H.get b).isSome ∨ (nx ≤ b ∧ b < nx')
  nxle : nx ≤ nx'
  same : ∀ b blk, H.get b = some blk → (∀ v, ι b v = none) → H'.get b = some blk
  frame : ∀ c, c < w.heap.size → (∀ b v p, ι b v = some p → p.blk = c → H.get b = none) → w'.heap[c]? = w.heap[c]?
  size : w.heap.size ≤ w'.heap.size
  os : w'.os = w.os
  output : w'.output = w.output
  tape : w'.tape = w.tape

def Fresh (ι : Ix) (nx N : Nat) : Prop := ∀ b v, nx ≤ b → b < N → ι b v = none
def Wf (H : Heap) (nx : Nat) : Prop := ∀ b, nx ≤ b → H.get b = none

theorem Stp.refl {ι : Ix} {H : Heap} {nx : Nat} {w : World} : Stp ι H nx w ι H nx w :=
  ⟨fun _ _ _ h => h, fun _ _ _ h => .inl h, fun _ h => .inl h, Nat.le_refl _, fun _ _ h _ => h, fun _ _ _ => rfl, Nat.le_refl _, rfl, rfl, rfl⟩
theorem Stp.trans {ι ι1 ι2 : Ix} {H H1 H2 : Heap} {nx nx1 nx2 N : Nat} {w w1 w2 : World} (a : Stp ι H nx w ι1 H1 nx1 w1) (b : Stp ι1 H1 nx1 w1 ι2 H2 nx2 w2)
    (hf : Fresh ι nx N) (hN : nx2 ≤ N) (hw : Wf H nx) : Stp ι H nx w ι2 H2 nx2 w2 := by
  have hnx := a.nxle
  have hnx2 := b.nxle
  have hsz := a.size
  refine ⟨fun x v p h => b.le _ _ _ (a.le _ _ _ h), fun x v p h => ?_, fun x h => ?_, by omega, fun x blk h hn => ?_, fun c hc hh => ?_, Nat.le_trans hsz b.size, b.os.trans a.os, b.output.trans a.output, b.tape.trans a.tape⟩
  · rcases b.new x v p h with h1 | ⟨⟨h1, h2⟩, h3⟩ | ⟨h1, v0, p0, h2, h3⟩
    · rcases a.new x v p h1 with h4 | ⟨⟨h4, h5⟩, h6⟩ | h4
      · exact .inl h4
      · exact .inr (.inl ⟨⟨h4, by omega⟩, h6⟩)
      · exact .inr (.inr h4)
    · exact .inr (.inl ⟨⟨by omega, h2⟩, by omega⟩)
    · rcases a.new x v0 p0 h2 with h4 | ⟨⟨h4, h5⟩, h6⟩ | ⟨h4, v1, p1, h5, h6⟩
      · rcases a.dom x h1 with h5 | ⟨h5, h6⟩
        · exact .inr (.inr ⟨h5, v0, p0, h4, h3.imp id (fun h => by omega)⟩)
        · rw [hf x v0 h5 (by omega)] at h4; cases h4
      · exact .inr (.inl ⟨⟨h4, by omega⟩, by rcases h3 with h3 | h3 <;> omega⟩)
      · exact .inr (.inr ⟨h4, v1, p1, h5, by rcases h3 with h3 | h3 <;> rcases h6 with h6 | h6 <;> first | (left; omega) | (right; omega)⟩)
  · rcases b.dom x h with h1 | h1
    · rcases a.dom x h1 with h2 | h2
      · exact .inl h2
      · exact .inr ⟨h2.1, by omega⟩
    · exact .inr ⟨by omega, h1.2⟩
  · refine b.same x blk (a.same x blk h hn) fun v => ?_
    cases hv : ι1 x v with
    | none => rfl
    | some p =>
      rcases a.new x v p hv with h1 | ⟨⟨h1, _⟩, _⟩ | ⟨_, v0, p0, h1, _⟩
      · rw [hn v] at h1; cases h1
      · rw [hw x h1] at h; cases h
      · rw [hn v0] at h1; cases h1
  · have h1 := a.frame c hc hh
    rw [← h1]
    refine b.frame c (by omega) fun x v p hp hpc => ?_
    rcases a.new x v p hp with h2 | ⟨_, h2⟩ | ⟨h2, v0, p0, h3, h4⟩
    · have h3 := hh x v p h2 hpc
      cases hx : H1.get x with
      | none => rfl
      | some blk =>
        rcases a.dom x (by simp [hx]) with h4 | ⟨h4, h5⟩
        · rw [h3] at h4; cases h4
        · rw [hf x v h4 (by omega)] at h2; cases h2
    · omega
    · rcases h4 with h4 | h4
      · have := hh x v0 p0 h3 (by omega)
        rw [this] at h2; cases h2
      · omega
/-- behind a step what was free is free -/
theorem Stp.fresh {ι ι' : Ix} {H H' : Heap} {nx nx' N : Nat} {w w' : World} (a : Stp ι H nx w ι' H' nx' w') (hf : Fresh ι nx N) (hw : Wf H nx) : Fresh ι' nx' N := by
  intro b v hb hN
  have := a.nxle
  cases hv : ι' b v with
  | none => rfl
  | some p =>
    rcases a.new b v p hv with h1 | ⟨⟨_, h1⟩, _⟩ | ⟨h1, _⟩
    · rw [hf b v (by omega) hN] at h1; cases h1
    · omega
    · rw [hw b (by omega)] at h1; cases h1
theorem Stp.wf {ι ι' : Ix} {H H' : Heap} {nx nx' : Nat} {w w' : World} (a : Stp ι H nx w ι' H' nx' w') (hw : Wf H nx) : Wf H' nx' := by
  intro b hb
  have := a.nxle
  cases h : H'.get b with
  | none => rfl
  | some blk =>
    rcases a.dom b (by simp [h]) with h1 | ⟨_, h1⟩
    · rw [hw b (by omega)] at h1; cases h1
    · omega
end Go.Ew
