/- The evaluator: its values, memory and quiet operations are the model's. -/
import Derived.Test.YtcchjefjljpccaaGreatEwA
import Derived.Laws.Cells
import Derived.Laws.CopyRow
import Derived.Laws.StructEq
import Derived.Laws.Tables
/- PLAIN LAWS on the evaluator's trees and helpers. -/
namespace Go.Ew

theorem ofOpt_ok {α β : Type} {o : Option α} {w : String} {k : α → Res β} {r : β} (h : ofOpt o w k = .ok r) : ∃ a, o = some a ∧ k a = .ok r := by
  cases o with
  | none => cases h
  | some a => exact ⟨a, rfl, h⟩
theorem must_ok {β : Type} {b : Bool} {w : String} {k : Res β} {r : β} (h : must b w k = .ok r) : b = true ∧ k = .ok r := by
  cases b with
  | false => cases h
  | true => exact ⟨rfl, h⟩
theorem and_ok {α β : Type} {x : Res α} {k : α → Res β} {r : β} (h : x.and k = .ok r) : ∃ a, x = .ok a ∧ k a = .ok r := by
  cases x with
  | no => cases h
  | ok a => exact ⟨a, rfl, h⟩
theorem ok_inj {α : Type} {a b : α} (h : Res.ok a = Res.ok b) : a = b := by injection h

theorem beq_iff {a b : Nat} : Nat.beq a b = true ↔ a = b := by simp
theorem ble_iff {a b : Nat} : Nat.ble a b = true ↔ a ≤ b := by simp
theorem blt_iff {a b : Nat} : Nat.blt a b = true ↔ a < b := by simp [Nat.blt, Nat.succ_le_iff]
theorem beq_ne {a b : Nat} (h : a ≠ b) : Nat.beq a b = false := by
  cases hb : Nat.beq a b with
  | false => rfl
  | true => exact absurd (beq_iff.1 hb) h

theorem get_lf {α : Type} (j : Nat) : (Tr.lf : Tr α).get j = none := rfl
theorem sel_eq {α : Type} (b : Bool) (x y : α) : sel b x y = if b = true then x else y := by cases b <;> rfl
theorem get_nd {α : Type} (v : Option α) (l r : Tr α) (j : Nat) : (Tr.nd v l r).get j = if j = 0 then v else if j % 2 = 1 then l.get (j / 2) else r.get (j / 2 - 1) := by
  show sel (Nat.beq j 0) v (sel (Nat.beq (Nat.mod j 2) 1) (l.get (Nat.div j 2)) (r.get (Nat.sub (Nat.div j 2) 1))) = _
  simp only [sel_eq, beq_iff]
  rfl
theorem setLf_ok {α β : Type} (x : α) : ∀ (d n : Nat) (k : Tr α → Res β) {r : β}, setLf x d n k = .ok r → ∃ t', k t' = .ok r ∧ ∀ j, t'.get j = if j = n then some x else none
  | 0, _, _, _, h => by cases h
  | d+1, n, k, r, h => by
    change sel (Nat.beq n 0) (k (.nd (some x) .lf .lf)) (sel (Nat.beq (Nat.mod n 2) 1) (setLf x d (Nat.div n 2) fun t => k (.nd none t .lf)) (setLf x d (Nat.sub (Nat.div n 2) 1) fun t => k (.nd none .lf t))) = .ok r at h
    simp only [sel_eq, beq_iff] at h
    split at h
    · rename_i h0
      subst h0
      refine ⟨_, h, fun j => ?_⟩
      rw [get_nd]; split <;> simp_all [get_lf]
    · rename_i h0
      split at h
      · rename_i h2
        have h2 : n % 2 = 1 := h2
        obtain ⟨t', hk, ht⟩ := setLf_ok x d _ _ h
        refine ⟨_, hk, fun j => ?_⟩
        rw [get_nd, ht]
        simp only [get_lf]
        show (if j = 0 then none else if j % 2 = 1 then if j / 2 = n / 2 then some x else none else none) = _
        by_cases hj : j = n
        · subst hj; simp [h0, h2]
        · rw [if_neg hj]; split <;> try rfl
          split <;> try rfl
          rw [if_neg (by omega)]
      · rename_i h2
        have h2 : ¬ n % 2 = 1 := h2
        obtain ⟨t', hk, ht⟩ := setLf_ok x d _ _ h
        refine ⟨_, hk, fun j => ?_⟩
        rw [get_nd, ht]
        simp only [get_lf]
        show (if j = 0 then none else if j % 2 = 1 then none else if j / 2 - 1 = n / 2 - 1 then some x else none) = _
        by_cases hj : j = n
        · subst hj; simp [h0, h2]
        · rw [if_neg hj]; split <;> try rfl
          split <;> try rfl
          rw [if_neg (by omega)]
theorem setK_ok {α β : Type} (x : α) : ∀ (t : Tr α) (n : Nat) (k : Tr α → Res β) {r : β}, Tr.setK t n x k = .ok r → ∃ t', k t' = .ok r ∧ ∀ j, t'.get j = if j = n then some x else t.get j
  | .lf, n, k, r, h => setLf_ok x 40 n k h
  | .nd v l rr, n, k, r, h => by
    change sel (Nat.beq n 0) (k (.nd (some x) l rr)) (sel (Nat.beq (Nat.mod n 2) 1) (Tr.setK l (Nat.div n 2) x fun t => k (.nd v t rr)) (Tr.setK rr (Nat.sub (Nat.div n 2) 1) x fun t => k (.nd v l t))) = .ok r at h
    simp only [sel_eq, beq_iff] at h
    split at h
    · rename_i h0
      subst h0
      refine ⟨_, h, fun j => ?_⟩
      rw [get_nd, get_nd]; split <;> simp_all
    · rename_i h0
      split at h
      · rename_i h2
        have h2 : n % 2 = 1 := h2
        obtain ⟨t', hk, ht⟩ := setK_ok x l _ _ h
        refine ⟨_, hk, fun j => ?_⟩
        rw [get_nd, get_nd, ht]
        show (if j = 0 then v else if j % 2 = 1 then if j / 2 = n / 2 then some x else l.get (j/2) else rr.get (j/2-1)) = _
        by_cases hj : j = n
        · subst hj; simp [h0, h2]
        · rw [if_neg hj]; split <;> try rfl
          split <;> try rfl
          rw [if_neg (by omega)]
      · rename_i h2
        have h2 : ¬ n % 2 = 1 := h2
        obtain ⟨t', hk, ht⟩ := setK_ok x rr _ _ h
        refine ⟨_, hk, fun j => ?_⟩
        rw [get_nd, get_nd, ht]
        show (if j = 0 then v else if j % 2 = 1 then l.get (j/2) else if j / 2 - 1 = n / 2 - 1 then some x else rr.get (j/2-1)) = _
        by_cases hj : j = n
        · subst hj; simp [h0, h2]
        · rw [if_neg hj]; split <;> try rfl
          split <;> try rfl
          rw [if_neg (by omega)]

section
variable {β : Type}
theorem forceNat_eq (n : Nat) (k : Nat → β) : forceNat n k = k n := by cases n <;> rfl
theorem forceInt_eq (n : Int) (k : Int → β) : forceInt n k = k n := by cases n <;> simp [forceInt, forceNat_eq]
theorem forceCap_eq (c : Cap) (k : Cap → β) : forceCap c k = k c := by cases c <;> simp [forceCap, forceNat_eq]
theorem forceBool_eq (b : Bool) (k : Bool → β) : forceBool b k = k b := by cases b <;> rfl
theorem force_eq (v : AV) (k : AV → β) : force v k = k v := by cases v <;> simp [force, forceSlice, forcePtr, forceNat_eq, forceInt_eq, forceCap_eq, forceBool_eq]
end

theorem putQ_ok {β : Type} {n : Nat} {env : Env} {d : Option Tmp} {v : AV} {k : Env → Res β} {r : β} (h : putQ n env d v k = .ok r) :
    ∃ env', k env' = .ok r ∧ (∀ t, d = some t → t < n) ∧ ∀ j, env'.get j = if d = some j then some v else env.get j := by
  cases d with
  | none => exact ⟨env, h, by simp, by simp⟩
  | some t =>
    simp only [putQ, sel_eq, blt_iff] at h
    split at h
    · rename_i ht
      obtain ⟨t', hk, hg⟩ := setK_ok _ _ _ _ h
      refine ⟨t', hk, by simpa using ht, fun j => ?_⟩
      rw [hg]
      by_cases hj : j = t
      · subst hj; simp
      · rw [if_neg hj, if_neg]; simp; exact fun e => hj e.symm
    · cases h
theorem putK_ok {β : Type} {n : Nat} {env : Env} {d : Option Tmp} {v : AV} {k : Env → Res β} {r : β} (h : putK n env d v k = .ok r) :
    ∃ env', k env' = .ok r ∧ (∀ t, d = some t → t < n) ∧ ∀ j, env'.get j = if d = some j then some v else env.get j := by
  rw [putK, force_eq] at h; exact putQ_ok h

/-- setCells: the cells from off on are those of the list -/
theorem setCells_ok {β : Type} : ∀ (l : List AV) (t : Tr AV) (off : Nat) (k : Tr AV → Res β) {r : β}, setCells t off l k = .ok r →
    ∃ t', k t' = .ok r ∧ ∀ j, t'.get j = if off ≤ j ∧ j < off + l.length then l[j - off]? else t.get j
  | [], t, off, k, r, h => ⟨t, h, fun j => by rw [if_neg (by simp)]⟩
  | v :: l, t, off, k, r, h => by
    change (Tr.setK t off v fun t => setCells t (Nat.succ off) l k) = _ at h
    obtain ⟨t1, h1, g1⟩ := setK_ok _ _ _ _ h
    obtain ⟨t2, h2, g2⟩ := setCells_ok l _ _ _ h1
    refine ⟨t2, h2, fun j => ?_⟩
    rw [g2, g1]
    by_cases hj : off = j
    · subst hj; rw [if_neg (by omega), if_pos rfl, if_pos (by simp)]; simp
    · by_cases hr : Nat.succ off ≤ j ∧ j < Nat.succ off + l.length
      · rw [if_pos hr, if_pos (by simp; omega)]
        rw [show j - off = (j - (off + 1)) + 1 by omega]; simp
      · rw [if_neg hr, if_neg (by omega), if_neg (by simp; omega)]

theorem cellsAt_succ (t : Tr AV) (off n : Nat) : cellsAt t off (n + 1) = match t.get off with
    | none => none
    | some v => match cellsAt t (Nat.succ off) n with | none => none | some r => some (v :: r) := by
  show @Option.rec AV (fun _ => Option (List AV)) none (fun v => @Option.rec (List AV) (fun _ => Option (List AV)) none (fun r => some (v :: r)) (cellsAt t (Nat.succ off) n)) (t.get off) = _
  cases t.get off with
  | none => rfl
  | some v => cases cellsAt t (Nat.succ off) n <;> rfl
theorem cellsAt_ok : ∀ (n : Nat) (t : Tr AV) (off : Nat) {l : List AV}, cellsAt t off n = some l → l.length = n ∧ ∀ i, i < n → l[i]? = t.get (off + i) ∧ (t.get (off + i)).isSome
  | 0, t, off, l, h => by
    have : l = [] := by injection h with h; exact h.symm
    subst this; simp
  | n+1, t, off, l, h => by
    rw [cellsAt_succ] at h
    split at h
    · cases h
    · rename_i v hv
      split at h
      · cases h
      · rename_i r hr
        have hl : v :: r = l := by injection h
        subst hl
        obtain ⟨h1, h2⟩ := cellsAt_ok n t _ hr
        refine ⟨by simp [h1], fun i hi => ?_⟩
        cases i with
        | zero => simp [hv]
        | succ i =>
          have := h2 i (by omega)
          rw [show off + (i + 1) = Nat.succ off + i by omega]
          simpa using this

theorem kindNo_inj {a b : IntKind} (h : sameKind a b = true) : a = b := by
  cases a <;> cases b <;> first | rfl | (exact absurd h (by unfold sameKind; decide))
theorem sameInt_iff {a b : Int} : sameInt a b = true ↔ a = b := by
  cases a <;> cases b <;> simp [sameInt] <;> omega
theorem sameBool_iff {a b : Bool} : sameBool a b = true ↔ a = b := by
  cases a <;> cases b <;> simp [sameBool]
theorem capSame {a b : Cap} (h : a.same b = true) : a = b := by
  cases a <;> cases b <;> simp_all [Cap.same]
theorem same1_eq {a b : AV} (h : same1 a b = true) : a = b := by
  cases a <;> cases b <;> simp only [same1, Bool.false_eq_true, sel_eq] at h <;> try rfl
  · rw [sameBool_iff.1 h]
  · split at h
    · rename_i hk; rw [kindNo_inj hk, sameInt_iff.1 h]
    · cases h
  · (repeat' split at h) <;> simp_all
  · (repeat' split at h) <;> first | (cases h; done) | (simp_all [capSame h]; done) | (have := capSame h; simp_all)
theorem sameL_eq : ∀ {a b : List AV}, sameL a b = true → a = b
  | [], [], _ => rfl
  | [], _ :: _, h => by cases h
  | _ :: _, [], h => by cases h
  | a :: r, b :: s, h => by
    simp only [sameL, sel_eq] at h
    split at h
    · rename_i h1; rw [same1_eq h1, sameL_eq h]
    · cases h
theorem same_eq {a b : AV} (h : a.same b = true) : a = b := by
  unfold AV.same at h
  split at h
  · rw [sameL_eq h]
  · exact same1_eq h
end Go.Ew

/- HOW ABSTRACT MEMORY LIES IN A WORLD, and what a step keeps. -/
namespace Go.Ew

/-- where a version of a block lies: the world's block, its cells' number, the size of an element where append made it -/
structure Pl where
  blk : Nat
  size : Nat
  esz : Nat
abbrev Ix := Nat → Nat → Option Pl

mutual
inductive VR (ι : Ix) : AV → Value → Prop
  | bool (b : Bool) : VR ι (.bool b) (.bool b)
  | int (k : IntKind) (n : Int) : VR ι (.int k n) (.int k n)
  | nilptr : VR ι .nilptr (.pointer none)
  | ptr {b v off : Nat} {p : Pl} (h : ι b v = some p) : VR ι (.ptr b v off) (.pointer (some ⟨p.blk, off, none⟩))
  | nilslice : VR ι .nilslice (.slice none 0 0)
  | known {b v off len cap : Nat} {p : Pl} (h : ι b v = some p) (hl : len ≤ cap) : VR ι (.slice b v off len (.known cap)) (.slice (some ⟨p.blk, off, none⟩) len cap)
  | opn {b v off len cap : Nat} {p : Pl} (h : ι b v = some p) (hl : len ≤ cap) (hs : off + cap * p.esz = p.size) : VR ι (.slice b v off len .opn) (.slice (some ⟨p.blk, off, none⟩) len cap)
  | loose {b v off cap : Nat} {a : Addr} : VR ι (.slice b v off 0 .loose) (.slice (some a) 0 cap)
  | nilFunc : VR ι .nilFunc .nilFunc
  | func {f : FuncId} {l c : List AV} {l' c' : Array Value} (h1 : VRL ι l l'.toList) (h2 : VRL ι c c'.toList) : VR ι (.func f l c) (.func (.func f) l' c')
  | agg {l : List AV} {cs : Array Value} (h : VRL ι l cs.toList) : VR ι (.agg l) (.agg cs)
  | tuple {l : List AV} {cs : Array Value} (h : VRL ι l cs.toList) : VR ι (.tuple l) (.tuple cs)
  | yield {b : Nat} {p : Pl} (h : ι b 0 = some p) : VR ι (.yield b) (.func (.yield p.blk) #[] #[])
inductive VRL (ι : Ix) : List AV → List Value → Prop
  | nil : VRL ι [] []
  | cons {a : AV} {x : Value} {l : List AV} {xs : List Value} (h : VR ι a x) (t : VRL ι l xs) : VRL ι (a :: l) (x :: xs)
end

def Ix.le (ι ι' : Ix) : Prop := ∀ b v p, ι b v = some p → ι' b v = some p
mutual
theorem VR.mono {ι ι' : Ix} (h : ι.le ι') : ∀ {a : AV} {x : Value}, VR ι a x → VR ι' a x
  | _, _, .bool b => .bool b
  | _, _, .int k n => .int k n
  | _, _, .nilptr => .nilptr
  | _, _, .ptr hp => .ptr (h _ _ _ hp)
  | _, _, .nilslice => .nilslice
  | _, _, .known hp hl => .known (h _ _ _ hp) hl
  | _, _, .opn hp hl hs => .opn (h _ _ _ hp) hl hs
  | _, _, .loose => .loose
  | _, _, .nilFunc => .nilFunc
  | _, _, .func h1 h2 => .func (VRL.mono h h1) (VRL.mono h h2)
  | _, _, .agg h1 => .agg (VRL.mono h h1)
  | _, _, .tuple h1 => .tuple (VRL.mono h h1)
  | _, _, .yield hp => .yield (h _ _ _ hp)
theorem VRL.mono {ι ι' : Ix} (h : ι.le ι') : ∀ {a : List AV} {x : List Value}, VRL ι a x → VRL ι' a x
  | _, _, .nil => .nil
  | _, _, .cons h1 h2 => .cons (VR.mono h h1) (VRL.mono h h2)
end
theorem VRL.length {ι : Ix} : ∀ {l : List AV} {xs : List Value}, VRL ι l xs → l.length = xs.length
  | _, _, .nil => rfl
  | _, _, .cons _ t => by simp [VRL.length t]
theorem VRL.get {ι : Ix} : ∀ {l : List AV} {xs : List Value}, VRL ι l xs → ∀ (i : Nat) {a : AV}, l[i]? = some a → ∃ x, xs[i]? = some x ∧ VR ι a x
  | _, _, .nil, i, a, h => by simp at h
  | _, _, .cons h1 _, 0, a, h => by simp at h; subst h; exact ⟨_, rfl, h1⟩
  | _, _, .cons _ t, i+1, a, h => by simpa using VRL.get t i (by simpa using h)
theorem VRL.of_get {ι : Ix} : ∀ {l : List AV} {xs : List Value}, l.length = xs.length → (∀ (i : Nat) (a : AV) (x : Value), l[i]? = some a → xs[i]? = some x → VR ι a x) → VRL ι l xs
  | [], [], _, _ => .nil
  | [], _ :: _, h, _ => by simp at h
  | _ :: _, [], h, _ => by simp at h
  | a :: l, x :: xs, h, hh => .cons (hh 0 a x rfl rfl) (VRL.of_get (by simpa using h) fun i a x h1 h2 => hh (i + 1) a x (by simpa using h1) (by simpa using h2))
theorem VRL.append {ι : Ix} : ∀ {l m : List AV} {xs ys : List Value}, VRL ι l xs → VRL ι m ys → VRL ι (l ++ m) (xs ++ ys)
  | _, _, _, _, .nil, h => h
  | _, _, _, _, .cons h1 t, h => .cons h1 (VRL.append t h)
theorem VRL.drop {ι : Ix} : ∀ (n : Nat) {l : List AV} {xs : List Value}, VRL ι l xs → VRL ι (l.drop n) (xs.drop n)
  | 0, _, _, h => by simpa using h
  | _+1, _, _, .nil => by simpa using VRL.nil
  | n+1, _, _, .cons _ t => by simpa using VRL.drop n t
theorem VRL.take {ι : Ix} : ∀ (n : Nat) {l : List AV} {xs : List Value}, VRL ι l xs → VRL ι (l.take n) (xs.take n)
  | 0, _, _, _ => by simpa using VRL.nil
  | _+1, _, _, .nil => by simpa using VRL.nil
  | n+1, _, _, .cons h t => by simpa using VRL.cons h (VRL.take n t)

theorem VR.one {ι : Ix} {a : AV} {x : Value} (h : VR ι a x) (ha : a.one = true) : x.oneCell' = true := by
  cases h <;> first | rfl | (cases ha)
theorem allOne_cons {v : AV} {r : List AV} (h : allOne (v :: r) = true) : v.one = true ∧ allOne r = true := by
  simp only [allOne, sel_eq] at h
  split at h
  · exact ⟨by assumption, h⟩
  · cases h
theorem VRL.one {ι : Ix} : ∀ {l : List AV} {xs : List Value}, VRL ι l xs → allOne l = true → ∀ x ∈ xs, x.oneCell' = true
  | _, _, .nil, _ => by simp
  | _, _, .cons h t, ha => by
    obtain ⟨h1, h2⟩ := allOne_cons ha
    intro x hx
    cases hx with
    | head => exact VR.one h h1
    | tail _ hm => exact VRL.one t h2 x hm
theorem allOne_mem : ∀ {l : List AV}, allOne l = true → ∀ a ∈ l, a.one = true
  | [], _ => by simp
  | v :: r, h => by
    obtain ⟨h1, h2⟩ := allOne_cons h
    intro a ha
    cases ha with
    | head => exact h1
    | tail _ hm => exact allOne_mem h2 a hm
theorem VR.cells {ι : Ix} {a : AV} {x : Value} (h : VR ι a x) : VRL ι a.cells x.cells.toList := by
  cases h with
  | agg h => exact h
  | bool => exact .cons (.bool _) .nil
  | int => exact .cons (.int _ _) .nil
  | nilptr => exact .cons .nilptr .nil
  | ptr h => exact .cons (.ptr h) .nil
  | nilslice => exact .cons .nilslice .nil
  | known h hl => exact .cons (.known h hl) .nil
  | opn h hl hs => exact .cons (.opn h hl hs) .nil
  | loose => exact .cons .loose .nil
  | nilFunc => exact .cons .nilFunc .nil
  | func h1 h2 => exact .cons (.func h1 h2) .nil
  | tuple h => exact .cons (.tuple h) .nil
  | yield h => exact .cons (.yield h) .nil

theorem ofScalar_VR {ι : Ix} {v : Value} {a : AV} (h : ofScalar v = some a) : VR ι a v := by
  unfold ofScalar at h
  split at h <;> first | (cases h; done) | (injection h with h; subst h; constructor)
theorem ofScalars_VR {ι : Ix} : ∀ {l : List Value} {m : List AV}, ofScalars l = some m → VRL ι m l
  | [], m, h => by simp [ofScalars] at h; subst h; exact .nil
  | v :: r, m, h => by
    simp only [ofScalars] at h
    split at h
    · cases h
    · rename_i a ha
      split at h
      · cases h
      · rename_i l hl
        injection h with h; subst h
        exact .cons (ofScalar_VR ha) (ofScalars_VR hl)
theorem ofConst_VR {ι : Ix} {v : Value} {a : AV} (h : ofConst v = some a) : VR ι a v := by
  unfold ofConst at h
  split at h
  · split at h
    · rename_i l hl; injection h with h; subst h; exact .agg (ofScalars_VR hl)
    · cases h
  · exact ofScalar_VR h

def ER (ι : Ix) (env : Env) (tmps : Array Value) : Prop := ∀ t v, env.get t = some v → ∃ x, tmps[t]? = some x ∧ VR ι v x
theorem ER.mono {ι ι' : Ix} {env : Env} {tmps : Array Value} (h : ER ι env tmps) (hl : ι.le ι') : ER ι' env tmps := fun t v ht =>
  let ⟨x, hx, hv⟩ := h t v ht; ⟨x, hx, hv.mono hl⟩
theorem arg_VR {ι : Ix} {env : Env} {a : Act} {o : Operand} {v : AV} (he : ER ι env a.tmps) (h : arg env o = .ok v) : VR ι v (a.eval o) := by
  unfold arg at h
  split at h
  · obtain ⟨u, hu, hk⟩ := ofOpt_ok h
    cases ok_inj hk
    obtain ⟨x, hx, hv⟩ := he _ _ hu
    simp only [Act.eval]
    rw [show a.tmps.getD _ undef = x by simp [hx]]
    exact hv
  · obtain ⟨u, hu, hk⟩ := ofOpt_ok h
    cases ok_inj hk
    exact ofConst_VR hu
  · cases ok_inj h; exact .func .nil .nil
  · cases h
theorem args_VR {ι : Ix} {env : Env} {a : Act} (he : ER ι env a.tmps) : ∀ {l : List Operand} {m : List AV}, args env l = .ok m → VRL ι m (l.map a.eval)
  | [], m, h => by cases ok_inj h; exact .nil
  | o :: r, m, h => by
    obtain ⟨v, hv, h⟩ := and_ok h
    obtain ⟨t, ht, h⟩ := and_ok h
    cases ok_inj h
    exact .cons (arg_VR he hv) (args_VR he ht)
/-- the parts of an aggregate -/
inductive PR (ι : Ix) : List (Nat × AV) → List (Nat × Value) → Prop
  | nil : PR ι [] []
  | cons {i : Nat} {a : AV} {x : Value} {l : List (Nat × AV)} {xs : List (Nat × Value)} (h : VR ι a x) (t : PR ι l xs) : PR ι ((i, a) :: l) ((i, x) :: xs)
theorem parts_PR {ι : Ix} {env : Env} {a : Act} (he : ER ι env a.tmps) : ∀ {l : List (Nat × Operand)} {m : List (Nat × AV)}, parts env l = .ok m → PR ι m (l.map fun (i, x) => (i, a.eval x))
  | [], m, h => by cases ok_inj h; exact .nil
  | (i, o) :: r, m, h => by
    obtain ⟨v, hv, h⟩ := and_ok h
    obtain ⟨t, ht, h⟩ := and_ok h
    cases ok_inj h
    exact .cons (arg_VR he hv) (parts_PR he ht)

/-- extents that go down -/
def Desc : Nat → List Nat → Prop
  | _, [] => True
  | n, e :: r => e ≤ n ∧ Desc e r
theorem Desc.mono {n m : Nat} (h : n ≤ m) : ∀ {l : List Nat}, Desc n l → Desc m l
  | [], _ => trivial
  | _ :: _, ⟨h1, h2⟩ => ⟨Nat.le_trans h1 h, h2⟩
theorem Desc.nth : ∀ {l : List Nat} {n : Nat}, Desc n l → ∀ {i e : Nat}, nth l i = some e → e ≤ n
  | [], _, _, _, _, h => by simp [Ew.nth] at h
  | e :: r, n, ⟨h1, h2⟩, i, e', h => by
    cases i with
    | zero => simp [Ew.nth] at h; omega
    | succ i => exact Nat.le_trans (Desc.nth h2 (i := i) (by simpa [Ew.nth] using h)) h1

def X.code : X → Option Code
  | .normal => none
  | .exit id => some (.exit id)
  | .ret => some .ret
/-- a loop's record in the world -/
structure LR (ι : Ix) (r : LRec) (r' : Loop) : Prop where
  env : ER ι r.env r'.tmps
  sz : r'.tmps.size = r.sz
  params : r'.params.toList = r.params
  assign : r'.assign = r.assign
  body : r'.body = r.body
  ready : r.st = 0 → r'.state = .ready
  done : r.st = 2 → r'.state = .done
  jump : r.st ≤ 2 → r.st ≠ 1 → r'.pending = r.jump.code
theorem LR.mono {ι ι' : Ix} {r : LRec} {r' : Loop} (h : LR ι r r') (hl : ι.le ι') : LR ι' r r' := { h with env := h.env.mono hl }

structure HR (ι : Ix) (H : Heap) (w : World) : Prop where
  cells : ∀ b blk v e p, H.get b = some blk → blk.ext v = some e → ι b v = some p → ∃ cs el, w.heap[p.blk]? = some (.cells cs el (0, 0)) ∧ cs.size = p.size ∧ e ≤ p.size ∧
    ∀ i, i < e → ∃ a x, blk.cells.get i = some a ∧ cs[i]? = some x ∧ VR ι a x ∧ a.one = true
  esz : ∀ b blk v p, H.get b = some blk → ι b v = some p → p.esz = blk.esz
  future : ∀ b blk v, H.get b = some blk → blk.ver < v → ι b v = none
  desc : ∀ b blk, H.get b = some blk → Desc blk.size blk.exts
  inj : ∀ b v p b' v' p', ι b v = some p → ι b' v' = some p' → p.blk = p'.blk → b = b'
  bound : ∀ b v p, ι b v = some p → p.blk < w.heap.size
  loop : ∀ b blk r p, H.get b = some blk → blk.loop = some r → ι b 0 = some p → ∃ r', w.heap[p.blk]? = some (.loop r') ∧ LR ι r r'

/-- what a step of the evaluator keeps -/
structure Stp (ι : Ix) (H : Heap) (nx : Nat) (w : World) (ι' : Ix) (H' : Heap) (nx' : Nat) (w' : World) : Prop where
  le : ι.le ι'
  new : ∀ b v p, ι' b v = some p → ι b v = some p ∨ ((nx ≤ b ∧ b < nx') ∧ w.heap.size ≤ p.blk) ∨ ((H.get b).isSome ∧ ∃ v0 p0, ι b v0 = some p0 ∧ (p0.blk = p.blk ∨ w.heap.size ≤ p.blk))
  dom : ∀ b, (H'.get b).isSome → (H.get b).isSome ∨ (nx ≤ b ∧ b < nx')
  nxle : nx ≤ nx'
  same : ∀ b blk, H.get b = some blk → (∀ v, ι b v = none) → H'.get b = some blk
  frame : ∀ c, c < w.heap.size → (∀ b v p, ι b v = some p → p.blk = c → H.get b = none) → w'.heap[c]? = w.heap[c]?
  size : w.heap.size ≤ w'.heap.size
  os : w'.os = w.os
  output : w'.output = w.output
  tape : w'.tape = w.tape

def Fresh (ι : Ix) (nx N : Nat) : Prop := ∀ b v, nx ≤ b → b < N → ι b v = none
def Wf (H : Heap) (nx : Nat) : Prop := ∀ b, nx ≤ b → H.get b = none

theorem Stp.refl {ι : Ix} {H : Heap} {nx : Nat} {w : World} : Stp ι H nx w ι H nx w :=
  ⟨fun _ _ _ h => h, fun _ _ _ h => .inl h, fun _ h => .inl h, Nat.le_refl _, fun _ _ h _ => h, fun _ _ _ => rfl, Nat.le_refl _, rfl, rfl, rfl⟩
theorem Stp.trans {ι ι1 ι2 : Ix} {H H1 H2 : Heap} {nx nx1 nx2 N : Nat} {w w1 w2 : World} (a : Stp ι H nx w ι1 H1 nx1 w1) (b : Stp ι1 H1 nx1 w1 ι2 H2 nx2 w2)
    (hf : Fresh ι nx N) (hN : nx2 ≤ N) (hw : Wf H nx) : Stp ι H nx w ι2 H2 nx2 w2 := by
  have hnx := a.nxle
  have hnx2 := b.nxle
  have hsz := a.size
  refine ⟨fun x v p h => b.le _ _ _ (a.le _ _ _ h), fun x v p h => ?_, fun x h => ?_, by omega, fun x blk h hn => ?_, fun c hc hh => ?_, Nat.le_trans hsz b.size, b.os.trans a.os, b.output.trans a.output, b.tape.trans a.tape⟩
  · rcases b.new x v p h with h1 | ⟨⟨h1, h2⟩, h3⟩ | ⟨h1, v0, p0, h2, h3⟩
    · rcases a.new x v p h1 with h4 | ⟨⟨h4, h5⟩, h6⟩ | h4
      · exact .inl h4
      · exact .inr (.inl ⟨⟨h4, by omega⟩, h6⟩)
      · exact .inr (.inr h4)
    · exact .inr (.inl ⟨⟨by omega, h2⟩, by omega⟩)
    · rcases a.new x v0 p0 h2 with h4 | ⟨⟨h4, h5⟩, h6⟩ | ⟨h4, v1, p1, h5, h6⟩
      · rcases a.dom x h1 with h5 | ⟨h5, h6⟩
        · exact .inr (.inr ⟨h5, v0, p0, h4, h3.imp id (fun h => by omega)⟩)
        · rw [hf x v0 h5 (by omega)] at h4; cases h4
      · exact .inr (.inl ⟨⟨h4, by omega⟩, by rcases h3 with h3 | h3 <;> omega⟩)
      · exact .inr (.inr ⟨h4, v1, p1, h5, by rcases h3 with h3 | h3 <;> rcases h6 with h6 | h6 <;> first | (left; omega) | (right; omega)⟩)
  · rcases b.dom x h with h1 | h1
    · rcases a.dom x h1 with h2 | h2
      · exact .inl h2
      · exact .inr ⟨h2.1, by omega⟩
    · exact .inr ⟨by omega, h1.2⟩
  · refine b.same x blk (a.same x blk h hn) fun v => ?_
    cases hv : ι1 x v with
    | none => rfl
    | some p =>
      rcases a.new x v p hv with h1 | ⟨⟨h1, _⟩, _⟩ | ⟨_, v0, p0, h1, _⟩
      · rw [hn v] at h1; cases h1
      · rw [hw x h1] at h; cases h
      · rw [hn v0] at h1; cases h1
  · have h1 := a.frame c hc hh
    rw [← h1]
    refine b.frame c (by omega) fun x v p hp hpc => ?_
    rcases a.new x v p hp with h2 | ⟨_, h2⟩ | ⟨h2, v0, p0, h3, h4⟩
    · have h3 := hh x v p h2 hpc
      cases hx : H1.get x with
      | none => rfl
      | some blk =>
        rcases a.dom x (by simp [hx]) with h4 | ⟨h4, h5⟩
        · rw [h3] at h4; cases h4
        · rw [hf x v h4 (by omega)] at h2; cases h2
    · omega
    · rcases h4 with h4 | h4
      · have := hh x v0 p0 h3 (by omega)
        rw [this] at h2; cases h2
      · omega
/-- behind a step what was free is free -/
theorem Stp.fresh {ι ι' : Ix} {H H' : Heap} {nx nx' N : Nat} {w w' : World} (a : Stp ι H nx w ι' H' nx' w') (hf : Fresh ι nx N) (hw : Wf H nx) : Fresh ι' nx' N := by
  intro b v hb hN
  have := a.nxle
  cases hv : ι' b v with
  | none => rfl
  | some p =>
    rcases a.new b v p hv with h1 | ⟨⟨_, h1⟩, _⟩ | ⟨h1, _⟩
    · rw [hf b v (by omega) hN] at h1; cases h1
    · omega
    · rw [hw b (by omega)] at h1; cases h1
theorem Stp.wf {ι ι' : Ix} {H H' : Heap} {nx nx' : Nat} {w w' : World} (a : Stp ι H nx w ι' H' nx' w') (hw : Wf H nx) : Wf H' nx' := by
  intro b hb
  have := a.nxle
  cases h : H'.get b with
  | none => rfl
  | some blk =>
    rcases a.dom b (by simp [h]) with h1 | ⟨_, h1⟩
    · rw [hw b (by omega)] at h1; cases h1
    · omega
end Go.Ew

/- THE EVALUATOR's NUMBERS are the model's. -/
namespace Go.Ew

theorem wrap_i64 {n : Int} (h1 : -9223372036854775808 ≤ n) (h2 : n < 9223372036854775808) : IntKind.wrap .i64 n = n := by
  have e1 : (2 ^ IntKind.bits .i64 : Int) = 18446744073709551616 := by decide
  have e2 : (2 ^ (IntKind.bits .i64 - 1) : Int) = 9223372036854775808 := by decide
  unfold IntKind.wrap
  simp only [e1, e2, IntKind.signed, Bool.true_and, decide_eq_true_eq]
  split <;> omega
theorem wrap_u8 {n : Int} (h1 : 0 ≤ n) (h2 : n < 256) : IntKind.wrap .u8 n = n := by
  have e1 : (2 ^ IntKind.bits .u8 : Int) = 256 := by decide
  unfold IntKind.wrap
  simp only [e1, IntKind.signed, Bool.false_and, Bool.false_eq_true, if_false]
  omega
theorem small_spec {n : Int} (h : small n = true) : -9223372036854775808 ≤ n ∧ n < 9223372036854775808 := by
  cases n <;> simp only [small, ble_iff] at h <;> (try rw [Int.ofNat_eq_natCast]) <;> omega
theorem byte_spec {n : Int} (h : byte n = true) : 0 ≤ n ∧ n < 256 := by
  cases n <;> simp only [byte, blt_iff] at h
  · rw [Int.ofNat_eq_natCast]; omega
  · cases h
theorem wrapQ_eq (k : IntKind) (n : Int) : wrapQ k n = k.wrap n := by
  unfold wrapQ
  split
  · rw [sel_eq]; split
    · rename_i h; exact (wrap_i64 (small_spec h).1 (small_spec h).2).symm
    · rfl
  · rw [sel_eq]; split
    · rename_i h; exact (wrap_u8 (byte_spec h).1 (byte_spec h).2).symm
    · rfl
  · rfl
theorem ltI_eq (x y : Int) : ltI x y = decide (x < y) := by
  rw [Bool.eq_iff_iff]
  cases x <;> cases y <;> simp only [ltI, blt_iff, decide_eq_true_eq, Bool.false_eq_true, Int.ofNat_eq_natCast, true_iff, false_iff] <;> omega
theorem leI_eq (x y : Int) : leI x y = decide (x ≤ y) := by
  rw [Bool.eq_iff_iff]
  cases x <;> cases y <;> simp only [leI, ble_iff, decide_eq_true_eq, Bool.false_eq_true, Int.ofNat_eq_natCast, true_iff, false_iff] <;> omega
theorem sameInt_eq (x y : Int) : sameInt x y = (x == y) := by
  rw [Bool.eq_iff_iff, sameInt_iff]; simp
theorem sameBool_eq (x y : Bool) : sameBool x y = (x == y) := by
  cases x <;> cases y <;> rfl
theorem isZero_eq (y : Int) : isZero y = decide (y = 0) := by
  rw [Bool.eq_iff_iff]
  cases y <;> simp [isZero] <;> omega

section
variable {P : Program} {w : World}
theorem bitsSlow_run {op : BinOp} {k : IntKind} {x y : Int} {r : AV} (h : bitsSlow op k x y = .ok r) : ∃ v, (Op.intBits op k x y).run P w = .ok v w ∧ ∀ ι, VR ι r v := by
  unfold bitsSlow at h
  split at h <;> first
    | (cases h; done)
    | (cases ok_inj h; exact ⟨_, rfl, fun _ => .int _ _⟩)
theorem toNat_ofNat64 {a : Nat} (h : a < 4611686018427387904) : (BitVec.ofInt (IntKind.bits .i64) (Int.ofNat a)).toNat = a := by
  show (BitVec.ofInt 64 (Int.ofNat a)).toNat = a
  rw [BitVec.toNat_ofInt]
  show ((a : Int) % ((2 ^ 64 : Nat) : Int)).toNat = a
  have : ((2 ^ 64 : Nat) : Int) = 18446744073709551616 := by decide
  rw [this]; omega
theorem bits64_run {op : BinOp} {a b : Nat} {r : AV} (ha : a < 4611686018427387904) (hb : b < 4611686018427387904) (h : bits64 op a b = .ok r) :
    ∃ v, (Op.intBits op .i64 (Int.ofNat a) (Int.ofNat b)).run P w = .ok v w ∧ ∀ ι, VR ι r v := by
  have e : (4611686018427387904 : Nat) = 2 ^ 62 := by decide
  have h1 : Nat.land a b < 4611686018427387904 := by rw [e]; rw [e] at ha; exact Nat.and_lt_two_pow _ (by rw [← e]; exact hb)
  have h2 : Nat.lor a b < 4611686018427387904 := by rw [e]; rw [e] at ha hb; exact Nat.or_lt_two_pow ha hb
  have h3 : Nat.xor a b < 4611686018427387904 := by rw [e]; rw [e] at ha hb; exact Nat.xor_lt_two_pow ha hb
  have wr : ∀ n : Nat, n < 4611686018427387904 → IntKind.wrap .i64 (n : Int) = n := fun n hn => wrap_i64 (by omega) (by omega)
  unfold bits64 at h
  split at h
  · cases ok_inj h
    refine ⟨_, rfl, fun ι => ?_⟩
    rw [BitVec.toNat_and, toNat_ofNat64 ha, toNat_ofNat64 hb]
    show VR ι _ (.int .i64 (IntKind.wrap .i64 ((Nat.land a b : Nat) : Int)))
    rw [wr _ h1]; exact .int _ _
  · cases ok_inj h
    refine ⟨_, rfl, fun ι => ?_⟩
    rw [BitVec.toNat_or, toNat_ofNat64 ha, toNat_ofNat64 hb]
    show VR ι _ (.int .i64 (IntKind.wrap .i64 ((Nat.lor a b : Nat) : Int)))
    rw [wr _ h2]; exact .int _ _
  · cases ok_inj h
    refine ⟨_, rfl, fun ι => ?_⟩
    rw [BitVec.toNat_xor, toNat_ofNat64 ha, toNat_ofNat64 hb]
    show VR ι _ (.int .i64 (IntKind.wrap .i64 ((Nat.xor a b : Nat) : Int)))
    rw [wr _ h3]; exact .int _ _
  · cases h
theorem bitsQ_run {op : BinOp} {k : IntKind} {x y : Int} {r : AV} (h : bitsQ op k x y = .ok r) : ∃ v, (Op.intBits op k x y).run P w = .ok v w ∧ ∀ ι, VR ι r v := by
  unfold bitsQ at h
  split at h
  · rw [sel_eq] at h
    split at h
    · rename_i ha
      rw [sel_eq] at h
      split at h
      · rename_i hb; exact bits64_run (blt_iff.1 ha) (blt_iff.1 hb) h
      · exact bitsSlow_run h
    · exact bitsSlow_run h
  · exact bitsSlow_run h
theorem binInt_run {op : BinOp} {k : IntKind} {x y : Int} {r : AV} (t : TypeId) (h : binInt op k x y = .ok r) (hs : op ≠ .shl) (hr : op ≠ .shr) :
    ∃ v, (binOp op t (.int k x) (.int k y)).run P w = .ok v w ∧ ∀ ι, VR ι r v := by
  unfold binInt at h
  split at h
  · cases ok_inj h; exact ⟨.int k (k.wrap (x + y)), by simp [binOp, Op.intArith], fun ι => by rw [wrapQ_eq]; exact .int _ _⟩
  · cases ok_inj h; exact ⟨.int k (k.wrap (x - y)), by simp [binOp, Op.intArith], fun ι => by rw [wrapQ_eq]; exact .int _ _⟩
  · cases ok_inj h; exact ⟨.int k (k.wrap (x * y)), by simp [binOp, Op.intArith], fun ι => by rw [wrapQ_eq]; exact .int _ _⟩
  · obtain ⟨hz, h⟩ := must_ok h
    cases ok_inj h
    have hz : y ≠ 0 := by simpa [isZero_eq] using hz
    exact ⟨.int k (k.wrap (x.tdiv y)), by simp [binOp, Op.intDiv, hz], fun ι => by rw [wrapQ_eq]; exact .int _ _⟩
  · obtain ⟨hz, h⟩ := must_ok h
    cases ok_inj h
    have hz : y ≠ 0 := by simpa [isZero_eq] using hz
    exact ⟨.int k (x.tmod y), by simp [binOp, Op.intDiv, hz], fun ι => .int _ _⟩
  · obtain ⟨v, hv, hr⟩ := bitsQ_run (P := P) (w := w) h; exact ⟨v, by simpa [binOp] using hv, hr⟩
  · obtain ⟨v, hv, hr⟩ := bitsQ_run (P := P) (w := w) h; exact ⟨v, by simpa [binOp] using hv, hr⟩
  · obtain ⟨v, hv, hr⟩ := bitsQ_run (P := P) (w := w) h; exact ⟨v, by simpa [binOp] using hv, hr⟩
  · cases ok_inj h; exact ⟨.bool (x == y), by simp [binOp, Op.intCmp], fun ι => by rw [sameInt_eq]; exact .bool _⟩
  · cases ok_inj h; exact ⟨.bool (x != y), by simp [binOp, Op.intCmp], fun ι => by rw [sameInt_eq]; exact .bool _⟩
  · cases ok_inj h; exact ⟨.bool (decide (x < y)), by simp [binOp, Op.intCmp], fun ι => by rw [ltI_eq]; exact .bool _⟩
  · cases ok_inj h; exact ⟨.bool (decide (x ≤ y)), by simp [binOp, Op.intCmp], fun ι => by rw [leI_eq]; exact .bool _⟩
  · cases ok_inj h; exact ⟨.bool (decide (x > y)), by simp [binOp, Op.intCmp], fun ι => by rw [ltI_eq]; exact .bool _⟩
  · cases ok_inj h; exact ⟨.bool (decide (x ≥ y)), by simp [binOp, Op.intCmp], fun ι => by rw [leI_eq]; exact .bool _⟩
  · cases h
theorem shiftA_run {op : BinOp} {k k' : IntKind} {x y : Int} {r : AV} (t : TypeId) (h : shiftA op k x y = .ok r) : ∃ v, (binOp op t (.int k x) (.int k' y)).run P w = .ok v w ∧ ∀ ι, VR ι r v := by
  unfold shiftA at h
  split at h
  · rename_i n
    obtain ⟨hb, h⟩ := must_ok h
    have hb : n ≤ k.bits := ble_iff.1 hb
    unfold shiftN at h
    have hn : ¬ (Int.ofNat n < 0) := by simp
    have hm : min (Int.ofNat n).toNat k.bits = n := by simp; omega
    have hpow : (2 : Int) ^ n = Int.ofNat (Nat.pow 2 n) := by simp
    split at h
    · cases ok_inj h
      refine ⟨_, by simp only [binOp, Op.shift, hn, if_false, hm]; rfl, fun ι => ?_⟩
      rw [wrapQ_eq, hpow]; exact .int _ _
    · cases ok_inj h
      refine ⟨_, by simp only [binOp, Op.shift, hn, if_false, hm]; rfl, fun ι => ?_⟩
      rw [hpow]; exact .int _ _
    · cases h
  · cases h
end
end Go.Ew

/- QUIET OPERATIONS of the evaluator are the model's. -/
namespace Go.Ew
section
variable {P : Program} {w : World} {ι : Ix} {H : Heap}

theorem sizeT_run {t : TypeId} {n : Nat} (h : sizeT P t = .ok n) : (sizeOf t).run P w = .ok n w := by
  obtain ⟨i, hi, h⟩ := ofOpt_ok h
  cases ok_inj h
  simp [sizeOf, typeInfo, hi]
theorem aggT_run {t : TypeId} {b : Bool} (h : aggT P t = .ok b) : (isAgg t).run P w = .ok b w := by
  obtain ⟨d, hd, h⟩ := ofOpt_ok h
  cases ok_inj h
  simp only [isAgg, Sem.run_bind, run_underlying hd, Result.andThen_ok]
  cases d <;> rfl
theorem elemT_under {t : TypeId} {e : TypeId} (h : elemT P t = .ok e) : P.underlying t = some (.slice e) := by
  obtain ⟨d, hd, h⟩ := ofOpt_ok h
  unfold elemD at h
  split at h
  · cases ok_inj h; exact hd
  · cases h
theorem zeroCells_run {t : TypeId} {z : List AV} (h : zeroCells P t = .ok z) : ∃ v : Value, (zeroValue t).run P w = .ok v w ∧ VRL ι z v.cells.toList := by
  obtain ⟨i, hi, h⟩ := ofOpt_ok h
  obtain ⟨v, hv, h⟩ := ofOpt_ok h
  obtain ⟨l, hl, h⟩ := ofOpt_ok h
  cases ok_inj h
  exact ⟨v, by simp [zeroValue, typeInfo, hi, hv], ofScalars_VR hl⟩

theorem add_at (b o n : Nat) : (⟨b, o, none⟩ : Addr).add n = ⟨b, o + n, none⟩ := by
  unfold Addr.add; split
  · rename_i h; subst h; rfl
  · rfl
theorem cell_at {b : Nat} {cs : Array Value} {el : TypeId} {z : Nat × Nat} (h : w.heap[b]? = some (.cells cs el z)) (o : Nat) : w.cell? ⟨b, o, none⟩ = cs[o]? := by
  simp [World.cell?, h]

/-- what readCells gives lies in the world -/
theorem readCells_ok (hr : HR ι H w) {b v off n : Nat} {l : List AV} {p : Pl} (h : readCells H b v off n = .ok l) (hp : ι b v = some p) :
    ∃ xs : List Value, xs.length = n ∧ VRL ι l xs ∧ (∀ i x, xs[i]? = some x → w.cell? ⟨p.blk, off + i, none⟩ = some x) ∧ (∀ a ∈ l, a.one = true) ∧ off + n ≤ p.size := by
  obtain ⟨blk, hb, h⟩ := ofOpt_ok h
  obtain ⟨e, he, h⟩ := ofOpt_ok h
  obtain ⟨hle, h⟩ := must_ok h
  have hle : off + n ≤ e := ble_iff.1 hle
  obtain ⟨m, hm, h⟩ := ofOpt_ok h
  cases ok_inj h
  obtain ⟨hlen, hget⟩ := cellsAt_ok n _ _ hm
  obtain ⟨cs, el, hcs, hsz, hes, hall⟩ := hr.cells _ _ _ _ _ hb he hp
  have hxs : ((cs.toList.drop off).take n).length = n := by simp; omega
  refine ⟨(cs.toList.drop off).take n, hxs, ?_, ?_, ?_, by omega⟩
  · refine VRL.of_get (by rw [hxs, hlen]) fun i a x ha hx => ?_
    have hi : i < n := by
      have := (List.getElem?_eq_some_iff.1 ha).1; omega
    obtain ⟨h1, h2⟩ := hget i hi
    obtain ⟨a', x', h3, h4, h5, _⟩ := hall (off + i) (by omega)
    rw [h1, h3] at ha
    injection ha with ha; subst ha
    have : ((cs.toList.drop off).take n)[i]? = some x' := by
      rw [List.getElem?_take, if_pos hi, List.getElem?_drop, Array.getElem?_toList]; exact h4
    rw [this] at hx; injection hx with hx; subst hx
    exact h5
  · intro i x hx
    have hi : i < n := by
      have := (List.getElem?_eq_some_iff.1 hx).1; omega
    rw [cell_at hcs]
    rw [List.getElem?_take, if_pos hi, List.getElem?_drop, Array.getElem?_toList] at hx
    exact hx
  · intro a ha
    obtain ⟨i, hi, rfl⟩ := List.getElem_of_mem ha
    obtain ⟨h1, _⟩ := hget i (by omega)
    obtain ⟨a', x', h3, _, _, h6⟩ := hall (off + i) (by omega)
    rw [List.getElem?_eq_getElem hi, h3] at h1
    injection h1 with h1; rw [h1]; exact h6

theorem loadCells_ok (hr : HR ι H w) {b v off n : Nat} {l : List AV} {p : Pl} (h : readCells H b v off n = .ok l) (hp : ι b v = some p) :
    ∃ xs : List Value, VRL ι l xs ∧ (loadCells ⟨p.blk, off, none⟩ n).run P w = .ok xs.toArray w ∧ (∀ a ∈ l, a.one = true) := by
  obtain ⟨xs, h1, h2, h3, h4, _⟩ := readCells_ok hr h hp
  refine ⟨xs, h2, ?_, h4⟩
  have := run_loadCells_list (P := P) w ⟨p.blk, off, none⟩ xs (fun j v hv => by rw [add_at]; exact h3 j v hv)
  rwa [h1] at this

theorem whole_ok {agg : Bool} {l : List AV} {r : AV} (h : whole agg l = .ok r) : (agg = true ∧ r = .agg l) ∨ (agg = false ∧ l = [r]) := by
  unfold whole at h
  split at h
  · cases ok_inj h; exact .inl ⟨rfl, rfl⟩
  · split at h
    · cases ok_inj h; exact .inr ⟨rfl, rfl⟩
    · cases h

theorem loadAt_ok (hr : HR ι H w) {t : TypeId} {b v off : Nat} {r : AV} {p : Pl} (h : loadAt P H t b v off = .ok r) (hp : ι b v = some p) :
    ∃ x, (loadVar t ⟨p.blk, off, none⟩).run P w = .ok x w ∧ VR ι r x := by
  obtain ⟨n, hn, h⟩ := and_ok h
  obtain ⟨agg, hagg, h⟩ := and_ok h
  obtain ⟨l, hl, h⟩ := and_ok h
  obtain ⟨xs, h1, h2, _⟩ := loadCells_ok (P := P) hr hl hp
  rcases whole_ok h with ⟨rfl, rfl⟩ | ⟨rfl, rfl⟩
  · exact ⟨.agg xs.toArray, by simp [loadVar, aggT_run hagg, sizeT_run hn, h2], .agg (by simpa using h1)⟩
  · obtain ⟨ys, h3, h4, h5, _, _⟩ := readCells_ok hr hl hp
    cases h4 with
    | cons ha ht =>
      cases ht
      rename_i x
      have := h5 0 x rfl
      exact ⟨x, by simp [loadVar, aggT_run hagg]; simp only [Nat.add_zero] at this; simp [this], ha⟩
theorem loadA_ok (hr : HR ι H w) {t : TypeId} {a : AV} {y : Value} {r : AV} (h : loadA P H t a = .ok r) (hv : VR ι a y) :
    ∃ p x, y = .pointer (some p) ∧ (loadVar t p).run P w = .ok x w ∧ VR ι r x := by
  unfold loadA at h
  split at h
  · cases hv with
    | ptr hp =>
      obtain ⟨x, h1, h2⟩ := loadAt_ok hr h hp
      exact ⟨_, x, rfl, h1, h2⟩
  · cases h
end

section
variable {P : Program} {w : World} {ι : Ix} {H : Heap}

theorem VRL.split {l : List AV} {xs : List Value} {a : AV} (h : VRL ι (a :: l) xs) : ∃ x ys, xs = x :: ys ∧ VR ι a x ∧ VRL ι l ys := by
  cases h with
  | cons h t => exact ⟨_, _, rfl, h, t⟩
theorem part_one {t : TypeId} {cs : Array Value} {n : Nat} {x : Value} (ha : (isAgg t).run P w = .ok false w) (h : cs[n]? = some x) : (part t cs n).run P w = .ok x w := by
  simp [part, ha, h]
theorem isAgg_of {t : TypeId} {d : TypeDesc} (h : P.underlying t = some d) (hd : isAggD d = false) : (isAgg t).run P w = .ok false w :=
  aggT_run (by unfold aggT; rw [h]; show Res.ok (isAggD d) = _; rw [hd])
theorem head_drop {xs : List Value} {n : Nat} {x : Value} {ys : List Value} (h : xs.drop n = x :: ys) : xs[n]? = some x ∧ xs.drop (n + 1) = ys := by
  have h1 : (xs.drop n)[0]? = some x := by rw [h]; rfl
  rw [List.getElem?_drop] at h1
  refine ⟨by simpa using h1, ?_⟩
  have : (xs.drop n).drop 1 = ys := by rw [h]; rfl
  rw [List.drop_drop] at this; exact this
theorem eq1_ok {t : TypeId} {dd : TypeDesc} {a b : AV} {x y : Value} {r : Bool} (d : Nat) (hd : P.underlying t = some dd) (h : eq1 dd a b = .ok r) (hx : VR ι a x) (hy : VR ι b y) :
    (Op.equalIn (d + 1) t x y).run P w = .ok r w ∧ isAggD dd = false := by
  unfold eq1 at h
  split at h
  · obtain ⟨hk, h'⟩ := must_ok h
    cases kindNo_inj hk
    cases ok_inj h'
    cases hx; cases hy
    exact ⟨by rw [run_equalIn_int w d _ _ _ _ _ hd, sameInt_eq], rfl⟩
  · cases ok_inj h
    cases hx; cases hy
    exact ⟨by rw [run_equalIn_bool w d _ _ _ hd, sameBool_eq], rfl⟩
  · cases h
theorem eqF_ok {d : Nat} (cs ds : Array Value) : ∀ (fs : List Field) (n : Nat) (l m : List AV) (r : Bool),
    eqF P fs n l m = .ok r → VRL ι l (cs.toList.drop n) → VRL ι m (ds.toList.drop n) → (Op.eqFields (d + 1) cs ds fs).run P w = .ok r w
  | [], n, l, m, r, h, _, _ => by cases ok_inj (show Res.ok true = Res.ok r from h); rfl
  | f :: fs, n, [], m, r, h, _, _ => by cases h
  | f :: fs, n, a :: l, [], r, h, _, _ => by cases h
  | f :: fs, n, a :: l, b :: m, r, h, h1, h2 => by
    obtain ⟨hoff, h⟩ := must_ok h
    have hoff : f.offset = n := beq_iff.1 hoff
    obtain ⟨hname, h⟩ := must_ok h
    have hname : f.name ≠ "_" := by simpa using hname
    obtain ⟨dd, hdd, h⟩ := ofOpt_ok h
    obtain ⟨t, ht, h⟩ := and_ok h
    obtain ⟨x, xs, hx, hax, hxs⟩ := VRL.split h1
    obtain ⟨hx1, hx2⟩ := head_drop hx
    rw [Array.getElem?_toList] at hx1
    rw [← hx2] at hxs
    obtain ⟨y, ys, hy, hby, hys⟩ := VRL.split h2
    obtain ⟨hy1, hy2⟩ := head_drop hy
    rw [Array.getElem?_toList] at hy1
    rw [← hy2] at hys
    obtain ⟨he, hag⟩ := eq1_ok (w := w) d hdd ht hax hby
    have hag := isAgg_of (P := P) (w := w) hdd hag
    simp only [Op.eqFields, hname, ne_eq, not_false_eq_true, if_true, Sem.run_bind, hoff, part_one hag hx1, part_one hag hy1, Result.andThen_ok, he]
    rw [sel_eq] at h
    split at h
    · rename_i htt
      subst htt
      exact eqF_ok cs ds fs (n + 1) l m r h hxs hys
    · rename_i htt
      cases ok_inj h
      have : t = false := by simpa using htt
      simp [this]
theorem eqAgg_ok {t : TypeId} {fs : Array Field} {l m : List AV} {cs ds : Array Value} {r : Bool} (hd : P.underlying t = some (.struct fs)) (h : eqAgg P t fs l m = .ok r) (hx : VRL ι l cs.toList) (hy : VRL ι m ds.toList) :
    (Op.equalIn 10000 t (.agg cs) (.agg ds)).run P w = .ok r w ∧ P.eqGuardType P.depth t = false := by
  obtain ⟨h1, h⟩ := must_ok h
  obtain ⟨h2, h⟩ := must_ok h
  have hf : P.fieldsOf t = fs := by simp [Program.fieldsOf, hd]
  refine ⟨?_, by simpa using h2⟩
  rw [run_equalIn_struct w 9999 t cs ds (by rw [hf]; exact hd) (by simpa using h1), hf]
  exact eqF_ok (d := 9998) cs ds fs.toList 0 l m r h (by simpa using hx) (by simpa using hy)
theorem eqSmall (n : Nat) {t : TypeId} {d : TypeDesc} (hd : P.underlying t = some d) :
    (d = .bool → ∀ a b, (Op.equalIn (n + 1) t (.bool a) (.bool b)).run P w = .ok (a == b) w) ∧
    ((∃ e, d = .pointer e) → (∀ p, (Op.equalIn (n + 1) t (.pointer none) (.pointer p)).run P w = .ok p.isNone w) ∧ (∀ p, (Op.equalIn (n + 1) t (.pointer (some p)) (.pointer none)).run P w = .ok false w)) ∧
    ((∃ e, d = .slice e) → (∀ p l c l' c', (Op.equalIn (n + 1) t (.slice none l' c') (.slice p l c)).run P w = .ok p.isNone w) ∧ (∀ p l c l' c', (Op.equalIn (n + 1) t (.slice (some p) l c) (.slice none l' c')).run P w = .ok false w)) ∧
    ((∃ e f g, d = .func e f g) → (Op.equalIn (n + 1) t .nilFunc .nilFunc).run P w = .ok true w ∧ (∀ p l c, (Op.equalIn (n + 1) t .nilFunc (.func p l c)).run P w = .ok false w) ∧ (∀ p l c, (Op.equalIn (n + 1) t (.func p l c) .nilFunc).run P w = .ok false w)) := by
  refine ⟨?_, ?_, ?_, ?_⟩
  · rintro rfl a b; exact run_equalIn_bool w n t a b hd
  · rintro ⟨e, rfl⟩; exact ⟨fun p => by simp [Op.equalIn, run_underlying hd], fun p => by simp [Op.equalIn, run_underlying hd]⟩
  · rintro ⟨e, rfl⟩; exact ⟨fun p l c l' c' => by simp [Op.equalIn, run_underlying hd], fun p l c l' c' => by simp [Op.equalIn, run_underlying hd]⟩
  · rintro ⟨e, f, g, rfl⟩; exact ⟨by simp [Op.equalIn, run_underlying hd], fun p l c => by simp [Op.equalIn, run_underlying hd], fun p l c => by simp [Op.equalIn, run_underlying hd]⟩
theorem eqD_ok {t : TypeId} {d : TypeDesc} {a b : AV} {x y : Value} {r : Bool} (hd : P.underlying t = some d) (h : eqD P t d a b = .ok r) (hx : VR ι a x) (hy : VR ι b y) :
    (Op.equal t x y).run P w = .ok r w ∧ (∀ cs ds, x = .agg cs → y = .agg ds → P.eqGuardType P.depth t = false) ∧ (x ≠ .nilIface) ∧ (∀ k n, x ≠ .int k n) ∧ (∀ k n, x ≠ .float k n) ∧ (∀ k n m, x ≠ .complex k n m) ∧ (∀ s, x ≠ .string s) := by
  obtain ⟨e1, e2, e3, e4⟩ := eqSmall (w := w) 9999 hd
  have he : ∀ x y, Op.equal t x y = Op.equalIn (9999 + 1) t x y := fun _ _ => rfl
  simp only [he]
  unfold eqD at h
  split at h
  · cases ok_inj h; cases hx; cases hy; rw [sameBool_eq]; exact ⟨e1 rfl _ _, by simp, by simp⟩
  · cases ok_inj h; cases hx; cases hy; exact ⟨(e2 ⟨_, rfl⟩).1 _, by simp, by simp⟩
  · cases ok_inj h; cases hx; cases hy; exact ⟨(e2 ⟨_, rfl⟩).1 _, by simp, by simp⟩
  · cases ok_inj h; cases hx; cases hy; exact ⟨(e2 ⟨_, rfl⟩).2 _, by simp, by simp⟩
  · cases ok_inj h; cases hx; cases hy; exact ⟨(e3 ⟨_, rfl⟩).1 _ _ _ _ _, by simp, by simp⟩
  · cases ok_inj h; cases hx; cases hy <;> exact ⟨(e3 ⟨_, rfl⟩).1 _ _ _ _ _, by simp, by simp⟩
  · cases ok_inj h; cases hy; cases hx <;> exact ⟨(e3 ⟨_, rfl⟩).2 _ _ _ _ _, by simp, by simp⟩
  · cases ok_inj h; cases hx; cases hy; exact ⟨(e4 ⟨_, _, _, rfl⟩).1, by simp, by simp⟩
  · cases ok_inj h; cases hx; cases hy; exact ⟨(e4 ⟨_, _, _, rfl⟩).2.1 _ _ _, by simp, by simp⟩
  · cases ok_inj h; cases hx; cases hy; exact ⟨(e4 ⟨_, _, _, rfl⟩).2.2 _ _ _, by simp, by simp⟩
  · cases hx with | agg hx => cases hy with | agg hy =>
    obtain ⟨h1, h2⟩ := eqAgg_ok (w := w) hd h hx hy
    exact ⟨h1, fun _ _ _ _ => h2, by simp⟩
  · cases h

theorem binA_ok {t : TypeId} {op : BinOp} {a b : AV} {x y : Value} {r : AV} (hx : VR ι a x) (hy : VR ι b y) (h : binA P t op a b = .ok r) (ox oy : Operand) :
    ∃ v, (do eqGuard op t ox oy x y; binOp op t x y).run P w = .ok v w ∧ VR ι r v := by
  unfold binA at h
  split at h
  · cases hx; cases hy
    rename_i k x k' y
    have hg : (eqGuard op t ox oy (.int k x) (.int k' y)).run P w = .ok () w := by cases op <;> rfl
    simp only [Sem.run_bind, hg, Result.andThen_ok]
    unfold binI at h
    split at h
    · obtain ⟨v, h1, h2⟩ := shiftA_run (P := P) (w := w) t h; exact ⟨v, h1, h2 ι⟩
    · obtain ⟨v, h1, h2⟩ := shiftA_run (P := P) (w := w) t h; exact ⟨v, h1, h2 ι⟩
    · rename_i h1 h2
      obtain ⟨hk, h'⟩ := must_ok h
      cases kindNo_inj hk
      obtain ⟨v, h3, h4⟩ := binInt_run (P := P) (w := w) t h' h1 h2
      exact ⟨v, h3, h4 ι⟩
  · unfold binO at h
    split at h
    · obtain ⟨q, hq, h⟩ := and_ok h
      obtain ⟨d, hd, hq⟩ := ofOpt_ok hq
      cases ok_inj h
      obtain ⟨h1, h2, h3, h4, h5, h6, h7⟩ := eqD_ok (w := w) hd hq hx hy
      have hg : (eqGuard .eql t ox oy x y).run P w = .ok () w := by
        cases x <;> cases y <;> first | rfl | (exact absurd rfl h3) | (exact run_eqGuard_agg w _ _ _ _ _ _ (h2 _ _ rfl rfl))
      refine ⟨.bool q, ?_, .bool q⟩
      simp only [Sem.run_bind, hg, Result.andThen_ok]
      cases x <;> first | (exact absurd rfl (h4 _ _)) | (exact absurd rfl (h5 _ _)) | (exact absurd rfl (h6 _ _ _)) | (exact absurd rfl (h7 _)) | (cases y <;> simp [binOp, h1])
    · obtain ⟨q, hq, h⟩ := and_ok h
      obtain ⟨d, hd, hq⟩ := ofOpt_ok hq
      cases ok_inj h
      obtain ⟨h1, h2, h3, h4, h5, h6, h7⟩ := eqD_ok (w := w) hd hq hx hy
      have hg : (eqGuard .neq t ox oy x y).run P w = .ok () w := by
        cases x <;> cases y <;> first | rfl | (exact absurd rfl h3) | (exact run_eqGuard_agg w _ _ _ _ _ _ (h2 _ _ rfl rfl))
      refine ⟨.bool (!q), ?_, .bool _⟩
      simp only [Sem.run_bind, hg, Result.andThen_ok]
      cases x <;> first | (exact absurd rfl (h4 _ _)) | (exact absurd rfl (h5 _ _)) | (exact absurd rfl (h6 _ _ _)) | (exact absurd rfl (h7 _)) | (cases y <;> simp [binOp, h1])
    · cases h
end
end Go.Ew

/- QUIET OPERATIONS, the rest; and the one theorem on all of them. -/
namespace Go.Ew
section
variable {P : Program} {w : World} {ι : Ix} {H : Heap}

theorem asNat_VR {a : AV} {x : Value} {n : Nat} (h : asNat a = .ok n) (hx : VR ι a x) : ∃ k, x = .int k n := by
  unfold asNat at h
  split at h
  · split at h
    · cases ok_inj h; cases hx; exact ⟨_, rfl⟩
    · cases h
  · cases h
theorem run_asIntOf (k : IntKind) (n : Int) : (asIntOf (.int k n)).run P w = .ok (k, n) w := rfl
theorem sliceBound_run {k : IntKind} {n y : Nat} (c : BoundsCode) (h : n ≤ y) : (Instr.sliceBound (.int k n) y c).run P w = .ok n w := by
  simp [Instr.sliceBound, run_asIntOf, h]
/-- an optional bound in the world -/
inductive OB : Option Nat → Option Value → Prop
  | none : OB none none
  | some {n : Nat} {k : IntKind} : OB (some n) (some (.int k n))
theorem bounds_run {len cap : Nat} {low high max : Option Nat} {lo hi mx : Option Value} (s : Bool) {k : Nat → Nat → Nat → Res AV} {r : AV} (h : bounds len cap low high max k = .ok r)
    (h1 : OB low lo) (h2 : OB high hi) (h3 : OB max mx) (cap' : Nat) (hc : cap ≤ cap') (hlc : len ≤ cap) :
    (Instr.sliceBounds s len cap' lo hi mx).run P w = .ok (low.getD 0, high.getD len, max.getD cap') w ∧
      k (low.getD 0) (high.getD len) (max.getD cap) = .ok r ∧ low.getD 0 ≤ high.getD len ∧ high.getD len ≤ max.getD cap ∧ max.getD cap ≤ cap := by
  unfold bounds at h
  obtain ⟨m1, h⟩ := must_ok h
  obtain ⟨m2, h⟩ := must_ok h
  obtain ⟨m3, h⟩ := must_ok h
  obtain ⟨m4, h⟩ := must_ok h
  have m1 : max.getD cap ≤ cap := ble_iff.1 m1
  cases h3 with
  | none =>
    cases h2 with
    | none =>
      cases h1 with
      | none => exact ⟨by simp [Instr.sliceBounds], h, by simp, by simpa using hlc, m1⟩
      | some =>
        have m4 := ble_iff.1 m4
        simp only [Option.getD] at m4
        exact ⟨by simp [Instr.sliceBounds, sliceBound_run _ m4], h, m4, by simpa using hlc, m1⟩
    | some =>
      have m3 := ble_iff.1 m3
      simp only [Option.getD] at m3
      have m3' := Nat.le_trans m3 hc
      cases h1 with
      | none => exact ⟨by simp [Instr.sliceBounds, sliceBound_run _ m3'], h, by simp, by simpa using m3, m1⟩
      | some =>
        have m4 := ble_iff.1 m4
        simp only [Option.getD] at m4
        exact ⟨by simp [Instr.sliceBounds, sliceBound_run _ m4, sliceBound_run _ m3'], h, m4, by simpa using m3, m1⟩
  | some =>
    simp only [Option.getD] at m1
    have m1' := Nat.le_trans m1 hc
    cases h2 with
    | none => cases m2
    | some =>
      have m3 := ble_iff.1 m3
      simp only [Option.getD] at m3
      cases h1 with
      | none => exact ⟨by simp [Instr.sliceBounds, sliceBound_run _ m3, sliceBound_run _ m1'], h, by simp, by simpa using m3, m1⟩
      | some =>
        have m4 := ble_iff.1 m4
        simp only [Option.getD] at m4
        exact ⟨by simp [Instr.sliceBounds, sliceBound_run _ m4, sliceBound_run _ m3, sliceBound_run _ m1'], h, m4, by simpa using m3, m1⟩

theorem run_slice_slice {t e : TypeId} {n : Nat} (ht : P.underlying t = some (.slice e)) (hn : (sizeOf e).run P w = .ok n w) (a : Option Addr) (len cap : Nat) (lo hi mx : Option Value) {l h m : Nat}
    (hb : (Instr.sliceBounds true len cap lo hi mx).run P w = .ok (l, h, m) w) :
    (Instr.slice t (.slice a len cap) lo hi mx).run P w = .ok (.slice (if m = l then a else a.map (·.add (l * n))) (h - l) (m - l)) w := by
  simp [Instr.slice, run_underlying ht, hn, hb]

theorem sliceA_ok (hr : HR ι H w) {t : TypeId} {a : AV} {x : Value} {low high max : Option Nat} {lo hi mx : Option Value} {r : AV} (h : sliceA P H t a low high max = .ok r) (hx : VR ι a x)
    (h1 : OB low lo) (h2 : OB high hi) (h3 : OB max mx) : ∃ y, (Instr.slice t x lo hi mx).run P w = .ok y w ∧ VR ι r y := by
  obtain ⟨e, he, h⟩ := and_ok h
  obtain ⟨sz, hsz, h⟩ := and_ok h
  have ht := elemT_under he
  have hn := sizeT_run (w := w) hsz
  cases a with
  | nilslice =>
    cases hx
    obtain ⟨hb, h, b1, b2, b3⟩ := bounds_run (P := P) (w := w) true h h1 h2 h3 0 (Nat.le_refl _) (Nat.le_refl _)
    cases ok_inj h
    refine ⟨_, run_slice_slice ht hn none 0 0 lo hi mx hb, ?_⟩
    have e1 : max.getD 0 = 0 := by omega
    have e2 : high.getD 0 = 0 := by omega
    have e3 : low.getD 0 = 0 := by omega
    rw [e1, e2, e3]
    exact .nilslice
  | slice b v off len cap =>
    cases cap with
    | known c =>
      cases hx with
      | known hp hl =>
        obtain ⟨hb, h, b1, b2, b3⟩ := bounds_run (P := P) (w := w) true h h1 h2 h3 c (Nat.le_refl _) hl
        cases ok_inj h
        refine ⟨_, run_slice_slice ht hn _ _ _ lo hi mx hb, ?_⟩
        rw [sel_eq]
        simp only [beq_iff]
        split
        · exact .known hp (by simp only [Nat.sub_eq]; omega)
        · rw [Option.map_some, add_at]; exact .known hp (by simp only [Nat.sub_eq]; omega)
    | opn =>
      cases hx with
      | @opn _ _ _ _ cap' p hp hl hs =>
        obtain ⟨blk, hblk, h⟩ := ofOpt_ok h
        obtain ⟨ex, hex, h⟩ := ofOpt_ok h
        obtain ⟨hes, h⟩ := must_ok h
        have hes : sz = blk.esz := beq_iff.1 hes
        obtain ⟨cs, el, hcs, hcsz, hexle, _⟩ := hr.cells _ _ _ _ _ hblk hex hp
        have hpe := hr.esz _ _ _ _ hblk hp
        have hroom : Nat.max len (Nat.div (Nat.sub ex off) sz) ≤ cap' := by
          refine Nat.max_le.2 ⟨hl, ?_⟩
          show (ex - off) / sz ≤ cap'
          rw [hpe, ← hes] at hs
          rcases Nat.eq_zero_or_pos sz with h0 | h0
          · subst h0; simp
          · rw [Nat.div_le_iff_le_mul_add_pred h0]
            have : sz * cap' = cap' * sz := Nat.mul_comm _ _
            omega
        have hlr : len ≤ Nat.max len (Nat.div (Nat.sub ex off) sz) := Nat.le_max_left _ _
        obtain ⟨hb, h, b1, b2, b3⟩ := bounds_run (P := P) (w := w) true h h1 h2 h3 cap' hroom hlr
        refine ⟨_, run_slice_slice ht hn _ _ _ lo hi mx hb, ?_⟩
        cases h3 with
        | none =>
          simp only [Option.getD_none] at h b2 ⊢
          obtain ⟨_, h⟩ := must_ok h
          rw [sel_eq] at h
          split at h
          · rename_i hlt
            have hlt := blt_iff.1 hlt
            cases ok_inj h
            rw [if_neg (by omega), Option.map_some, add_at]
            refine .opn hp (by simp only [Nat.sub_eq]; omega) ?_
            show off + low.getD 0 * sz + (cap' - low.getD 0) * p.esz = p.size
            rw [hpe, ← hes] at hs ⊢
            rw [Nat.add_assoc, ← Nat.add_mul, show low.getD 0 + (cap' - low.getD 0) = cap' by omega]; exact hs
          · rename_i hge
            have hge : ¬ low.getD 0 < Nat.max len (Nat.div (Nat.sub ex off) sz) := fun hh => hge (blt_iff.2 hh)
            rw [sel_eq] at h
            split at h
            · rename_i h0
              have h0 : low.getD 0 = 0 := beq_iff.1 h0
              cases ok_inj h
              rw [h0]
              have : (if cap' = 0 then some (⟨p.blk, off, none⟩ : Addr) else Option.map (fun a : Addr => a.add (0 * sz)) (some ⟨p.blk, off, none⟩)) = some ⟨p.blk, off, none⟩ := by
                split
                · rfl
                · rw [Option.map_some, add_at]; simp
              rw [this]
              exact .opn hp (by simp only [Nat.sub_eq]; omega) (by simpa using hs)
            · cases ok_inj h
              have e0 : Nat.sub (high.getD len) (low.getD 0) = 0 := by simp only [Nat.sub_eq]; omega
              have e1 : high.getD len - low.getD 0 = 0 := e0
              rw [e0, e1]
              have : ∃ a', (if cap' = low.getD 0 then some (⟨p.blk, off, none⟩ : Addr) else Option.map (fun a : Addr => a.add (low.getD 0 * sz)) (some ⟨p.blk, off, none⟩)) = some a' := by
                split
                · exact ⟨_, rfl⟩
                · exact ⟨_, rfl⟩
              obtain ⟨a', ha'⟩ := this
              rw [ha']; exact .loose
        | some =>
          simp only [Option.getD_some] at h b2 ⊢
          rw [sel_eq] at h
          split at h
          · cases h
          · rename_i hne
            have hne : ¬ _ = low.getD 0 := fun hh => hne (beq_iff.2 hh)
            cases ok_inj h
            rw [if_neg hne, Option.map_some, add_at]
            exact .known hp (by simp only [Nat.sub_eq]; omega)
    | loose => cases h
  | _ => cases h

theorem partA_ok {t : TypeId} {agg : Bool} {n off : Nat} {l : List AV} {cs : Array Value} {r : AV} (hag : (isAgg t).run P w = .ok agg w) (hn : (sizeOf t).run P w = .ok n w) (h : partA agg l off n = .ok r) (hl : VRL ι l cs.toList) :
    ∃ x, (part t cs off).run P w = .ok x w ∧ VR ι r x := by
  unfold partA at h
  split at h
  · cases ok_inj h
    refine ⟨.agg (cs.extract off (off + n)), by simp [part, hag, hn], .agg ?_⟩
    have := VRL.take n (VRL.drop off hl)
    rw [Array.toList_extract]
    simpa [List.extract_eq_take_drop] using this
  · obtain ⟨a, ha, h⟩ := ofOpt_ok h
    cases ok_inj h
    obtain ⟨x, hx, hv⟩ := VRL.get hl off ha
    exact ⟨x, part_one hag (by simpa using hx), hv⟩

theorem indexAddrA_ok {t : TypeId} {n : Nat} {d : TypeDesc} {k : IntKind} {a : AV} {x : Value} {r : AV} (hd : P.underlying t = some d) (h : indexAddrA P n d a = .ok r) (hx : VR ι a x) :
    ∃ y, (Instr.indexAt t x (.int k n)).run P w = .ok y w ∧ VR ι r y := by
  unfold indexAddrA at h
  split at h
  · rename_i e b v off len cap
    obtain ⟨sz, hsz, h⟩ := and_ok h
    obtain ⟨hlt, h⟩ := must_ok h
    have hlt : n < len := blt_iff.1 hlt
    cases ok_inj h
    have hn := sizeT_run (w := w) hsz
    cases hx with
    | known hp hl => exact ⟨_, by simp [Instr.indexAt, run_asIntOf, run_underlying hd, hlt, hn, add_at], .ptr hp⟩
    | opn hp hl hs => exact ⟨_, by simp [Instr.indexAt, run_asIntOf, run_underlying hd, hlt, hn, add_at], .ptr hp⟩
    | loose => omega
  · rename_i len e b v off
    obtain ⟨sz, hsz, h⟩ := and_ok h
    obtain ⟨hlt, h⟩ := must_ok h
    have hlt : n < len := blt_iff.1 hlt
    cases ok_inj h
    have hn := sizeT_run (w := w) hsz
    cases hx with
    | ptr hp => exact ⟨_, by simp [Instr.indexAt, Instr.sureAddr, run_asIntOf, run_underlying hd, hlt, hn, add_at], .ptr hp⟩
  · cases h
end
end Go.Ew

/- QUIET OPERATIONS: aggregates, builtins; the one theorem on all quiet operations. -/
namespace Go.Ew
section
variable {P : Program} {w : World} {ι : Ix} {H : Heap}

/-- a tree that holds an array's cells -/
def TR (ι : Ix) (t : Tr AV) (cs : Array Value) : Prop := ∀ i, i < cs.size → ∃ a x, t.get i = some a ∧ cs[i]? = some x ∧ VR ι a x
theorem TR.of_setCells {l : List AV} {xs : Array Value} {t t' : Tr AV} (hl : VRL ι l xs.toList) (h : ∀ j, t'.get j = if 0 ≤ j ∧ j < 0 + l.length then l[j - 0]? else t.get j) : TR ι t' xs := by
  intro i hi
  have hlen := hl.length
  have hi' : i < l.length := by rw [hlen]; simpa using hi
  obtain ⟨x, hx, hv⟩ := hl.get i (List.getElem?_eq_getElem hi')
  refine ⟨l[i], x, ?_, by simpa using hx, hv⟩
  rw [h i, if_pos (by omega), Nat.sub_zero, List.getElem?_eq_getElem hi']
theorem TR.cellsAt {t : Tr AV} {cs : Array Value} {l : List AV} {n : Nat} (h : TR ι t cs) (hn : n = cs.size) (hc : cellsAt t 0 n = some l) : VRL ι l cs.toList := by
  obtain ⟨h1, h2⟩ := cellsAt_ok n _ _ hc
  refine VRL.of_get (by simp; omega) fun i a x ha hx => ?_
  have hi : i < n := by have := (List.getElem?_eq_some_iff.1 ha).1; omega
  obtain ⟨a', x', h3, h4, h5⟩ := h i (by omega)
  obtain ⟨h6, _⟩ := h2 i hi
  rw [h6, Nat.zero_add, h3] at ha
  injection ha with ha; subst ha
  rw [Array.getElem?_toList, h4] at hx
  injection hx with hx; subst hx; exact h5
theorem foldl_set (off : Nat) : ∀ (l : List Value) (s : Nat) (cs : Array Value),
    ((l.zipIdx s).foldl (fun (cs : Array Value) (x : Value × Nat) => cs.setIfInBounds (off + x.2) x.1) cs).size = cs.size ∧
    ∀ i, ((l.zipIdx s).foldl (fun (cs : Array Value) (x : Value × Nat) => cs.setIfInBounds (off + x.2) x.1) cs)[i]? = if i < cs.size ∧ off + s ≤ i ∧ i < off + s + l.length then l[i - (off + s)]? else cs[i]?
  | [], s, cs => ⟨rfl, fun i => by rw [if_neg (by simp)]; rfl⟩
  | v :: l, s, cs => by
    obtain ⟨h1, h2⟩ := foldl_set off l (s + 1) (cs.setIfInBounds (off + s) v)
    simp only [List.zipIdx_cons, List.foldl_cons]
    refine ⟨by rw [h1]; simp, fun i => ?_⟩
    rw [h2]
    simp only [Array.size_setIfInBounds, List.length_cons]
    by_cases hc : i < cs.size ∧ off + s ≤ i ∧ i < off + s + (l.length + 1)
    · rw [if_pos hc]
      by_cases hi : i = off + s
      · subst hi
        rw [if_neg (by omega)]
        simp [hc.1]
      · rw [if_pos (by omega)]
        rw [show i - (off + s) = (i - (off + (s + 1))) + 1 by omega]
        simp
    · rw [if_neg hc, if_neg (by omega)]
      rw [Array.getElem?_setIfInBounds]
      split
      · rename_i he
        subst he
        split
        · exfalso; omega
        · rename_i hh
          rw [Array.getElem?_eq_none (by omega)]
      · rfl
theorem fillK_ok {place place' : Nat → Option (Nat × Nat)} (hpl : ∀ i, place i = place' i) : ∀ {l : List (Nat × AV)} {l' : List (Nat × Value)} {t : Tr AV} {cs : Array Value} {n : Nat} {k : Tr AV → Res AV} {r : AV},
    fillK t n place l k = .ok r → PR ι l l' → TR ι t cs → cs.size = n → ∃ t' cs', Instr.fill place' cs l' = some cs' ∧ cs'.size = n ∧ TR ι t' cs' ∧ k t' = .ok r
  | [], l', t, cs, n, k, r, h, hp, ht, hs => by
    cases hp
    exact ⟨t, cs, rfl, hs, ht, h⟩
  | (i, v) :: l, l', t, cs, n, k, r, h, hp, ht, hs => by
    cases hp with
    | @cons _ _ x _ xs hv hp =>
      unfold fillK at h
      split at h
      · cases h
      · rename_i off m hi
        obtain ⟨hm, h⟩ := must_ok h
        obtain ⟨he, h⟩ := must_ok h
        have hm : v.cells.length = m := beq_iff.1 hm
        have he : off + m ≤ n := ble_iff.1 he
        obtain ⟨t1, h, ht1⟩ := setCells_ok _ _ _ _ h
        have hc := hv.cells
        have hlen := hc.length
        obtain ⟨f1, f2⟩ := foldl_set off x.cells.toList 0 cs
        have hfold : x.cells.zipIdx.foldl (fun cs (c, j) => cs.setIfInBounds (off + j) c) cs = (x.cells.toList.zipIdx 0).foldl (fun (cs : Array Value) (x : Value × Nat) => cs.setIfInBounds (off + x.2) x.1) cs := by
          rw [← Array.foldl_toList]; simp
        obtain ⟨t', cs', g1, g2, g3, g4⟩ := fillK_ok hpl (cs := (x.cells.toList.zipIdx 0).foldl (fun (cs : Array Value) (x : Value × Nat) => cs.setIfInBounds (off + x.2) x.1) cs) h hp (fun j hj => by
          rw [f1] at hj
          rw [f2, ht1]
          by_cases hr : off ≤ j ∧ j < off + v.cells.length
          · rw [if_pos hr, if_pos (by simp only [Nat.add_zero]; rw [← hlen]; exact ⟨hj, hr⟩)]
            have hjl : j - off < v.cells.length := by omega
            obtain ⟨y, hy, hvy⟩ := hc.get (j - off) (List.getElem?_eq_getElem hjl)
            exact ⟨_, y, List.getElem?_eq_getElem hjl, by simpa using hy, hvy⟩
          · rw [if_neg hr, if_neg (by simp only [Nat.add_zero]; rw [← hlen]; exact fun hh => hr hh.2)]
            exact ht j hj) (by rw [f1, hs])
        refine ⟨t', cs', ?_, g2, g3, g4⟩
        unfold Instr.fill
        rw [← hpl, hi]
        simp only []
        have hxs : x.cells.size = m := by rw [← hm, hlen]; simp
        rw [if_neg (by simp [hxs]; omega), hfold]
        exact g1
theorem places_ok : ∀ {fs : List Field} {pl : List (Nat × Nat)}, places P fs = .ok pl → fs.mapM (fun f => (P.info? f.type).map fun i => (f.offset, i.size)) = some pl
  | [], pl, h => by cases ok_inj (show Res.ok [] = Res.ok pl from h); rfl
  | f :: fs, pl, h => by
    obtain ⟨n, hn, h⟩ := and_ok h
    obtain ⟨i, hi, hn⟩ := ofOpt_ok hn
    cases ok_inj hn
    obtain ⟨l, hl, h⟩ := and_ok h
    cases ok_inj h
    simp [List.mapM_cons, hi, places_ok hl]
theorem buildA_ok {t : TypeId} {d : TypeDesc} {z : List AV} {l : List (Nat × AV)} {l' : Array (Nat × Value)} {r : AV} (hz : zeroCells P t = .ok z) (hd : P.underlying t = some d) (hl : PR ι l l'.toList) (h : buildA P z l d = .ok r) :
    ∃ cs, (Instr.build t l').run P w = .ok (.agg cs) w ∧ VR ι r (.agg cs) := by
  obtain ⟨i, hi, hz⟩ := ofOpt_ok hz
  obtain ⟨zv, hzv, hz⟩ := ofOpt_ok hz
  obtain ⟨z', hz', hz⟩ := ofOpt_ok hz
  cases ok_inj hz
  have hzr : VRL ι z zv.cells.toList := ofScalars_VR hz'
  have hzl := hzr.length
  cases d with
  | struct fields =>
    obtain ⟨pl, hpl, h⟩ := and_ok h
    obtain ⟨t1, h, ht1⟩ := setCells_ok _ _ _ _ h
    obtain ⟨t2, cs, h1, h2, h3, h4⟩ := fillK_ok (ι := ι) (place' := (pl.toArray[·]?)) (fun i => by simp) h hl (TR.of_setCells hzr ht1) (by rw [hzl]; simp)
    obtain ⟨m, hm, h4⟩ := ofOpt_ok h4
    cases ok_inj h4
    refine ⟨cs, run_build w t l' cs ?_, .agg (h3.cellsAt h2.symm hm)⟩
    simp [Program.built, hi, hd, hzv, places_ok hpl]; simpa using h1
  | array len e =>
    obtain ⟨sz, hsz, h⟩ := and_ok h
    obtain ⟨ie, hie, hsz⟩ := ofOpt_ok hsz
    cases ok_inj hsz
    obtain ⟨t1, h, ht1⟩ := setCells_ok _ _ _ _ h
    obtain ⟨t2, cs, h1, h2, h3, h4⟩ := fillK_ok (ι := ι) (place' := fun i => some (i * ie.size, ie.size)) (fun i => rfl) h hl (TR.of_setCells hzr ht1) (by rw [hzl]; simp)
    obtain ⟨m, hm, h4⟩ := ofOpt_ok h4
    cases ok_inj h4
    refine ⟨cs, run_build w t l' cs ?_, .agg (h3.cellsAt h2.symm hm)⟩
    simp [Program.built, hi, hd, hzv, hie]; exact h1
  | _ => cases h

theorem lenA_VR {a : AV} {x : Value} {n : Nat} (h : lenA a = .ok n) (hx : VR ι a x) : ∃ p c, x = .slice p n c := by
  unfold lenA at h
  split at h
  · cases ok_inj h; cases hx; exact ⟨_, _, rfl⟩
  · cases ok_inj h; cases hx <;> exact ⟨_, _, rfl⟩
  · cases h
theorem capA_VR {a : AV} {x : Value} {r : AV} (h : capA a = .ok r) (hx : VR ι a x) : ∃ p n c, x = .slice p n c ∧ r = .int .i64 (Int.ofNat c) := by
  unfold capA at h
  split at h
  · cases ok_inj h; cases hx; exact ⟨_, _, _, rfl, rfl⟩
  · cases ok_inj h; cases hx; exact ⟨_, _, _, rfl, rfl⟩
  · cases h
theorem tellA_ok {b : Builtin} {ts : Array TypeId} {ty : TypeId} {cc : Array Bool} {l : List AV} {xs : Array Value} {r : AV} (h : tellA P b ts.toList l = .ok r) (hl : VRL ι l xs.toList) :
    ∃ x, (builtin b ts ty cc xs).run P w = .ok (.value x) w ∧ VR ι r x := by
  obtain ⟨xs⟩ := xs
  obtain ⟨ts⟩ := ts
  simp only at hl h
  unfold tellA at h
  split at h
  · obtain ⟨t, ht, h⟩ := ofOpt_ok h
    obtain ⟨e, he, h⟩ := and_ok h
    obtain ⟨n, hn, h⟩ := and_ok h
    cases ok_inj h
    obtain ⟨x, ys, rfl, hx, hys⟩ := VRL.split hl
    cases hys
    have hu := elemT_under he
    have ht0 : (List.toArray ts)[0]? = some t := by cases ts <;> simp_all
    obtain ⟨p, c, rfl⟩ := lenA_VR hn hx
    exact ⟨.int .i64 (Int.ofNat n), by simp [builtin, Builtin.len_, ht0, run_underlying hu, goInt], .int _ _⟩
  · obtain ⟨t, ht, h⟩ := ofOpt_ok h
    obtain ⟨e, he, h⟩ := and_ok h
    obtain ⟨x, ys, rfl, hx, hys⟩ := VRL.split hl
    cases hys
    have hu := elemT_under he
    have ht0 : (List.toArray ts)[0]? = some t := by cases ts <;> simp_all
    obtain ⟨p, n, c, rfl, rfl⟩ := capA_VR h hx
    exact ⟨.int .i64 (Int.ofNat c), by simp [builtin, Builtin.cap_, ht0, run_underlying hu, goInt], .int _ _⟩
  · obtain ⟨hk, h⟩ := must_ok h
    cases ok_inj h
    obtain ⟨x, ys, rfl, hx, hys⟩ := VRL.split hl
    obtain ⟨y, zs, rfl, hy, hzs⟩ := VRL.split hys
    cases hzs; cases hx; cases hy
    refine ⟨_, by simp [builtin, Builtin.max_, Builtin.max2]; rfl, ?_⟩
    rw [sel_eq, ltI_eq]; simp only [decide_eq_true_eq]; exact .int _ _
  · obtain ⟨hk, h⟩ := must_ok h
    cases ok_inj h
    obtain ⟨x, ys, rfl, hx, hys⟩ := VRL.split hl
    obtain ⟨y, zs, rfl, hy, hzs⟩ := VRL.split hys
    cases hzs; cases hx; cases hy
    refine ⟨_, by simp [builtin, Builtin.min_, Builtin.min2]; rfl, ?_⟩
    rw [sel_eq, ltI_eq]; simp only [decide_eq_true_eq]; exact .int _ _
  · cases h

theorem argO_OB {a : Act} {env : Env} {o : Option Operand} {v : Option AV} {n : Option Nat} (he : ER ι env a.tmps) (h : argO env o = .ok v) (hn : optNat v = .ok n) : OB n (o.map a.eval) := by
  unfold argO at h
  split at h
  · cases ok_inj h
    unfold optNat at hn
    cases ok_inj hn
    exact .none
  · obtain ⟨u, hu, h⟩ := and_ok h
    cases ok_inj h
    unfold optNat at hn
    obtain ⟨m, hm, hn⟩ := and_ok hn
    cases ok_inj hn
    obtain ⟨k, hk⟩ := asNat_VR hm (arg_VR he hu)
    rw [Option.map_some, hk]; exact .some

/-- ALL QUIET OPERATIONS -/
theorem evQ_ok (hr : HR ι H w) {env : Env} {a : Act} (he : ER ι env a.tmps) {o : Oper} {r : AV} (h : evQ P env H o.op = .ok r) :
    ∃ x, (execOp a.eval o).run P w = .ok (.value x) w ∧ VR ι r x := by
  obtain ⟨dst, op, type, pos, after, guard⟩ := o
  simp only at h
  cases op with
  | move x => exact ⟨_, rfl, arg_VR he h⟩
  | assign x => exact ⟨_, rfl, arg_VR he h⟩
  | pick c x y =>
    obtain ⟨v, hv, h⟩ := and_ok h
    have hc := arg_VR he hv
    cases v with
    | bool t =>
      cases hc' : a.eval c <;> rw [hc'] at hc <;> cases hc
      simp only [sel_eq] at h
      refine ⟨if t then a.eval x else a.eval y, by simp [execOp, hc']; rfl, ?_⟩
      cases t
      · exact arg_VR he h
      · exact arg_VR he h
    | _ => cases h
  | load t x =>
    obtain ⟨v, hv, h⟩ := and_ok h
    obtain ⟨p, y, hp, h1, h2⟩ := loadA_ok (P := P) hr h (arg_VR he hv)
    exact ⟨y, by simp [execOp, Instr.loadAt, Instr.sureAddr, hp, h1], h2⟩
  | nilCheck x =>
    obtain ⟨v, hv, h⟩ := and_ok h
    have hc := arg_VR he hv
    cases v with
    | ptr => cases ok_inj h; cases hx : a.eval x <;> rw [hx] at hc <;> cases hc; exact ⟨_, by simp [execOp, hx]; rfl, .ptr (by assumption)⟩
    | func => cases ok_inj h; cases hx : a.eval x <;> rw [hx] at hc <;> cases hc; rename_i f1 c1 h1 h2; exact ⟨.func (.func _) f1 c1, by simp [execOp, hx], .func h1 h2⟩
    | _ => cases h
  | binOp op t x y yt =>
    obtain ⟨v, hv, h⟩ := and_ok h
    obtain ⟨u, hu, h⟩ := and_ok h
    obtain ⟨q, h1, h2⟩ := binA_ok (w := w) (arg_VR he hv) (arg_VR he hu) h x y
    exact ⟨q, by simp only [execOp, Sem.run_bind, Sem.run_pure] at h1 ⊢; rw [h1]; rfl, h2⟩
  | unOp op t x =>
    obtain ⟨v, hv, h⟩ := and_ok h
    have hc := arg_VR he hv
    unfold unA at h
    split at h
    · cases ok_inj h; cases hx : a.eval x <;> rw [hx] at hc <;> cases hc; exact ⟨.bool _, by simp [execOp, hx, Op.unary], .bool _⟩
    · cases ok_inj h; cases hx : a.eval x <;> rw [hx] at hc <;> cases hc
      refine ⟨.int _ _, by simp only [execOp, hx, Op.unary, Op.intArith, Sem.run_bind, Sem.run_pure, Result.andThen_ok]; rfl, ?_⟩
      rw [wrapQ_eq]; exact .int _ _
    · cases h
  | convert src dst x =>
    obtain ⟨d0, hd0, h⟩ := ofOpt_ok h
    obtain ⟨d, hd, h⟩ := ofOpt_ok h
    obtain ⟨v, hv, h⟩ := and_ok h
    have hc := arg_VR he hv
    unfold convA at h
    split at h
    · cases ok_inj h; cases hx : a.eval x <;> rw [hx] at hc <;> cases hc
      refine ⟨_, by simp [execOp, hx, convert, run_underlying hd0, run_underlying hd, Conv.intToInt]; rfl, ?_⟩
      rw [wrapQ_eq]; exact .int _ _
    · cases h
  | makeFunc fn first captured =>
    change qFunc env fn first captured = .ok r at h
    unfold qFunc at h
    split at h
    · obtain ⟨v, hv, h⟩ := and_ok h
      obtain ⟨u, hu, h⟩ := and_ok h
      cases ok_inj h
      refine ⟨.func (.func _) (first.map a.eval) (captured.map a.eval), by simp [execOp, Instr.makeFunc], .func ?_ ?_⟩
      · rw [Array.toList_map]; exact args_VR he hv
      · rw [Array.toList_map]; exact args_VR he hu
    · cases h
  | slice t x lo hi mx =>
    obtain ⟨v, hv, h⟩ := and_ok h
    obtain ⟨lo', hlo, h⟩ := and_ok h
    obtain ⟨hi', hhi, h⟩ := and_ok h
    obtain ⟨mx', hmx, h⟩ := and_ok h
    obtain ⟨lo'', hlo', h⟩ := and_ok h
    obtain ⟨hi'', hhi', h⟩ := and_ok h
    obtain ⟨mx'', hmx', h⟩ := and_ok h
    have hu : ∃ d, P.underlying t = some (.slice d) := by
      obtain ⟨e, he', _⟩ := and_ok h; exact ⟨e, elemT_under he'⟩
    obtain ⟨d, hu⟩ := hu
    obtain ⟨y, h1, h2⟩ := sliceA_ok hr h (arg_VR he hv) (argO_OB he hlo hlo') (argO_OB he hhi hhi') (argO_OB he hmx hmx')
    refine ⟨y, ?_, h2⟩
    simp [execOp, Instr.sliceAt, run_underlying hu, h1]
  | fieldAddr t x i =>
    obtain ⟨d, hd, h⟩ := ofOpt_ok h
    obtain ⟨v, hv, h⟩ := and_ok h
    have hc := arg_VR he hv
    unfold fieldAddrA at h
    split at h
    · obtain ⟨f, hf, h⟩ := ofOpt_ok h
      obtain ⟨n, hn, h⟩ := and_ok h
      obtain ⟨h0, h⟩ := must_ok h
      have h0 : 0 < n := blt_iff.1 h0
      cases ok_inj h
      cases hx : a.eval x <;> rw [hx] at hc <;> cases hc
      have hs := sizeT_run (w := w) hn
      exact ⟨_, by simp [execOp, hx, Instr.fieldAt, Instr.sureAddr, run_underlying hd, hf, fieldPlace, hs, Nat.ne_of_gt h0, add_at]; rfl, .ptr (by assumption)⟩
    · cases h
  | field t x i =>
    obtain ⟨d, hd, h⟩ := ofOpt_ok h
    obtain ⟨v, hv, h⟩ := and_ok h
    have hc := arg_VR he hv
    unfold fieldA at h
    split at h
    · obtain ⟨f, hf, h⟩ := ofOpt_ok h
      obtain ⟨n, hn, h⟩ := and_ok h
      obtain ⟨ag, hag, h⟩ := and_ok h
      cases hx : a.eval x <;> rw [hx] at hc <;> cases hc
      rename_i hl
      obtain ⟨y, h1, h2⟩ := partA_ok (w := w) (aggT_run hag) (sizeT_run hn) h hl
      exact ⟨y, by simp [execOp, hx, Instr.field, asAgg, run_underlying hd, hf, h1], h2⟩
    · cases h
  | indexAddr t x i =>
    obtain ⟨v, hv, h⟩ := and_ok h
    obtain ⟨n, hn, h⟩ := and_ok h
    obtain ⟨d, hd, h⟩ := ofOpt_ok h
    obtain ⟨u, hu, h⟩ := and_ok h
    obtain ⟨k, hk⟩ := asNat_VR hn (arg_VR he hv)
    obtain ⟨y, h1, h2⟩ := indexAddrA_ok (w := w) (k := k) hd h (arg_VR he hu)
    exact ⟨y, by simp [execOp, hk, h1], h2⟩
  | index t x i =>
    obtain ⟨v, hv, h⟩ := and_ok h
    obtain ⟨n, hn, h⟩ := and_ok h
    obtain ⟨d, hd, h⟩ := ofOpt_ok h
    obtain ⟨k, hk⟩ := asNat_VR hn (arg_VR he hv)
    split at h
    · obtain ⟨c, hc, h⟩ := ofOpt_ok h
      cases ok_inj h
      refine ⟨_, by simp [execOp, hk, Instr.index, run_asIntOf, run_underlying hd, show ∀ v, a.eval (.const v) = v from fun _ => rfl, hc], .int _ _⟩
    · obtain ⟨u, hu, h⟩ := and_ok h
      unfold indexArr at h
      split at h
      · obtain ⟨sz, hsz, h⟩ := and_ok h
        obtain ⟨ag, hag, h⟩ := and_ok h
        obtain ⟨hlt, h⟩ := must_ok h
        have hlt := blt_iff.1 hlt
        have hc := arg_VR he hu
        cases hx : a.eval x <;> rw [hx] at hc <;> cases hc
        rename_i hl
        obtain ⟨y, h1, h2⟩ := partA_ok (w := w) (aggT_run hag) (sizeT_run hsz) h hl
        change (part _ _ (n * sz)).run P w = _ at h1
        exact ⟨y, by simp [execOp, hk, hx, Instr.index, run_asIntOf, run_underlying hd, hlt, sizeT_run hsz, h1], h2⟩
      · cases h
    · cases h
  | extract x i =>
    obtain ⟨v, hv, h⟩ := and_ok h
    have hc := arg_VR he hv
    unfold extractA at h
    split at h
    · split at h
      · rename_i u hu
        cases ok_inj h
        cases hx : a.eval x <;> rw [hx] at hc <;> cases hc
        rename_i hl
        obtain ⟨y, hy, hvy⟩ := VRL.get hl i hu
        exact ⟨y, by simp at hy; simp [execOp, hx, Instr.extract, hy], hvy⟩
      · cases h
    · cases h
  | build t ps =>
    obtain ⟨z, hz, h⟩ := and_ok h
    obtain ⟨l, hl, h⟩ := and_ok h
    obtain ⟨d, hd, h⟩ := ofOpt_ok h
    obtain ⟨cs, h1, h2⟩ := buildA_ok (w := w) (l' := ps.map fun (i, x) => (i, a.eval x)) hz hd (by rw [Array.toList_map]; exact parts_PR he hl) h
    exact ⟨_, by simp only [execOp, Sem.run_bind, Sem.run_pure] at h1 ⊢; rw [h1]; rfl, h2⟩
  | call c =>
    obtain ⟨callee, cargs, cts⟩ := c
    change qCall P env ⟨callee, cargs, cts⟩ = .ok r at h
    unfold qCall at h
    split at h
    · rename_i b hb
      simp only at hb
      subst hb
      obtain ⟨l, hl, h⟩ := and_ok h
      obtain ⟨x, h1, h2⟩ := tellA_ok (w := w) (ty := type) (cc := cargs.map fun | .const _ => true | _ => false) (xs := cargs.map a.eval) h (by rw [Array.toList_map]; exact args_VR he hl)
      refine ⟨x, ?_, h2⟩
      simp only [execOp, resolve, Sem.run_bind, Sem.run_pure, Result.andThen_ok, invoke]
      exact h1
    · cases h
  | _ => cases h
end
end Go.Ew

/- MEMORY: a new block, a write, a version more. -/
namespace Go.Ew
section
variable {P : Program} {w : World} {ι : Ix} {H H' : Heap}

def Ix.set (ι : Ix) (b v : Nat) (p : Pl) : Ix := fun b' v' => if b' = b ∧ v' = v then some p else ι b' v'
theorem Ix.set_same (ι : Ix) (b v : Nat) (p : Pl) : ι.set b v p b v = some p := by simp [Ix.set]
theorem Ix.set_le {b v : Nat} {p : Pl} (h : ι b v = none) : ι.le (ι.set b v p) := by
  intro b' v' q hq
  unfold Ix.set
  split
  · rename_i hh; rw [hh.1, hh.2, h] at hq; cases hq
  · exact hq
theorem Ix.set_cases {b v b' v' : Nat} {p q : Pl} (h : ι.set b v p b' v' = some q) : (b' = b ∧ v' = v ∧ q = p) ∨ ι b' v' = some q := by
  unfold Ix.set at h
  split at h
  · rename_i hh; injection h with h; exact .inl ⟨hh.1, hh.2, h.symm⟩
  · exact .inr h

/-- A world's heap with one block more. -/
def plus (w : World) (cs : Array Value) (el : TypeId) : World := { w with heap := w.heap.push (.cells cs el) }
theorem plus_size (cs : Array Value) (el : TypeId) : (plus w cs el).heap.size = w.heap.size + 1 := by simp [plus]
theorem plus_new (cs : Array Value) (el : TypeId) : (plus w cs el).heap[w.heap.size]? = some (.cells cs el (0, 0)) := by
  show (w.heap.push _)[w.heap.size]? = _
  rw [Array.getElem?_push, if_pos rfl]
theorem plus_old (cs : Array Value) (el : TypeId) {c : Nat} (h : c < w.heap.size) : (plus w cs el).heap[c]? = w.heap[c]? := by
  simp only [plus, Array.getElem?_push]; rw [if_neg (by omega)]

/-- the world may grow by blocks of which nothing is known, and draw -/
theorem HR.world (hr : HR ι H w) {w' : World} (hs : w.heap.size ≤ w'.heap.size) (hh : ∀ b v p, ι b v = some p → w'.heap[p.blk]? = w.heap[p.blk]?) : HR ι H w' := by
  refine ⟨fun b blk v e p h1 h2 h3 => ?_, hr.esz, hr.future, hr.desc, hr.inj, fun b v p h => Nat.lt_of_lt_of_le (hr.bound b v p h) hs, fun b blk r p h1 h2 h3 => ?_⟩
  · rw [hh b v p h3]
    exact hr.cells b blk v e p h1 h2 h3
  · rw [hh b 0 p h3]
    exact hr.loop b blk r p h1 h2 h3
/-- an abstract block more, that lies nowhere yet -/
theorem HR.add (hr : HR ι H w) {b0 : Nat} {blk : Blk} (hH : ∀ j, H'.get j = if j = b0 then some blk else H.get j) (hn : ∀ v, ι b0 v = none) (hd : Desc blk.size blk.exts) : HR ι H' w := by
  refine ⟨fun b bk v e p h1 h2 h3 => ?_, fun b bk v p h1 h3 => ?_, fun b bk v h1 h2 => ?_, fun b bk h1 => ?_, hr.inj, hr.bound, fun b bk r p h1 h2 h3 => ?_⟩
  all_goals
    rw [hH] at h1
    split at h1
    · rename_i hb
      subst hb
      first | (rw [hn] at h3; cases h3; done) | exact hn _ | (injection h1 with h1; subst h1; exact hd)
    · first | exact hr.cells b bk v e p h1 h2 h3 | exact hr.esz b bk v p h1 h3 | exact hr.future b bk v h1 h2 | exact hr.desc b bk h1 | exact hr.loop b bk r p h1 h2 h3
/-- a block comes to lie in a new block of the world -/
theorem HR.map (hr : HR ι H w) {b0 : Nat} {cs : Array Value} {el : TypeId} {esz : Nat} (hn : ∀ v, ι b0 v = none)
    (hb : ∀ blk, H.get b0 = some blk → blk.ver = 0 ∧ blk.exts = [] ∧ blk.esz = esz ∧ blk.loop = none ∧ blk.size ≤ cs.size ∧ ∀ i, i < blk.size → ∃ a x, blk.cells.get i = some a ∧ cs[i]? = some x ∧ VR ι a x ∧ a.one = true) :
    HR (ι.set b0 0 ⟨w.heap.size, cs.size, esz⟩) H (plus w cs el) := by
  have hle := Ix.set_le (p := ⟨w.heap.size, cs.size, esz⟩) (hn 0)
  refine ⟨fun b blk v e p h1 h2 h3 => ?_, fun b blk v p h1 h3 => ?_, fun b blk v h1 h2 => ?_, hr.desc, fun b v p b' v' p' h1 h2 h3 => ?_, fun b v p h => ?_, fun b blk r p h1 h2 h3 => ?_⟩
  · rcases Ix.set_cases h3 with ⟨rfl, rfl, rfl⟩ | h3
    · obtain ⟨e1, e2, e3, e0, e4, e5⟩ := hb blk h1
      have : e = blk.size := by
        unfold Blk.ext at h2; rw [e1] at h2; injection h2 with h2; exact h2.symm
      subst this
      refine ⟨cs, el, plus_new cs el, rfl, e4, fun i hi => ?_⟩
      obtain ⟨a, x, h4, h5, h6, h7⟩ := e5 i hi
      exact ⟨a, x, h4, h5, h6.mono hle, h7⟩
    · obtain ⟨cs', el', g1, g2, g3, g4⟩ := hr.cells b blk v e p h1 h2 h3
      refine ⟨cs', el', by rw [plus_old _ _ (hr.bound _ _ _ h3)]; exact g1, g2, g3, fun i hi => ?_⟩
      obtain ⟨a, x, h4, h5, h6, h7⟩ := g4 i hi
      exact ⟨a, x, h4, h5, h6.mono hle, h7⟩
  · rcases Ix.set_cases h3 with ⟨rfl, rfl, rfl⟩ | h3
    · exact (hb blk h1).2.2.1.symm
    · exact hr.esz b blk v p h1 h3
  · have h3 := hr.future b blk v h1 h2
    unfold Ix.set
    split
    · rename_i hh
      obtain ⟨rfl, rfl⟩ := hh
      omega
    · exact h3
  · rcases Ix.set_cases h1 with ⟨e1, e2, e3⟩ | g1 <;> rcases Ix.set_cases h2 with ⟨e4, e5, e6⟩ | g2
    · rw [e1, e4]
    · have := hr.bound _ _ _ g2; rw [e3] at h3; simp only at h3; omega
    · have := hr.bound _ _ _ g1; rw [e6] at h3; simp only at h3; omega
    · exact hr.inj _ _ _ _ _ _ g1 g2 h3
  · rw [plus_size]
    rcases Ix.set_cases h with ⟨rfl, rfl, rfl⟩ | h
    · simp
    · have := hr.bound _ _ _ h; omega
  · rcases Ix.set_cases h3 with ⟨rfl, _, rfl⟩ | h3
    · obtain ⟨e1, e2, e3, e0, e4⟩ := hb blk h1
      rw [e0] at h2; cases h2
    · obtain ⟨r', g1, g2⟩ := hr.loop b blk r p h1 h2 h3
      exact ⟨r', by rw [plus_old _ _ (hr.bound _ _ _ h3)]; exact g1, g2.mono hle⟩

/-- what newBlk lays -/
theorem newBlk_ok {β : Type} {nx : Nat} {l : List AV} {esz : Nat} {k : Heap → Nat → Res β} {r : β} (h : newBlk H nx l esz k = .ok r) :
    ∃ H' blk, k H' (nx + 1) = .ok r ∧ (∀ j, H'.get j = if j = nx then some blk else H.get j) ∧ blk.ver = 0 ∧ blk.exts = [] ∧ blk.esz = esz ∧ blk.loop = none ∧ blk.size = l.length ∧ (∀ i, i < l.length → blk.cells.get i = l[i]?) ∧ allOne l = true := by
  unfold newBlk at h
  obtain ⟨h1, h⟩ := must_ok h
  obtain ⟨t, h, ht⟩ := setCells_ok _ _ _ _ h
  rw [forceNat_eq] at h
  obtain ⟨H', h, hH⟩ := setK_ok _ _ _ _ h
  rw [forceNat_eq] at h
  refine ⟨H', _, h, hH, rfl, rfl, rfl, rfl, rfl, fun i hi => ?_, h1⟩
  show t.get i = _
  rw [ht, if_pos (by omega)]; rfl

/-- A STEP THAT MAKES A BLOCK. -/
theorem stp_new (hr : HR ι H w) {nx N : Nat} (hw : Wf H nx) (hf : Fresh ι nx N) (hN : nx + 1 ≤ N) {blk : Blk} {l : List AV} {cs : Array Value} {el : TypeId} {esz : Nat}
    (hH : ∀ j, H'.get j = if j = nx then some blk else H.get j) (h0 : blk.ver = 0) (h1 : blk.exts = []) (h2 : blk.esz = esz) (hlp : blk.loop = none) (h3 : blk.size = l.length) (h4 : ∀ i, i < l.length → blk.cells.get i = l[i]?) (h5 : allOne l = true)
    (hl : ∃ xs : List Value, VRL ι l xs ∧ l.length ≤ cs.size ∧ ∀ (i : Nat) (x : Value), xs[i]? = some x → cs[i]? = some x) :
    HR (ι.set nx 0 ⟨w.heap.size, cs.size, esz⟩) H' (plus w cs el) ∧ Stp ι H nx w (ι.set nx 0 ⟨w.heap.size, cs.size, esz⟩) H' (nx + 1) (plus w cs el) := by
  have hn : ∀ v, ι nx v = none := fun v => hf nx v (Nat.le_refl _) (by omega)
  have hadd := hr.add hH hn (by rw [h1]; trivial)
  obtain ⟨xs, hv, hsz, hcs⟩ := hl
  have hlen := hv.length
  refine ⟨hadd.map hn fun bk hbk => ?_, ⟨Ix.set_le (hn 0), fun b v p h => ?_, fun b h => ?_, by omega, fun b bk hb _ => ?_, fun c hc _ => plus_old _ _ hc, by rw [plus_size]; omega, rfl, rfl, rfl⟩⟩
  · rw [hH, if_pos rfl] at hbk
    injection hbk with hbk
    subst hbk
    refine ⟨h0, h1, h2, hlp, by omega, fun i hi => ?_⟩
    have hi' : i < l.length := by omega
    obtain ⟨x, hx, hvx⟩ := hv.get i (List.getElem?_eq_getElem hi')
    exact ⟨l[i], x, by rw [h4 i hi', List.getElem?_eq_getElem hi'], hcs i x hx, hvx, allOne_mem h5 _ (List.getElem_mem hi')⟩
  · rcases Ix.set_cases h with ⟨rfl, rfl, rfl⟩ | h
    · exact .inr (.inl ⟨⟨Nat.le_refl _, by omega⟩, Nat.le_refl _⟩)
    · exact .inl h
  · rw [hH] at h
    split at h
    · rename_i hb; exact .inr ⟨by omega, by omega⟩
    · exact .inl h
  · rw [hH, if_neg]
    · exact hb
    · rintro rfl
      rw [hw _ (Nat.le_refl _)] at hb; cases hb

/-- one block of the world turned -/
structure WW (w w' : World) (g : Nat) (cs : Array Value) (el : TypeId) : Prop where
  size : w'.heap.size = w.heap.size
  at_ : w'.heap[g]? = some (.cells cs el (0, 0))
  other : ∀ c, c ≠ g → w'.heap[c]? = w.heap[c]?
  os : w'.os = w.os
  output : w'.output = w.output
  tape : w'.tape = w.tape

theorem ext_ver (b : Blk) : b.ext b.ver = some b.size := by unfold Blk.ext; rw [beq_iff.2 rfl]; rfl
theorem ext_cut {b : Blk} {t : Tr AV} {off v e : Nat} (hd : Desc b.size b.exts) (h : (Blk.ext { cells := t, size := b.size, ver := b.ver, exts := cutExts off b.exts, esz := b.esz, loop := none } v) = some e) :
    b.ext v = some e ∧ (v = b.ver ∨ e ≤ off) := by
  unfold Blk.ext at h ⊢
  simp only [sel_eq, beq_iff, blt_iff] at h ⊢
  split at h
  · rename_i hv; rw [if_pos hv]; exact ⟨h, .inl hv⟩
  · rename_i hv
    rw [if_neg hv]
    split at h
    · rename_i hlt
      rw [if_pos hlt]
      unfold cutExts at h
      split at h
      · cases h
      · rename_i l e1 r hl
        rw [sel_eq] at h
        split at h
        · cases h
        · rename_i hoff
          have hoff : e1 ≤ off := Nat.le_of_not_lt fun hh => hoff (blt_iff.2 hh)
          rw [hl] at hd ⊢
          refine ⟨h, .inr ?_⟩
          have : Desc e1 (e1 :: r) := ⟨Nat.le_refl _, hd.2⟩
          exact Nat.le_trans (Desc.nth this h) hoff
    · cases h
theorem desc_cut {off n : Nat} {l : List Nat} (h : Desc n l) : Desc n (cutExts off l) := by
  unfold cutExts
  split
  · trivial
  · rw [sel_eq]; split
    · trivial
    · exact h

/-- A WRITE into the last version of a block. -/
theorem HR.write (hr : HR ι H w) {b off : Nat} {blk : Blk} {p : Pl} {l : List AV} {xs : List Value} {cs cs' : Array Value} {el : TypeId} {t : Tr AV} {w' : World}
    (hb : H.get b = some blk) (hp : ι b blk.ver = some p) (hone : allOne l = true) (hl : VRL ι l xs)
    (hcs : w.heap[p.blk]? = some (.cells cs el (0, 0))) (hsz : cs'.size = cs.size) (hcs' : ∀ i, i < cs.size → cs'[i]? = if off ≤ i ∧ i < off + l.length then xs[i - off]? else cs[i]?)
    (hw : WW w w' p.blk cs' el) (ht : ∀ j, t.get j = if off ≤ j ∧ j < off + l.length then l[j - off]? else blk.cells.get j)
    (hH : ∀ j, H'.get j = if j = b then some { cells := t, size := blk.size, ver := blk.ver, exts := cutExts off blk.exts, esz := blk.esz, loop := none } else H.get j) : HR ι H' w' := by
  have hlen := hl.length
  refine ⟨fun b1 bk v e q h1 h2 h3 => ?_, fun b1 bk v q h1 h3 => ?_, fun b1 bk v h1 h2 => ?_, fun b1 bk h1 => ?_, hr.inj, fun b1 v q h => by rw [hw.size]; exact hr.bound _ _ _ h, fun b1 bk r q h1 h2 h3 => ?_⟩
  · rw [hH] at h1
    split at h1
    · rename_i hb1
      subst hb1
      injection h1 with h1
      subst h1
      obtain ⟨h4, h5⟩ := ext_cut (hr.desc _ _ hb) h2
      obtain ⟨cs1, el1, g1, g2, g3, g4⟩ := hr.cells _ _ _ _ _ hb h4 h3
      by_cases hq : q.blk = p.blk
      · rw [hq] at g1 ⊢
        rw [hcs] at g1
        injection g1 with g1; injection g1 with g1 g5 _
        subst g1
        refine ⟨cs', el, hw.at_, by rw [hsz, g2], g3, fun i hi => ?_⟩
        simp only
        rw [ht, hcs' i (by omega)]
        by_cases hr' : off ≤ i ∧ i < off + l.length
        · rw [if_pos hr', if_pos hr']
          have hil : i - off < l.length := by omega
          obtain ⟨x, hx, hvx⟩ := hl.get (i - off) (List.getElem?_eq_getElem hil)
          exact ⟨_, x, List.getElem?_eq_getElem hil, hx, hvx, allOne_mem hone _ (List.getElem_mem hil)⟩
        · rw [if_neg hr', if_neg hr']; exact g4 i hi
      · refine ⟨cs1, el1, by rw [hw.other _ hq]; exact g1, g2, g3, fun i hi => ?_⟩
        simp only
        rw [ht]
        rcases h5 with h5 | h5
        · subst h5
          rw [hp] at h3; injection h3 with h3; rw [h3] at hq; exact absurd rfl hq
        · rw [if_neg (by omega)]; exact g4 i hi
    · rename_i hb1
      obtain ⟨cs1, el1, g1, g2, g3, g4⟩ := hr.cells _ _ _ _ _ h1 h2 h3
      have hq : q.blk ≠ p.blk := fun hh => hb1 (hr.inj _ _ _ _ _ _ h3 hp hh)
      exact ⟨cs1, el1, by rw [hw.other _ hq]; exact g1, g2, g3, g4⟩
  · rw [hH] at h1
    split at h1
    · rename_i hb1; subst hb1; injection h1 with h1; subst h1; have := hr.esz _ _ _ _ hb h3; exact this
    · exact hr.esz _ _ _ _ h1 h3
  · rw [hH] at h1
    split at h1
    · rename_i hb1; subst hb1; injection h1 with h1; subst h1; have := hr.future _ _ v hb h2; exact this
    · exact hr.future _ _ _ h1 h2
  · rw [hH] at h1
    split at h1
    · rename_i hb1; subst hb1; injection h1 with h1; subst h1; exact desc_cut (hr.desc _ _ hb)
    · exact hr.desc _ _ h1
  · rw [hH] at h1
    split at h1
    · rename_i hb1; injection h1 with h1; subst h1; cases h2
    · rename_i hb1
      obtain ⟨r', g1, g2⟩ := hr.loop _ _ _ _ h1 h2 h3
      have hq : q.blk ≠ p.blk := fun hh => hb1 (hr.inj _ _ _ _ _ _ h3 hp hh)
      exact ⟨r', by rw [hw.other _ hq]; exact g1, g2⟩

/-- what a step keeps that turns one block where it lies -/
theorem stp_write {nx : Nat} {b v : Nat} {blk blk' : Blk} {p : Pl} {cs' : Array Value} {el : TypeId} {w' : World} (hb : H.get b = some blk) (hp : ι b v = some p)
    (hw : WW w w' p.blk cs' el) (hH : ∀ j, H'.get j = if j = b then some blk' else H.get j) : Stp ι H nx w ι H' nx w' := by
  refine ⟨fun _ _ _ h => h, fun _ _ _ h => .inl h, fun c h => ?_, Nat.le_refl _, fun c bk hc hn => ?_, fun c hc hh => ?_, by rw [hw.size]; exact Nat.le_refl _, hw.os, hw.output, hw.tape⟩
  · rw [hH] at h
    split at h
    · rename_i he; subst he; exact .inl (by simp [hb])
    · exact .inl h
  · rw [hH, if_neg]
    · exact hc
    · rintro rfl; rw [hn v] at hp; cases hp
  · refine hw.other c ?_
    rintro rfl
    have := hh b v p hp rfl
    rw [hb] at this; cases this

/-- cells stored in the world -/
theorem store_run {g off : Nat} {cs : Array Value} {el : TypeId} {xs : List Value} (hcs : w.heap[g]? = some (.cells cs el (0, 0))) (hoff : off + xs.length ≤ cs.size) (hone : ∀ x ∈ xs, x.oneCell' = true) :
    ∃ w' cs', (storeCells ⟨g, off, none⟩ xs).run P w = .ok () w' ∧ WW w w' g cs' el ∧ cs'.size = cs.size ∧ ∀ i, i < cs.size → cs'[i]? = if off ≤ i ∧ i < off + xs.length then xs[i - off]? else cs[i]? := by
  have h := run_storeCells_at P g off el xs 0 cs w hcs (by simpa using hoff) hone
  simp only [Nat.add_zero] at h
  refine ⟨_, _, h, ⟨setRow_size _ _ _, setRow_heap _ _ _ _ _ _ hcs, fun c hc => setRow_other _ _ _ _ hc, rfl, rfl, rfl⟩, by simp; omega, fun i hi => ?_⟩
  rw [List.getElem?_toArray, List.append_assoc, List.getElem?_append]
  simp only [List.length_take, Array.length_toList]
  split
  · rename_i hlt
    rw [List.getElem?_take, if_pos (by omega), Array.getElem?_toList, if_neg (by omega)]
  · rename_i hge
    rw [List.getElem?_append]
    have e1 : min off cs.size = off := by omega
    rw [e1] at hge ⊢
    split
    · rename_i h2; rw [if_pos (by omega)]
    · rename_i h2
      rw [if_neg (by omega), List.getElem?_drop, Array.getElem?_toList]
      congr 1; omega

/-- A WRITE, as the evaluator makes it. -/
theorem writeCells_ok (hr : HR ι H w) {nx : Nat} {β : Type} {b v off : Nat} {l : List AV} {k : Heap → Res β} {r : β} {p : Pl} {xs : List Value} (h : writeCells H b v off l k = .ok r) (hp : ι b v = some p) (hl : VRL ι l xs) :
    ∃ H' w', k H' = .ok r ∧ (storeCells ⟨p.blk, off, none⟩ xs).run P w = .ok () w' ∧ HR ι H' w' ∧ Stp ι H nx w ι H' nx w' := by
  unfold writeCells at h
  obtain ⟨blk, hb, h⟩ := ofOpt_ok h
  obtain ⟨hv, h⟩ := must_ok h
  obtain ⟨hoff, h⟩ := must_ok h
  obtain ⟨hone, h⟩ := must_ok h
  obtain ⟨t, h, ht⟩ := setCells_ok _ _ _ _ h
  obtain ⟨H', hk, hH⟩ := setK_ok _ _ _ _ h
  have hv : v = blk.ver := beq_iff.1 hv
  have hoff : off + l.length ≤ blk.size := ble_iff.1 hoff
  rw [hv] at hp
  obtain ⟨cs, el, hcs, hsz, hle, _⟩ := hr.cells _ _ _ _ _ hb (ext_ver blk) hp
  have hlen := hl.length
  obtain ⟨w', cs', h1, h2, h3, h4⟩ := store_run (P := P) hcs (off := off) (xs := xs) (by omega) (hl.one hone)
  rw [← hlen] at h4
  exact ⟨H', w', hk, h1, hr.write hb hp hone hl hcs h3 h4 h2 ht hH, stp_write hb hp h2 hH⟩
end
end Go.Ew

/- OPERATIONS THAT MAKE ONE BLOCK are the model's. -/
namespace Go.Ew
section
variable {P : Program} {w : World} {ι : Ix} {H H' : Heap}

theorem rep_length (n : Nat) (l : List AV) : (rep n l).length = n * l.length := by
  induction n with
  | zero => simp [rep]
  | succ n ih => simp [rep, ih, Nat.succ_mul]; omega
theorem rep_get (l : List AV) : ∀ (n i : Nat), i < n * l.length → (rep n l)[i]? = l[i % l.length]?
  | 0, i, h => by simp at h
  | n+1, i, h => by
    rw [Nat.succ_mul] at h
    unfold rep
    rw [List.getElem?_append]
    split
    · rename_i hi; rw [Nat.mod_eq_of_lt hi]
    · rename_i hi
      have hpos : 0 < l.length := by
        rcases Nat.eq_zero_or_pos l.length with h0 | h0
        · rw [h0] at h; simp at h
        · exact h0
      rw [rep_get l n _ (by omega)]
      congr 1
      rw [show i = (i - l.length) + l.length by omega, Nat.add_mod_right]
      simp
/-- the model's row of zeros -/
def zeros (z : Array Value) (n : Nat) : Array Value := (Array.range n).map (z[· % z.size]!)
theorem zeros_size (z : Array Value) (n : Nat) : (zeros z n).size = n := by simp [zeros]
theorem zeros_ite (z : Array Value) (n : Nat) : (Array.range n).map ((if n = 0 then #[] else z)[· % (if n = 0 then #[] else z : Array Value).size]!) = zeros z n := by
  by_cases h : n = 0
  · subst h; simp [zeros]
  · simp only [h, if_false]; rfl
theorem zeros_VRL {l : List AV} {z : Array Value} (h : VRL ι l z.toList) (m : Nat) : VRL ι (rep m l) (zeros z (m * z.size)).toList := by
  have hlen : l.length = z.size := by rw [h.length]; simp
  refine VRL.of_get (by rw [rep_length, hlen]; simp [zeros]) fun i a x ha hx => ?_
  have hi : i < m * l.length := by
    have := (List.getElem?_eq_some_iff.1 ha).1; rwa [rep_length] at this
  have hpos : 0 < l.length := by
    rcases Nat.eq_zero_or_pos l.length with h0 | h0
    · rw [h0] at hi; simp at hi
    · exact h0
  rw [rep_get l m i hi] at ha
  obtain ⟨y, hy, hv⟩ := h.get _ ha
  have hm : i % l.length < z.size := by rw [← hlen]; exact Nat.mod_lt _ hpos
  have : (zeros z (m * z.size)).toList[i]? = some z[i % z.size]! := by
    simp [zeros]; rw [← hlen]; simp [hi]
  rw [this] at hx
  injection hx with hx
  rw [hlen] at hy
  rw [Array.getElem?_toList] at hy
  rw [getElem!_def, hy] at hx
  subst hx; exact hv

theorem info_size {t : TypeId} {z : List AV} (h : zeroCells P t = .ok z) : ∃ i v, P.info? t = some i ∧ i.zero = some v ∧ VRL ι z v.cells.toList := by
  obtain ⟨i, hi, h⟩ := ofOpt_ok h
  obtain ⟨v, hv, h⟩ := ofOpt_ok h
  obtain ⟨l, hl, h⟩ := ofOpt_ok h
  cases ok_inj h
  exact ⟨i, v, hi, hv, ofScalars_VR hl⟩

/-- what the model gives for a new block -/
def newVal (g : Nat) : Option (Nat × Nat) → Value
  | none => .pointer (some ⟨g, 0, none⟩)
  | some (n, m) => .slice (some ⟨g, 0, none⟩) n m
theorem newVal_VR {nx : Nat} {p : Pl} {s : Option (Nat × Nat)} (h : ι nx 0 = some p) (hs : ∀ n m, s = some (n, m) → n ≤ m) : VR ι (madeVal nx s) (newVal p.blk s) := by
  cases s with
  | none => exact .ptr h
  | some q => obtain ⟨n, m⟩ := q; exact .known h (hs n m rfl)

theorem aggCells_ok {a : AV} {l : List AV} (h : aggCells a = .ok l) : a = .agg l := by
  unfold aggCells at h
  split at h
  · cases ok_inj h; rfl
  · cases h

theorem run_box (el : TypeId) (v : Value) : (Instr.box el v).run P w = .ok (.pointer (some ⟨w.heap.size, 0, none⟩)) (plus w v.cells el) := by
  simp [Instr.box, newVar, newRow]; rfl
theorem run_newRow (el : TypeId) (cs : Array Value) : (newRow el cs).run P w = .ok ⟨w.heap.size, 0, none⟩ (plus w cs el) := by
  simp [newRow]; rfl

theorem evAl_ok {env : Env} {a : Act} (he : ER ι env a.tmps) {o : Oper} {r : List AV × Option (Nat × Nat)} (h : evAl P env o.op = .ok r) :
    ∃ cs el, (execOp a.eval o).run P w = .ok (.value (newVal w.heap.size r.2)) (plus w cs el) ∧ VRL ι r.1 cs.toList ∧ ∀ n m, r.2 = some (n, m) → n ≤ m := by
  obtain ⟨dst, op, type, pos, after, guard⟩ := o
  simp only at h
  cases op with
  | alloc t =>
    obtain ⟨z, hz, h⟩ := and_ok h
    cases ok_inj h
    obtain ⟨v, hv, hz⟩ := zeroCells_run (ι := ι) (w := w) hz
    refine ⟨v.cells, t, ?_, hz, by simp⟩
    simp [execOp, Instr.alloc, hv, newVar, run_newRow]; rfl
  | box t x =>
    obtain ⟨v, hv, h⟩ := and_ok h
    cases ok_inj h
    refine ⟨(a.eval x).cells, t, ?_, (arg_VR he hv).cells, by simp⟩
    simp [execOp, run_box]; rfl
  | buildSlice t len ps =>
    obtain ⟨e, hte, h⟩ := and_ok h
    obtain ⟨sz, hsz, h⟩ := and_ok h
    obtain ⟨z, hz, h⟩ := and_ok h
    obtain ⟨l, hl, h⟩ := and_ok h
    obtain ⟨hmax, h⟩ := must_ok h
    obtain ⟨hzl, h⟩ := must_ok h
    obtain ⟨g, hg, h⟩ := and_ok h
    obtain ⟨q, hq, h⟩ := and_ok h
    cases ok_inj h
    cases aggCells_ok hq
    have hmax : len * sz ≤ 1000000 := ble_iff.1 hmax
    have hzl : z.length = sz := beq_iff.1 hzl
    obtain ⟨i, v, hi, hv, hzv⟩ := info_size (ι := ι) hz
    have hvs : v.cells.size = sz := by rw [← hzl, hzv.length]; simp
    obtain ⟨t1, hg, ht1⟩ := setCells_ok _ _ _ _ hg
    have hrow := zeros_VRL hzv len
    rw [hvs] at hrow
    obtain ⟨t2, cs, h1, h2, h3, h4⟩ := fillK_ok (ι := ι) (place' := fun i => some (i * sz, sz)) (fun i => rfl) hg (l' := (ps.map fun (i, x) => (i, a.eval x)).toList) (by rw [Array.toList_map]; exact parts_PR he hl)
      (TR.of_setCells hrow ht1) (zeros_size _ _)
    obtain ⟨m, hm, h4⟩ := ofOpt_ok h4
    cases ok_inj h4
    refine ⟨cs, e, ?_, h3.cellsAt h2.symm hm, fun n m h => by injection h with h; injection h with h1 h2; omega⟩
    have hu := elemT_under hte
    have hsr := sizeT_run (w := w) hsz
    have hzr : (zeroValue e).run P w = .ok v w := by simp [zeroValue, typeInfo, hi, hv]
    have hfill : ∀ z0 : Array Value, z0 = (if len * sz = 0 then #[] else v.cells) → Instr.fill (fun i => some (i * sz, sz)) ((Array.range (len * sz)).map (fun x => z0[x % z0.size]!)) (ps.map (fun x => (x.fst, a.eval x.snd))).toList = some cs := by
      rintro _ rfl
      rw [zeros_ite]; exact h1
    simp only [execOp, Instr.buildSlice, Sem.run_bind, run_underlying hu, Result.andThen_ok, hsr, Sem.run_ite]
    rw [if_neg (by omega)]
    by_cases h0 : len * sz = 0
    · rw [if_pos h0]
      simp only [Sem.run_pure, Result.andThen_ok]
      rw [hfill #[] (by rw [if_pos h0])]
      simp only [Sem.run_bind, run_newRow, Result.andThen_ok, Sem.run_pure]
      rfl
    · rw [if_neg h0]
      simp only [Sem.run_pure, Result.andThen_ok, hzr]
      rw [hfill v.cells (by rw [if_neg h0])]
      simp only [Sem.run_bind, run_newRow, Result.andThen_ok, Sem.run_pure]
      rfl
  | makeSlice t lo co =>
    obtain ⟨e, hte, h⟩ := and_ok h
    obtain ⟨i, hi, h⟩ := ofOpt_ok h
    obtain ⟨lv, hlv, h⟩ := and_ok h
    obtain ⟨n, hn, h⟩ := and_ok h
    obtain ⟨cv, hcv, h⟩ := and_ok h
    obtain ⟨m, hm, h⟩ := and_ok h
    obtain ⟨h1, h⟩ := must_ok h
    obtain ⟨h2, h⟩ := must_ok h
    obtain ⟨h3, h⟩ := must_ok h
    obtain ⟨z, hz, h⟩ := and_ok h
    obtain ⟨h4, h⟩ := must_ok h
    cases ok_inj h
    have h1 : n ≤ m := ble_iff.1 h1
    have h2 : m ≤ 1000000 := ble_iff.1 h2
    have h3 : i.bytes ≤ 100000 := ble_iff.1 h3
    have h4 : z.length = i.size := beq_iff.1 h4
    obtain ⟨k, hk⟩ := asNat_VR hn (arg_VR he hlv)
    obtain ⟨k', hk'⟩ := asNat_VR hm (arg_VR he hcv)
    obtain ⟨i', v, hi', hv, hzv⟩ := info_size (ι := ι) hz
    rw [hi] at hi'; injection hi' with hi'; subst hi'
    have hvs : v.cells.size = i.size := by rw [← h4, hzv.length]; simp
    have hrow := zeros_VRL hzv m
    refine ⟨_, e, ?_, hrow, fun n' m' h => by injection h with h; injection h with h5 h6; omega⟩
    have hu := elemT_under hte
    have hzr : (zeroValue e).run P w = .ok v w := by simp [zeroValue, typeInfo, hi, hv]
    have wn : IntKind.wrap .i64 (n : Int) = n := wrap_i64 (by omega) (by omega)
    have wm : IntKind.wrap .i64 (m : Int) = m := wrap_i64 (by omega) (by omega)
    have hb : (i.bytes : Int) * (m : Int) ≤ 2 ^ 48 := by
      have : i.bytes * m ≤ 100000 * 1000000 := Nat.mul_le_mul h3 h2
      have e : ((2 : Int) ^ 48) = 281474976710656 := by decide
      rw [e]
      have : ((i.bytes * m : Nat) : Int) ≤ 100000000000 := by omega
      rw [Int.natCast_mul] at this
      omega
    have ht : (decide ((m : Int) < 0) || decide ((i.bytes : Int) * (m : Int) > 2 ^ 48)) = false := by
      simp only [Bool.or_eq_false_iff, decide_eq_false_iff_not]; constructor <;> omega
    have hcond : ((((decide ((m : Int) < 0) || decide ((i.bytes : Int) * (m : Int) > 2 ^ 48)) || decide ((n : Int) < 0)) || decide ((n : Int) > (m : Int)))) = false := by
      rw [ht]; simp; omega
    simp only [execOp, hk, hk', Instr.makeSlice, Sem.run_bind, run_underlying hu, Result.andThen_ok, asInt, run_asIntOf, Sem.run_pure, typeInfo, run_program, hi, wn, wm, hcond, Bool.false_eq_true, if_false, run_askRoom, sizeOf]
    have hrow2 : ∀ z0 : Array Value, z0 = (if m * i.size = 0 then #[] else v.cells) → (Array.range (m * i.size)).map (fun x => z0[x % z0.size]!) = zeros v.cells (m * v.cells.size) := by
      rintro _ rfl
      rw [hvs]; exact zeros_ite _ _
    simp only [Int.toNat_natCast, Sem.run_ite]
    by_cases h0 : m * i.size = 0
    · rw [if_pos h0]
      simp only [Sem.run_pure, Sem.run_bind, Result.andThen_ok, run_newRow]
      rw [hrow2 #[] (by rw [if_pos h0])]
      rfl
    · rw [if_neg h0]
      simp only [Sem.run_pure, Sem.run_bind, Result.andThen_ok, hzr, run_newRow]
      rw [hrow2 v.cells (by rw [if_neg h0])]
      rfl
  | _ => cases h
end
end Go.Ew
