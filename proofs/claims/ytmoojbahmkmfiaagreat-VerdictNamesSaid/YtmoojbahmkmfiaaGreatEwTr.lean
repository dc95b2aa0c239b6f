/- PLAIN LAWS on the evaluator's trees and helpers. -/
import Derived.Test.YtmoojbahmkmfiaaGreatEwFast
namespace Go.Ew

theorem ofOpt_ok {α β : Type} {o : Option α} {w : String} {k : α → Res β} {r : β} (h : ofOpt o w k = .ok r) : ∃ a, o = some a ∧ k a = .ok r := by
  cases o with
  | none => cases h
  | some a => exact ⟨a, rfl, h⟩
theorem must_ok {β : Type} {b : Bool} {w : String} {k : Res β} {r : β} (h : must b w k = .ok r) : b = true ∧ k = .ok r := by
  cases b with
  | false => cases h
  | true => exact ⟨rfl, h⟩
theorem and_ok {α β : Type} {x : Res α} {k : α → Res β} {r : β} (h : x.and k = .ok r) : ∃ a, x = .ok a ∧ k a = .ok r := by
  cases x with
  | no => cases h
  | ok a => exact ⟨a, rfl, h⟩
theorem ok_inj {α : Type} {a b : α} (h : Res.ok a = Res.ok b) : a = b := by injection h

theorem beq_iff {a b : Nat} : Nat.beq a b = true ↔ a = b := by simp
theorem ble_iff {a b : Nat} : Nat.ble a b = true ↔ a ≤ b := by simp
theorem blt_iff {a b : Nat} : Nat.blt a b = true ↔ a < b := by simp [Nat.blt, Nat.succ_le_iff]
theorem beq_ne {a b : Nat} (h : a ≠ b) : Nat.beq a b = false := by
  cases hb : Nat.beq a b with
  | false => rfl
  | true => exact absurd (beq_iff.1 hb) h

theorem get_lf {α : Type} (j : Nat) : (Tr.lf : Tr α).get j = none := rfl
theorem sel_eq {α : Type} (b : Bool) (x y : α) : sel b x y = if b = true then x else y := by cases b <;> rfl
theorem get_nd {α : Type} (v : Option α) (l r : Tr α) (j : Nat) : (Tr.nd v l r).get j = if j = 0 then v else if j % 2 = 1 then l.get (j / 2) else r.get (j / 2 - 1) := by
  show sel (Nat.beq j 0) v (sel (Nat.beq (Nat.mod j 2) 1) (l.get (Nat.div j 2)) (r.get (Nat.sub (Nat.div j 2) 1))) = _
  simp only [sel_eq, beq_iff]
  rfl
theorem setLf_ok {α β : Type} (x : α) : ∀ (d n : Nat) (k : Tr α → Res β) {r : β}, setLf x d n k = .ok r → ∃ t', k t' = .ok r ∧ ∀ j, t'.get j = if j = n then some x else none
  | 0, _, _, _, h => by cases h
  | d+1, n, k, r, h => by
    change sel (Nat.beq n 0) (k (.nd (some x) .lf .lf)) (sel (Nat.beq (Nat.mod n 2) 1) (setLf x d (Nat.div n 2) fun t => k (.nd none t .lf)) (setLf x d (Nat.sub (Nat.div n 2) 1) fun t => k (.nd none .lf t))) = .ok r at h
    simp only [sel_eq, beq_iff] at h
    split at h
    · rename_i h0
      subst h0
      refine ⟨_, h, fun j => ?_⟩
      rw [get_nd]; split <;> simp_all [get_lf]
    · rename_i h0
      split at h
      · rename_i h2
        have h2 : n % 2 = 1 := h2
        obtain ⟨t', hk, ht⟩ := setLf_ok x d _ _ h
        refine ⟨_, hk, fun j => ?_⟩
        rw [get_nd, ht]
        simp only [get_lf]
        show (if j = 0 then none else if j % 2 = 1 then if j / 2 = n / 2 then some x else none else none) = _
        by_cases hj : j = n
        · subst hj; simp [h0, h2]
        · rw [if_neg hj]; split <;> try rfl
          split <;> try rfl
          rw [if_neg (by omega)]
      · rename_i h2
        have h2 : ¬ n % 2 = 1 := h2
        obtain ⟨t', hk, ht⟩ := setLf_ok x d _ _ h
        refine ⟨_, hk, fun j => ?_⟩
        rw [get_nd, ht]
        simp only [get_lf]
        show (if j = 0 then none else if j % 2 = 1 then none else if j / 2 - 1 = n / 2 - 1 then some x else none) = _
        by_cases hj : j = n
        · subst hj; simp [h0, h2]
        · rw [if_neg hj]; split <;> try rfl
          split <;> try rfl
          rw [if_neg (by omega)]
theorem setK_ok {α β : Type} (x : α) : ∀ (t : Tr α) (n : Nat) (k : Tr α → Res β) {r : β}, Tr.setK t n x k = .ok r → ∃ t', k t' = .ok r ∧ ∀ j, t'.get j = if j = n then some x else t.get j
  | .lf, n, k, r, h => setLf_ok x 40 n k h
  | .nd v l rr, n, k, r, h => by
    change sel (Nat.beq n 0) (k (.nd (some x) l rr)) (sel (Nat.beq (Nat.mod n 2) 1) (Tr.setK l (Nat.div n 2) x fun t => k (.nd v t rr)) (Tr.setK rr (Nat.sub (Nat.div n 2) 1) x fun t => k (.nd v l t))) = .ok r at h
    simp only [sel_eq, beq_iff] at h
    split at h
    · rename_i h0
      subst h0
      refine ⟨_, h, fun j => ?_⟩
      rw [get_nd, get_nd]; split <;> simp_all
    · rename_i h0
      split at h
      · rename_i h2
        have h2 : n % 2 = 1 := h2
        obtain ⟨t', hk, ht⟩ := setK_ok x l _ _ h
        refine ⟨_, hk, fun j => ?_⟩
        rw [get_nd, get_nd, ht]
        show (if j = 0 then v else if j % 2 = 1 then if j / 2 = n / 2 then some x else l.get (j/2) else rr.get (j/2-1)) = _
        by_cases hj : j = n
        · subst hj; simp [h0, h2]
        · rw [if_neg hj]; split <;> try rfl
          split <;> try rfl
          rw [if_neg (by omega)]
      · rename_i h2
        have h2 : ¬ n % 2 = 1 := h2
        obtain ⟨t', hk, ht⟩ := setK_ok x rr _ _ h
        refine ⟨_, hk, fun j => ?_⟩
        rw [get_nd, get_nd, ht]
        show (if j = 0 then v else if j % 2 = 1 then l.get (j/2) else if j / 2 - 1 = n / 2 - 1 then some x else rr.get (j/2-1)) = _
        by_cases hj : j = n
        · subst hj; simp [h0, h2]
        · rw [if_neg hj]; split <;> try rfl
          split <;> try rfl
          rw [if_neg (by omega)]

section
variable {β : Type}
theorem forceNat_eq (n : Nat) (k : Nat → β) : forceNat n k = k n := by cases n <;> rfl
theorem forceInt_eq (n : Int) (k : Int → β) : forceInt n k = k n := by cases n <;> simp [forceInt, forceNat_eq]
theorem forceCap_eq (c : Cap) (k : Cap → β) : forceCap c k = k c := by cases c <;> simp [forceCap, forceNat_eq]
theorem forceBool_eq (b : Bool) (k : Bool → β) : forceBool b k = k b := by cases b <;> rfl
theorem force_eq (v : AV) (k : AV → β) : force v k = k v := by cases v <;> simp [force, forceSlice, forcePtr, forceNat_eq, forceInt_eq, forceCap_eq, forceBool_eq]
end

theorem putQ_ok {β : Type} {n : Nat} {env : Env} {d : Option Tmp} {v : AV} {k : Env → Res β} {r : β} (h : putQ n env d v k = .ok r) :
    ∃ env', k env' = .ok r ∧ (∀ t, d = some t → t < n) ∧ ∀ j, env'.get j = if d = some j then some v else env.get j := by
  cases d with
  | none => exact ⟨env, h, by simp, by simp⟩
  | some t =>
    simp only [putQ, sel_eq, blt_iff] at h
    split at h
    · rename_i ht
      obtain ⟨t', hk, hg⟩ := setK_ok _ _ _ _ h
      refine ⟨t', hk, by simpa using ht, fun j => ?_⟩
      rw [hg]
      by_cases hj : j = t
      · subst hj; simp
      · rw [if_neg hj, if_neg]; simp; exact fun e => hj e.symm
    · cases h
theorem putK_ok {β : Type} {n : Nat} {env : Env} {d : Option Tmp} {v : AV} {k : Env → Res β} {r : β} (h : putK n env d v k = .ok r) :
    ∃ env', k env' = .ok r ∧ (∀ t, d = some t → t < n) ∧ ∀ j, env'.get j = if d = some j then some v else env.get j := by
  rw [putK, force_eq] at h; exact putQ_ok h

/-- setCells: the cells from off on are those of the list -/
theorem setCells_ok {β : Type} : ∀ (l : List AV) (t : Tr AV) (off : Nat) (k : Tr AV → Res β) {r : β}, setCells t off l k = .ok r →
    ∃ t', k t' = .ok r ∧ ∀ j, t'.get j = if off ≤ j ∧ j < off + l.length then l[j - off]? else t.get j
  | [], t, off, k, r, h => ⟨t, h, fun j => by rw [if_neg (by simp)]⟩
  | v :: l, t, off, k, r, h => by
    change (Tr.setK t off v fun t => setCells t (Nat.succ off) l k) = _ at h
    obtain ⟨t1, h1, g1⟩ := setK_ok _ _ _ _ h
    obtain ⟨t2, h2, g2⟩ := setCells_ok l _ _ _ h1
    refine ⟨t2, h2, fun j => ?_⟩
    rw [g2, g1]
    by_cases hj : off = j
    · subst hj; rw [if_neg (by omega), if_pos rfl, if_pos (by simp)]; simp
    · by_cases hr : Nat.succ off ≤ j ∧ j < Nat.succ off + l.length
      · rw [if_pos hr, if_pos (by simp; omega)]
        rw [show j - off = (j - (off + 1)) + 1 by omega]; simp
      · rw [if_neg hr, if_neg (by omega), if_neg (by simp; omega)]

theorem cellsAt_succ (t : Tr AV) (off n : Nat) : cellsAt t off (n + 1) = match t.get off with
    | none => none
    | some v => match cellsAt t (Nat.succ off) n with | none => none | some r => some (v :: r) := by
  show @Option.rec AV (fun _ => Option (List AV)) none (fun v => @Option.rec (List AV) (fun _ => Option (List AV)) none (fun r => some (v :: r)) (cellsAt t (Nat.succ off) n)) (t.get off) = _
  cases t.get off with
  | none => rfl
  | some v => cases cellsAt t (Nat.succ off) n <;> rfl
theorem cellsAt_ok : ∀ (n : Nat) (t : Tr AV) (off : Nat) {l : List AV}, cellsAt t off n = some l → l.length = n ∧ ∀ i, i < n → l[i]? = t.get (off + i) ∧ (t.get (off + i)).isSome
  | 0, t, off, l, h => by
    have : l = [] := by injection h with h; exact h.symm
    subst this; simp
  | n+1, t, off, l, h => by
    rw [cellsAt_succ] at h
    split at h
    · cases h
    · rename_i v hv
      split at h
      · cases h
      · rename_i r hr
        have hl : v :: r = l := by injection h
        subst hl
        obtain ⟨h1, h2⟩ := cellsAt_ok n t _ hr
        refine ⟨by simp [h1], fun i hi => ?_⟩
        cases i with
        | zero => simp [hv]
        | succ i =>
          have := h2 i (by omega)
          rw [show off + (i + 1) = Nat.succ off + i by omega]
          simpa using this

theorem kindNo_inj {a b : IntKind} (h : sameKind a b = true) : a = b := by
  cases a <;> cases b <;> first | rfl | (exact absurd h (by unfold sameKind; decide))
theorem sameInt_iff {a b : Int} : sameInt a b = true ↔ a = b := by
  cases a <;> cases b <;> simp [sameInt] <;> omega
theorem sameBool_iff {a b : Bool} : sameBool a b = true ↔ a = b := by
  cases a <;> cases b <;> simp [sameBool]
theorem capSame {a b : Cap} (h : a.same b = true) : a = b := by
  cases a <;> cases b <;> simp_all [Cap.same]
theorem same1_eq {a b : AV} (h : same1 a b = true) : a = b := by
  cases a <;> cases b <;> simp only [same1, Bool.false_eq_true, sel_eq] at h <;> try rfl
  · rw [sameBool_iff.1 h]
  · split at h
    · rename_i hk; rw [kindNo_inj hk, sameInt_iff.1 h]
    · cases h
  · (repeat' split at h) <;> simp_all
  · (repeat' split at h) <;> first | (cases h; done) | (simp_all [capSame h]; done) | (have := capSame h; simp_all)
theorem sameL_eq : ∀ {a b : List AV}, sameL a b = true → a = b
  | [], [], _ => rfl
  | [], _ :: _, h => by cases h
  | _ :: _, [], h => by cases h
  | a :: r, b :: s, h => by
    simp only [sameL, sel_eq] at h
    split at h
    · rename_i h1; rw [same1_eq h1, sameL_eq h]
    · cases h
theorem same_eq {a b : AV} (h : a.same b = true) : a = b := by
  unfold AV.same at h
  split at h
  · rw [sameL_eq h]
  · exact same1_eq h
end Go.Ew
