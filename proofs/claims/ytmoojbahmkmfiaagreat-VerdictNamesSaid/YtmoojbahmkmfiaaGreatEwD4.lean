/- A DRAWN REGION, in whatever order. -/
import Derived.Test.YtmoojbahmkmfiaaGreatEwD3
namespace Go.Ew
section
variable {P : Program} {w : World} {ι : Ix} {H H' : Heap}

theorem HR.add' (hr : HR ι H w) {b0 : Nat} {blk : Blk} (hH : ∀ j, H'.get j = if j = b0 then some blk else H.get j) (hver : blk.ver = 0) (hexts : blk.exts = []) (hlp : blk.loop = none) (h0 : ∀ v, v ≠ 0 → ι b0 v = none)
    (hc : ∀ p, ι b0 0 = some p → p.esz = blk.esz ∧ ∃ cs el, w.heap[p.blk]? = some (.cells cs el (0, 0)) ∧ cs.size = p.size ∧ blk.size ≤ p.size ∧ ∀ i, i < blk.size → ∃ a x, blk.cells.get i = some a ∧ cs[i]? = some x ∧ VR ι a x ∧ a.one = true) : HR ι H' w := by
  refine ⟨fun b bk v e p h1 h2 h3 => ?_, fun b bk v p h1 h3 => ?_, fun b bk v h1 h2 => ?_, fun b bk h1 => ?_, hr.inj, hr.bound, fun b bk r p h1 h2 h3 => ?_⟩
  · rw [hH] at h1
    split at h1
    · rename_i hb
      subst hb
      injection h1 with h1; subst h1
      by_cases hv : v = 0
      · subst hv
        obtain ⟨_, cs, el, g1, g2, g3, g4⟩ := hc p h3
        have : e = blk.size := by
          have := ext_ver blk
          rw [hver] at this; rw [this] at h2; injection h2 with h2; exact h2.symm
        subst this
        exact ⟨cs, el, g1, g2, g3, g4⟩
      · rw [h0 v hv] at h3; cases h3
    · exact hr.cells b bk v e p h1 h2 h3
  · rw [hH] at h1
    split at h1
    · rename_i hb
      subst hb
      injection h1 with h1; subst h1
      by_cases hv : v = 0
      · subst hv; exact (hc p h3).1
      · rw [h0 v hv] at h3; cases h3
    · exact hr.esz b bk v p h1 h3
  · rw [hH] at h1
    split at h1
    · rename_i hb
      subst hb
      injection h1 with h1; subst h1
      exact h0 v (by omega)
    · exact hr.future b bk v h1 h2
  · rw [hH] at h1
    split at h1
    · injection h1 with h1; subst h1; rw [hexts]; trivial
    · exact hr.desc b bk h1
  · rw [hH] at h1
    split at h1
    · injection h1 with h1; subst h1; rw [hlp] at h2; cases h2
    · exact hr.loop b bk r p h1 h2 h3
theorem HR.sub (hr : HR ι H w) (h : ∀ b blk, H'.get b = some blk → H.get b = some blk) : HR ι H' w :=
  ⟨fun b bk v e p h1 h2 h3 => hr.cells b bk v e p (h _ _ h1) h2 h3, fun b bk v p h1 h3 => hr.esz b bk v p (h _ _ h1) h3, fun b bk v h1 h2 => hr.future b bk v (h _ _ h1) h2, fun b bk h1 => hr.desc b bk (h _ _ h1), hr.inj, hr.bound, fun b bk r p h1 h2 h3 => hr.loop b bk r p (h _ _ h1) h2 h3⟩
theorem Stp.trans' {ι1 ι2 : Ix} {H1 H2 : Heap} {nx M m m2 : Nat} {w1 w2 : World} (a : Stp ι H nx w ι1 H1 M w1) (b : Stp ι1 H1 m w1 ι2 H2 m2 w2) (h1 : nx ≤ m) (h2 : m2 ≤ M)
    (hf : Fresh ι nx M) (hw : Wf H nx) : Stp ι H nx w ι2 H2 M w2 := by
  have hsz := a.size
  refine ⟨fun x v p h => b.le _ _ _ (a.le _ _ _ h), fun x v p h => ?_, fun x h => ?_, a.nxle, fun x blk h hn => ?_, fun c hc hh => ?_, Nat.le_trans hsz b.size, b.os.trans a.os, b.output.trans a.output, b.tape.trans a.tape⟩
  · rcases b.new x v p h with g1 | ⟨⟨g1, g2⟩, g3⟩ | ⟨g1, v0, p0, g2, g3⟩
    · exact a.new x v p g1
    · exact .inr (.inl ⟨⟨by omega, by omega⟩, by omega⟩)
    · rcases a.new x v0 p0 g2 with h4 | ⟨⟨h4, h5⟩, h6⟩ | ⟨h4, v1, p1, h5, h6⟩
      · rcases a.dom x g1 with h5 | ⟨h5, h6⟩
        · exact .inr (.inr ⟨h5, v0, p0, h4, g3.imp id (fun h => by omega)⟩)
        · rw [hf x v0 h5 h6] at h4; cases h4
      · exact .inr (.inl ⟨⟨h4, h5⟩, by rcases g3 with h3 | h3 <;> omega⟩)
      · exact .inr (.inr ⟨h4, v1, p1, h5, by rcases g3 with h3 | h3 <;> rcases h6 with h6 | h6 <;> first | (left; omega) | (right; omega)⟩)
  · rcases b.dom x h with g1 | g1
    · exact a.dom x g1
    · exact .inr ⟨by omega, by omega⟩
  · refine b.same x blk (a.same x blk h hn) fun v => ?_
    cases hv : ι1 x v with
    | none => rfl
    | some p =>
      rcases a.new x v p hv with h1 | ⟨⟨h1, _⟩, _⟩ | ⟨_, v0, p0, h1, _⟩
      · rw [hn v] at h1; cases h1
      · rw [hw x h1] at h; cases h
      · rw [hn v0] at h1; cases h1
  · have h1 := a.frame c hc hh
    rw [← h1]
    refine b.frame c (by omega) fun x v p hp hpc => ?_
    rcases a.new x v p hp with h2 | ⟨_, h2⟩ | ⟨h2, v0, p0, h3, h4⟩
    · have h3 := hh x v p h2 hpc
      cases hx : H1.get x with
      | none => rfl
      | some blk =>
        rcases a.dom x (by simp [hx]) with h4 | ⟨h4, h5⟩
        · rw [h3] at h4; cases h4
        · rw [hf x v h4 h5] at h2; cases h2
    · omega
    · rcases h4 with h4 | h4
      · have := hh x v0 p0 h3 (by omega)
        rw [this] at h2; cases h2
      · omega
end

/-- a drawn region's trace, and what its text was asked -/
structure Rg (P : Program) (ops : Array Oper) (sz : Nat) (En : Nat → Env) (Hp : Nat → Heap) (Nx : Nat → Nat) (Vl : Nat → AV) (kd : Nat → Kd) : Prop where
  tc : Tc P ops sz 0 ops.size ⟨[], []⟩ En Hp Nx Vl kd
  edges : edgesOk ops.toList 0 = true
  share : ∀ i j x y, i < j → ops[i]? = some x → ops[j]? = some y → Share ops x y → Bef ops j i

section
variable {P : Program} {ops : Array Oper} {sz : Nat} {En : Nat → Env} {Hp : Nat → Heap} {Nx : Nat → Nat} {Vl : Nat → AV} {kd : Nat → Kd} (R : Rg P ops sz En Hp Nx Vl kd)
include R

theorem Rg.at_ {k : Nat} (h : k < ops.size) : ∃ o, ops[k]? = some o ∧ At P ops sz o (kd k) (En k) (Hp k) (Nx k) (Vl k) (En (k + 1)) (Hp (k + 1)) (Nx (k + 1)) := R.tc.at_ k (Nat.zero_le _) h
theorem Rg.nx_le {i : Nat} : ∀ (d : Nat), i + d ≤ ops.size → Nx i ≤ Nx (i + d)
  | 0, _ => Nat.le_refl _
  | d+1, h => by
    obtain ⟨o, _, ha⟩ := R.at_ (k := i + d) (by omega)
    exact Nat.le_trans (Rg.nx_le d (by omega)) ha.nxle
theorem Rg.nx_mono {i j : Nat} (h : i ≤ j) (hj : j ≤ ops.size) : Nx i ≤ Nx j := by
  have := R.nx_le (i := i) (j - i) (by omega)
  rwa [show i + (j - i) = j by omega] at this
theorem Rg.al {k : Nat} (h : k < ops.size) (hk : kd k = .al) : ∃ o r blk, ops[k]? = some o ∧ evAl P (En k) o.op = .ok r ∧ Vl k = madeVal (Nx k) r.2 ∧ Nx (k + 1) = Nx k + 1 ∧ Made (Nx k) r.1 blk (Hp k) (Hp (k + 1)) := by
  obtain ⟨o, ho, ha⟩ := R.at_ h
  have := ha.does
  rw [hk] at this
  obtain ⟨r, blk, h1, h2, h3, h4⟩ := this
  exact ⟨o, r, blk, ho, h1, h2, h3, h4⟩
theorem Rg.nx_al {k : Nat} (h : k < ops.size) (hk : kd k = .al) : Nx (k + 1) = Nx k + 1 := by
  obtain ⟨_, _, _, _, _, _, h3, _⟩ := R.al h hk; exact h3
theorem Rg.nx_ne {i j : Nat} (hi : i < ops.size) (hj : j < ops.size) (h1 : kd i = .al) (h2 : kd j = .al) (hne : i ≠ j) : Nx i ≠ Nx j := by
  have a1 := R.nx_al hi h1
  have a2 := R.nx_al hj h2
  rcases Nat.lt_or_ge i j with h | h
  · have := R.nx_mono (i := i + 1) (j := j) h (by omega); omega
  · have := R.nx_mono (i := j + 1) (j := i) (by omega) (by omega); omega

/-- between effects memory grows by new blocks alone -/
theorem Rg.gap {s : Nat} (hw : Wf (Hp s) (Nx s)) : ∀ (d : Nat), s + d ≤ ops.size → (∀ k, s ≤ k → k < s + d → kd k ≠ .e) →
    Wf (Hp (s + d)) (Nx (s + d)) ∧ (∀ b blk, (Hp s).get b = some blk → (Hp (s + d)).get b = some blk) ∧ (∀ b, ((Hp (s + d)).get b).isSome → ((Hp s).get b).isSome ∨ (Nx s ≤ b ∧ b < Nx (s + d)))
  | 0, _, _ => ⟨hw, fun _ _ h => h, fun _ h => .inl h⟩
  | d+1, hle, hne => by
    obtain ⟨h1, h2, h3⟩ := Rg.gap hw d (by omega) fun k a b => hne k a (by omega)
    obtain ⟨o, ho, ha⟩ := R.at_ (k := s + d) (by omega)
    have hkd := hne (s + d) (by omega) (by omega)
    have hnx := R.nx_mono (i := s) (j := s + d) (by omega) (by omega)
    rw [show s + (d + 1) = s + d + 1 by omega]
    have hdo := ha.does
    cases hk : kd (s + d) with
    | e => exact absurd hk hkd
    | skip => rw [hk] at hdo; obtain ⟨_, e1, e2⟩ := hdo; rw [e1, e2]; exact ⟨h1, h2, h3⟩
    | q => rw [hk] at hdo; obtain ⟨_, _, _, e1, e2⟩ := hdo; rw [e1, e2]; exact ⟨h1, h2, h3⟩
    | rd => rw [hk] at hdo; obtain ⟨_, e1, e2⟩ := hdo; rw [e1, e2]; exact ⟨h1, h2, h3⟩
    | al =>
      rw [hk] at hdo
      obtain ⟨r, blk, _, _, e2, hm⟩ := hdo
      refine ⟨fun b hb => ?_, fun b bk hb => ?_, fun b hb => ?_⟩
      · rw [hm.get, if_neg (by omega)]; exact h1 b (by omega)
      · rw [hm.get, if_neg]
        · exact h2 b bk hb
        · rintro rfl
          have := h2 _ _ hb
          rw [h1 _ (Nat.le_refl _)] at this; cases this
      · rw [hm.get] at hb
        split at hb
        · rename_i he; right; omega
        · rcases h3 b hb with h | h
          · exact .inl h
          · right; omega
theorem Rg.gap' {s g : Nat} (hw : Wf (Hp s) (Nx s)) (hsg : s ≤ g) (hg : g ≤ ops.size) (hne : ∀ k, s ≤ k → k < g → kd k ≠ .e) :
    Wf (Hp g) (Nx g) ∧ (∀ b blk, (Hp s).get b = some blk → (Hp g).get b = some blk) ∧ (∀ b, ((Hp g).get b).isSome → ((Hp s).get b).isSome ∨ (Nx s ≤ b ∧ b < Nx g)) := by
  have := R.gap hw (g - s) (by omega) (fun k a b => hne k a (by omega))
  rwa [show s + (g - s) = g by omega] at this

/-- no writer between: the slot holds what it held -/
theorem Rg.keeps {t i : Nat} : ∀ (d : Nat), i + d ≤ ops.size → (∀ k o, i ≤ k → k < i + d → ops[k]? = some o → o.dst ≠ some t) → (En (i + d)).get t = (En i).get t
  | 0, _, _ => rfl
  | d+1, hle, hne => by
    obtain ⟨o, ho, ha⟩ := R.at_ (k := i + d) (by omega)
    rw [show i + (d + 1) = i + d + 1 by omega, ha.put, if_neg (hne _ o (by omega) (by omega) ho)]
    exact Rg.keeps d (by omega) fun k o a b => hne k o a (by omega)

end

theorem next_e (kd : Nat → Kd) (n : Nat) : ∀ (d s : Nat), s + d = n → ∃ g, s ≤ g ∧ g ≤ n ∧ (∀ k, s ≤ k → k < g → kd k ≠ .e) ∧ (g < n → kd g = .e)
  | 0, s, h => ⟨s, Nat.le_refl _, by omega, fun k a b => by omega, fun h' => by omega⟩
  | d+1, s, h => by
    by_cases hs : kd s = .e
    · exact ⟨s, Nat.le_refl _, by omega, fun k a b => by omega, fun _ => hs⟩
    · obtain ⟨g, h1, h2, h3, h4⟩ := next_e kd n d (s + 1) (by omega)
      refine ⟨g, by omega, h2, fun k a b => ?_, h4⟩
      by_cases hk : k = s
      · subst hk; exact hs
      · exact h3 k (by omega) b

/-- the operations that have been -/
def In (l : Array Bool) (k : Nat) : Prop := l.getD k false = true
theorem In.set {l : Array Bool} {i k : Nat} (hi : i < l.size) : In (l.setIfInBounds i true) k ↔ k = i ∨ In l k := by
  unfold In
  by_cases h : i = k
  · subst h; simp [hi]
  · rw [getD_set_ne false h]
    constructor
    · exact .inr
    · rintro (h' | h')
      · exact absurd h'.symm h
      · exact h'

/-- what holds in the middle of a drawn region -/
structure Inv (P : Program) (ops : Array Oper) (sz : Nat) (ds : List Deferred) (En : Nat → Env) (Hp : Nat → Heap) (Nx : Nat → Nat) (kd : Nat → Kd) (ι0 : Ix) (w0 : World) (l : Array Bool) (ι : Ix) (g : Nat) (a : Act) (w : World) : Prop where
  lsize : l.size = ops.size
  closed : Closed ops (In l)
  gle : g ≤ ops.size
  before : ∀ k, k < g → kd k = .e → In l k
  behind : ∀ k, g ≤ k → k < ops.size → kd k = .e → ¬ In l k
  here : g < ops.size → kd g = .e
  hr : HR ι (Hp g) w
  wf : ∀ k, k ≤ g → Wf (Hp k) (Nx k)
  unmapped : ∀ k, k < ops.size → kd k = .al → ¬ In l k → ∀ v, ι (Nx k) v = none
  pend : ∀ k, g ≤ k → k < ops.size → kd k = .al → In l k → (∀ v, v ≠ 0 → ι (Nx k) v = none) ∧ ∃ p, ι (Nx k) 0 = some p ∧ p.esz = 0 ∧ ∃ cs el, w.heap[p.blk]? = some (.cells cs el (0, 0)) ∧ cs.size = p.size ∧
    ∀ blk, (Hp (k + 1)).get (Nx k) = some blk → blk.size ≤ p.size ∧ ∀ i, i < blk.size → ∃ a x, blk.cells.get i = some a ∧ cs[i]? = some x ∧ VR ι a x ∧ a.one = true
  initial : ∀ k, k < g → kd k = .al → ¬ In l k → (Hp g).get (Nx k) = (Hp (k + 1)).get (Nx k)
  fresh : ∀ b v p, Nx g ≤ b → b < Nx ops.size → ι b v = some p → ∃ k, g ≤ k ∧ k < ops.size ∧ kd k = .al ∧ In l k ∧ b = Nx k
  slots : ∀ t v k, k ≤ ops.size → (∀ j o, ops[j]? = some o → o.dst = some t → (j < k ↔ In l j)) → (En k).get t = some v → ∃ x, a.tmps[t]? = some x ∧ VR ι v x
  tsize : a.tmps.size = sz
  defers : a.defers = ds
  stp : Stp ι0 (Hp 0) (Nx 0) w0 ι (Hp g) (Nx ops.size) w
end Go.Ew
