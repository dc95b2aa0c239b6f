/- A VERSION MORE of a block; writes, appends, as the evaluator makes them. -/
import Derived.Test.YtmoojbahmkmfiaaGreatEwE1
namespace Go.Ew
section
variable {P : Program} {w : World} {ι : Ix} {H H' : Heap}

theorem ext_grow {blk : Blk} {t : Tr AV} {size' : Nat} {c : Bool} {v e : Nat} (hv : v ≤ blk.ver)
    (h : (Blk.ext { cells := t, size := size', ver := blk.ver + 1, exts := sel c (blk.size :: blk.exts) [], esz := blk.esz, loop := none } v) = some e) : c = true ∧ blk.ext v = some e := by
  unfold Blk.ext at h ⊢
  simp only [sel_eq, beq_iff, blt_iff] at h ⊢
  rw [if_neg (by omega), if_pos (by omega)] at h
  by_cases hc : c = true
  · rw [if_pos hc] at h
    refine ⟨hc, ?_⟩
    by_cases hv' : v = blk.ver
    · rw [if_pos hv']
      have : Nat.sub (blk.ver + 1) (Nat.succ v) = 0 := by simp only [Nat.sub_eq]; omega
      rw [this] at h; exact h
    · rw [if_neg hv', if_pos (by omega)]
      have : Nat.sub (blk.ver + 1) (Nat.succ v) = Nat.sub blk.ver (Nat.succ v) + 1 := by simp only [Nat.sub_eq]; omega
      rw [this] at h; exact h
  · rw [if_neg hc] at h; cases h

structure Grow (ι : Ix) (w w' : World) (p p' : Pl) (off0 : Nat) (cs' : Array Value) (el : TypeId) : Prop where
  size : w.heap.size ≤ w'.heap.size
  at_ : w'.heap[p'.blk]? = some (.cells cs' el (0, 0))
  sz : cs'.size = p'.size
  other : ∀ c, c < w.heap.size → c ≠ p.blk → w'.heap[c]? = w.heap[c]?
  where_ : (p' = p ∧ ∀ (cs : Array Value) el', w.heap[p.blk]? = some (.cells cs el' (0, 0)) → cs'.size = cs.size ∧ ∀ i, i < off0 → cs'[i]? = cs[i]?) ∨ (p'.blk = w.heap.size ∧ w'.heap[p.blk]? = w.heap[p.blk]?)
  os : w'.os = w.os
  output : w'.output = w.output
  tape : w'.tape = w.tape

theorem HR.grow (hr : HR ι H w) {b off0 size' : Nat} {blk : Blk} {p p' : Pl} {cs' : Array Value} {el : TypeId} {t : Tr AV} {w' : World} {l : List AV} {c : Bool}
    (hb : H.get b = some blk) (hp : ι b blk.ver = some p) (hpe : p'.esz = blk.esz) (hbs : blk.size ≤ size') (hc : c = true → off0 = blk.size)
    (ht : ∀ j, t.get j = if off0 ≤ j ∧ j < off0 + l.length then l[j - off0]? else blk.cells.get j)
    (hH : ∀ j, H'.get j = if j = b then some { cells := t, size := size', ver := blk.ver + 1, exts := sel c (blk.size :: blk.exts) [], esz := blk.esz, loop := none } else H.get j)
    (hw : Grow ι w w' p p' off0 cs' el) (hs : size' ≤ p'.size) (hnew : ∀ i, i < size' → ∃ a x, t.get i = some a ∧ cs'[i]? = some x ∧ VR ι a x ∧ a.one = true) :
    HR (ι.set b (blk.ver + 1) p') H' w' := by
  have hn : ι b (blk.ver + 1) = none := hr.future _ _ _ hb (by omega)
  have hle := Ix.set_le (p := p') hn
  have hpb := hr.bound _ _ _ hp
  refine ⟨fun b1 bk v e q h1 h2 h3 => ?_, fun b1 bk v q h1 h3 => ?_, fun b1 bk v h1 h2 => ?_, fun b1 bk h1 => ?_, fun b1 v1 q1 b2 v2 q2 h1 h2 h3 => ?_, fun b1 v q h => ?_, fun b1 bk r q h1 h2 h3 => ?_⟩
  · rcases Ix.set_cases h3 with ⟨e1, e2, e3⟩ | q3
    · subst e1 e2 e3
      rw [hH, if_pos rfl] at h1
      injection h1 with h1
      subst h1
      rw [ext_ver { cells := t, size := size', ver := blk.ver + 1, exts := sel c (blk.size :: blk.exts) [], esz := blk.esz, loop := none }] at h2
      injection h2 with h2
      subst h2
      refine ⟨cs', el, hw.at_, hw.sz, hs, fun i hi => ?_⟩
      obtain ⟨a, x, g1, g2, g3, g4⟩ := hnew i hi
      exact ⟨a, x, g1, g2, g3.mono hle, g4⟩
    · rw [hH] at h1
      split at h1
      · rename_i hb1
        subst hb1
        injection h1 with h1
        subst h1
        have hv : v ≤ blk.ver := by
          rcases Nat.lt_or_ge blk.ver v with hlt | hge
          · rw [hr.future _ _ _ hb hlt] at q3; cases q3
          · exact hge
        obtain ⟨hct, h4⟩ := ext_grow hv h2
        have hoff := hc hct
        obtain ⟨cs1, el1, g1, g2, g3, g4⟩ := hr.cells _ _ _ _ _ hb h4 q3
        have he : e ≤ off0 := by
          unfold Blk.ext at h4
          simp only [sel_eq, beq_iff, blt_iff] at h4
          split at h4
          · injection h4 with h4; omega
          · split at h4
            · have := Desc.nth (hr.desc _ _ hb) h4; omega
            · cases h4
        have hqb := hr.bound _ _ _ q3
        rcases hw.where_ with ⟨hpp, hsame⟩ | ⟨hpp, hold⟩
        · by_cases hq : q.blk = p.blk
          · rw [hq] at g1
            obtain ⟨s1, s2⟩ := hsame _ _ g1
            refine ⟨cs', el, by rw [hq, ← hpp]; exact hw.at_, by omega, g3, fun i hi => ?_⟩
            obtain ⟨a, x, k1, k2, k3, k4⟩ := g4 i hi
            exact ⟨a, x, by simp only; rw [ht, if_neg (by omega)]; exact k1, by rw [s2 i (by omega)]; exact k2, k3.mono hle, k4⟩
          · refine ⟨cs1, el1, by rw [hw.other _ hqb hq]; exact g1, g2, g3, fun i hi => ?_⟩
            obtain ⟨a, x, k1, k2, k3, k4⟩ := g4 i hi
            exact ⟨a, x, by simp only; rw [ht, if_neg (by omega)]; exact k1, k2, k3.mono hle, k4⟩
        · have : w'.heap[q.blk]? = w.heap[q.blk]? := by
            by_cases hq : q.blk = p.blk
            · rw [hq]; exact hold
            · exact hw.other _ hqb hq
          refine ⟨cs1, el1, by rw [this]; exact g1, g2, g3, fun i hi => ?_⟩
          obtain ⟨a, x, k1, k2, k3, k4⟩ := g4 i hi
          exact ⟨a, x, by simp only; rw [ht, if_neg (by omega)]; exact k1, k2, k3.mono hle, k4⟩
      · rename_i hb1
        obtain ⟨cs1, el1, g1, g2, g3, g4⟩ := hr.cells _ _ _ _ _ h1 h2 q3
        have hqb := hr.bound _ _ _ q3
        have hq : q.blk ≠ p.blk := fun hh => hb1 (hr.inj _ _ _ _ _ _ q3 hp hh)
        refine ⟨cs1, el1, by rw [hw.other _ hqb hq]; exact g1, g2, g3, fun i hi => ?_⟩
        obtain ⟨a, x, k1, k2, k3, k4⟩ := g4 i hi
        exact ⟨a, x, k1, k2, k3.mono hle, k4⟩
  · rcases Ix.set_cases h3 with ⟨e1, e2, e3⟩ | q3
    · subst e1 e2 e3
      rw [hH, if_pos rfl] at h1
      injection h1 with h1; subst h1; exact hpe
    · rw [hH] at h1
      split at h1
      · rename_i hb1; subst hb1; injection h1 with h1; subst h1; have := hr.esz _ _ _ _ hb q3; exact this
      · exact hr.esz _ _ _ _ h1 q3
  · rw [hH] at h1
    unfold Ix.set
    split at h1
    · rename_i hb1; subst hb1; injection h1 with h1; subst h1
      simp only at h2
      rw [if_neg (by omega)]; exact hr.future _ _ _ hb (by omega)
    · rename_i hb1
      rw [if_neg (fun hh => hb1 hh.1)]; exact hr.future _ _ _ h1 h2
  · rw [hH] at h1
    split at h1
    · rename_i hb1; subst hb1; injection h1 with h1; subst h1
      simp only
      rw [sel_eq]; split
      · exact ⟨hbs, hr.desc _ _ hb⟩
      · trivial
    · exact hr.desc _ _ h1
  · have key : ∀ b3 v3 q3, ι b3 v3 = some q3 → q3.blk = p'.blk → b3 = b := by
      intro b3 v3 q3 h4 h5
      have h6 := hr.bound _ _ _ h4
      rcases hw.where_ with ⟨hpp, _⟩ | ⟨hpp, _⟩
      · rw [hpp] at h5; exact hr.inj _ _ _ _ _ _ h4 hp h5
      · omega
    rcases Ix.set_cases h1 with ⟨e1, e2, e3⟩ | g1 <;> rcases Ix.set_cases h2 with ⟨e4, e5, e6⟩ | g2
    · rw [e1, e4]
    · rw [e1]; rw [e3] at h3; exact (key _ _ _ g2 h3.symm).symm
    · rw [e4]; rw [e6] at h3; exact key _ _ _ g1 h3
    · exact hr.inj _ _ _ _ _ _ g1 g2 h3
  · rcases Ix.set_cases h with ⟨e1, e2, e3⟩ | h
    · rw [e3]; exact (Array.getElem?_eq_some_iff.1 hw.at_).1
    · have := hr.bound _ _ _ h; have := hw.size; omega
  · rw [hH] at h1
    split at h1
    · injection h1 with h1; subst h1; cases h2
    · rename_i hb1
      have q3 : ι b1 0 = some q := by
        rcases Ix.set_cases h3 with ⟨_, e2, _⟩ | q3
        · omega
        · exact q3
      obtain ⟨r', g1, g2⟩ := hr.loop _ _ _ _ h1 h2 q3
      have hqb := hr.bound _ _ _ q3
      have hq : q.blk ≠ p.blk := fun hh => hb1 (hr.inj _ _ _ _ _ _ q3 hp hh)
      exact ⟨r', by rw [hw.other _ hqb hq]; exact g1, g2.mono hle⟩

theorem stp_grow (hr : HR ι H w) {nx b off0 : Nat} {blk blk' : Blk} {p p' : Pl} {cs' : Array Value} {el : TypeId} {w' : World}
    (hb : H.get b = some blk) (hp : ι b blk.ver = some p) (hw : Grow ι w w' p p' off0 cs' el) (hH : ∀ j, H'.get j = if j = b then some blk' else H.get j) :
    Stp ι H nx w (ι.set b (blk.ver + 1) p') H' nx w' := by
  have hn : ι b (blk.ver + 1) = none := hr.future _ _ _ hb (by omega)
  refine ⟨Ix.set_le hn, fun b1 v1 q h => ?_, fun c h => ?_, Nat.le_refl _, fun c bk hc hnn => ?_, fun c hc hh => ?_, hw.size, hw.os, hw.output, hw.tape⟩
  · rcases Ix.set_cases h with ⟨e1, e2, e3⟩ | h
    · subst e1 e3
      refine .inr (.inr ⟨by simp [hb], blk.ver, p, hp, ?_⟩)
      rcases hw.where_ with ⟨hpp, _⟩ | ⟨hpp, _⟩
      · left; rw [hpp]
      · right; omega
    · exact .inl h
  · rw [hH] at h
    split at h
    · rename_i he; subst he; exact .inl (by simp [hb])
    · exact .inl h
  · rw [hH, if_neg]
    · exact hc
    · rintro rfl; rw [hnn blk.ver] at hp; cases hp
  · refine hw.other c hc ?_
    rintro rfl
    have := hh b blk.ver p hp rfl
    rw [hb] at this; cases this

/-- A WRITE, as the evaluator makes it: the memory behind it first, then what it is in the world. -/
theorem writeCells_ex (P : Program) {β : Type} {b v off : Nat} {l : List AV} {k : Heap → Res β} {r : β} (h : writeCells H b v off l k = .ok r) :
    ∃ H', k H' = .ok r ∧ ∀ (ι : Ix) (w : World) (p : Pl) (xs : List Value) (nx : Nat), HR ι H w → ι b v = some p → VRL ι l xs →
      ∃ w', (storeCells ⟨p.blk, off, none⟩ xs).run P w = .ok () w' ∧ HR ι H' w' ∧ Stp ι H nx w ι H' nx w' := by
  have h' := h
  unfold writeCells at h
  obtain ⟨blk, hb, h⟩ := ofOpt_ok h
  obtain ⟨hv, h⟩ := must_ok h
  obtain ⟨hoff, h⟩ := must_ok h
  obtain ⟨hone, h⟩ := must_ok h
  obtain ⟨t, h, ht⟩ := setCells_ok _ _ _ _ h
  obtain ⟨H', hk, hH⟩ := setK_ok _ _ _ _ h
  have hv : v = blk.ver := beq_iff.1 hv
  have hoff : off + l.length ≤ blk.size := ble_iff.1 hoff
  refine ⟨H', hk, fun ι w p xs nx hr hp hl => ?_⟩
  rw [hv] at hp
  obtain ⟨cs, el, hcs, hsz, hle, _⟩ := hr.cells _ _ _ _ _ hb (ext_ver blk) hp
  have hlen := hl.length
  obtain ⟨w', cs', h1, h2, h3, h4⟩ := store_run (P := P) hcs (off := off) (xs := xs) (by omega) (hl.one hone)
  rw [← hlen] at h4
  exact ⟨w', h1, hr.write hb hp hone hl hcs h3 h4 h2 ht hH, stp_write hb hp h2 hH⟩
/-- A NEW BLOCK, as the evaluator makes it. -/
theorem newBlk_ex {β : Type} {nx : Nat} {l : List AV} {esz : Nat} {k : Heap → Nat → Res β} {r : β} (h : newBlk H nx l esz k = .ok r) :
    ∃ H', k H' (nx + 1) = .ok r ∧ (∃ blk, (∀ j, H'.get j = if j = nx then some blk else H.get j) ∧ blk.ver = 0 ∧ blk.exts = [] ∧ blk.esz = esz ∧ blk.loop = none ∧ blk.size = l.length ∧ (∀ i, i < l.length → blk.cells.get i = l[i]?) ∧ allOne l = true) ∧
      ∀ (ι : Ix) (w : World) (N : Nat) (cs : Array Value) (el : TypeId) (xs : List Value), HR ι H w → Wf H nx → Fresh ι nx N → nx + 1 ≤ N → VRL ι l xs → l.length ≤ cs.size → (∀ (i : Nat) (x : Value), xs[i]? = some x → cs[i]? = some x) →
        HR (ι.set nx 0 ⟨w.heap.size, cs.size, esz⟩) H' (plus w cs el) ∧ Stp ι H nx w (ι.set nx 0 ⟨w.heap.size, cs.size, esz⟩) H' (nx + 1) (plus w cs el) := by
  obtain ⟨H', blk, hk, hH, h0, h1, h2, hlp, h3, h4, h5⟩ := newBlk_ok h
  exact ⟨H', hk, ⟨blk, hH, h0, h1, h2, hlp, h3, h4, h5⟩, fun ι w N cs el xs hr hw hf hN hl hs hx => stp_new hr hw hf hN hH h0 h1 h2 hlp h3 h4 h5 ⟨xs, hl, hs, hx⟩⟩
end
end Go.Ew
