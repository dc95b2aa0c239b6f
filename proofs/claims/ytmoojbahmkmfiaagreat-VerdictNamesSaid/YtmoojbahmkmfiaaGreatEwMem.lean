/- MEMORY: a new block, a write, a version more. -/
import Derived.Test.YtmoojbahmkmfiaaGreatEwQ3
namespace Go.Ew
section
variable {P : Program} {w : World} {ι : Ix} {H H' : Heap}

def Ix.set (ι : Ix) (b v : Nat) (p : Pl) : Ix := fun b' v' => if b' = b ∧ v' = v then some p else ι b' v'
theorem Ix.set_same (ι : Ix) (b v : Nat) (p : Pl) : ι.set b v p b v = some p := by simp [Ix.set]
theorem Ix.set_le {b v : Nat} {p : Pl} (h : ι b v = none) : ι.le (ι.set b v p) := by
  intro b' v' q hq
  unfold Ix.set
  split
  · rename_i hh; rw [hh.1, hh.2, h] at hq; cases hq
  · exact hq
theorem Ix.set_cases {b v b' v' : Nat} {p q : Pl} (h : ι.set b v p b' v' = some q) : (b' = b ∧ v' = v ∧ q = p) ∨ ι b' v' = some q := by
  unfold Ix.set at h
  split at h
  · rename_i hh; injection h with h; exact .inl ⟨hh.1, hh.2, h.symm⟩
  · exact .inr h

/-- A world's heap with one block more. -/
def plus (w : World) (cs : Array Value) (el : TypeId) : World := { w with heap := w.heap.push (.cells cs el) }
theorem plus_size (cs : Array Value) (el : TypeId) : (plus w cs el).heap.size = w.heap.size + 1 := by simp [plus]
theorem plus_new (cs : Array Value) (el : TypeId) : (plus w cs el).heap[w.heap.size]? = some (.cells cs el (0, 0)) := by
  show (w.heap.push _)[w.heap.size]? = _
  rw [Array.getElem?_push, if_pos rfl]
theorem plus_old (cs : Array Value) (el : TypeId) {c : Nat} (h : c < w.heap.size) : (plus w cs el).heap[c]? = w.heap[c]? := by
  simp only [plus, Array.getElem?_push]; rw [if_neg (by omega)]

/-- the world may grow by blocks of which nothing is known, and draw -/
theorem HR.world (hr : HR ι H w) {w' : World} (hs : w.heap.size ≤ w'.heap.size) (hh : ∀ b v p, ι b v = some p → w'.heap[p.blk]? = w.heap[p.blk]?) : HR ι H w' := by
  refine ⟨fun b blk v e p h1 h2 h3 => ?_, hr.esz, hr.future, hr.desc, hr.inj, fun b v p h => Nat.lt_of_lt_of_le (hr.bound b v p h) hs, fun b blk r p h1 h2 h3 => ?_⟩
  · rw [hh b v p h3]
    exact hr.cells b blk v e p h1 h2 h3
  · rw [hh b 0 p h3]
    exact hr.loop b blk r p h1 h2 h3
/-- an abstract block more, that lies nowhere yet -/
theorem HR.add (hr : HR ι H w) {b0 : Nat} {blk : Blk} (hH : ∀ j, H'.get j = if j = b0 then some blk else H.get j) (hn : ∀ v, ι b0 v = none) (hd : Desc blk.size blk.exts) : HR ι H' w := by
  refine ⟨fun b bk v e p h1 h2 h3 => ?_, fun b bk v p h1 h3 => ?_, fun b bk v h1 h2 => ?_, fun b bk h1 => ?_, hr.inj, hr.bound, fun b bk r p h1 h2 h3 => ?_⟩
  all_goals
    rw [hH] at h1
    split at h1
    · rename_i hb
      subst hb
      first | (rw [hn] at h3; cases h3; done) | exact hn _ | (injection h1 with h1; subst h1; exact hd)
    · first | exact hr.cells b bk v e p h1 h2 h3 | exact hr.esz b bk v p h1 h3 | exact hr.future b bk v h1 h2 | exact hr.desc b bk h1 | exact hr.loop b bk r p h1 h2 h3
/-- a block comes to lie in a new block of the world -/
theorem HR.map (hr : HR ι H w) {b0 : Nat} {cs : Array Value} {el : TypeId} {esz : Nat} (hn : ∀ v, ι b0 v = none)
    (hb : ∀ blk, H.get b0 = some blk → blk.ver = 0 ∧ blk.exts = [] ∧ blk.esz = esz ∧ blk.loop = none ∧ blk.size ≤ cs.size ∧ ∀ i, i < blk.size → ∃ a x, blk.cells.get i = some a ∧ cs[i]? = some x ∧ VR ι a x ∧ a.one = true) :
    HR (ι.set b0 0 ⟨w.heap.size, cs.size, esz⟩) H (plus w cs el) := by
  have hle := Ix.set_le (p := ⟨w.heap.size, cs.size, esz⟩) (hn 0)
  refine ⟨fun b blk v e p h1 h2 h3 => ?_, fun b blk v p h1 h3 => ?_, fun b blk v h1 h2 => ?_, hr.desc, fun b v p b' v' p' h1 h2 h3 => ?_, fun b v p h => ?_, fun b blk r p h1 h2 h3 => ?_⟩
  · rcases Ix.set_cases h3 with ⟨rfl, rfl, rfl⟩ | h3
    · obtain ⟨e1, e2, e3, e0, e4, e5⟩ := hb blk h1
      have : e = blk.size := by
        unfold Blk.ext at h2; rw [e1] at h2; injection h2 with h2; exact h2.symm
      subst this
      refine ⟨cs, el, plus_new cs el, rfl, e4, fun i hi => ?_⟩
      obtain ⟨a, x, h4, h5, h6, h7⟩ := e5 i hi
      exact ⟨a, x, h4, h5, h6.mono hle, h7⟩
    · obtain ⟨cs', el', g1, g2, g3, g4⟩ := hr.cells b blk v e p h1 h2 h3
      refine ⟨cs', el', by rw [plus_old _ _ (hr.bound _ _ _ h3)]; exact g1, g2, g3, fun i hi => ?_⟩
      obtain ⟨a, x, h4, h5, h6, h7⟩ := g4 i hi
      exact ⟨a, x, h4, h5, h6.mono hle, h7⟩
  · rcases Ix.set_cases h3 with ⟨rfl, rfl, rfl⟩ | h3
    · exact (hb blk h1).2.2.1.symm
    · exact hr.esz b blk v p h1 h3
  · have h3 := hr.future b blk v h1 h2
    unfold Ix.set
    split
    · rename_i hh
      obtain ⟨rfl, rfl⟩ := hh
      omega
    · exact h3
  · rcases Ix.set_cases h1 with ⟨e1, e2, e3⟩ | g1 <;> rcases Ix.set_cases h2 with ⟨e4, e5, e6⟩ | g2
    · rw [e1, e4]
    · have := hr.bound _ _ _ g2; rw [e3] at h3; simp only at h3; omega
    · have := hr.bound _ _ _ g1; rw [e6] at h3; simp only at h3; omega
    · exact hr.inj _ _ _ _ _ _ g1 g2 h3
  · rw [plus_size]
    rcases Ix.set_cases h with ⟨rfl, rfl, rfl⟩ | h
    · simp
    · have := hr.bound _ _ _ h; omega
  · rcases Ix.set_cases h3 with ⟨rfl, _, rfl⟩ | h3
    · obtain ⟨e1, e2, e3, e0, e4⟩ := hb blk h1
      rw [e0] at h2; cases h2
    · obtain ⟨r', g1, g2⟩ := hr.loop b blk r p h1 h2 h3
      exact ⟨r', by rw [plus_old _ _ (hr.bound _ _ _ h3)]; exact g1, g2.mono hle⟩

/-- what newBlk lays -/
theorem newBlk_ok {β : Type} {nx : Nat} {l : List AV} {esz : Nat} {k : Heap → Nat → Res β} {r : β} (h : newBlk H nx l esz k = .ok r) :
    ∃ H' blk, k H' (nx + 1) = .ok r ∧ (∀ j, H'.get j = if j = nx then some blk else H.get j) ∧ blk.ver = 0 ∧ blk.exts = [] ∧ blk.esz = esz ∧ blk.loop = none ∧ blk.size = l.length ∧ (∀ i, i < l.length → blk.cells.get i = l[i]?) ∧ allOne l = true := by
  unfold newBlk at h
  obtain ⟨h1, h⟩ := must_ok h
  obtain ⟨t, h, ht⟩ := setCells_ok _ _ _ _ h
  rw [forceNat_eq] at h
  obtain ⟨H', h, hH⟩ := setK_ok _ _ _ _ h
  rw [forceNat_eq] at h
  refine ⟨H', _, h, hH, rfl, rfl, rfl, rfl, rfl, fun i hi => ?_, h1⟩
  show t.get i = _
  rw [ht, if_pos (by omega)]; rfl

/-- A STEP THAT MAKES A BLOCK. -/
theorem stp_new (hr : HR ι H w) {nx N : Nat} (hw : Wf H nx) (hf : Fresh ι nx N) (hN : nx + 1 ≤ N) {blk : Blk} {l : List AV} {cs : Array Value} {el : TypeId} {esz : Nat}
    (hH : ∀ j, H'.get j = if j = nx then some blk else H.get j) (h0 : blk.ver = 0) (h1 : blk.exts = []) (h2 : blk.esz = esz) (hlp : blk.loop = none) (h3 : blk.size = l.length) (h4 : ∀ i, i < l.length → blk.cells.get i = l[i]?) (h5 : allOne l = true)
    (hl : ∃ xs : List Value, VRL ι l xs ∧ l.length ≤ cs.size ∧ ∀ (i : Nat) (x : Value), xs[i]? = some x → cs[i]? = some x) :
    HR (ι.set nx 0 ⟨w.heap.size, cs.size, esz⟩) H' (plus w cs el) ∧ Stp ι H nx w (ι.set nx 0 ⟨w.heap.size, cs.size, esz⟩) H' (nx + 1) (plus w cs el) := by
  have hn : ∀ v, ι nx v = none := fun v => hf nx v (Nat.le_refl _) (by omega)
  have hadd := hr.add hH hn (by rw [h1]; trivial)
  obtain ⟨xs, hv, hsz, hcs⟩ := hl
  have hlen := hv.length
  refine ⟨hadd.map hn fun bk hbk => ?_, ⟨Ix.set_le (hn 0), fun b v p h => ?_, fun b h => ?_, by omega, fun b bk hb _ => ?_, fun c hc _ => plus_old _ _ hc, by rw [plus_size]; omega, rfl, rfl, rfl⟩⟩
  · rw [hH, if_pos rfl] at hbk
    injection hbk with hbk
    subst hbk
    refine ⟨h0, h1, h2, hlp, by omega, fun i hi => ?_⟩
    have hi' : i < l.length := by omega
    obtain ⟨x, hx, hvx⟩ := hv.get i (List.getElem?_eq_getElem hi')
    exact ⟨l[i], x, by rw [h4 i hi', List.getElem?_eq_getElem hi'], hcs i x hx, hvx, allOne_mem h5 _ (List.getElem_mem hi')⟩
  · rcases Ix.set_cases h with ⟨rfl, rfl, rfl⟩ | h
    · exact .inr (.inl ⟨⟨Nat.le_refl _, by omega⟩, Nat.le_refl _⟩)
    · exact .inl h
  · rw [hH] at h
    split at h
    · rename_i hb; exact .inr ⟨by omega, by omega⟩
    · exact .inl h
  · rw [hH, if_neg]
    · exact hb
    · rintro rfl
      rw [hw _ (Nat.le_refl _)] at hb; cases hb

/-- one block of the world turned -/
structure WW (w w' : World) (g : Nat) (cs : Array Value) (el : TypeId) : Prop where
  size : w'.heap.size = w.heap.size
  at_ : w'.heap[g]? = some (.cells cs el (0, 0))
  other : ∀ c, c ≠ g → w'.heap[c]? = w.heap[c]?
  os : w'.os = w.os
  output : w'.output = w.output
  tape : w'.tape = w.tape

theorem ext_ver (b : Blk) : b.ext b.ver = some b.size := by unfold Blk.ext; rw [beq_iff.2 rfl]; rfl
theorem ext_cut {b : Blk} {t : Tr AV} {off v e : Nat} (hd : Desc b.size b.exts) (h : (Blk.ext { cells := t, size := b.size, ver := b.ver, exts := cutExts off b.exts, esz := b.esz, loop := none } v) = some e) :
    b.ext v = some e ∧ (v = b.ver ∨ e ≤ off) := by
  unfold Blk.ext at h ⊢
  simp only [sel_eq, beq_iff, blt_iff] at h ⊢
  split at h
  · rename_i hv; rw [if_pos hv]; exact ⟨h, .inl hv⟩
  · rename_i hv
    rw [if_neg hv]
    split at h
    · rename_i hlt
      rw [if_pos hlt]
      unfold cutExts at h
      split at h
      · cases h
      · rename_i l e1 r hl
        rw [sel_eq] at h
        split at h
        · cases h
        · rename_i hoff
          have hoff : e1 ≤ off := Nat.le_of_not_lt fun hh => hoff (blt_iff.2 hh)
          rw [hl] at hd ⊢
          refine ⟨h, .inr ?_⟩
          have : Desc e1 (e1 :: r) := ⟨Nat.le_refl _, hd.2⟩
          exact Nat.le_trans (Desc.nth this h) hoff
    · cases h
theorem desc_cut {off n : Nat} {l : List Nat} (h : Desc n l) : Desc n (cutExts off l) := by
  unfold cutExts
  split
  · trivial
  · rw [sel_eq]; split
    · trivial
    · exact h

/-- A WRITE into the last version of a block. -/
theorem HR.write (hr : HR ι H w) {b off : Nat} {blk : Blk} {p : Pl} {l : List AV} {xs : List Value} {cs cs' : Array Value} {el : TypeId} {t : Tr AV} {w' : World}
    (hb : H.get b = some blk) (hp : ι b blk.ver = some p) (hone : allOne l = true) (hl : VRL ι l xs)
    (hcs : w.heap[p.blk]? = some (.cells cs el (0, 0))) (hsz : cs'.size = cs.size) (hcs' : ∀ i, i < cs.size → cs'[i]? = if off ≤ i ∧ i < off + l.length then xs[i - off]? else cs[i]?)
    (hw : WW w w' p.blk cs' el) (ht : ∀ j, t.get j = if off ≤ j ∧ j < off + l.length then l[j - off]? else blk.cells.get j)
    (hH : ∀ j, H'.get j = if j = b then some { cells := t, size := blk.size, ver := blk.ver, exts := cutExts off blk.exts, esz := blk.esz, loop := none } else H.get j) : HR ι H' w' := by
  have hlen := hl.length
  refine ⟨fun b1 bk v e q h1 h2 h3 => ?_, fun b1 bk v q h1 h3 => ?_, fun b1 bk v h1 h2 => ?_, fun b1 bk h1 => ?_, hr.inj, fun b1 v q h => by rw [hw.size]; exact hr.bound _ _ _ h, fun b1 bk r q h1 h2 h3 => ?_⟩
  · rw [hH] at h1
    split at h1
    · rename_i hb1
      subst hb1
      injection h1 with h1
      subst h1
      obtain ⟨h4, h5⟩ := ext_cut (hr.desc _ _ hb) h2
      obtain ⟨cs1, el1, g1, g2, g3, g4⟩ := hr.cells _ _ _ _ _ hb h4 h3
      by_cases hq : q.blk = p.blk
      · rw [hq] at g1 ⊢
        rw [hcs] at g1
        injection g1 with g1; injection g1 with g1 g5 _
        subst g1
        refine ⟨cs', el, hw.at_, by rw [hsz, g2], g3, fun i hi => ?_⟩
        simp only
        rw [ht, hcs' i (by omega)]
        by_cases hr' : off ≤ i ∧ i < off + l.length
        · rw [if_pos hr', if_pos hr']
          have hil : i - off < l.length := by omega
          obtain ⟨x, hx, hvx⟩ := hl.get (i - off) (List.getElem?_eq_getElem hil)
          exact ⟨_, x, List.getElem?_eq_getElem hil, hx, hvx, allOne_mem hone _ (List.getElem_mem hil)⟩
        · rw [if_neg hr', if_neg hr']; exact g4 i hi
      · refine ⟨cs1, el1, by rw [hw.other _ hq]; exact g1, g2, g3, fun i hi => ?_⟩
        simp only
        rw [ht]
        rcases h5 with h5 | h5
        · subst h5
          rw [hp] at h3; injection h3 with h3; rw [h3] at hq; exact absurd rfl hq
        · rw [if_neg (by omega)]; exact g4 i hi
    · rename_i hb1
      obtain ⟨cs1, el1, g1, g2, g3, g4⟩ := hr.cells _ _ _ _ _ h1 h2 h3
      have hq : q.blk ≠ p.blk := fun hh => hb1 (hr.inj _ _ _ _ _ _ h3 hp hh)
      exact ⟨cs1, el1, by rw [hw.other _ hq]; exact g1, g2, g3, g4⟩
  · rw [hH] at h1
    split at h1
    · rename_i hb1; subst hb1; injection h1 with h1; subst h1; have := hr.esz _ _ _ _ hb h3; exact this
    · exact hr.esz _ _ _ _ h1 h3
  · rw [hH] at h1
    split at h1
    · rename_i hb1; subst hb1; injection h1 with h1; subst h1; have := hr.future _ _ v hb h2; exact this
    · exact hr.future _ _ _ h1 h2
  · rw [hH] at h1
    split at h1
    · rename_i hb1; subst hb1; injection h1 with h1; subst h1; exact desc_cut (hr.desc _ _ hb)
    · exact hr.desc _ _ h1
  · rw [hH] at h1
    split at h1
    · rename_i hb1; injection h1 with h1; subst h1; cases h2
    · rename_i hb1
      obtain ⟨r', g1, g2⟩ := hr.loop _ _ _ _ h1 h2 h3
      have hq : q.blk ≠ p.blk := fun hh => hb1 (hr.inj _ _ _ _ _ _ h3 hp hh)
      exact ⟨r', by rw [hw.other _ hq]; exact g1, g2⟩

/-- what a step keeps that turns one block where it lies -/
theorem stp_write {nx : Nat} {b v : Nat} {blk blk' : Blk} {p : Pl} {cs' : Array Value} {el : TypeId} {w' : World} (hb : H.get b = some blk) (hp : ι b v = some p)
    (hw : WW w w' p.blk cs' el) (hH : ∀ j, H'.get j = if j = b then some blk' else H.get j) : Stp ι H nx w ι H' nx w' := by
  refine ⟨fun _ _ _ h => h, fun _ _ _ h => .inl h, fun c h => ?_, Nat.le_refl _, fun c bk hc hn => ?_, fun c hc hh => ?_, by rw [hw.size]; exact Nat.le_refl _, hw.os, hw.output, hw.tape⟩
  · rw [hH] at h
    split at h
    · rename_i he; subst he; exact .inl (by simp [hb])
    · exact .inl h
  · rw [hH, if_neg]
    · exact hc
    · rintro rfl; rw [hn v] at hp; cases hp
  · refine hw.other c ?_
    rintro rfl
    have := hh b v p hp rfl
    rw [hb] at this; cases this

/-- cells stored in the world -/
theorem store_run {g off : Nat} {cs : Array Value} {el : TypeId} {xs : List Value} (hcs : w.heap[g]? = some (.cells cs el (0, 0))) (hoff : off + xs.length ≤ cs.size) (hone : ∀ x ∈ xs, x.oneCell' = true) :
    ∃ w' cs', (storeCells ⟨g, off, none⟩ xs).run P w = .ok () w' ∧ WW w w' g cs' el ∧ cs'.size = cs.size ∧ ∀ i, i < cs.size → cs'[i]? = if off ≤ i ∧ i < off + xs.length then xs[i - off]? else cs[i]? := by
  have h := run_storeCells_at P g off el xs 0 cs w hcs (by simpa using hoff) hone
  simp only [Nat.add_zero] at h
  refine ⟨_, _, h, ⟨setRow_size _ _ _, setRow_heap _ _ _ _ _ _ hcs, fun c hc => setRow_other _ _ _ _ hc, rfl, rfl, rfl⟩, by simp; omega, fun i hi => ?_⟩
  rw [List.getElem?_toArray, List.append_assoc, List.getElem?_append]
  simp only [List.length_take, Array.length_toList]
  split
  · rename_i hlt
    rw [List.getElem?_take, if_pos (by omega), Array.getElem?_toList, if_neg (by omega)]
  · rename_i hge
    rw [List.getElem?_append]
    have e1 : min off cs.size = off := by omega
    rw [e1] at hge ⊢
    split
    · rename_i h2; rw [if_pos (by omega)]
    · rename_i h2
      rw [if_neg (by omega), List.getElem?_drop, Array.getElem?_toList]
      congr 1; omega

/-- A WRITE, as the evaluator makes it. -/
theorem writeCells_ok (hr : HR ι H w) {nx : Nat} {β : Type} {b v off : Nat} {l : List AV} {k : Heap → Res β} {r : β} {p : Pl} {xs : List Value} (h : writeCells H b v off l k = .ok r) (hp : ι b v = some p) (hl : VRL ι l xs) :
    ∃ H' w', k H' = .ok r ∧ (storeCells ⟨p.blk, off, none⟩ xs).run P w = .ok () w' ∧ HR ι H' w' ∧ Stp ι H nx w ι H' nx w' := by
  unfold writeCells at h
  obtain ⟨blk, hb, h⟩ := ofOpt_ok h
  obtain ⟨hv, h⟩ := must_ok h
  obtain ⟨hoff, h⟩ := must_ok h
  obtain ⟨hone, h⟩ := must_ok h
  obtain ⟨t, h, ht⟩ := setCells_ok _ _ _ _ h
  obtain ⟨H', hk, hH⟩ := setK_ok _ _ _ _ h
  have hv : v = blk.ver := beq_iff.1 hv
  have hoff : off + l.length ≤ blk.size := ble_iff.1 hoff
  rw [hv] at hp
  obtain ⟨cs, el, hcs, hsz, hle, _⟩ := hr.cells _ _ _ _ _ hb (ext_ver blk) hp
  have hlen := hl.length
  obtain ⟨w', cs', h1, h2, h3, h4⟩ := store_run (P := P) hcs (off := off) (xs := xs) (by omega) (hl.one hone)
  rw [← hlen] at h4
  exact ⟨H', w', hk, h1, hr.write hb hp hone hl hcs h3 h4 h2 ht hH, stp_write hb hp h2 hH⟩
end
end Go.Ew
