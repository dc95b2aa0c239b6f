/- A DRAWN REGION, in whatever order: every step keeps what holds in the middle; the end. -/
import Derived.Test.YtmoojbahmkmfiaaGreatEwD4
namespace Go.Ew
section
variable {P : Program} {ops : Array Oper} {sz : Nat} {ds : List Deferred} {En : Nat → Env} {Hp : Nat → Heap} {Nx : Nat → Nat} {Vl : Nat → AV} {kd : Nat → Kd} {ι0 : Ix} {w0 : World} {l : Array Bool} {ι : Ix} {g : Nat} {a : Act} {w : World} {i : Nat} {o : Oper}

theorem bef_in (hcl : Closed ops fun k => k = i ∨ In l k) {j : Nat} (h : Bef ops i j) (hne : j ≠ i) : In l j := (h _ hcl (.inl rfl)).resolve_left hne

theorem Inv.cutER (I : Inv P ops sz ds En Hp Nx kd ι0 w0 l ι g a w) (R : Rg P ops sz En Hp Nx Vl kd) (hi : i < ops.size) (hni : ¬ In l i) (hcl : Closed ops fun k => k = i ∨ In l k) (ho : ops[i]? = some o) :
    ER ι (cut ops o (En i)) a.tmps := by
  intro t v ht
  obtain ⟨hl, hv⟩ := cut_get ht
  refine I.slots t v i (by omega) (fun j oj hoj hdj => ?_) hv
  rcases Nat.lt_trichotomy j i with hj | hj | hj
  · have := R.share j i oj o hj hoj ho ⟨t, .inl ⟨hdj, .inl hl⟩⟩
    exact ⟨fun _ => bef_in hcl this (by omega), fun _ => hj⟩
  · subst hj; exact ⟨fun h => by omega, fun h => absurd h hni⟩
  · have := R.share i j o oj hj ho hoj ⟨t, .inr ⟨hl, hdj⟩⟩
    exact ⟨fun h => by omega, fun h => absurd (this _ I.closed h) hni⟩

theorem Inv.slotsPut (I : Inv P ops sz ds En Hp Nx kd ι0 w0 l ι g a w) (R : Rg P ops sz En Hp Nx Vl kd) (hi : i < ops.size) (hni : ¬ In l i) (hcl : Closed ops fun k => k = i ∨ In l k) (ho : ops[i]? = some o)
    {ι' : Ix} {x : Value} (hle : ι.le ι') (hx : VR ι' (Vl i) x) (hd : ∀ t, o.dst = some t → t < sz) :
    ∀ t v k, k ≤ ops.size → (∀ j o', ops[j]? = some o' → o'.dst = some t → (j < k ↔ In (l.setIfInBounds i true) j)) → (En k).get t = some v → ∃ y, (a.put o.dst x).tmps[t]? = some y ∧ VR ι' v y := by
  intro t v k hk hwr hv
  have hset : ∀ j, In (l.setIfInBounds i true) j ↔ j = i ∨ In l j := fun j => In.set (by rw [I.lsize]; exact hi)
  by_cases hdt : o.dst = some t
  · have hik : i < k := (hwr i o ho hdt).2 ((hset i).2 (.inl rfl))
    obtain ⟨o', ho', ha⟩ := R.at_ hi
    rw [ho] at ho'; injection ho' with ho'; subst ho'
    have hkeep := R.keeps (t := t) (i := i + 1) (k - (i + 1)) (by omega) fun j oj h1 h2 hoj hdj => by
      have hin := (hset j).1 ((hwr j oj hoj hdj).1 (by omega))
      rcases hin with hin | hin
      · omega
      · exact hni (R.share i j o oj (by omega) ho hoj ⟨t, .inl ⟨hdt, .inr hdj⟩⟩ _ I.closed hin)
    rw [show i + 1 + (k - (i + 1)) = k by omega, ha.put, if_pos hdt] at hkeep
    rw [hkeep] at hv
    injection hv with hv; subst hv
    have := hd t hdt
    refine ⟨x, ?_, hx⟩
    simp only [Act.put, hdt]
    rw [Array.getElem?_setIfInBounds, if_pos rfl, if_pos (by rw [I.tsize]; exact this)]
  · obtain ⟨y, h1, h2⟩ := I.slots t v k hk (fun j oj hoj hdj => by
      have hji : j ≠ i := by
        rintro rfl
        rw [ho] at hoj; injection hoj with hoj; subst hoj; exact hdt hdj
      rw [hwr j oj hoj hdj, hset]
      exact ⟨fun h => h.resolve_left hji, .inr⟩) hv
    refine ⟨y, ?_, h2.mono hle⟩
    cases hdo : o.dst with
    | none => exact h1
    | some u =>
      have hne : u ≠ t := fun h => hdt (by rw [hdo, h])
      simp only [Act.put]
      rw [Array.getElem?_setIfInBounds_ne hne]; exact h1

theorem put_size {d : Option Tmp} {x : Value} : (a.put d x).tmps.size = a.tmps.size := by cases d <;> simp [Act.put]

/-- a step that leaves memory alone -/
theorem Inv.still (I : Inv P ops sz ds En Hp Nx kd ι0 w0 l ι g a w) (R : Rg P ops sz En Hp Nx Vl kd) (hi : i < ops.size) (hni : ¬ In l i) (hcl : Closed ops fun k => k = i ∨ In l k) (ho : ops[i]? = some o)
    (h1 : kd i ≠ .e) (h2 : kd i ≠ .al) {x : Value} (hx : VR ι (Vl i) x) (hd : ∀ t, o.dst = some t → t < sz) :
    Inv P ops sz ds En Hp Nx kd ι0 w0 (l.setIfInBounds i true) ι g (a.put o.dst x) w := by
  have hset : ∀ j, In (l.setIfInBounds i true) j ↔ j = i ∨ In l j := fun j => In.set (by rw [I.lsize]; exact hi)
  refine ⟨by simp [I.lsize], fun j oj hj hoj e he hb => ?_, I.gle, fun k a1 a2 => (hset k).2 (.inr (I.before k a1 a2)), fun k a1 a2 a3 a4 => ?_, I.here, I.hr, I.wf, fun k a1 a2 a3 => I.unmapped k a1 a2 fun h => a3 ((hset k).2 (.inr h)),
    fun k a1 a2 a3 a4 => ?_, fun k a1 a2 a3 => I.initial k a1 a2 fun h => a3 ((hset k).2 (.inr h)), fun b v p a1 a2 a3 => ?_, I.slotsPut R hi hni hcl ho (fun _ _ _ h => h) hx hd, by rw [put_size]; exact I.tsize, by rw [put_defers]; exact I.defers, I.stp⟩
  · rw [hset] at hj ⊢; exact hcl j oj hj hoj e he hb
  · rcases (hset k).1 a4 with h | h
    · subst h; exact h1 a3
    · exact I.behind k a1 a2 a3 h
  · rcases (hset k).1 a4 with h | h
    · subst h; exact absurd a3 h2
    · exact I.pend k a1 a2 a3 h
  · obtain ⟨k, g1, g2, g3, g4, g5⟩ := I.fresh b v p a1 a2 a3
    exact ⟨k, g1, g2, g3, (hset k).2 (.inr g4), g5⟩

/-- a step that makes a block -/
theorem Inv.made (I : Inv P ops sz ds En Hp Nx kd ι0 w0 l ι g a w) (R : Rg P ops sz En Hp Nx Vl kd) (hw0 : Wf (Hp 0) (Nx 0)) (hf0 : Fresh ι0 (Nx 0) (Nx ops.size)) (hi : i < ops.size) (hni : ¬ In l i) (hcl : Closed ops fun k => k = i ∨ In l k) (ho : ops[i]? = some o)
    (hk : kd i = .al) {r : List AV × Option (Nat × Nat)} {blk : Blk} (hv : Vl i = madeVal (Nx i) r.2) (hm : Made (Nx i) r.1 blk (Hp i) (Hp (i + 1))) {cs : Array Value} {el : TypeId} (hcs : VRL ι r.1 cs.toList) (hs : ∀ n m, r.2 = some (n, m) → n ≤ m) (hd : ∀ t, o.dst = some t → t < sz) :
    Inv P ops sz ds En Hp Nx kd ι0 w0 (l.setIfInBounds i true) (ι.set (Nx i) 0 ⟨w.heap.size, cs.size, 0⟩) g (a.put o.dst (newVal w.heap.size r.2)) (plus w cs el) := by
  have hset : ∀ j, In (l.setIfInBounds i true) j ↔ j = i ∨ In l j := fun j => In.set (by rw [I.lsize]; exact hi)
  have hn := I.unmapped i hi hk hni
  have hle := Ix.set_le (p := ⟨w.heap.size, cs.size, 0⟩) (hn 0)
  have hlen : r.1.length = cs.size := by rw [hcs.length]; simp
  have hnx := R.nx_al hi hk
  have hnxn := R.nx_mono (i := i + 1) (j := ops.size) (by omega) (Nat.le_refl _)
  have hnx0 := R.nx_mono (i := 0) (j := i) (by omega) (by omega)
  have hne : ∀ k, k < ops.size → kd k = .al → k ≠ i → ∀ v, ι.set (Nx i) 0 ⟨w.heap.size, cs.size, 0⟩ (Nx k) v = ι (Nx k) v := by
    intro k h1 h2 h3 v
    unfold Ix.set
    rw [if_neg]
    intro hh
    exact R.nx_ne h1 hi h2 hk h3 hh.1
  have hcont : ∀ bk, (Hp (i + 1)).get (Nx i) = some bk → bk = blk := fun bk h => by
    rw [hm.get, if_pos rfl] at h; injection h with h; exact h.symm
  have hcells : ∀ j, j < blk.size → ∃ u x, blk.cells.get j = some u ∧ cs[j]? = some x ∧ VR ι u x ∧ u.one = true := by
    intro j hj
    have hj' : j < r.1.length := by rw [← hm.size]; exact hj
    obtain ⟨x, hx, hvx⟩ := hcs.get j (List.getElem?_eq_getElem hj')
    exact ⟨r.1[j], x, by rw [hm.cells j hj', List.getElem?_eq_getElem hj'], by simpa using hx, hvx, allOne_mem hm.one _ (List.getElem_mem hj')⟩
  have hmap : HR (ι.set (Nx i) 0 ⟨w.heap.size, cs.size, 0⟩) (Hp g) (plus w cs el) := by
    refine I.hr.map hn fun bk hbk => ?_
    have hig : i < g := by
      rcases Nat.lt_or_ge i g with h | h
      · exact h
      · rw [I.wf g (Nat.le_refl _) (Nx i) (R.nx_mono h (by omega))] at hbk; cases hbk
    rw [I.initial i hig hk hni] at hbk
    cases hcont bk hbk
    exact ⟨hm.ver, hm.exts, hm.esz, hm.loop, by rw [hm.size]; omega, hcells⟩
  refine ⟨by simp [I.lsize], fun j oj hj hoj e he hb => ?_, I.gle, fun k a1 a2 => (hset k).2 (.inr (I.before k a1 a2)), fun k a1 a2 a3 a4 => ?_, I.here, hmap, I.wf, fun k a1 a2 a3 v => ?_,
    fun k a1 a2 a3 a4 => ?_, fun k a1 a2 a3 => I.initial k a1 a2 fun h => a3 ((hset k).2 (.inr h)), fun b v p a1 a2 a3 => ?_, I.slotsPut R hi hni hcl ho hle ?_ hd, by rw [put_size]; exact I.tsize, by rw [put_defers]; exact I.defers, ?_⟩
  · rw [hset] at hj ⊢; exact hcl j oj hj hoj e he hb
  · rcases (hset k).1 a4 with h | h
    · subst h; rw [hk] at a3; cases a3
    · exact I.behind k a1 a2 a3 h
  · have hki : k ≠ i := fun h => a3 ((hset k).2 (.inl h))
    rw [hne k a1 a2 hki]
    exact I.unmapped k a1 a2 (fun h => a3 ((hset k).2 (.inr h))) v
  · by_cases hki : k = i
    · subst hki
      refine ⟨fun v hv => ?_, ⟨w.heap.size, cs.size, 0⟩, Ix.set_same _ _ _ _, rfl, cs, el, plus_new _ _, rfl, fun bk hbk => ?_⟩
      · unfold Ix.set; rw [if_neg (fun hh => hv hh.2)]; exact hn v
      · cases hcont bk hbk
        refine ⟨by rw [hm.size]; exact Nat.le_of_eq hlen, fun j hj => ?_⟩
        obtain ⟨u, x, h1, h2, h3, h4⟩ := hcells j hj
        exact ⟨u, x, h1, h2, h3.mono hle, h4⟩
    · obtain ⟨h1, p, h2, h3, cs1, el1, h4, h5, h6⟩ := I.pend k a1 a2 a3 (((hset k).1 a4).resolve_left hki)
      refine ⟨fun v hv => by rw [hne k a2 a3 hki]; exact h1 v hv, p, by rw [hne k a2 a3 hki]; exact h2, h3, cs1, el1, by rw [plus_old _ _ (I.hr.bound _ _ _ h2)]; exact h4, h5, fun bk hbk => ?_⟩
      obtain ⟨g1, g2⟩ := h6 bk hbk
      refine ⟨g1, fun j hj => ?_⟩
      obtain ⟨u, x, k1, k2, k3, k4⟩ := g2 j hj
      exact ⟨u, x, k1, k2, k3.mono hle, k4⟩
  · rcases Ix.set_cases a3 with ⟨e1, e2, e3⟩ | a3
    · refine ⟨i, ?_, hi, hk, (hset i).2 (.inl rfl), e1⟩
      rcases Nat.lt_or_ge i g with h | h
      · have := R.nx_mono (i := i + 1) (j := g) h I.gle; omega
      · exact h
    · obtain ⟨k, g1, g2, g3, g4, g5⟩ := I.fresh b v p a1 a2 a3
      exact ⟨k, g1, g2, g3, (hset k).2 (.inr g4), g5⟩
  · rw [hv]; exact newVal_VR (p := ⟨w.heap.size, cs.size, 0⟩) (Ix.set_same _ _ _ _) hs
  · have hst : Stp ι (Hp g) (Nx i) w (ι.set (Nx i) 0 ⟨w.heap.size, cs.size, 0⟩) (Hp g) (Nx i + 1) (plus w cs el) := by
      refine ⟨hle, fun b v p h => ?_, fun b h => .inl h, by omega, fun b bk hb _ => hb, fun c hc _ => plus_old _ _ hc, by rw [plus_size]; omega, rfl, rfl, rfl⟩
      rcases Ix.set_cases h with ⟨e1, e2, e3⟩ | h
      · subst e1 e3; exact .inr (.inl ⟨⟨Nat.le_refl _, by omega⟩, Nat.le_refl _⟩)
      · exact .inl h
    exact I.stp.trans' hst hnx0 (by omega) hf0 hw0

/-- memory at the end of a gap, out of memory at its begin -/
theorem adv (R : Rg P ops sz En Hp Nx Vl kd) {s : Nat} (hw : Wf (Hp s) (Nx s)) (hr : HR ι (Hp s) w)
    (hal : ∀ k, s ≤ k → k < ops.size → kd k = .al → (∀ v, ι (Nx k) v = none) ∨ ((∀ v, v ≠ 0 → ι (Nx k) v = none) ∧ ∃ p, ι (Nx k) 0 = some p ∧ p.esz = 0 ∧ ∃ cs el, w.heap[p.blk]? = some (.cells cs el (0, 0)) ∧ cs.size = p.size ∧
      ∀ blk, (Hp (k + 1)).get (Nx k) = some blk → blk.size ≤ p.size ∧ ∀ i, i < blk.size → ∃ a x, blk.cells.get i = some a ∧ cs[i]? = some x ∧ VR ι a x ∧ a.one = true)) :
    ∀ (d : Nat), s + d ≤ ops.size → (∀ k, s ≤ k → k < s + d → kd k ≠ .e) → HR ι (Hp (s + d)) w
  | 0, _, _ => hr
  | d+1, hle, hne => by
    have ih := adv R hw hr hal d (by omega) fun k a b => hne k a (by omega)
    obtain ⟨o, ho, ha⟩ := R.at_ (k := s + d) (by omega)
    have hkd := hne (s + d) (by omega) (by omega)
    rw [show s + (d + 1) = s + d + 1 by omega]
    have hdo := ha.does
    cases hk : kd (s + d) with
    | e => exact absurd hk hkd
    | skip => rw [hk] at hdo; obtain ⟨_, e1, _⟩ := hdo; rw [e1]; exact ih
    | q => rw [hk] at hdo; obtain ⟨_, _, _, e1, _⟩ := hdo; rw [e1]; exact ih
    | rd => rw [hk] at hdo; obtain ⟨_, e1, _⟩ := hdo; rw [e1]; exact ih
    | al =>
      rw [hk] at hdo
      obtain ⟨r, blk, _, _, _, hm⟩ := hdo
      have hget : (Hp (s + d + 1)).get (Nx (s + d)) = some blk := by rw [hm.get, if_pos rfl]
      rcases hal (s + d) (by omega) (by omega) hk with h | ⟨h1, p, h2, h3, cs, el, h4, h5, h6⟩
      · exact ih.add' hm.get hm.ver hm.exts hm.loop (fun v _ => h v) (fun p hp => by rw [h 0] at hp; cases hp)
      · refine ih.add' hm.get hm.ver hm.exts hm.loop h1 fun p' hp' => ?_
        rw [h2] at hp'; injection hp' with hp'; subst hp'
        obtain ⟨g1, g2⟩ := h6 blk hget
        exact ⟨by rw [h3, hm.esz], cs, el, h4, h5, g1, g2⟩

/-- a step that has an effect: memory behind it, at the end of the next gap -/
theorem Inv.effect (I : Inv P ops sz ds En Hp Nx kd ι0 w0 l ι g a w) (R : Rg P ops sz En Hp Nx Vl kd) (hw0 : Wf (Hp 0) (Nx 0)) (hf0 : Fresh ι0 (Nx 0) (Nx ops.size)) (hi : i < ops.size) (hni : ¬ In l i) (hcl : Closed ops fun k => k = i ∨ In l k) (ho : ops[i]? = some o)
    (hig : i = g) (hk : kd i = .e) {ι' : Ix} {w' : World} {x : Value} (hx : VR ι' (Vl i) x) (hr' : HR ι' (Hp (i + 1)) w') (hst : Stp ι (Hp i) (Nx i) w ι' (Hp (i + 1)) (Nx (i + 1)) w') (hd : ∀ t, o.dst = some t → t < sz) :
    ∃ g', Inv P ops sz ds En Hp Nx kd ι0 w0 (l.setIfInBounds i true) ι' g' (a.put o.dst x) w' := by
  have hset : ∀ j, In (l.setIfInBounds i true) j ↔ j = i ∨ In l j := fun j => In.set (by rw [I.lsize]; exact hi)
  obtain ⟨g', n1, n2, n3, n4⟩ := next_e kd ops.size (ops.size - (i + 1)) (i + 1) (by omega)
  subst hig
  have hwi := I.wf i (Nat.le_refl _)
  have hwf1 := hst.wf hwi
  have hnx1 := hst.nxle
  -- blocks of operations behind the effect: as they were
  have later : ∀ k, i + 1 ≤ k → k < ops.size → kd k = .al → ∀ v p, ι' (Nx k) v = some p → ι (Nx k) v = some p := by
    intro k h1 h2 h3 v p hp
    have hm := R.nx_mono (i := i + 1) (j := k) h1 (by omega)
    rcases hst.new _ _ _ hp with h | ⟨⟨_, h⟩, _⟩ | ⟨h, _⟩
    · exact h
    · omega
    · rw [hwi (Nx k) (by omega)] at h; cases h
  have pend' : ∀ k, i + 1 ≤ k → k < ops.size → kd k = .al → In l k → (∀ v, v ≠ 0 → ι' (Nx k) v = none) ∧ ∃ p, ι' (Nx k) 0 = some p ∧ p.esz = 0 ∧ ∃ cs el, w'.heap[p.blk]? = some (.cells cs el (0, 0)) ∧ cs.size = p.size ∧
      ∀ blk, (Hp (k + 1)).get (Nx k) = some blk → blk.size ≤ p.size ∧ ∀ i, i < blk.size → ∃ a x, blk.cells.get i = some a ∧ cs[i]? = some x ∧ VR ι' a x ∧ a.one = true := by
    intro k h1 h2 h3 h4
    obtain ⟨g1, p, g2, g3, cs, el, g4, g5, g6⟩ := I.pend k (by omega) h2 h3 h4
    have hm := R.nx_mono (i := i + 1) (j := k) h1 (by omega)
    refine ⟨fun v hv => ?_, p, hst.le _ _ _ g2, g3, cs, el, ?_, g5, fun blk hb => ?_⟩
    · cases hq : ι' (Nx k) v with
      | none => rfl
      | some q => have := later k h1 h2 h3 v q hq; rw [g1 v hv] at this; cases this
    · rw [hst.frame p.blk (I.hr.bound _ _ _ g2) fun b v q hq hqb => ?_]
      · exact g4
      · have := I.hr.inj _ _ _ _ _ _ hq g2 hqb
        subst this
        exact hwi _ (by omega)
    · obtain ⟨k1, k2⟩ := g6 blk hb
      refine ⟨k1, fun j hj => ?_⟩
      obtain ⟨u, y, m1, m2, m3, m4⟩ := k2 j hj
      exact ⟨u, y, m1, m2, m3.mono hst.le, m4⟩
  have un' : ∀ k, k < ops.size → kd k = .al → ¬ In (l.setIfInBounds i true) k → ∀ v, ι' (Nx k) v = none := by
    intro k h1 h2 h3 v
    have h4 : ¬ In l k := fun h => h3 ((hset k).2 (.inr h))
    have hki : k ≠ i := fun h => h3 ((hset k).2 (.inl h))
    cases hq : ι' (Nx k) v with
    | none => rfl
    | some q =>
      exfalso
      rcases Nat.lt_or_ge k i with hlt | hge
      · have hm := R.nx_mono (i := k + 1) (j := i) hlt (by omega)
        have hnk := R.nx_al h1 h2
        rcases hst.new _ _ _ hq with h | ⟨⟨h, _⟩, _⟩ | ⟨_, v0, p0, h, _⟩
        · rw [I.unmapped k h1 h2 h4 v] at h; cases h
        · omega
        · rw [I.unmapped k h1 h2 h4 v0] at h; cases h
      · have := later k (by omega) h1 h2 v q hq
        rw [I.unmapped k h1 h2 h4 v] at this; cases this
  have hr2 : HR ι' (Hp g') w' := by
    have := adv R hwf1 hr' (fun k h1 h2 h3 => by
      by_cases hin : In l k
      · exact .inr (pend' k h1 h2 h3 hin)
      · exact .inl (un' k h2 h3 fun h => by
          rcases (hset k).1 h with h | h
          · omega
          · exact hin h)) (g' - (i + 1)) (by omega) (fun k h1 h2 => n3 k h1 (by omega))
    rwa [show i + 1 + (g' - (i + 1)) = g' by omega] at this
  have hgap := fun m (h1 : i + 1 ≤ m) (h2 : m ≤ g') => R.gap' hwf1 h1 (Nat.le_trans h2 n2) fun k a1 a2 => n3 k a1 (by omega)
  refine ⟨g', ⟨by simp [I.lsize], fun j oj hj hoj e he hb => ?_, n2, fun k a1 a2 => ?_, fun k a1 a2 a3 a4 => ?_, n4, hr2, fun k a1 => ?_, un', fun k a1 a2 a3 a4 => ?_, fun k a1 a2 a3 => ?_, fun b v p a1 a2 a3 => ?_, I.slotsPut R hi hni hcl ho hst.le hx hd, by rw [put_size]; exact I.tsize, by rw [put_defers]; exact I.defers, ?_⟩⟩
  · rw [hset] at hj ⊢; exact hcl j oj hj hoj e he hb
  · rw [hset]
    by_cases hki : k = i
    · exact .inl hki
    · rcases Nat.lt_or_ge k i with h | h
      · exact .inr (I.before k h a2)
      · exact absurd a2 (n3 k (by omega) a1)
  · rcases (hset k).1 a4 with h | h
    · omega
    · exact I.behind k (by omega) a2 a3 h
  · rcases Nat.lt_or_ge i k with h | h
    · exact (hgap k h a1).1
    · exact I.wf k h
  · have hki : k ≠ i := by omega
    exact pend' k (by omega) a2 a3 (((hset k).1 a4).resolve_left hki)
  · have h4 : ¬ In l k := fun h => a3 ((hset k).2 (.inr h))
    have hki : k ≠ i := fun h => a3 ((hset k).2 (.inl h))
    obtain ⟨oo, r, blk, q1, q2, q3, q4, hm⟩ := R.al (k := k) (by omega) a2
    have hget : (Hp (k + 1)).get (Nx k) = some blk := by rw [hm.get, if_pos rfl]
    rw [hget]
    rcases Nat.lt_or_ge k i with hlt | hge
    · have h5 := I.initial k hlt a2 h4
      rw [hget] at h5
      have h6 := hst.same _ _ h5 (I.unmapped k (by omega) a2 h4)
      exact (hgap g' (by omega) (Nat.le_refl _)).2.1 _ _ h6
    · have hwk := (hgap (k + 1) (by omega) (by omega)).1
      exact (R.gap' hwk (by omega) n2 fun j b1 b2 => n3 j (by omega) b2).2.1 _ _ hget
  · have hm := R.nx_mono (i := i + 1) (j := g') n1 n2
    rcases hst.new _ _ _ a3 with h | ⟨⟨_, h⟩, _⟩ | ⟨h, _⟩
    · obtain ⟨k, g1, g2, g3, g4, g5⟩ := I.fresh b v p (by omega) a2 h
      refine ⟨k, ?_, g2, g3, (hset k).2 (.inr g4), g5⟩
      rcases Nat.lt_or_ge k g' with hlt | hge
      · exfalso
        have hki : k ≠ i := fun h => by rw [h, hk] at g3; cases g3
        have := R.nx_mono (i := k + 1) (j := g') (by omega) n2
        have := R.nx_al g2 g3
        omega
      · exact hge
    · omega
    · rw [hwi b (by omega)] at h; cases h
  · have hadv : Stp ι' (Hp (i + 1)) (Nx (i + 1)) w' ι' (Hp g') (Nx g') w' := by
      obtain ⟨h1, h2, h3⟩ := hgap g' n1 (Nat.le_refl _)
      exact ⟨fun _ _ _ h => h, fun _ _ _ h => .inl h, fun b h => h3 b h, R.nx_mono n1 n2, fun b bk h _ => h2 b bk h, fun _ _ _ => rfl, Nat.le_refl _, rfl, rfl, rfl⟩
    have hm0 := R.nx_mono (i := 0) (j := i) (by omega) (by omega)
    have hm1 := R.nx_mono (i := i + 1) (j := ops.size) (by omega) (Nat.le_refl _)
    have hm2 := R.nx_mono (i := g') (j := ops.size) n2 (Nat.le_refl _)
    exact (I.stp.trans' hst hm0 hm1 hf0 hw0).trans' hadv (by omega) hm2 hf0 hw0
end
end Go.Ew
