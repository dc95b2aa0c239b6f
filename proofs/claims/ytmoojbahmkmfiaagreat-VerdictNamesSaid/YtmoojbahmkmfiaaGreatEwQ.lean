/- QUIET OPERATIONS of the evaluator are the model's. -/
import Derived.Test.YtmoojbahmkmfiaaGreatEwNum
import Derived.Laws.StructEq
namespace Go.Ew
section
variable {P : Program} {w : World} {ι : Ix} {H : Heap}

theorem sizeT_run {t : TypeId} {n : Nat} (h : sizeT P t = .ok n) : (sizeOf t).run P w = .ok n w := by
  obtain ⟨i, hi, h⟩ := ofOpt_ok h
  cases ok_inj h
  simp [sizeOf, typeInfo, hi]
theorem aggT_run {t : TypeId} {b : Bool} (h : aggT P t = .ok b) : (isAgg t).run P w = .ok b w := by
  obtain ⟨d, hd, h⟩ := ofOpt_ok h
  cases ok_inj h
  simp only [isAgg, Sem.run_bind, run_underlying hd, Result.andThen_ok]
  cases d <;> rfl
theorem elemT_under {t : TypeId} {e : TypeId} (h : elemT P t = .ok e) : P.underlying t = some (.slice e) := by
  obtain ⟨d, hd, h⟩ := ofOpt_ok h
  unfold elemD at h
  split at h
  · cases ok_inj h; exact hd
  · cases h
theorem zeroCells_run {t : TypeId} {z : List AV} (h : zeroCells P t = .ok z) : ∃ v : Value, (zeroValue t).run P w = .ok v w ∧ VRL ι z v.cells.toList := by
  obtain ⟨i, hi, h⟩ := ofOpt_ok h
  obtain ⟨v, hv, h⟩ := ofOpt_ok h
  obtain ⟨l, hl, h⟩ := ofOpt_ok h
  cases ok_inj h
  exact ⟨v, by simp [zeroValue, typeInfo, hi, hv], ofScalars_VR hl⟩

theorem add_at (b o n : Nat) : (⟨b, o, none⟩ : Addr).add n = ⟨b, o + n, none⟩ := by
  unfold Addr.add; split
  · rename_i h; subst h; rfl
  · rfl
theorem cell_at {b : Nat} {cs : Array Value} {el : TypeId} {z : Nat × Nat} (h : w.heap[b]? = some (.cells cs el z)) (o : Nat) : w.cell? ⟨b, o, none⟩ = cs[o]? := by
  simp [World.cell?, h]

/-- what readCells gives lies in the world -/
theorem readCells_ok (hr : HR ι H w) {b v off n : Nat} {l : List AV} {p : Pl} (h : readCells H b v off n = .ok l) (hp : ι b v = some p) :
    ∃ xs : List Value, xs.length = n ∧ VRL ι l xs ∧ (∀ i x, xs[i]? = some x → w.cell? ⟨p.blk, off + i, none⟩ = some x) ∧ (∀ a ∈ l, a.one = true) ∧ off + n ≤ p.size := by
  obtain ⟨blk, hb, h⟩ := ofOpt_ok h
  obtain ⟨e, he, h⟩ := ofOpt_ok h
  obtain ⟨hle, h⟩ := must_ok h
  have hle : off + n ≤ e := ble_iff.1 hle
  obtain ⟨m, hm, h⟩ := ofOpt_ok h
  cases ok_inj h
  obtain ⟨hlen, hget⟩ := cellsAt_ok n _ _ hm
  obtain ⟨cs, el, hcs, hsz, hes, hall⟩ := hr.cells _ _ _ _ _ hb he hp
  have hxs : ((cs.toList.drop off).take n).length = n := by simp; omega
  refine ⟨(cs.toList.drop off).take n, hxs, ?_, ?_, ?_, by omega⟩
  · refine VRL.of_get (by rw [hxs, hlen]) fun i a x ha hx => ?_
    have hi : i < n := by
      have := (List.getElem?_eq_some_iff.1 ha).1; omega
    obtain ⟨h1, h2⟩ := hget i hi
    obtain ⟨a', x', h3, h4, h5, _⟩ := hall (off + i) (by omega)
    rw [h1, h3] at ha
    injection ha with ha; subst ha
    have : ((cs.toList.drop off).take n)[i]? = some x' := by
      rw [List.getElem?_take, if_pos hi, List.getElem?_drop, Array.getElem?_toList]; exact h4
    rw [this] at hx; injection hx with hx; subst hx
    exact h5
  · intro i x hx
    have hi : i < n := by
      have := (List.getElem?_eq_some_iff.1 hx).1; omega
    rw [cell_at hcs]
    rw [List.getElem?_take, if_pos hi, List.getElem?_drop, Array.getElem?_toList] at hx
    exact hx
  · intro a ha
    obtain ⟨i, hi, rfl⟩ := List.getElem_of_mem ha
    obtain ⟨h1, _⟩ := hget i (by omega)
    obtain ⟨a', x', h3, _, _, h6⟩ := hall (off + i) (by omega)
    rw [List.getElem?_eq_getElem hi, h3] at h1
    injection h1 with h1; rw [h1]; exact h6

theorem loadCells_ok (hr : HR ι H w) {b v off n : Nat} {l : List AV} {p : Pl} (h : readCells H b v off n = .ok l) (hp : ι b v = some p) :
    ∃ xs : List Value, VRL ι l xs ∧ (loadCells ⟨p.blk, off, none⟩ n).run P w = .ok xs.toArray w ∧ (∀ a ∈ l, a.one = true) := by
  obtain ⟨xs, h1, h2, h3, h4, _⟩ := readCells_ok hr h hp
  refine ⟨xs, h2, ?_, h4⟩
  have := run_loadCells_list (P := P) w ⟨p.blk, off, none⟩ xs (fun j v hv => by rw [add_at]; exact h3 j v hv)
  rwa [h1] at this

theorem whole_ok {agg : Bool} {l : List AV} {r : AV} (h : whole agg l = .ok r) : (agg = true ∧ r = .agg l) ∨ (agg = false ∧ l = [r]) := by
  unfold whole at h
  split at h
  · cases ok_inj h; exact .inl ⟨rfl, rfl⟩
  · split at h
    · cases ok_inj h; exact .inr ⟨rfl, rfl⟩
    · cases h

theorem loadAt_ok (hr : HR ι H w) {t : TypeId} {b v off : Nat} {r : AV} {p : Pl} (h : loadAt P H t b v off = .ok r) (hp : ι b v = some p) :
    ∃ x, (loadVar t ⟨p.blk, off, none⟩).run P w = .ok x w ∧ VR ι r x := by
  obtain ⟨n, hn, h⟩ := and_ok h
  obtain ⟨agg, hagg, h⟩ := and_ok h
  obtain ⟨l, hl, h⟩ := and_ok h
  obtain ⟨xs, h1, h2, _⟩ := loadCells_ok (P := P) hr hl hp
  rcases whole_ok h with ⟨rfl, rfl⟩ | ⟨rfl, rfl⟩
  · exact ⟨.agg xs.toArray, by simp [loadVar, aggT_run hagg, sizeT_run hn, h2], .agg (by simpa using h1)⟩
  · obtain ⟨ys, h3, h4, h5, _, _⟩ := readCells_ok hr hl hp
    cases h4 with
    | cons ha ht =>
      cases ht
      rename_i x
      have := h5 0 x rfl
      exact ⟨x, by simp [loadVar, aggT_run hagg]; simp only [Nat.add_zero] at this; simp [this], ha⟩
theorem loadA_ok (hr : HR ι H w) {t : TypeId} {a : AV} {y : Value} {r : AV} (h : loadA P H t a = .ok r) (hv : VR ι a y) :
    ∃ p x, y = .pointer (some p) ∧ (loadVar t p).run P w = .ok x w ∧ VR ι r x := by
  unfold loadA at h
  split at h
  · cases hv with
    | ptr hp =>
      obtain ⟨x, h1, h2⟩ := loadAt_ok hr h hp
      exact ⟨_, x, rfl, h1, h2⟩
  · cases h
end

section
variable {P : Program} {w : World} {ι : Ix} {H : Heap}

theorem VRL.split {l : List AV} {xs : List Value} {a : AV} (h : VRL ι (a :: l) xs) : ∃ x ys, xs = x :: ys ∧ VR ι a x ∧ VRL ι l ys := by
  cases h with
  | cons h t => exact ⟨_, _, rfl, h, t⟩
theorem part_one {t : TypeId} {cs : Array Value} {n : Nat} {x : Value} (ha : (isAgg t).run P w = .ok false w) (h : cs[n]? = some x) : (part t cs n).run P w = .ok x w := by
  simp [part, ha, h]
theorem isAgg_of {t : TypeId} {d : TypeDesc} (h : P.underlying t = some d) (hd : isAggD d = false) : (isAgg t).run P w = .ok false w :=
  aggT_run (by unfold aggT; rw [h]; show Res.ok (isAggD d) = _; rw [hd])
theorem head_drop {xs : List Value} {n : Nat} {x : Value} {ys : List Value} (h : xs.drop n = x :: ys) : xs[n]? = some x ∧ xs.drop (n + 1) = ys := by
  have h1 : (xs.drop n)[0]? = some x := by rw [h]; rfl
  rw [List.getElem?_drop] at h1
  refine ⟨by simpa using h1, ?_⟩
  have : (xs.drop n).drop 1 = ys := by rw [h]; rfl
  rw [List.drop_drop] at this; exact this
theorem eq1_ok {t : TypeId} {dd : TypeDesc} {a b : AV} {x y : Value} {r : Bool} (d : Nat) (hd : P.underlying t = some dd) (h : eq1 dd a b = .ok r) (hx : VR ι a x) (hy : VR ι b y) :
    (Op.equalIn (d + 1) t x y).run P w = .ok r w ∧ isAggD dd = false := by
  unfold eq1 at h
  split at h
  · obtain ⟨hk, h'⟩ := must_ok h
    cases kindNo_inj hk
    cases ok_inj h'
    cases hx; cases hy
    exact ⟨by rw [run_equalIn_int w d _ _ _ _ _ hd, sameInt_eq], rfl⟩
  · cases ok_inj h
    cases hx; cases hy
    exact ⟨by rw [run_equalIn_bool w d _ _ _ hd, sameBool_eq], rfl⟩
  · cases h
theorem eqF_ok {d : Nat} (cs ds : Array Value) : ∀ (fs : List Field) (n : Nat) (l m : List AV) (r : Bool),
    eqF P fs n l m = .ok r → VRL ι l (cs.toList.drop n) → VRL ι m (ds.toList.drop n) → (Op.eqFields (d + 1) cs ds fs).run P w = .ok r w
  | [], n, l, m, r, h, _, _ => by cases ok_inj (show Res.ok true = Res.ok r from h); rfl
  | f :: fs, n, [], m, r, h, _, _ => by cases h
  | f :: fs, n, a :: l, [], r, h, _, _ => by cases h
  | f :: fs, n, a :: l, b :: m, r, h, h1, h2 => by
    obtain ⟨hoff, h⟩ := must_ok h
    have hoff : f.offset = n := beq_iff.1 hoff
    obtain ⟨hname, h⟩ := must_ok h
    have hname : f.name ≠ "_" := by simpa using hname
    obtain ⟨dd, hdd, h⟩ := ofOpt_ok h
    obtain ⟨t, ht, h⟩ := and_ok h
    obtain ⟨x, xs, hx, hax, hxs⟩ := VRL.split h1
    obtain ⟨hx1, hx2⟩ := head_drop hx
    rw [Array.getElem?_toList] at hx1
    rw [← hx2] at hxs
    obtain ⟨y, ys, hy, hby, hys⟩ := VRL.split h2
    obtain ⟨hy1, hy2⟩ := head_drop hy
    rw [Array.getElem?_toList] at hy1
    rw [← hy2] at hys
    obtain ⟨he, hag⟩ := eq1_ok (w := w) d hdd ht hax hby
    have hag := isAgg_of (P := P) (w := w) hdd hag
    simp only [Op.eqFields, hname, ne_eq, not_false_eq_true, if_true, Sem.run_bind, hoff, part_one hag hx1, part_one hag hy1, Result.andThen_ok, he]
    rw [sel_eq] at h
    split at h
    · rename_i htt
      subst htt
      exact eqF_ok cs ds fs (n + 1) l m r h hxs hys
    · rename_i htt
      cases ok_inj h
      have : t = false := by simpa using htt
      simp [this]
theorem eqAgg_ok {t : TypeId} {fs : Array Field} {l m : List AV} {cs ds : Array Value} {r : Bool} (hd : P.underlying t = some (.struct fs)) (h : eqAgg P t fs l m = .ok r) (hx : VRL ι l cs.toList) (hy : VRL ι m ds.toList) :
    (Op.equalIn 10000 t (.agg cs) (.agg ds)).run P w = .ok r w ∧ P.eqGuardType P.depth t = false := by
  obtain ⟨h1, h⟩ := must_ok h
  obtain ⟨h2, h⟩ := must_ok h
  have hf : P.fieldsOf t = fs := by simp [Program.fieldsOf, hd]
  refine ⟨?_, by simpa using h2⟩
  rw [run_equalIn_struct w 9999 t cs ds (by rw [hf]; exact hd) (by simpa using h1), hf]
  exact eqF_ok (d := 9998) cs ds fs.toList 0 l m r h (by simpa using hx) (by simpa using hy)
theorem eqSmall (n : Nat) {t : TypeId} {d : TypeDesc} (hd : P.underlying t = some d) :
    (d = .bool → ∀ a b, (Op.equalIn (n + 1) t (.bool a) (.bool b)).run P w = .ok (a == b) w) ∧
    ((∃ e, d = .pointer e) → (∀ p, (Op.equalIn (n + 1) t (.pointer none) (.pointer p)).run P w = .ok p.isNone w) ∧ (∀ p, (Op.equalIn (n + 1) t (.pointer (some p)) (.pointer none)).run P w = .ok false w)) ∧
    ((∃ e, d = .slice e) → (∀ p l c l' c', (Op.equalIn (n + 1) t (.slice none l' c') (.slice p l c)).run P w = .ok p.isNone w) ∧ (∀ p l c l' c', (Op.equalIn (n + 1) t (.slice (some p) l c) (.slice none l' c')).run P w = .ok false w)) ∧
    ((∃ e f g, d = .func e f g) → (Op.equalIn (n + 1) t .nilFunc .nilFunc).run P w = .ok true w ∧ (∀ p l c, (Op.equalIn (n + 1) t .nilFunc (.func p l c)).run P w = .ok false w) ∧ (∀ p l c, (Op.equalIn (n + 1) t (.func p l c) .nilFunc).run P w = .ok false w)) := by
  refine ⟨?_, ?_, ?_, ?_⟩
  · rintro rfl a b; exact run_equalIn_bool w n t a b hd
  · rintro ⟨e, rfl⟩; exact ⟨fun p => by simp [Op.equalIn, run_underlying hd], fun p => by simp [Op.equalIn, run_underlying hd]⟩
  · rintro ⟨e, rfl⟩; exact ⟨fun p l c l' c' => by simp [Op.equalIn, run_underlying hd], fun p l c l' c' => by simp [Op.equalIn, run_underlying hd]⟩
  · rintro ⟨e, f, g, rfl⟩; exact ⟨by simp [Op.equalIn, run_underlying hd], fun p l c => by simp [Op.equalIn, run_underlying hd], fun p l c => by simp [Op.equalIn, run_underlying hd]⟩
theorem eqD_ok {t : TypeId} {d : TypeDesc} {a b : AV} {x y : Value} {r : Bool} (hd : P.underlying t = some d) (h : eqD P t d a b = .ok r) (hx : VR ι a x) (hy : VR ι b y) :
    (Op.equal t x y).run P w = .ok r w ∧ (∀ cs ds, x = .agg cs → y = .agg ds → P.eqGuardType P.depth t = false) ∧ (x ≠ .nilIface) ∧ (∀ k n, x ≠ .int k n) ∧ (∀ k n, x ≠ .float k n) ∧ (∀ k n m, x ≠ .complex k n m) ∧ (∀ s, x ≠ .string s) := by
  obtain ⟨e1, e2, e3, e4⟩ := eqSmall (w := w) 9999 hd
  have he : ∀ x y, Op.equal t x y = Op.equalIn (9999 + 1) t x y := fun _ _ => rfl
  simp only [he]
  unfold eqD at h
  split at h
  · cases ok_inj h; cases hx; cases hy; rw [sameBool_eq]; exact ⟨e1 rfl _ _, by simp, by simp⟩
  · cases ok_inj h; cases hx; cases hy; exact ⟨(e2 ⟨_, rfl⟩).1 _, by simp, by simp⟩
  · cases ok_inj h; cases hx; cases hy; exact ⟨(e2 ⟨_, rfl⟩).1 _, by simp, by simp⟩
  · cases ok_inj h; cases hx; cases hy; exact ⟨(e2 ⟨_, rfl⟩).2 _, by simp, by simp⟩
  · cases ok_inj h; cases hx; cases hy; exact ⟨(e3 ⟨_, rfl⟩).1 _ _ _ _ _, by simp, by simp⟩
  · cases ok_inj h; cases hx; cases hy <;> exact ⟨(e3 ⟨_, rfl⟩).1 _ _ _ _ _, by simp, by simp⟩
  · cases ok_inj h; cases hy; cases hx <;> exact ⟨(e3 ⟨_, rfl⟩).2 _ _ _ _ _, by simp, by simp⟩
  · cases ok_inj h; cases hx; cases hy; exact ⟨(e4 ⟨_, _, _, rfl⟩).1, by simp, by simp⟩
  · cases ok_inj h; cases hx; cases hy; exact ⟨(e4 ⟨_, _, _, rfl⟩).2.1 _ _ _, by simp, by simp⟩
  · cases ok_inj h; cases hx; cases hy; exact ⟨(e4 ⟨_, _, _, rfl⟩).2.2 _ _ _, by simp, by simp⟩
  · cases hx with | agg hx => cases hy with | agg hy =>
    obtain ⟨h1, h2⟩ := eqAgg_ok (w := w) hd h hx hy
    exact ⟨h1, fun _ _ _ _ => h2, by simp⟩
  · cases h

theorem binA_ok {t : TypeId} {op : BinOp} {a b : AV} {x y : Value} {r : AV} (hx : VR ι a x) (hy : VR ι b y) (h : binA P t op a b = .ok r) (ox oy : Operand) :
    ∃ v, (do eqGuard op t ox oy x y; binOp op t x y).run P w = .ok v w ∧ VR ι r v := by
  unfold binA at h
  split at h
  · cases hx; cases hy
    rename_i k x k' y
    have hg : (eqGuard op t ox oy (.int k x) (.int k' y)).run P w = .ok () w := by cases op <;> rfl
    simp only [Sem.run_bind, hg, Result.andThen_ok]
    unfold binI at h
    split at h
    · obtain ⟨v, h1, h2⟩ := shiftA_run (P := P) (w := w) t h; exact ⟨v, h1, h2 ι⟩
    · obtain ⟨v, h1, h2⟩ := shiftA_run (P := P) (w := w) t h; exact ⟨v, h1, h2 ι⟩
    · rename_i h1 h2
      obtain ⟨hk, h'⟩ := must_ok h
      cases kindNo_inj hk
      obtain ⟨v, h3, h4⟩ := binInt_run (P := P) (w := w) t h' h1 h2
      exact ⟨v, h3, h4 ι⟩
  · unfold binO at h
    split at h
    · obtain ⟨q, hq, h⟩ := and_ok h
      obtain ⟨d, hd, hq⟩ := ofOpt_ok hq
      cases ok_inj h
      obtain ⟨h1, h2, h3, h4, h5, h6, h7⟩ := eqD_ok (w := w) hd hq hx hy
      have hg : (eqGuard .eql t ox oy x y).run P w = .ok () w := by
        cases x <;> cases y <;> first | rfl | (exact absurd rfl h3) | (exact run_eqGuard_agg w _ _ _ _ _ _ (h2 _ _ rfl rfl))
      refine ⟨.bool q, ?_, .bool q⟩
      simp only [Sem.run_bind, hg, Result.andThen_ok]
      cases x <;> first | (exact absurd rfl (h4 _ _)) | (exact absurd rfl (h5 _ _)) | (exact absurd rfl (h6 _ _ _)) | (exact absurd rfl (h7 _)) | (cases y <;> simp [binOp, h1])
    · obtain ⟨q, hq, h⟩ := and_ok h
      obtain ⟨d, hd, hq⟩ := ofOpt_ok hq
      cases ok_inj h
      obtain ⟨h1, h2, h3, h4, h5, h6, h7⟩ := eqD_ok (w := w) hd hq hx hy
      have hg : (eqGuard .neq t ox oy x y).run P w = .ok () w := by
        cases x <;> cases y <;> first | rfl | (exact absurd rfl h3) | (exact run_eqGuard_agg w _ _ _ _ _ _ (h2 _ _ rfl rfl))
      refine ⟨.bool (!q), ?_, .bool _⟩
      simp only [Sem.run_bind, hg, Result.andThen_ok]
      cases x <;> first | (exact absurd rfl (h4 _ _)) | (exact absurd rfl (h5 _ _)) | (exact absurd rfl (h6 _ _ _)) | (exact absurd rfl (h7 _)) | (cases y <;> simp [binOp, h1])
    · cases h
end
end Go.Ew
