/- append, as the evaluator makes it. -/
import Derived.Test.YtmoojbahmkmfiaaGreatEwE2
namespace Go.Ew
section
variable {P : Program} {w : World} {ι : Ix} {H H' : Heap}

theorem HR.drew (hr : HR ι H w) : HR ι H w.drew := hr.world (Nat.le_refl _) fun _ _ _ _ => rfl
theorem Stp.of_drew {ι' : Ix} {nx nx' : Nat} {w' : World} (h : Stp ι H nx w.drew ι' H' nx' w') : Stp ι H nx w ι' H' nx' w' :=
  ⟨h.le, h.new, h.dom, h.nxle, h.same, h.frame, h.size, h.os, h.output, h.tape⟩

theorem loadCells_all (hr : HR ι H w) {b v off n : Nat} {l : List AV} {p : Pl} (h : readCells H b v off n = .ok l) (hp : ι b v = some p) :
    ∃ xs : List Value, VRL ι l xs ∧ (∀ w1 : World, w1.heap = w.heap → (loadCells ⟨p.blk, off, none⟩ n).run P w1 = .ok xs.toArray w1) ∧ l.length = n ∧ (∀ a ∈ l, a.one = true) := by
  obtain ⟨xs, h1, h2, h3, h4, _⟩ := readCells_ok hr h hp
  refine ⟨xs, h2, fun w1 hw1 => ?_, by rw [h2.length, h1], h4⟩
  have := run_loadCells_list (P := P) w1 ⟨p.blk, off, none⟩ xs (fun j v hv => by
    rw [add_at]
    have := h3 j v hv
    unfold World.cell? at this ⊢
    rw [hw1]; exact this)
  rwa [h1] at this
theorem allOne_of : ∀ {l : List AV}, (∀ a ∈ l, a.one = true) → allOne l = true
  | [], _ => rfl
  | a :: l, hh => by simp only [allOne, sel_eq]; rw [if_pos (hh a (by simp))]; exact allOne_of fun b hb => hh b (by simp [hb])
theorem firstCells_ok (hr : HR ι H w) {s : AV} {y : Value} {sz n : Nat} {l : List AV} (h : firstCells H sz n s = .ok l) (hy : VR ι s y) (hn : s = .nilslice → n = 0) :
    ∃ xs : List Value, VRL ι l xs ∧ (∀ w1 : World, w1.heap = w.heap → (Builtin.firstCells sz n y).run P w1 = .ok xs.toArray w1) ∧ l.length = n * sz ∧ allOne l = true := by
  unfold firstCells at h
  split at h
  · cases ok_inj h
    cases hy
    rw [hn rfl]
    exact ⟨[], .nil, fun w1 _ => by simp [Builtin.firstCells], by simp, rfl⟩
  · rename_i b v off len cap
    rw [sel_eq] at h
    split at h
    · rename_i h0
      have h0 : n = 0 := beq_iff.1 h0
      subst h0
      cases ok_inj h
      refine ⟨[], .nil, fun w1 _ => ?_, by simp, rfl⟩
      cases hy <;> simp [Builtin.firstCells, loadCells, loadCellsFrom]
    · rename_i h0
      obtain ⟨hlo, h⟩ := must_ok h
      cases hy with
      | known hp => obtain ⟨xs, h1, h2, h3, h4⟩ := loadCells_all (P := P) hr h hp; exact ⟨xs, h1, fun w1 hw1 => by have := h2 w1 hw1; exact this, h3, allOne_of h4⟩
      | opn hp => obtain ⟨xs, h1, h2, h3, h4⟩ := loadCells_all (P := P) hr h hp; exact ⟨xs, h1, fun w1 hw1 => by have := h2 w1 hw1; exact this, h3, allOne_of h4⟩
      | loose => cases hlo
  · cases h
/-- how the model's append runs at a slice y and cells xs -/
structure App (P : Program) (sz n : Nat) (xs : List Value) (y : Value) (w : World) (run : Result Value) : Prop where
  nil : n = 0 → y = .slice none 0 0 → run = .ok (.slice none 0 0) w
  in_ : ∀ a len cap w', y = .slice (some a) len cap → len + n ≤ cap → (storeCells (a.add (len * sz)) xs).run P w = .ok () w' → run = .ok (.slice (some a) (len + n) cap) w'
  new : ∀ base len cap old, y = .slice base len cap → len + n ≤ 1000000 → ¬ len + n ≤ cap → (Builtin.firstCells sz len y).run P w.drew = .ok old w.drew →
    ∃ (newCap : Nat) (rest : Array Value) (e : TypeId), len + n ≤ newCap ∧ rest.size = (newCap - (len + n)) * sz ∧ run = .ok (.slice (some ⟨w.heap.size, 0, none⟩) (len + n) newCap) (plus w.drew (old ++ (xs.toArray ++ rest)) e)

theorem nil_of {n sz : Nat} {xs : List Value} (h : xs.length = n * sz) (hn : n = 0) : xs = [] := by
  subst hn; exact List.eq_nil_of_length_eq_zero (by simpa using h)
theorem store_none (a : Addr) : (storeCells a []).run P w = .ok () w := rfl

theorem appendA_ex (P : Program) {β : Type} {sz n nx : Nat} {s : AV} {new : List AV} {k : AV → Heap → Nat → Res β} {r : β} (hsz : 0 < sz) (hnl : new.length = n * sz) (h : appendA sz H nx s n new k = .ok r) :
    ∃ v H' nx', k v H' nx' = .ok r ∧ nx ≤ nx' ∧ ∀ (ι : Ix) (w : World) (N : Nat) (y : Value) (xs : List Value) (run : Result Value), HR ι H w → Wf H nx → Fresh ι nx N → nx' ≤ N → VR ι s y → VRL ι new xs → App P sz n xs y w run →
      ∃ ι' w' y', run = .ok y' w' ∧ VR ι' v y' ∧ HR ι' H' w' ∧ Stp ι H nx w ι' H' nx' w' := by
  unfold appendA at h
  split at h
  · unfold apNil at h
    rw [sel_eq] at h
    split at h
    · rename_i h0
      have h0 : n = 0 := beq_iff.1 h0
      refine ⟨_, _, _, h, Nat.le_refl _, fun ι w N y xs run hr hw hf hN hy hx ha => ?_⟩
      cases hy
      exact ⟨ι, w, _, ha.nil h0 rfl, .nilslice, hr, .refl⟩
    · rename_i h0
      have h0 : n ≠ 0 := fun hh => h0 (beq_iff.2 hh)
      obtain ⟨hmax, h⟩ := must_ok h
      have hmax : n ≤ 1000000 := ble_iff.1 hmax
      obtain ⟨H', hk, _, hH⟩ := newBlk_ex h
      refine ⟨_, _, _, hk, Nat.le_succ _, fun ι w N y xs run hr hw hf hN hy hx ha => ?_⟩
      cases hy
      have hxl := hx.length
      obtain ⟨newCap, rest, e, h1, h2, h3⟩ := ha.new none 0 0 #[] rfl (by omega) (by omega) (by simp [Builtin.firstCells])
      rw [Nat.zero_add] at h1 h2 h3
      have hcs : (#[] ++ (xs.toArray ++ rest)).size = newCap * sz := by
        simp [h2, ← hxl, hnl, ← Nat.add_mul]; rw [Nat.add_sub_cancel' h1]
      obtain ⟨g1, g2⟩ := hH ι w.drew N (#[] ++ (xs.toArray ++ rest)) e xs hr.drew hw hf hN hx (by rw [hcs, hnl]; exact Nat.mul_le_mul_right _ h1) (fun i x hi => by
        simp only [Array.empty_append]
        rw [Array.getElem?_append, if_pos (by simp; exact (List.getElem?_eq_some_iff.1 hi).1)]; simpa using hi)
      refine ⟨_, _, _, h3, ?_, g1, g2.of_drew⟩
      exact .opn (Ix.set_same _ _ _ _) h1 (by rw [hcs]; simp)
  · rename_i b v off len cap
    cases cap with
    | known c =>
      change apKnown sz H nx b v off len c n new k = _ at h
      unfold apKnown at h
      rw [sel_eq] at h
      split at h
      · rename_i hfit
        have hfit : len + n ≤ c := ble_iff.1 hfit
        rw [sel_eq] at h
        split at h
        · rename_i h0
          have h0 : n = 0 := beq_iff.1 h0
          refine ⟨_, _, _, h, Nat.le_refl _, fun ι w N y xs run hr hw hf hN hy hx ha => ?_⟩
          cases hy with
          | known hp hl =>
            have hx0 := nil_of (by rw [← hx.length]; exact hnl) h0
            subst hx0
            have := ha.in_ _ _ _ w rfl hfit (store_none _)
            subst h0
            exact ⟨ι, w, _, this, .known hp hfit, hr, .refl⟩
        · obtain ⟨H', hk, hH⟩ := writeCells_ex P h
          refine ⟨_, _, _, hk, Nat.le_refl _, fun ι w N y xs run hr hw hf hN hy hx ha => ?_⟩
          cases hy with
          | known hp hl =>
            obtain ⟨w', g1, g2, g3⟩ := hH ι w _ xs nx hr hp hx
            exact ⟨ι, w', _, ha.in_ _ _ _ w' rfl hfit (by rw [add_at]; exact g1), .known hp hfit, g2, g3⟩
      · rename_i hfit
        have hfit : ¬ len + n ≤ c := fun hh => hfit (ble_iff.2 hh)
        obtain ⟨hmax, h⟩ := must_ok h
        have hmax : len + n ≤ 1000000 := ble_iff.1 hmax
        obtain ⟨old, hold, h⟩ := and_ok h
        obtain ⟨H', hk, ⟨_, _, _, _, _, _, _, hone⟩, hH⟩ := newBlk_ex h
        refine ⟨_, _, _, hk, Nat.le_succ _, fun ι w N y xs run hr hw hf hN hy hx ha => ?_⟩
        cases hy with
        | @known _ _ _ _ _ p hp hl =>
          have hof : firstCells H sz len (.slice b v off len (.known c)) = .ok old := hold
          obtain ⟨os, o1, o2, o3, _⟩ := firstCells_ok (P := P) hr hof (.known hp hl) (fun hh => by cases hh)
          obtain ⟨newCap, rest, e, h1, h2, h3⟩ := ha.new _ len c os.toArray rfl hmax hfit (o2 w.drew rfl)
          have hxl := hx.length
          have hol := o1.length
          have hcs : (os.toArray ++ (xs.toArray ++ rest)).size = newCap * sz := by
            simp [h2, ← hxl, hnl, ← hol, o3]
            rw [← Nat.add_assoc, ← Nat.add_mul, ← Nat.add_mul, Nat.add_sub_cancel' h1]
          obtain ⟨g1, g2⟩ := hH ι w.drew N (os.toArray ++ (xs.toArray ++ rest)) e (os ++ xs) hr.drew hw hf hN (o1.append hx) (by rw [hcs, List.length_append, o3, hnl, ← Nat.add_mul]; exact Nat.mul_le_mul_right _ h1) (fun i x hi => by
            rw [← Array.append_assoc, Array.getElem?_append, if_pos (by have := (List.getElem?_eq_some_iff.1 hi).1; simpa using this)]; simpa using hi)
          refine ⟨_, _, _, h3, ?_, g1, g2.of_drew⟩
          exact .opn (Ix.set_same _ _ _ _) h1 (by rw [hcs]; simp)
    | opn =>
      change apOpn sz H nx b v off len n new k = _ at h
      unfold apOpn at h
      rw [sel_eq] at h
      split at h
      · rename_i h0
        have h0 : n = 0 := beq_iff.1 h0
        refine ⟨_, _, _, h, Nat.le_refl _, fun ι w N y xs run hr hw hf hN hy hx ha => ?_⟩
        cases hy with
        | opn hp hl hs =>
          have hx0 := nil_of (by rw [← hx.length]; exact hnl) h0
          subst hx0
          have := ha.in_ _ _ _ w rfl (by omega) (store_none _)
          subst h0
          exact ⟨ι, w, _, this, .opn hp hl hs, hr, .refl⟩
      · obtain ⟨blk, hb, h⟩ := ofOpt_ok h
        obtain ⟨hv, h⟩ := must_ok h
        obtain ⟨hoff, h⟩ := must_ok h
        obtain ⟨hes, h⟩ := must_ok h
        obtain ⟨hone, h⟩ := must_ok h
        have hv : v = blk.ver := beq_iff.1 hv
        have hoff : off = 0 := beq_iff.1 hoff
        have hes : sz = blk.esz := beq_iff.1 hes
        rw [sel_eq] at h
        split at h
        · rename_i hfit
          have hfit : (len + n) * sz ≤ blk.size := ble_iff.1 hfit
          obtain ⟨H', hk, hH⟩ := writeCells_ex P h
          refine ⟨_, _, _, hk, Nat.le_refl _, fun ι w N y xs run hr hw hf hN hy hx ha => ?_⟩
          cases hy with
          | @opn _ _ _ _ cap' p hp hl hs =>
            have hpe := hr.esz _ _ _ _ hb hp
            obtain ⟨cs, el, hcs, hcsz, hle, _⟩ := hr.cells _ _ _ _ _ hb (by rw [hv]; exact ext_ver blk) hp
            rw [hpe, ← hes, hoff] at hs
            have hcap : len + n ≤ cap' := by
              have : (len + n) * sz ≤ cap' * sz := by omega
              exact Nat.le_of_mul_le_mul_right this hsz
            obtain ⟨w', g1, g2, g3⟩ := hH ι w _ xs nx hr hp hx
            subst hoff
            exact ⟨ι, w', _, ha.in_ _ _ _ w' rfl hcap (by rw [add_at, Nat.zero_add]; exact g1), .opn hp hcap (by rw [hpe, ← hes]; exact hs), g2, g3⟩
        · rename_i hfit
          have hfit : ¬ (len + n) * sz ≤ blk.size := fun hh => hfit (ble_iff.2 hh)
          unfold apGrow at h
          obtain ⟨hend, h⟩ := must_ok h
          obtain ⟨hmax, h⟩ := must_ok h
          have hend : len * sz ≤ blk.size := ble_iff.1 hend
          have hmax : len + n ≤ 1000000 := ble_iff.1 hmax
          obtain ⟨t, h, ht⟩ := setCells_ok _ _ _ _ h
          rw [forceNat_eq, forceNat_eq] at h
          obtain ⟨H', hk, hH⟩ := setK_ok _ _ _ _ h
          have ht : ∀ j, t.get j = if len * sz ≤ j ∧ j < len * sz + new.length then new[j - len * sz]? else blk.cells.get j := ht
          have hsum : len * sz + n * sz = (len + n) * sz := (Nat.add_mul _ _ _).symm
          refine ⟨_, _, _, hk, Nat.le_refl _, fun ι w N y xs run hr hw hf hN hy hx ha => ?_⟩
          cases hy with
          | @opn _ _ _ _ cap' p hp hl hs =>
            have hpe := hr.esz _ _ _ _ hb hp
            rw [hv] at hp
            obtain ⟨cs, el, hcs, hcsz, hle, hcells⟩ := hr.cells _ _ _ _ _ hb (ext_ver blk) hp
            rw [hpe, ← hes, hoff] at hs
            have hxl := hx.length
            -- the cells behind the append, wherever they come to lie
            have hnew : ∀ (cs' : Array Value), (∀ i, i < (len + n) * sz → cs'[i]? = if len * sz ≤ i ∧ i < len * sz + new.length then xs[i - len * sz]? else cs[i]?) →
                ∀ i, i < (len + n) * sz → ∃ a x, t.get i = some a ∧ cs'[i]? = some x ∧ VR ι a x ∧ a.one = true := by
              intro cs' hcs' i hi
              rw [ht, hcs' i hi]
              by_cases hr' : len * sz ≤ i ∧ i < len * sz + new.length
              · rw [if_pos hr', if_pos hr']
                have hil : i - len * sz < new.length := by omega
                obtain ⟨x, hx', hvx⟩ := hx.get (i - len * sz) (List.getElem?_eq_getElem hil)
                exact ⟨_, x, List.getElem?_eq_getElem hil, hx', hvx, allOne_mem hone _ (List.getElem_mem hil)⟩
              · rw [if_neg hr', if_neg hr']; exact hcells i (by omega)
            by_cases hcap : len + n ≤ cap'
            · have hcapm : (len + n) * sz ≤ cap' * sz := Nat.mul_le_mul_right _ hcap
              obtain ⟨w', cs', g1, g2, g3, g4⟩ := store_run (P := P) hcs (off := len * sz) (xs := xs) (by omega) (hx.one hone)
              rw [← hxl] at g4
              have hG : Grow ι w w' p p (len * sz) cs' el := ⟨by rw [g2.size]; exact Nat.le_refl _, g2.at_, by omega, fun c _ hc => g2.other c hc,
                .inl ⟨rfl, fun cs2 el2 hcs2 => by
                  rw [hcs] at hcs2; injection hcs2 with hcs2; injection hcs2 with hcs2 _ _; subst hcs2
                  exact ⟨g3, fun i hi => by rw [g4 i (by omega), if_neg (by omega)]⟩⟩, g2.os, g2.output, g2.tape⟩
              refine ⟨_, w', _, ha.in_ _ _ _ w' rfl hcap (by rw [add_at, hoff, Nat.zero_add]; exact g1), ?_, hr.grow (c := Nat.beq (len * sz) blk.size) (size' := (len + n) * sz) (off0 := len * sz) hb hp hpe (by omega) (fun hc => beq_iff.1 hc) ht hH hG (by omega) (hnew cs' fun i hi => g4 i (by omega)), stp_grow hr hb hp hG hH⟩
              rw [hoff]
              exact .opn (Ix.set_same _ _ _ _) hcap (by rw [hpe, ← hes]; exact hs)
            · have hold : (Builtin.firstCells sz len (.slice (some ⟨p.blk, off, none⟩) len cap')).run P w.drew = .ok (cs.toList.take (len * sz)).toArray w.drew := by
                have := run_loadCells_list (P := P) w.drew ⟨p.blk, off, none⟩ (cs.toList.take (len * sz)) (fun j v hj => by
                  rw [add_at, hoff, Nat.zero_add, cell_at (w := w.drew) (show w.drew.heap[p.blk]? = _ from hcs)]
                  rw [List.getElem?_take] at hj
                  split at hj
                  · rwa [Array.getElem?_toList] at hj
                  · cases hj)
                rw [show (cs.toList.take (len * sz)).length = len * sz by simp; omega] at this
                simp only [Builtin.firstCells, this]
              obtain ⟨newCap, rest, e, h1, h2, h3⟩ := ha.new _ len cap' _ rfl hmax hcap hold
              have hcs2 : ((cs.toList.take (len * sz)).toArray ++ (xs.toArray ++ rest)).size = newCap * sz := by
                simp only [Array.size_append, List.size_toArray, List.length_take, Array.length_toList, h2]
                rw [← hxl, hnl, Nat.min_eq_left (by omega), ← Nat.add_assoc, hsum, ← Nat.add_mul, Nat.add_sub_cancel' h1]
              have hG : Grow ι w (plus w.drew ((cs.toList.take (len * sz)).toArray ++ (xs.toArray ++ rest)) e) p ⟨w.heap.size, newCap * sz, blk.esz⟩ (len * sz) ((cs.toList.take (len * sz)).toArray ++ (xs.toArray ++ rest)) e :=
                ⟨by rw [plus_size]; exact Nat.le_succ _, plus_new (w := w.drew) _ _, hcs2, fun c hc _ => plus_old (w := w.drew) _ _ hc, .inr ⟨rfl, plus_old (w := w.drew) _ _ (hr.bound _ _ _ hp)⟩, rfl, rfl, rfl⟩
              have hm1 : (len + n) * sz ≤ newCap * sz := Nat.mul_le_mul_right _ h1
              refine ⟨_, _, _, h3, ?_, hr.grow (c := Nat.beq (len * sz) blk.size) (size' := (len + n) * sz) (off0 := len * sz) hb hp rfl (by omega) (fun hc => beq_iff.1 hc) ht hH hG hm1 (hnew _ fun i hi => ?_), stp_grow hr hb hp hG hH⟩
              · exact .opn (Ix.set_same _ _ _ _) h1 (by show 0 + newCap * blk.esz = newCap * sz; rw [hes]; simp)
              · rw [Array.getElem?_append]
                simp only [List.size_toArray, List.length_take, Array.length_toList]
                rw [Nat.min_eq_left (by omega)]
                split
                · rename_i hlt
                  rw [if_neg (by omega), List.getElem?_toArray, List.getElem?_take, if_pos hlt, Array.getElem?_toList]
                · rename_i hge
                  rw [if_pos (by omega), Array.getElem?_append, if_pos (by simp; omega)]
                  simp
    | loose =>
      change sel (Nat.beq n 0) (k (.slice b v off len .loose) H nx) (.no "append to a loose slice") = _ at h
      rw [sel_eq] at h
      split at h
      · rename_i h0
        have h0 : n = 0 := beq_iff.1 h0
        refine ⟨_, _, _, h, Nat.le_refl _, fun ι w N y xs run hr hw hf hN hy hx ha => ?_⟩
        cases hy with
        | loose =>
          have hx0 := nil_of (by rw [← hx.length]; exact hnl) h0
          subst hx0
          have := ha.in_ _ _ _ w rfl (by omega) (store_none _)
          subst h0
          exact ⟨ι, w, _, this, .loose, hr, .refl⟩
      · cases h
  · cases h
end
end Go.Ew
