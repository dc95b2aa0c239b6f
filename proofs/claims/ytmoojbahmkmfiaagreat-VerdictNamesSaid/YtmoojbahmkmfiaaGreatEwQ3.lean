/- QUIET OPERATIONS: aggregates, builtins; the one theorem on all quiet operations. -/
import Derived.Test.YtmoojbahmkmfiaaGreatEwQ2
import Derived.Laws.Tables
namespace Go.Ew
section
variable {P : Program} {w : World} {ι : Ix} {H : Heap}

/-- a tree that holds an array's cells -/
def TR (ι : Ix) (t : Tr AV) (cs : Array Value) : Prop := ∀ i, i < cs.size → ∃ a x, t.get i = some a ∧ cs[i]? = some x ∧ VR ι a x
theorem TR.of_setCells {l : List AV} {xs : Array Value} {t t' : Tr AV} (hl : VRL ι l xs.toList) (h : ∀ j, t'.get j = if 0 ≤ j ∧ j < 0 + l.length then l[j - 0]? else t.get j) : TR ι t' xs := by
  intro i hi
  have hlen := hl.length
  have hi' : i < l.length := by rw [hlen]; simpa using hi
  obtain ⟨x, hx, hv⟩ := hl.get i (List.getElem?_eq_getElem hi')
  refine ⟨l[i], x, ?_, by simpa using hx, hv⟩
  rw [h i, if_pos (by omega), Nat.sub_zero, List.getElem?_eq_getElem hi']
theorem TR.cellsAt {t : Tr AV} {cs : Array Value} {l : List AV} {n : Nat} (h : TR ι t cs) (hn : n = cs.size) (hc : cellsAt t 0 n = some l) : VRL ι l cs.toList := by
  obtain ⟨h1, h2⟩ := cellsAt_ok n _ _ hc
  refine VRL.of_get (by simp; omega) fun i a x ha hx => ?_
  have hi : i < n := by have := (List.getElem?_eq_some_iff.1 ha).1; omega
  obtain ⟨a', x', h3, h4, h5⟩ := h i (by omega)
  obtain ⟨h6, _⟩ := h2 i hi
  rw [h6, Nat.zero_add, h3] at ha
  injection ha with ha; subst ha
  rw [Array.getElem?_toList, h4] at hx
  injection hx with hx; subst hx; exact h5
theorem foldl_set (off : Nat) : ∀ (l : List Value) (s : Nat) (cs : Array Value),
    ((l.zipIdx s).foldl (fun (cs : Array Value) (x : Value × Nat) => cs.setIfInBounds (off + x.2) x.1) cs).size = cs.size ∧
    ∀ i, ((l.zipIdx s).foldl (fun (cs : Array Value) (x : Value × Nat) => cs.setIfInBounds (off + x.2) x.1) cs)[i]? = if i < cs.size ∧ off + s ≤ i ∧ i < off + s + l.length then l[i - (off + s)]? else cs[i]?
  | [], s, cs => ⟨rfl, fun i => by rw [if_neg (by simp)]; rfl⟩
  | v :: l, s, cs => by
    obtain ⟨h1, h2⟩ := foldl_set off l (s + 1) (cs.setIfInBounds (off + s) v)
    simp only [List.zipIdx_cons, List.foldl_cons]
    refine ⟨by rw [h1]; simp, fun i => ?_⟩
    rw [h2]
    simp only [Array.size_setIfInBounds, List.length_cons]
    by_cases hc : i < cs.size ∧ off + s ≤ i ∧ i < off + s + (l.length + 1)
    · rw [if_pos hc]
      by_cases hi : i = off + s
      · subst hi
        rw [if_neg (by omega)]
        simp [hc.1]
      · rw [if_pos (by omega)]
        rw [show i - (off + s) = (i - (off + (s + 1))) + 1 by omega]
        simp
    · rw [if_neg hc, if_neg (by omega)]
      rw [Array.getElem?_setIfInBounds]
      split
      · rename_i he
        subst he
        split
        · exfalso; omega
        · rename_i hh
          rw [Array.getElem?_eq_none (by omega)]
      · rfl
theorem fillK_ok {place place' : Nat → Option (Nat × Nat)} (hpl : ∀ i, place i = place' i) : ∀ {l : List (Nat × AV)} {l' : List (Nat × Value)} {t : Tr AV} {cs : Array Value} {n : Nat} {k : Tr AV → Res AV} {r : AV},
    fillK t n place l k = .ok r → PR ι l l' → TR ι t cs → cs.size = n → ∃ t' cs', Instr.fill place' cs l' = some cs' ∧ cs'.size = n ∧ TR ι t' cs' ∧ k t' = .ok r
  | [], l', t, cs, n, k, r, h, hp, ht, hs => by
    cases hp
    exact ⟨t, cs, rfl, hs, ht, h⟩
  | (i, v) :: l, l', t, cs, n, k, r, h, hp, ht, hs => by
    cases hp with
    | @cons _ _ x _ xs hv hp =>
      unfold fillK at h
      split at h
      · cases h
      · rename_i off m hi
        obtain ⟨hm, h⟩ := must_ok h
        obtain ⟨he, h⟩ := must_ok h
        have hm : v.cells.length = m := beq_iff.1 hm
        have he : off + m ≤ n := ble_iff.1 he
        obtain ⟨t1, h, ht1⟩ := setCells_ok _ _ _ _ h
        have hc := hv.cells
        have hlen := hc.length
        obtain ⟨f1, f2⟩ := foldl_set off x.cells.toList 0 cs
        have hfold : x.cells.zipIdx.foldl (fun cs (c, j) => cs.setIfInBounds (off + j) c) cs = (x.cells.toList.zipIdx 0).foldl (fun (cs : Array Value) (x : Value × Nat) => cs.setIfInBounds (off + x.2) x.1) cs := by
          rw [← Array.foldl_toList]; simp
        obtain ⟨t', cs', g1, g2, g3, g4⟩ := fillK_ok hpl (cs := (x.cells.toList.zipIdx 0).foldl (fun (cs : Array Value) (x : Value × Nat) => cs.setIfInBounds (off + x.2) x.1) cs) h hp (fun j hj => by
          rw [f1] at hj
          rw [f2, ht1]
          by_cases hr : off ≤ j ∧ j < off + v.cells.length
          · rw [if_pos hr, if_pos (by simp only [Nat.add_zero]; rw [← hlen]; exact ⟨hj, hr⟩)]
            have hjl : j - off < v.cells.length := by omega
            obtain ⟨y, hy, hvy⟩ := hc.get (j - off) (List.getElem?_eq_getElem hjl)
            exact ⟨_, y, List.getElem?_eq_getElem hjl, by simpa using hy, hvy⟩
          · rw [if_neg hr, if_neg (by simp only [Nat.add_zero]; rw [← hlen]; exact fun hh => hr hh.2)]
            exact ht j hj) (by rw [f1, hs])
        refine ⟨t', cs', ?_, g2, g3, g4⟩
        unfold Instr.fill
        rw [← hpl, hi]
        simp only []
        have hxs : x.cells.size = m := by rw [← hm, hlen]; simp
        rw [if_neg (by simp [hxs]; omega), hfold]
        exact g1
theorem places_ok : ∀ {fs : List Field} {pl : List (Nat × Nat)}, places P fs = .ok pl → fs.mapM (fun f => (P.info? f.type).map fun i => (f.offset, i.size)) = some pl
  | [], pl, h => by cases ok_inj (show Res.ok [] = Res.ok pl from h); rfl
  | f :: fs, pl, h => by
    obtain ⟨n, hn, h⟩ := and_ok h
    obtain ⟨i, hi, hn⟩ := ofOpt_ok hn
    cases ok_inj hn
    obtain ⟨l, hl, h⟩ := and_ok h
    cases ok_inj h
    simp [List.mapM_cons, hi, places_ok hl]
theorem buildA_ok {t : TypeId} {d : TypeDesc} {z : List AV} {l : List (Nat × AV)} {l' : Array (Nat × Value)} {r : AV} (hz : zeroCells P t = .ok z) (hd : P.underlying t = some d) (hl : PR ι l l'.toList) (h : buildA P z l d = .ok r) :
    ∃ cs, (Instr.build t l').run P w = .ok (.agg cs) w ∧ VR ι r (.agg cs) := by
  obtain ⟨i, hi, hz⟩ := ofOpt_ok hz
  obtain ⟨zv, hzv, hz⟩ := ofOpt_ok hz
  obtain ⟨z', hz', hz⟩ := ofOpt_ok hz
  cases ok_inj hz
  have hzr : VRL ι z zv.cells.toList := ofScalars_VR hz'
  have hzl := hzr.length
  cases d with
  | struct fields =>
    obtain ⟨pl, hpl, h⟩ := and_ok h
    obtain ⟨t1, h, ht1⟩ := setCells_ok _ _ _ _ h
    obtain ⟨t2, cs, h1, h2, h3, h4⟩ := fillK_ok (ι := ι) (place' := (pl.toArray[·]?)) (fun i => by simp) h hl (TR.of_setCells hzr ht1) (by rw [hzl]; simp)
    obtain ⟨m, hm, h4⟩ := ofOpt_ok h4
    cases ok_inj h4
    refine ⟨cs, run_build w t l' cs ?_, .agg (h3.cellsAt h2.symm hm)⟩
    simp [Program.built, hi, hd, hzv, places_ok hpl]; simpa using h1
  | array len e =>
    obtain ⟨sz, hsz, h⟩ := and_ok h
    obtain ⟨ie, hie, hsz⟩ := ofOpt_ok hsz
    cases ok_inj hsz
    obtain ⟨t1, h, ht1⟩ := setCells_ok _ _ _ _ h
    obtain ⟨t2, cs, h1, h2, h3, h4⟩ := fillK_ok (ι := ι) (place' := fun i => some (i * ie.size, ie.size)) (fun i => rfl) h hl (TR.of_setCells hzr ht1) (by rw [hzl]; simp)
    obtain ⟨m, hm, h4⟩ := ofOpt_ok h4
    cases ok_inj h4
    refine ⟨cs, run_build w t l' cs ?_, .agg (h3.cellsAt h2.symm hm)⟩
    simp [Program.built, hi, hd, hzv, hie]; exact h1
  | _ => cases h

theorem lenA_VR {a : AV} {x : Value} {n : Nat} (h : lenA a = .ok n) (hx : VR ι a x) : ∃ p c, x = .slice p n c := by
  unfold lenA at h
  split at h
  · cases ok_inj h; cases hx; exact ⟨_, _, rfl⟩
  · cases ok_inj h; cases hx <;> exact ⟨_, _, rfl⟩
  · cases h
theorem capA_VR {a : AV} {x : Value} {r : AV} (h : capA a = .ok r) (hx : VR ι a x) : ∃ p n c, x = .slice p n c ∧ r = .int .i64 (Int.ofNat c) := by
  unfold capA at h
  split at h
  · cases ok_inj h; cases hx; exact ⟨_, _, _, rfl, rfl⟩
  · cases ok_inj h; cases hx; exact ⟨_, _, _, rfl, rfl⟩
  · cases h
theorem tellA_ok {b : Builtin} {ts : Array TypeId} {ty : TypeId} {cc : Array Bool} {l : List AV} {xs : Array Value} {r : AV} (h : tellA P b ts.toList l = .ok r) (hl : VRL ι l xs.toList) :
    ∃ x, (builtin b ts ty cc xs).run P w = .ok (.value x) w ∧ VR ι r x := by
  obtain ⟨xs⟩ := xs
  obtain ⟨ts⟩ := ts
  simp only at hl h
  unfold tellA at h
  split at h
  · obtain ⟨t, ht, h⟩ := ofOpt_ok h
    obtain ⟨e, he, h⟩ := and_ok h
    obtain ⟨n, hn, h⟩ := and_ok h
    cases ok_inj h
    obtain ⟨x, ys, rfl, hx, hys⟩ := VRL.split hl
    cases hys
    have hu := elemT_under he
    have ht0 : (List.toArray ts)[0]? = some t := by cases ts <;> simp_all
    obtain ⟨p, c, rfl⟩ := lenA_VR hn hx
    exact ⟨.int .i64 (Int.ofNat n), by simp [builtin, Builtin.len_, ht0, run_underlying hu, goInt], .int _ _⟩
  · obtain ⟨t, ht, h⟩ := ofOpt_ok h
    obtain ⟨e, he, h⟩ := and_ok h
    obtain ⟨x, ys, rfl, hx, hys⟩ := VRL.split hl
    cases hys
    have hu := elemT_under he
    have ht0 : (List.toArray ts)[0]? = some t := by cases ts <;> simp_all
    obtain ⟨p, n, c, rfl, rfl⟩ := capA_VR h hx
    exact ⟨.int .i64 (Int.ofNat c), by simp [builtin, Builtin.cap_, ht0, run_underlying hu, goInt], .int _ _⟩
  · obtain ⟨hk, h⟩ := must_ok h
    cases ok_inj h
    obtain ⟨x, ys, rfl, hx, hys⟩ := VRL.split hl
    obtain ⟨y, zs, rfl, hy, hzs⟩ := VRL.split hys
    cases hzs; cases hx; cases hy
    refine ⟨_, by simp [builtin, Builtin.max_, Builtin.max2]; rfl, ?_⟩
    rw [sel_eq, ltI_eq]; simp only [decide_eq_true_eq]; exact .int _ _
  · obtain ⟨hk, h⟩ := must_ok h
    cases ok_inj h
    obtain ⟨x, ys, rfl, hx, hys⟩ := VRL.split hl
    obtain ⟨y, zs, rfl, hy, hzs⟩ := VRL.split hys
    cases hzs; cases hx; cases hy
    refine ⟨_, by simp [builtin, Builtin.min_, Builtin.min2]; rfl, ?_⟩
    rw [sel_eq, ltI_eq]; simp only [decide_eq_true_eq]; exact .int _ _
  · cases h

theorem argO_OB {a : Act} {env : Env} {o : Option Operand} {v : Option AV} {n : Option Nat} (he : ER ι env a.tmps) (h : argO env o = .ok v) (hn : optNat v = .ok n) : OB n (o.map a.eval) := by
  unfold argO at h
  split at h
  · cases ok_inj h
    unfold optNat at hn
    cases ok_inj hn
    exact .none
  · obtain ⟨u, hu, h⟩ := and_ok h
    cases ok_inj h
    unfold optNat at hn
    obtain ⟨m, hm, hn⟩ := and_ok hn
    cases ok_inj hn
    obtain ⟨k, hk⟩ := asNat_VR hm (arg_VR he hu)
    rw [Option.map_some, hk]; exact .some

/-- ALL QUIET OPERATIONS -/
theorem evQ_ok (hr : HR ι H w) {env : Env} {a : Act} (he : ER ι env a.tmps) {o : Oper} {r : AV} (h : evQ P env H o.op = .ok r) :
    ∃ x, (execOp a.eval o).run P w = .ok (.value x) w ∧ VR ι r x := by
  obtain ⟨dst, op, type, pos, after, guard⟩ := o
  simp only at h
  cases op with
  | move x => exact ⟨_, rfl, arg_VR he h⟩
  | assign x => exact ⟨_, rfl, arg_VR he h⟩
  | pick c x y =>
    obtain ⟨v, hv, h⟩ := and_ok h
    have hc := arg_VR he hv
    cases v with
    | bool t =>
      cases hc' : a.eval c <;> rw [hc'] at hc <;> cases hc
      simp only [sel_eq] at h
      refine ⟨if t then a.eval x else a.eval y, by simp [execOp, hc']; rfl, ?_⟩
      cases t
      · exact arg_VR he h
      · exact arg_VR he h
    | _ => cases h
  | load t x =>
    obtain ⟨v, hv, h⟩ := and_ok h
    obtain ⟨p, y, hp, h1, h2⟩ := loadA_ok (P := P) hr h (arg_VR he hv)
    exact ⟨y, by simp [execOp, Instr.loadAt, Instr.sureAddr, hp, h1], h2⟩
  | nilCheck x =>
    obtain ⟨v, hv, h⟩ := and_ok h
    have hc := arg_VR he hv
    cases v with
    | ptr => cases ok_inj h; cases hx : a.eval x <;> rw [hx] at hc <;> cases hc; exact ⟨_, by simp [execOp, hx]; rfl, .ptr (by assumption)⟩
    | func => cases ok_inj h; cases hx : a.eval x <;> rw [hx] at hc <;> cases hc; rename_i f1 c1 h1 h2; exact ⟨.func (.func _) f1 c1, by simp [execOp, hx], .func h1 h2⟩
    | _ => cases h
  | binOp op t x y yt =>
    obtain ⟨v, hv, h⟩ := and_ok h
    obtain ⟨u, hu, h⟩ := and_ok h
    obtain ⟨q, h1, h2⟩ := binA_ok (w := w) (arg_VR he hv) (arg_VR he hu) h x y
    exact ⟨q, by simp only [execOp, Sem.run_bind, Sem.run_pure] at h1 ⊢; rw [h1]; rfl, h2⟩
  | unOp op t x =>
    obtain ⟨v, hv, h⟩ := and_ok h
    have hc := arg_VR he hv
    unfold unA at h
    split at h
    · cases ok_inj h; cases hx : a.eval x <;> rw [hx] at hc <;> cases hc; exact ⟨.bool _, by simp [execOp, hx, Op.unary], .bool _⟩
    · cases ok_inj h; cases hx : a.eval x <;> rw [hx] at hc <;> cases hc
      refine ⟨.int _ _, by simp only [execOp, hx, Op.unary, Op.intArith, Sem.run_bind, Sem.run_pure, Result.andThen_ok]; rfl, ?_⟩
      rw [wrapQ_eq]; exact .int _ _
    · cases h
  | convert src dst x =>
    obtain ⟨d0, hd0, h⟩ := ofOpt_ok h
    obtain ⟨d, hd, h⟩ := ofOpt_ok h
    obtain ⟨v, hv, h⟩ := and_ok h
    have hc := arg_VR he hv
    unfold convA at h
    split at h
    · cases ok_inj h; cases hx : a.eval x <;> rw [hx] at hc <;> cases hc
      refine ⟨_, by simp [execOp, hx, convert, run_underlying hd0, run_underlying hd, Conv.intToInt]; rfl, ?_⟩
      rw [wrapQ_eq]; exact .int _ _
    · cases h
  | makeFunc fn first captured =>
    change qFunc env fn first captured = .ok r at h
    unfold qFunc at h
    split at h
    · obtain ⟨v, hv, h⟩ := and_ok h
      obtain ⟨u, hu, h⟩ := and_ok h
      cases ok_inj h
      refine ⟨.func (.func _) (first.map a.eval) (captured.map a.eval), by simp [execOp, Instr.makeFunc], .func ?_ ?_⟩
      · rw [Array.toList_map]; exact args_VR he hv
      · rw [Array.toList_map]; exact args_VR he hu
    · cases h
  | slice t x lo hi mx =>
    obtain ⟨v, hv, h⟩ := and_ok h
    obtain ⟨lo', hlo, h⟩ := and_ok h
    obtain ⟨hi', hhi, h⟩ := and_ok h
    obtain ⟨mx', hmx, h⟩ := and_ok h
    obtain ⟨lo'', hlo', h⟩ := and_ok h
    obtain ⟨hi'', hhi', h⟩ := and_ok h
    obtain ⟨mx'', hmx', h⟩ := and_ok h
    have hu : ∃ d, P.underlying t = some (.slice d) := by
      obtain ⟨e, he', _⟩ := and_ok h; exact ⟨e, elemT_under he'⟩
    obtain ⟨d, hu⟩ := hu
    obtain ⟨y, h1, h2⟩ := sliceA_ok hr h (arg_VR he hv) (argO_OB he hlo hlo') (argO_OB he hhi hhi') (argO_OB he hmx hmx')
    refine ⟨y, ?_, h2⟩
    simp [execOp, Instr.sliceAt, run_underlying hu, h1]
  | fieldAddr t x i =>
    obtain ⟨d, hd, h⟩ := ofOpt_ok h
    obtain ⟨v, hv, h⟩ := and_ok h
    have hc := arg_VR he hv
    unfold fieldAddrA at h
    split at h
    · obtain ⟨f, hf, h⟩ := ofOpt_ok h
      obtain ⟨n, hn, h⟩ := and_ok h
      obtain ⟨h0, h⟩ := must_ok h
      have h0 : 0 < n := blt_iff.1 h0
      cases ok_inj h
      cases hx : a.eval x <;> rw [hx] at hc <;> cases hc
      have hs := sizeT_run (w := w) hn
      exact ⟨_, by simp [execOp, hx, Instr.fieldAt, Instr.sureAddr, run_underlying hd, hf, fieldPlace, hs, Nat.ne_of_gt h0, add_at]; rfl, .ptr (by assumption)⟩
    · cases h
  | field t x i =>
    obtain ⟨d, hd, h⟩ := ofOpt_ok h
    obtain ⟨v, hv, h⟩ := and_ok h
    have hc := arg_VR he hv
    unfold fieldA at h
    split at h
    · obtain ⟨f, hf, h⟩ := ofOpt_ok h
      obtain ⟨n, hn, h⟩ := and_ok h
      obtain ⟨ag, hag, h⟩ := and_ok h
      cases hx : a.eval x <;> rw [hx] at hc <;> cases hc
      rename_i hl
      obtain ⟨y, h1, h2⟩ := partA_ok (w := w) (aggT_run hag) (sizeT_run hn) h hl
      exact ⟨y, by simp [execOp, hx, Instr.field, asAgg, run_underlying hd, hf, h1], h2⟩
    · cases h
  | indexAddr t x i =>
    obtain ⟨v, hv, h⟩ := and_ok h
    obtain ⟨n, hn, h⟩ := and_ok h
    obtain ⟨d, hd, h⟩ := ofOpt_ok h
    obtain ⟨u, hu, h⟩ := and_ok h
    obtain ⟨k, hk⟩ := asNat_VR hn (arg_VR he hv)
    obtain ⟨y, h1, h2⟩ := indexAddrA_ok (w := w) (k := k) hd h (arg_VR he hu)
    exact ⟨y, by simp [execOp, hk, h1], h2⟩
  | index t x i =>
    obtain ⟨v, hv, h⟩ := and_ok h
    obtain ⟨n, hn, h⟩ := and_ok h
    obtain ⟨d, hd, h⟩ := ofOpt_ok h
    obtain ⟨k, hk⟩ := asNat_VR hn (arg_VR he hv)
    split at h
    · obtain ⟨c, hc, h⟩ := ofOpt_ok h
      cases ok_inj h
      refine ⟨_, by simp [execOp, hk, Instr.index, run_asIntOf, run_underlying hd, show ∀ v, a.eval (.const v) = v from fun _ => rfl, hc], .int _ _⟩
    · obtain ⟨u, hu, h⟩ := and_ok h
      unfold indexArr at h
      split at h
      · obtain ⟨sz, hsz, h⟩ := and_ok h
        obtain ⟨ag, hag, h⟩ := and_ok h
        obtain ⟨hlt, h⟩ := must_ok h
        have hlt := blt_iff.1 hlt
        have hc := arg_VR he hu
        cases hx : a.eval x <;> rw [hx] at hc <;> cases hc
        rename_i hl
        obtain ⟨y, h1, h2⟩ := partA_ok (w := w) (aggT_run hag) (sizeT_run hsz) h hl
        change (part _ _ (n * sz)).run P w = _ at h1
        exact ⟨y, by simp [execOp, hk, hx, Instr.index, run_asIntOf, run_underlying hd, hlt, sizeT_run hsz, h1], h2⟩
      · cases h
    · cases h
  | extract x i =>
    obtain ⟨v, hv, h⟩ := and_ok h
    have hc := arg_VR he hv
    unfold extractA at h
    split at h
    · split at h
      · rename_i u hu
        cases ok_inj h
        cases hx : a.eval x <;> rw [hx] at hc <;> cases hc
        rename_i hl
        obtain ⟨y, hy, hvy⟩ := VRL.get hl i hu
        exact ⟨y, by simp at hy; simp [execOp, hx, Instr.extract, hy], hvy⟩
      · cases h
    · cases h
  | build t ps =>
    obtain ⟨z, hz, h⟩ := and_ok h
    obtain ⟨l, hl, h⟩ := and_ok h
    obtain ⟨d, hd, h⟩ := ofOpt_ok h
    obtain ⟨cs, h1, h2⟩ := buildA_ok (w := w) (l' := ps.map fun (i, x) => (i, a.eval x)) hz hd (by rw [Array.toList_map]; exact parts_PR he hl) h
    exact ⟨_, by simp only [execOp, Sem.run_bind, Sem.run_pure] at h1 ⊢; rw [h1]; rfl, h2⟩
  | call c =>
    obtain ⟨callee, cargs, cts⟩ := c
    change qCall P env ⟨callee, cargs, cts⟩ = .ok r at h
    unfold qCall at h
    split at h
    · rename_i b hb
      simp only at hb
      subst hb
      obtain ⟨l, hl, h⟩ := and_ok h
      obtain ⟨x, h1, h2⟩ := tellA_ok (w := w) (ty := type) (cc := cargs.map fun | .const _ => true | _ => false) (xs := cargs.map a.eval) h (by rw [Array.toList_map]; exact args_VR he hl)
      refine ⟨x, ?_, h2⟩
      simp only [execOp, resolve, Sem.run_bind, Sem.run_pure, Result.andThen_ok, invoke]
      exact h1
    · cases h
  | _ => cases h
end
end Go.Ew
