/- CALLS, and regions in the order of their text. -/
import Derived.Test.YtmoojbahmkmfiaaGreatEvE4
namespace Go.Ev

def X.toExit : X → Exit
  | .normal => .normal
  | .exit id => .exit id
  | .ret => .ret

/-- what is known behind code -/
def Post (ι : Ix) (H : Heap) (nx : Nat) (w : World) (sz : Nat) (fin : Fin) (Q : Exit → Act → World → Prop) : Prop :=
  ∀ ι' a' w', HR ι' fin.H w' → Stp ι H nx w ι' fin.H fin.nx w' → ER ι' fin.env a'.tmps → a'.tmps.size = sz → a'.defers = [] → Q fin.x.toExit a' w'
/-- AN EVALUATOR OF CODE IS SOUND. -/
def Sound (P : Program) (ev : CodeFn) : Prop := ∀ sz c env H nx fin, ev sz c env H nx = .ok fin → nx ≤ fin.nx ∧
  ∀ ι w N a Q, HR ι H w → Wf H nx → Fresh ι nx N → fin.nx ≤ N → ER ι env a.tmps → a.tmps.size = sz → a.defers = [] → Post ι H nx w sz fin Q → c.wp P Q a w

section
variable {P : Program} {w : World} {ι : Ix} {H H' : Heap}

theorem Fresh.le {nx N M : Nat} (h : Fresh ι nx N) (hM : M ≤ N) : Fresh ι nx M := fun b v h1 h2 => h b v h1 (by omega)

theorem evCall_run {env : Env} {a : Act} (he : ER ι env a.tmps) {o : Oper} {g : FuncId} {l : List AV} {fn : Func} {c : Code} (h : evCall env o.op = .ok (g, l)) (hf : P.funcs[g]? = some fn) (hb : fn.body = some c) (hn : (fn.name != "runtime.NumGoroutine") = true) :
    ∃ xs : Array Value, (execOp a.eval o).run P w = .ok (.enter g xs) w ∧ VRL ι l xs.toList := by
  obtain ⟨dst, op, type, pos, after, guard⟩ := o
  simp only at h
  cases op with
  | call cl =>
    obtain ⟨callee, cargs, cts⟩ := cl
    cases callee with
    | value f =>
      obtain ⟨fv, hfv, h⟩ := and_ok h
      unfold calleeA at h
      split at h
      · obtain ⟨m, hm, h⟩ := and_ok h
        have := ok_inj h
        injection this with h1 h2
        subst h1 h2
        have hfr := arg_VR he hfv
        cases hfe : a.eval f <;> rw [hfe] at hfr <;> cases hfr
        rename_i f1 c1 hfst hc
        have hne : (fn.name == "runtime.NumGoroutine") = false := by simpa using hn
        refine ⟨f1 ++ cargs.map a.eval ++ c1, ?_, ?_⟩
        · simp only [execOp, resolve, hfe, Deferred.ofValue, Sem.run_bind, Sem.run_pure, Result.andThen_ok, invoke, callFunc, run_program, hf, hne, hb, Option.isNone_some, Bool.false_eq_true, if_false]
        · simp only [Array.toList_append, Array.toList_map]
          exact (hfst.append (args_VR he hm)).append hc
      · cases h
    | invoke => cases h
    | builtin => cases h
  | _ => cases h

theorem resultsA_ok (hr : HR ι H w) {env : Env} {tmps : Array Value} (he : ER ι env tmps) : ∀ {rs : List ResultVar} {l : List AV}, resultsA P env H rs = .ok l →
    ∃ vs : List Value, (rs.mapM (m := Sem) fun | .tmp t => pure (tmps.getD t undef) | .cell a t => do loadVar t (← asAddr (tmps.getD a undef))).run P w = .ok vs w ∧ VRL ι l vs
  | [], l, h => by cases ok_inj (show Res.ok [] = Res.ok l from h); exact ⟨[], by simp, .nil⟩
  | .tmp t :: rs, l, h => by
    obtain ⟨v, hv, h⟩ := ofOpt_ok h
    obtain ⟨m, hm, h⟩ := and_ok h
    cases ok_inj h
    obtain ⟨vs, h1, h2⟩ := resultsA_ok hr he hm
    obtain ⟨x, hx, hvx⟩ := he _ _ hv
    refine ⟨x :: vs, ?_, .cons hvx h2⟩
    simp only [List.mapM_cons, Sem.run_bind, Sem.run_pure, Result.andThen_ok, h1]
    rw [show tmps.getD t undef = x by simp [hx]]
  | .cell a t :: rs, l, h => by
    obtain ⟨p, hp, h⟩ := ofOpt_ok h
    obtain ⟨v, hv, h⟩ := and_ok h
    obtain ⟨m, hm, h⟩ := and_ok h
    cases ok_inj h
    obtain ⟨vs, h1, h2⟩ := resultsA_ok hr he hm
    obtain ⟨x, hx, hpx⟩ := he _ _ hp
    obtain ⟨pa, y, hxa, h3, h4⟩ := loadA_ok (P := P) hr hv hpx
    refine ⟨y :: vs, ?_, .cons h4 h2⟩
    have : tmps.getD a undef = .pointer (some pa) := by rw [← hxa]; simp [hx]
    have hpa : (asAddr (tmps.getD a undef)).run P w = .ok pa w := by rw [this]; rfl
    simp only [List.mapM_cons, Sem.run_bind, Sem.run_pure, Result.andThen_ok, h1, hpa, h3]
theorem results_run (hr : HR ι H w) {env : Env} {tmps : Array Value} (he : ER ι env tmps) {fn : Func} {l : List AV} (h : resultsA P env H fn.results.toList = .ok l) :
    ∃ x, (results fn tmps).run P w = .ok x w ∧ VR ι (ofList l) x := by
  obtain ⟨vs, h1, h2⟩ := resultsA_ok (P := P) hr he h
  have hm : (fn.results.mapM (m := Sem) fun | .tmp t => pure (tmps.getD t undef) | .cell a t => do loadVar t (← asAddr (tmps.getD a undef))).run P w = .ok vs.toArray w := by
    rw [Array.mapM_eq_mapM_toList]
    simp only [Sem.run_map, h1, Result.andThen_ok]
  have hres : (results fn tmps).run P w = ((fn.results.mapM (m := Sem) fun | .tmp t => pure (tmps.getD t undef) | .cell a t => do loadVar t (← asAddr (tmps.getD a undef))).run P w).andThen fun vs w' => .ok (if h : vs.size = 1 then vs[0] else .tuple vs) w' := by
    unfold results
    simp only [Sem.run_bind, Sem.run_pure]
    rfl
  rw [hres, hm]
  simp only [Result.andThen_ok]
  cases h2 with
  | nil => exact ⟨_, rfl, .tuple .nil⟩
  | cons ha ht =>
    cases ht with
    | nil => exact ⟨_, rfl, ha⟩
    | cons hb ht => exact ⟨_, rfl, .tuple (.cons ha (.cons hb ht))⟩

theorem natMax_eq (a b : Nat) : natMax a b = max a b := by
  unfold natMax
  rw [sel_eq]
  simp only [ble_iff]
  split <;> omega

/-- A CALL. -/
theorem callK_ex {ev : CodeFn} (hs : Sound P ev) {β : Type} {f : FuncId} {l : List AV} {nx : Nat} {k : AV → Heap → Nat → Res β} {r : β} (h : callK P ev f l H nx k = .ok r) :
    ∃ v H' nx', k v H' nx' = .ok r ∧ nx ≤ nx' ∧ ∃ fn c, P.funcs[f]? = some fn ∧ fn.body = some c ∧ (fn.name != "runtime.NumGoroutine") = true ∧
      ∀ ι w N (xs : Array Value), HR ι H w → Wf H nx → Fresh ι nx N → nx' ≤ N → VRL ι l xs.toList →
        Calls P f xs w fun e w' => ∃ ι' x, e = .returned x ∧ VR ι' v x ∧ HR ι' H' w' ∧ Stp ι H nx w ι' H' nx' w' := by
  unfold callK at h
  obtain ⟨fn, hf, h⟩ := ofOpt_ok h
  obtain ⟨c, hb, h⟩ := ofOpt_ok h
  obtain ⟨hn, h⟩ := must_ok h
  obtain ⟨env, h, henv⟩ := setCells_ok _ _ _ _ h
  obtain ⟨fin, hfin, h⟩ := and_ok h
  unfold endK at h
  obtain ⟨hx, h⟩ := must_ok h
  obtain ⟨m, hm, h⟩ := and_ok h
  obtain ⟨hnx, hsound⟩ := hs _ _ _ _ _ _ hfin
  refine ⟨_, _, _, h, hnx, fn, c, hf, hb, hn, fun ι w N xs hr hw hfr hN hl => ?_⟩
  have hlen : l.length = xs.size := by rw [hl.length]; simp
  refine calls_of_wp hf hb (hsound ι w N _ _ hr hw hfr hN ?_ ?_ rfl ?_)
  · intro t v ht
    rw [henv] at ht
    split at ht
    · rename_i hh
      obtain ⟨x, hx, hv⟩ := hl.get t ht
      have hx : xs[t]? = some x := by simpa using hx
      refine ⟨x, ?_, hv⟩
      rw [Array.getElem?_append, if_pos (Array.getElem?_eq_some_iff.1 hx).1]; exact hx
    · cases ht
  · simp only [Array.size_append, Array.size_replicate]
    rw [natMax_eq, hlen]; omega
  · intro ι' a' w' h1 h2 h3 h4 h5
    obtain ⟨x, hx', hvx⟩ := results_run (P := P) h1 h3 hm
    cases hfx : fin.x with
    | exit id => rw [hfx] at hx; cases hx
    | normal => exact ⟨h5, x, hx', ι', x, rfl, hvx, h1, h2⟩
    | ret => exact ⟨h5, x, hx', ι', x, rfl, hvx, h1, h2⟩

theorem guard_ok {env : Env} {a : Act} {ops : Array Oper} {o : Oper} {g : Bool} (he : ER ι env a.tmps) (h : guardA ops env o = .ok g) : Region.wanted o (yielded ops a.tmps) = g := by
  unfold guardA at h
  unfold Region.wanted
  split at h
  · rename_i hg; rw [hg]; exact ok_inj h
  · rename_i j wv hg
    rw [hg]
    obtain ⟨t, ht, h⟩ := ofOpt_ok h
    obtain ⟨v, hv, h⟩ := ofOpt_ok h
    obtain ⟨x, hx, hvx⟩ := he _ _ hv
    have hy : ((ops[j]?).bind (·.dst)).bind (a.tmps[·]?) = some x := by rw [ht]; exact hx
    rw [← ok_inj h]
    unfold yielded
    simp only [hy]
    cases hvx <;> first | (simp [isIt, sameBool_eq]; done) | rfl

theorem put_ER {env env' : Env} {a : Act} {d : Option Tmp} {v : AV} {x : Value} {sz : Nat} (he : ER ι env a.tmps) (hs : a.tmps.size = sz) (hd : ∀ t, d = some t → t < sz)
    (hg : ∀ j, env'.get j = if d = some j then some v else env.get j) (hv : VR ι v x) : ER ι env' (a.put d x).tmps ∧ (a.put d x).tmps.size = sz := by
  cases d with
  | none => exact ⟨fun t u hu => he t u (by rw [hg, if_neg (by simp)] at hu; exact hu), hs⟩
  | some t =>
    have ht := hd t rfl
    refine ⟨fun j u hu => ?_, by simp [Act.put, hs]⟩
    rw [hg] at hu
    simp only [Act.put]
    by_cases hj : t = j
    · subst hj
      rw [if_pos rfl] at hu
      injection hu with hu; subst hu
      exact ⟨x, by rw [Array.getElem?_setIfInBounds, if_pos rfl, if_pos (by rw [hs]; exact ht)], hv⟩
    · rw [if_neg (by simpa using hj)] at hu
      obtain ⟨y, hy, hvy⟩ := he j u hu
      exact ⟨y, by rw [Array.getElem?_setIfInBounds_ne hj]; exact hy, hvy⟩
theorem put_defers {a : Act} {d : Option Tmp} {x : Value} : (a.put d x).defers = a.defers := by cases d <;> rfl

theorem Post.trans {nx nx1 N sz : Nat} {w1 : World} {ι1 : Ix} {H1 : Heap} {fin : Fin} {Q : Exit → Act → World → Prop} (h : Post ι H nx w sz fin Q) (s : Stp ι H nx w ι1 H1 nx1 w1) (hf : Fresh ι nx N) (hN : fin.nx ≤ N) (hw : Wf H nx) : Post ι1 H1 nx1 w1 sz fin Q :=
  fun ι' a' w' h1 h2 h3 h4 h5 => h ι' a' w' h1 (s.trans h2 hf hN hw) h3 h4 h5

/-- the operations of a region from i on -/
def From (ops : Array Oper) (i : Nat) (l : List Oper) : Prop := ∀ j, l[j]? = if j < l.length then ops[i + j]? else none
theorem From.cons {ops : Array Oper} {i : Nat} {o : Oper} {l : List Oper} (h : From ops i (o :: l)) : ops[i]? = some o ∧ From ops (i + 1) l := by
  refine ⟨?_, fun j => ?_⟩
  · have := h 0; simp at this; exact this.symm
  · have := h (j + 1)
    simp only [List.getElem?_cons_succ, List.length_cons, Nat.add_lt_add_iff_right] at this
    rw [this, show i + (j + 1) = i + 1 + j by omega]

theorem evSeq_ok {ev : CodeFn} (hs : Sound P ev) {sz : Nat} {ops : Array Oper} : ∀ {l : List Oper} {i : Nat} {env : Env} {H : Heap} {nx : Nat} {fin : Fin}, From ops i l → evSeq P ev sz ops l env H nx = .ok fin →
    nx ≤ fin.nx ∧ ∀ ι w N a Q, HR ι H w → Wf H nx → Fresh ι nx N → fin.nx ≤ N → ER ι env a.tmps → a.tmps.size = sz → a.defers = [] → Post ι H nx w sz fin Q → wpOps P ops Q (List.range' i l.length) a w
  | [], i, env, H, nx, fin, _, h => by
    cases ok_inj (show Res.ok (⟨.normal, env, H, nx⟩ : Fin) = Res.ok fin from h)
    exact ⟨Nat.le_refl _, fun ι w N a Q hr hw hf hN he hsz hd hp => hp ι a w hr .refl he hsz hd⟩
  | o :: l, i, env, H, nx, fin, hfrom, h => by
    obtain ⟨hoi, hfrom'⟩ := hfrom.cons
    change seqStep P ev sz ops o (evSeq P ev sz ops l) env H nx = .ok fin at h
    unfold seqStep at h
    obtain ⟨g, hg, h⟩ := and_ok h
    rw [sel_eq] at h
    have hrange : List.range' i (o :: l).length = i :: List.range' (i + 1) l.length := by simp [List.range'_succ]
    -- a value put, and the rest
    have put : ∀ {v : AV} {env' : Env} {H1 : Heap} {nx1 : Nat}, evSeq P ev sz ops l env' H1 nx1 = .ok fin → (∀ t, o.dst = some t → t < sz) → (∀ j, env'.get j = if o.dst = some j then some v else env.get j) →
        nx1 ≤ fin.nx ∧ ∀ (ι : Ix) (w : World) (ι1 : Ix) (w1 : World) (N : Nat) (a : Act) (Q : Exit → Act → World → Prop) (x : Value), HR ι1 H1 w1 → Wf H nx → Fresh ι nx N → fin.nx ≤ N → Stp ι H nx w ι1 H1 nx1 w1 → ER ι env a.tmps → a.tmps.size = sz → a.defers = [] → VR ι1 v x → Post ι H nx w sz fin Q →
          wpOps P ops Q (List.range' (i + 1) l.length) (a.put o.dst x) w1 := by
      intro v env' H1 nx1 hk hd hgt
      obtain ⟨h1, h2⟩ := evSeq_ok hs hfrom' hk
      refine ⟨h1, fun ι w ι1 w1 N a Q x hr1 hw hf hN hst he hsz hdf hv hp => ?_⟩
      obtain ⟨e1, e2⟩ := put_ER (he.mono hst.le) hsz hd hgt hv
      exact h2 ι1 w1 N _ Q hr1 (hst.wf hw) (hst.fresh hf hw) hN e1 e2 (by rw [put_defers]; exact hdf) (hp.trans hst hf hN hw)
    split at h
    case isFalse hgf =>
      obtain ⟨env', hk, hd, hgt⟩ := putQ_ok h
      obtain ⟨h1, h2⟩ := put hk hd hgt
      refine ⟨h1, fun ι w N a Q hr hw hf hN he hsz hdf hp => ?_⟩
      rw [hrange]
      have hwant := guard_ok he hg
      simp only [wpOps, hoi]
      rw [if_neg (by rw [hwant]; exact hgf)]
      exact h2 ι w ι w N a Q undef hr hw hf hN .refl he hsz hdf (.tuple .nil) hp
    case isTrue hgt0 =>
      have enter : ∀ {ι : Ix} {a : Act} {w : World} {Q : Exit → Act → World → Prop}, ER ι env a.tmps → o.wp P a w (wpOps P ops Q (List.range' (i + 1) l.length)) Q → wpOps P ops Q (List.range' i (o :: l).length) a w := by
        intro ι a w Q he hh
        rw [hrange]
        have hwant := guard_ok he hg
        simp only [wpOps, hoi]
        rw [if_pos (by rw [hwant]; exact hgt0)]
        exact .inl hh
      have quiet : ∀ {v : AV} {env' : Env}, evQ P env H o.op = .ok v → evSeq P ev sz ops l env' H nx = .ok fin → (∀ t, o.dst = some t → t < sz) → (∀ j, env'.get j = if o.dst = some j then some v else env.get j) →
          nx ≤ fin.nx ∧ ∀ (ι : Ix) (w : World) (N : Nat) (a : Act) (Q : Exit → Act → World → Prop), HR ι H w → Wf H nx → Fresh ι nx N → fin.nx ≤ N → ER ι env a.tmps → a.tmps.size = sz → a.defers = [] → Post ι H nx w sz fin Q → wpOps P ops Q (List.range' i (o :: l).length) a w := by
        intro v env' hv hk hd hgt
        obtain ⟨h1, h2⟩ := put hk hd hgt
        refine ⟨h1, fun ι w N a Q hr hw hf hN he hsz hdf hp => enter he ?_⟩
        obtain ⟨x, g1, g2⟩ := evQ_ok (P := P) hr he hv
        simp only [Oper.wp, g1, Oper.upon]
        exact h2 ι w ι w N a Q x hr hw hf hN .refl he hsz hdf g2 hp
      unfold seqDo at h
      split at h
      · obtain ⟨v, hv, h⟩ := and_ok h
        obtain ⟨env', hk, hd, hgt⟩ := putQ_ok h
        exact quiet hv hk hd hgt
      · obtain ⟨v, hv, h⟩ := and_ok h
        obtain ⟨env', hk, hd, hgt⟩ := putK_ok h
        exact quiet hv hk hd hgt
      · obtain ⟨v, hv, h⟩ := and_ok h
        obtain ⟨env', hk, hd, hgt⟩ := putK_ok h
        exact quiet hv hk hd hgt
      · obtain ⟨q, hq, h⟩ := and_ok h
        obtain ⟨H1, hk, _, hH⟩ := newBlk_ex h
        obtain ⟨env', hk, hd, hgt⟩ := putK_ok hk
        obtain ⟨h1, h2⟩ := put hk hd hgt
        refine ⟨by omega, fun ι w N a Q hr hw hf hN he hsz hdf hp => enter he ?_⟩
        obtain ⟨cs, el, g1, g2, g3⟩ := evAl_ok (P := P) (w := w) he hq
        obtain ⟨g4, g5⟩ := hH ι w N cs el cs.toList hr hw hf (by omega) g2 (by rw [g2.length]; simp) (fun i x hx => by simpa using hx)
        simp only [Oper.wp, g1, Oper.upon]
        exact h2 ι w _ _ N a Q _ g4 hw hf hN g5 he hsz hdf (newVal_VR (p := ⟨w.heap.size, cs.size, 0⟩) (Ix.set_same _ _ _ _) g3) hp
      · obtain ⟨v, H1, nx1, hk, hnx, hE⟩ := evE_ex (P := P) h
        obtain ⟨env', hk, hd, hgt⟩ := putK_ok hk
        obtain ⟨h1, h2⟩ := put hk hd hgt
        refine ⟨by omega, fun ι w N a Q hr hw hf hN he hsz hdf hp => enter he ?_⟩
        obtain ⟨ι1, w1, x, g1, g2, g3, g4⟩ := hE ι w N a o rfl hr hw hf (by omega) he
        rcases g1 with g1 | ⟨g1, rfl⟩
        · simp only [Oper.wp, g1, Oper.upon]
          exact h2 ι w ι1 w1 N a Q x g3 hw hf hN g4 he hsz hdf g2 hp
        · simp only [Oper.wp, g1, Oper.upon]
          exact h2 ι w ι1 w1 N a Q undef g3 hw hf hN g4 he hsz hdf g2 hp
      · obtain ⟨q, hq, h⟩ := and_ok h
        obtain ⟨g, ll⟩ := q
        obtain ⟨v, H1, nx1, hk, hnx, fn, c, hfn, hbd, hnm, hC⟩ := callK_ex hs h
        obtain ⟨env', hk, hd, hgt⟩ := putQ_ok hk
        obtain ⟨h1, h2⟩ := put hk hd hgt
        refine ⟨by omega, fun ι w N a Q hr hw hf hN he hsz hdf hp => enter he ?_⟩
        obtain ⟨xs, g1, g2⟩ := evCall_run (P := P) (w := w) he hq hfn hbd hnm
        simp only [Oper.wp, g1, Oper.upon]
        refine (hC ι w N xs hr hw hf (by omega) g2).mono ?_
        rintro e w1 ⟨ι1, x, rfl, g3, g4, g5⟩
        exact h2 ι w ι1 w1 N a Q x g4 hw hf hN g5 he hsz hdf g3 hp
end
end Go.Ev
