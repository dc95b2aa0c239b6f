/- CALLS, and regions in the order of their text. -/
import Derived.Test.YtmoojbahmkmfiaaGreatEwLoop
namespace Go.Ew

def X.toExit : X → Exit
  | .normal => .normal
  | .exit id => .exit id
  | .ret => .ret

/-- what is known behind code -/
def Post (m : Nat) (ι : Ix) (H : Heap) (nx : Nat) (w : World) (sz : Nat) (fin : Fin) (Q : Exit → Act → World → Prop) : Prop :=
  ∀ ι' a' w', HR ι' fin.H w' → Stp ι H nx w ι' fin.H fin.nx w' → ER ι' fin.env a'.tmps → a'.tmps.size = sz → Marks m ι' w' a'.defers → Q fin.x.toExit a' w'
/-- AN EVALUATOR OF CODE IS SOUND. -/
def Sound (P : Program) (ev : CodeFn) : Prop := ∀ sz c env H nx fin, ev sz c env H nx = .ok fin → nx ≤ fin.nx ∧
  ∀ F, Wide F → (F.round = none ∨ noRange c = true) → ∀ m ι w N a Q, HR ι H w → Wf H nx → Fresh ι nx N → fin.nx ≤ N → ER ι env a.tmps → a.tmps.size = sz → m ≤ w.heap.size → Marks m ι w a.defers → Post m ι H nx w sz fin Q → c.wpIn F 0 P Q a w
/-- what is known of a call -/
def CallOk (P : Program) (f : FuncId) (l : List AV) (H : Heap) (nx : Nat) (v : AV) (H' : Heap) (nx' : Nat) : Prop :=
  nx ≤ nx' ∧ ∃ fn c, P.funcs[f]? = some fn ∧ fn.body = some c ∧ (fn.name != "runtime.NumGoroutine") = true ∧
    ∀ F, Wide F → ∀ ι w N (xs : Array Value), HR ι H w → Wf H nx → Fresh ι nx N → nx' ≤ N → VRL ι l xs.toList →
      CallsIn F 0 P f xs w fun e w' => ∃ ι' x, e = .returned x ∧ VR ι' v x ∧ HR ι' H' w' ∧ Stp ι H nx w ι' H' nx' w'
def OraSound (P : Program) (O : Ora) : Prop := ∀ f l H nx v H' nx', O f l H nx = some (v, H', nx') → CallOk P f l H nx v H' nx'
structure SoundE (P : Program) (ev : Evr) : Prop where
  code : Sound P ev.code
  ora : OraSound P ev.ora

section
variable {P : Program} {w : World} {ι : Ix} {H H' : Heap}

theorem Fresh.le {nx N M : Nat} (h : Fresh ι nx N) (hM : M ≤ N) : Fresh ι nx M := fun b v h1 h2 => h b v h1 (by omega)

theorem wpIn_intro {F : Fence} (hF : Wide F) {o : Oper} {a : Act} {K : Act → World → Prop} {Q : Exit → Act → World → Prop} (hd : ∀ c, o.op ≠ .defer c) (h : o.uponIn F 0 P a K Q ((execOp a.eval o).run P w)) : o.wpIn F 0 P a w K Q :=
  ⟨fun f _ => hF.fn f, by rw [Oper.semAt_eq _ _ _ hd]; exact h⟩
theorem evQ_nd {env : Env} {op : Op} {v : AV} (h : evQ P env H op = .ok v) : ∀ c, op ≠ .defer c := by rintro c rfl; cases h
theorem evAl_nd {env : Env} {op : Op} {v : List AV × Option (Nat × Nat)} (h : evAl P env op = .ok v) : ∀ c, op ≠ .defer c := by rintro c rfl; cases h
theorem evE_nd {env : Env} {op : Op} {nx : Nat} {β : Type} {k : AV → Heap → Nat → Res β} {r : β} (h : evE P env H nx op k = .ok r) : ∀ c, op ≠ .defer c := by rintro c rfl; cases h
theorem evCall_nd {env : Env} {op : Op} {q : Callee × List AV} (h : evCall env op = .ok q) : ∀ c, op ≠ .defer c := by rintro c rfl; cases h

theorem evCall_run {env : Env} {a : Act} (he : ER ι env a.tmps) {o : Oper} {g : FuncId} {l : List AV} {fn : Func} {c : Code} (h : evCall env o.op = .ok (.fn g, l)) (hf : P.funcs[g]? = some fn) (hb : fn.body = some c) (hn : (fn.name != "runtime.NumGoroutine") = true) :
    ∃ xs : Array Value, (execOp a.eval o).run P w = .ok (.enter g xs) w ∧ VRL ι l xs.toList := by
  obtain ⟨dst, op, type, pos, after, guard⟩ := o
  simp only at h
  cases op with
  | call cl =>
    obtain ⟨callee, cargs, cts⟩ := cl
    cases callee with
    | value f =>
      obtain ⟨fv, hfv, h⟩ := and_ok h
      unfold calleeA at h
      split at h
      · obtain ⟨m, hm, h⟩ := and_ok h
        have := ok_inj h
        injection this with h1 h2
        injection h1 with h1
        subst h1 h2
        have hfr := arg_VR he hfv
        cases hfe : a.eval f <;> rw [hfe] at hfr <;> cases hfr
        rename_i f1 c1 hfst hc
        have hne : (fn.name == "runtime.NumGoroutine") = false := by simpa using hn
        refine ⟨f1 ++ cargs.map a.eval ++ c1, ?_, ?_⟩
        · simp only [execOp, resolve, hfe, Deferred.ofValue, Sem.run_bind, Sem.run_pure, Result.andThen_ok, invoke, callFunc, run_program, hf, hne, hb, Option.isNone_some, Bool.false_eq_true, if_false]
        · simp only [Array.toList_append, Array.toList_map]
          exact (hfst.append (args_VR he hm)).append hc
      · obtain ⟨m, hm, h⟩ := and_ok h
        have := ok_inj h
        injection this with h1 h2
        cases h1
      · cases h
    | invoke => cases h
    | builtin => cases h
  | _ => cases h
/-- a call of yield, as the model runs it -/
theorem evCall_yield {env : Env} {a : Act} (he : ER ι env a.tmps) {o : Oper} {b : Nat} {l : List AV} (h : evCall env o.op = .ok (.yield b, l)) :
    ∃ (p : Pl) (xs : Array Value), ι b 0 = some p ∧ VRL ι l xs.toList ∧ (execOp a.eval o).run P w = (Instr.yield p.blk xs).run P w := by
  obtain ⟨dst, op, type, pos, after, guard⟩ := o
  simp only at h
  cases op with
  | call cl =>
    obtain ⟨callee, cargs, cts⟩ := cl
    cases callee with
    | value f =>
      obtain ⟨fv, hfv, h⟩ := and_ok h
      unfold calleeA at h
      split at h
      · obtain ⟨m, hm, h⟩ := and_ok h
        have := ok_inj h
        injection this with h1 h2
        cases h1
      · obtain ⟨m, hm, h⟩ := and_ok h
        have := ok_inj h
        injection this with h1 h2
        injection h1 with h1
        subst h1 h2
        have hfr := arg_VR he hfv
        cases hfe : a.eval f <;> rw [hfe] at hfr <;> cases hfr
        rename_i p hp
        refine ⟨p, cargs.map a.eval, hp, ?_, ?_⟩
        · rw [Array.toList_map]; exact args_VR he hm
        · simp [execOp, resolve, hfe, Deferred.ofValue, invoke]
      · cases h
    | invoke => cases h
    | builtin => cases h
  | _ => cases h

theorem resultsA_ok (hr : HR ι H w) {env : Env} {tmps : Array Value} (he : ER ι env tmps) : ∀ {rs : List ResultVar} {l : List AV}, resultsA P env H rs = .ok l →
    ∃ vs : List Value, (rs.mapM (m := Sem) fun | .tmp t => pure (tmps.getD t undef) | .cell a t => do loadVar t (← asAddr (tmps.getD a undef))).run P w = .ok vs w ∧ VRL ι l vs
  | [], l, h => by cases ok_inj (show Res.ok [] = Res.ok l from h); exact ⟨[], by simp, .nil⟩
  | .tmp t :: rs, l, h => by
    obtain ⟨v, hv, h⟩ := ofOpt_ok h
    obtain ⟨m, hm, h⟩ := and_ok h
    cases ok_inj h
    obtain ⟨vs, h1, h2⟩ := resultsA_ok hr he hm
    obtain ⟨x, hx, hvx⟩ := he _ _ hv
    refine ⟨x :: vs, ?_, .cons hvx h2⟩
    simp only [List.mapM_cons, Sem.run_bind, Sem.run_pure, Result.andThen_ok, h1]
    rw [show tmps.getD t undef = x by simp [hx]]
  | .cell a t :: rs, l, h => by
    obtain ⟨p, hp, h⟩ := ofOpt_ok h
    obtain ⟨v, hv, h⟩ := and_ok h
    obtain ⟨m, hm, h⟩ := and_ok h
    cases ok_inj h
    obtain ⟨vs, h1, h2⟩ := resultsA_ok hr he hm
    obtain ⟨x, hx, hpx⟩ := he _ _ hp
    obtain ⟨pa, y, hxa, h3, h4⟩ := loadA_ok (P := P) hr hv hpx
    refine ⟨y :: vs, ?_, .cons h4 h2⟩
    have : tmps.getD a undef = .pointer (some pa) := by rw [← hxa]; simp [hx]
    have hpa : (asAddr (tmps.getD a undef)).run P w = .ok pa w := by rw [this]; rfl
    simp only [List.mapM_cons, Sem.run_bind, Sem.run_pure, Result.andThen_ok, h1, hpa, h3]
theorem results_run (hr : HR ι H w) {env : Env} {tmps : Array Value} (he : ER ι env tmps) {fn : Func} {l : List AV} (h : resultsA P env H fn.results.toList = .ok l) :
    ∃ x, (results fn tmps).run P w = .ok x w ∧ VR ι (ofList l) x := by
  obtain ⟨vs, h1, h2⟩ := resultsA_ok (P := P) hr he h
  have hm : (fn.results.mapM (m := Sem) fun | .tmp t => pure (tmps.getD t undef) | .cell a t => do loadVar t (← asAddr (tmps.getD a undef))).run P w = .ok vs.toArray w := by
    rw [Array.mapM_eq_mapM_toList]
    simp only [Sem.run_map, h1, Result.andThen_ok]
  have hres : (results fn tmps).run P w = ((fn.results.mapM (m := Sem) fun | .tmp t => pure (tmps.getD t undef) | .cell a t => do loadVar t (← asAddr (tmps.getD a undef))).run P w).andThen fun vs w' => .ok (if h : vs.size = 1 then vs[0] else .tuple vs) w' := by
    unfold results
    simp only [Sem.run_bind, Sem.run_pure]
    rfl
  rw [hres, hm]
  simp only [Result.andThen_ok]
  cases h2 with
  | nil => exact ⟨_, rfl, .tuple .nil⟩
  | cons ha ht =>
    cases ht with
    | nil => exact ⟨_, rfl, ha⟩
    | cons hb ht => exact ⟨_, rfl, .tuple (.cons ha (.cons hb ht))⟩

theorem natMax_eq (a b : Nat) : natMax a b = max a b := by
  unfold natMax
  rw [sel_eq]
  simp only [ble_iff]
  split <;> omega

/-- A CALL. -/
theorem callK_ex {ev : CodeFn} (hs : Sound P ev) {β : Type} {f : FuncId} {l : List AV} {nx : Nat} {k : AV → Heap → Nat → Res β} {r : β} (h : callK P ev f l H nx k = .ok r) :
    ∃ v H' nx', k v H' nx' = .ok r ∧ CallOk P f l H nx v H' nx' := by
  unfold callK at h
  obtain ⟨fn, hf, h⟩ := ofOpt_ok h
  obtain ⟨c, hb, h⟩ := ofOpt_ok h
  obtain ⟨hn, h⟩ := must_ok h
  obtain ⟨env, h, henv⟩ := setCells_ok _ _ _ _ h
  obtain ⟨fin, hfin, h⟩ := and_ok h
  unfold endK at h
  obtain ⟨hx, h⟩ := must_ok h
  obtain ⟨m, hm, h⟩ := and_ok h
  obtain ⟨hnx, hsound⟩ := hs _ _ _ _ _ _ hfin
  refine ⟨_, _, _, h, hnx, fn, c, hf, hb, hn, fun F hF ι w N xs hr hw hfr hN hl => ?_⟩
  have hlen : l.length = xs.size := by rw [hl.length]; simp
  refine (callsIn_of_wp_marks (F := F.plain) hf hb (hF.fn f) (hsound F.plain hF.plain (.inl rfl) w.heap.size ι w N _ _ hr hw hfr hN ?_ ?_ (Nat.le_refl _) .nil ?_) rfl :)
  · intro t v ht
    rw [henv] at ht
    split at ht
    · rename_i hh
      obtain ⟨x, hx, hv⟩ := hl.get t ht
      have hx : xs[t]? = some x := by simpa using hx
      refine ⟨x, ?_, hv⟩
      rw [Array.getElem?_append, if_pos (Array.getElem?_eq_some_iff.1 hx).1]; exact hx
    · cases ht
  · simp only [Array.size_append, Array.size_replicate]
    rw [natMax_eq, hlen]; omega
  · intro ι' a' w' h1 h2 h3 h4 h5
    obtain ⟨Ds, hds, hnd, hD⟩ := h5
    have key : LeavesInM F.plain 0 P fn a'.tmps (fun e w' => ∃ ι' x, e = .returned x ∧ VR ι' (ofList m) x ∧ HR ι' fin.H w' ∧ Stp ι H nx w ι' fin.H fin.nx w') a'.defers .returning w' := by
      rw [hds]
      refine leaves_marks Ds hnd (fun D hh => (hD D hh).2.1) fun w2 q1 q2 q3 q4 q5 => ?_
      have hr2 : HR ι' fin.H w2 := h1.world (by omega) fun b v p hp => q2 _ fun hh => (hD _ hh).2.2 b v p hp rfl
      obtain ⟨x, hx', hvx⟩ := results_run (P := P) hr2 h3 hm
      exact ⟨x, hx', ι', x, rfl, hvx, hr2, h2.turn q1 (fun c hc => q2 c fun hh => by have := (hD c hh).1; omega) q3 q4 q5⟩
    cases hfx : fin.x with
    | exit id => rw [hfx] at hx; cases hx
    | normal => exact key
    | ret => exact key
theorem callO_ex {ev : Evr} (hs : SoundE P ev) {β : Type} {f : FuncId} {l : List AV} {nx : Nat} {k : AV → Heap → Nat → Res β} {r : β} (h : callO P ev f l H nx k = .ok r) :
    ∃ v H' nx', k v H' nx' = .ok r ∧ CallOk P f l H nx v H' nx' := by
  unfold callO at h
  cases ho : ev.ora f l H nx with
  | none => rw [ho] at h; exact callK_ex hs.code h
  | some q => rw [ho] at h; obtain ⟨v, H', nx'⟩ := q; exact ⟨v, H', nx', h, hs.ora _ _ _ _ _ _ _ ho⟩

theorem isNormal_ok {x : X} (h : x.isNormal = true) : x = .normal := by cases x <;> first | rfl | cases h

theorem roundEnd_ex {β : Type} {b : Nat} {g : Fin} {k : AV → Heap → Nat → Res β} {r : β} (h : roundEnd b g k = .ok r) :
    ∃ v H' st, k v H' g.nx = .ok r ∧ v = .bool g.x.isNormal ∧ (∃ blk l, g.H.get b = some blk ∧ blk.loop = some l ∧ ∀ j, H'.get j = if j = b then some { blk with loop := some { l with st := st, jump := g.x } } else g.H.get j) ∧
      ((g.x.isNormal = true ∧ st = 0) ∨ (g.x.isNormal = false ∧ st = 2)) := by
  unfold roundEnd at h
  rw [sel_eq] at h
  split at h
  · rename_i hx
    obtain ⟨blk, l, H', h1, h2, h3, h4⟩ := setLoop_ok h
    exact ⟨_, H', 0, h3, by rw [hx], ⟨blk, l, h1, h2, by rw [isNormal_ok hx]; exact h4⟩, .inl ⟨hx, rfl⟩⟩
  · rename_i hx
    have hx : g.x.isNormal = false := by simpa using hx
    obtain ⟨blk, l, H', h1, h2, h3, h4⟩ := setLoop_ok h
    exact ⟨_, H', 2, h3, by rw [hx], ⟨blk, l, h1, h2, h4⟩, .inr ⟨hx, rfl⟩⟩

/-- A ROUND. -/
def YieldOk (P : Program) (b : Nat) (l : List AV) (H : Heap) (nx : Nat) (v : AV) (H' : Heap) (nx' : Nat) : Prop :=
  nx ≤ nx' ∧ ∀ F, Wide F → ∀ ι w N (xs : Array Value) p, HR ι H w → Wf H nx → Fresh ι nx N → nx' ≤ N → VRL ι l xs.toList → ι b 0 = some p →
    ∃ f tmps assign body, (Instr.yield p.blk xs).run P w = .ok (.round p.blk f tmps assign body) w ∧
      RoundIn F 0 P p.blk f tmps assign body w fun e w' => ∃ ι' x, e = .returned x ∧ VR ι' v x ∧ HR ι' H' w' ∧ Stp ι H nx w ι' H' nx' w'
theorem yieldK_ex {ev : CodeFn} (hs : Sound P ev) {β : Type} {b : Nat} {l : List AV} {nx : Nat} {k : AV → Heap → Nat → Res β} {r : β} (h : yieldK ev b l H nx k = .ok r) :
    ∃ v H' nx', k v H' nx' = .ok r ∧ YieldOk P b l H nx v H' nx' := by
  unfold yieldK at h
  obtain ⟨blk, lr, hb, hlr, h⟩ := getLoop_ok h
  obtain ⟨hna, h⟩ := must_ok h
  obtain ⟨hnb, h⟩ := must_ok h
  obtain ⟨env, h, hlen, henv⟩ := putPs_ok h
  obtain ⟨f1, hf1, h⟩ := and_ok h
  obtain ⟨hx1, h⟩ := must_ok h
  obtain ⟨blk1, lr1, hb1, hl1, h⟩ := getLoop_ok h
  obtain ⟨hst, h⟩ := must_ok h
  have hst : lr1.st = 0 := beq_iff.1 hst
  obtain ⟨blk2, lr2, H2, hb2, hl2, h, hH2⟩ := setLoop_ok h
  rw [hb1] at hb2; injection hb2 with hb2; subst hb2
  rw [hl1] at hl2; injection hl2 with hl2; subst hl2
  obtain ⟨g, hg, h⟩ := and_ok h
  obtain ⟨v, H', st, hk, hv, ⟨blk3, lr3, hb3, hl3, hH3⟩, hst3⟩ := roundEnd_ex h
  obtain ⟨n1, s1⟩ := hs _ _ _ _ _ _ hf1
  obtain ⟨n2, s2⟩ := hs _ _ _ _ _ _ hg
  refine ⟨v, H', g.nx, hk, by omega, fun F hF ι w N xs p hr hw hf hN hl hp => ?_⟩
  obtain ⟨r', hr', hLR⟩ := hr.loop _ _ _ _ hb hlr hp
  have hsize : xs.size = r'.params.size := by
    have e1 := hl.length
    have e2 : r'.params.toList.length = lr.params.length := by rw [hLR.params]
    simp only [Array.length_toList] at e1 e2
    omega
  refine ⟨_, _, _, _, run_yield hr' hsize, roundIn_of_wpIn (hF.fn _) ?_⟩
  have hfold : (r'.params.zip xs).foldl (fun tmps (t, a) => tmps.setIfInBounds t a) r'.tmps = (lr.params.zip xs.toList).foldl (fun tmps (t, a) => tmps.setIfInBounds t a) r'.tmps := by
    rw [← Array.foldl_toList, Array.toList_zip, hLR.params]
  rw [hfold, hLR.assign, hLR.body]
  obtain ⟨q1, q2⟩ := henv ι r'.tmps xs.toList hLR.env hLR.sz hl
  refine s1 (F.inRound p.blk) (hF.inRound _) (.inr hna) w.heap.size ι w N _ _ hr hw hf (by omega) q1 q2 (Nat.le_refl _) .nil fun ι1 a1 w1 g1 g2 g3 g4 g5 => ?_
  rw [isNormal_ok hx1]
  have hp1 := g2.le _ _ _ hp
  obtain ⟨r1, hr1, hL1⟩ := g1.loop _ _ _ _ hb1 hl1 hp1
  refine ⟨_, run_beginRound hr1 (hL1.ready hst), ?_⟩
  obtain ⟨t1, t2⟩ := loop_turn (nx := f1.nx) g1 hb1 hp1 hr1 hH2 (r2 := { r1 with state := .busy }) ⟨hL1.env, hL1.sz, hL1.params, hL1.assign, hL1.body, fun h => (by cases h), fun h => (by cases h), fun _ h => absurd rfl h⟩
  have hw1 := g2.wf hw
  have hf1' := g2.fresh hf hw
  refine s2 (F.inRound p.blk) (hF.inRound _) (.inr hnb) w.heap.size ι1 _ N _ _ t1 (t2.wf hw1) (t2.fresh hf1' hw1) (by omega) g3 g4 (by rw [World.putObj_size]; exact g2.size) (g5.step t2) fun ι3 a3 w3 k1 k2 k3 k4 k5 => ?_
  have hp3 := k2.le _ _ _ hp1
  obtain ⟨r3, hr3, hL3⟩ := k1.loop _ _ _ _ hb3 hl3 hp3
  have fin : ∀ (jump : Option Code), jump = g.x.code → jump.isNone = g.x.isNormal → ∃ v' w', (Instr.endRound p.blk jump).run P w3 = .ok v' w' ∧ ∃ ι' x, Ending.returned v' = .returned x ∧ VR ι' v x ∧ HR ι' H' w' ∧ Stp ι H nx w ι' H' g.nx w' := by
    intro jump hj hn
    refine ⟨_, _, run_endRound jump hr3, ι3, _, rfl, ?_, ?_⟩
    · rw [hv, hn]; exact .bool _
    · obtain ⟨u1, u2⟩ := loop_turn (nx := g.nx) k1 hb3 hp3 hr3 hH3 (r2 := { r3 with state := if jump.isNone then .ready else .done, pending := jump }) ⟨hL3.env, hL3.sz, hL3.params, hL3.assign, hL3.body, fun h => by
          simp only at h
          rcases hst3 with ⟨e1, e2⟩ | ⟨e1, e2⟩
          · simp [hn, e1]
          · omega, fun h => by
          simp only at h
          rcases hst3 with ⟨e1, e2⟩ | ⟨e1, e2⟩
          · omega
          · simp [hn, e1], fun _ _ => hj⟩
      have s12 := (g2.trans t2 hf (N := N) (by omega) hw)
      have s13 := s12.trans k2 hf (N := N) (by omega) hw
      exact ⟨u1, s13.trans u2 hf (N := N) (by omega) hw⟩
  cases hgx : g.x with
  | normal => exact fin none (by rw [hgx]; rfl) (by rw [hgx]; rfl)
  | exit id => exact fin (some (.exit id)) (by rw [hgx]; rfl) (by rw [hgx]; rfl)
  | ret => exact fin (some .ret) (by rw [hgx]; rfl) (by rw [hgx]; rfl)

/-- A CALL, of whatever kind, as an operation. -/
theorem anyK_ex {ev : Evr} (hs : SoundE P ev) {β : Type} {env : Env} {op : Op} {q : Callee × List AV} {nx : Nat} {k : AV → Heap → Nat → Res β} {r : β} (hq : evCall env op = .ok q) (h : anyK P ev q.1 q.2 H nx k = .ok r) :
    ∃ v H' nx', k v H' nx' = .ok r ∧ nx ≤ nx' ∧ ∀ F, Wide F → ∀ ι w N a (o : Oper) (K : Act → World → Prop) Q, o.op = op → HR ι H w → Wf H nx → Fresh ι nx N → nx' ≤ N → ER ι env a.tmps →
      (∀ ι' w' x, VR ι' v x → HR ι' H' w' → Stp ι H nx w ι' H' nx' w' → K (a.put o.dst x) w') → o.wpIn F 0 P a w K Q := by
  obtain ⟨c, l⟩ := q
  cases c with
  | fn f =>
    obtain ⟨v, H', nx', hk, hnx, fn, c, hfn, hbd, hnm, hC⟩ := callO_ex hs (show callO P ev f l H nx k = .ok r from h)
    refine ⟨v, H', nx', hk, hnx, fun F hF ι w N a o K Q ho hr hw hf hN he hK => ?_⟩
    subst ho
    obtain ⟨xs, g1, g2⟩ := evCall_run (P := P) (w := w) he hq hfn hbd hnm
    refine wpIn_intro hF (evCall_nd hq) ?_
    simp only [g1, Oper.uponIn]
    refine ⟨hF.room, (hC F hF ι w N xs hr hw hf hN g2).mono ?_⟩
    rintro e w1 ⟨ι1, x, rfl, g3, g4, g5⟩
    exact hK ι1 w1 x g3 g4 g5
  | yield b =>
    obtain ⟨v, H', nx', hk, hnx, hY⟩ := yieldK_ex hs.code (show yieldK ev.code b l H nx k = .ok r from h)
    refine ⟨v, H', nx', hk, hnx, fun F hF ι w N a o K Q ho hr hw hf hN he hK => ?_⟩
    subst ho
    obtain ⟨p, xs, g0, g1, g2⟩ := evCall_yield (P := P) (w := w) he hq
    obtain ⟨f, tmps, assign, body, g3, g4⟩ := hY F hF ι w N xs p hr hw hf hN g1 g0
    refine wpIn_intro hF (evCall_nd hq) ?_
    simp only [g2, g3, Oper.uponIn]
    refine ⟨hF.room, g4.mono ?_⟩
    rintro e w1 ⟨ι1, x, rfl, g3, g4, g5⟩
    exact hK ι1 w1 x g3 g4 g5

theorem guard_ok {env : Env} {a : Act} {ops : Array Oper} {o : Oper} {g : Bool} (he : ER ι env a.tmps) (h : guardA ops env o = .ok g) : Region.wanted o (yielded ops a.tmps) = g := by
  unfold guardA at h
  unfold Region.wanted
  split at h
  · rename_i hg; rw [hg]; exact ok_inj h
  · rename_i j wv hg
    rw [hg]
    obtain ⟨t, ht, h⟩ := ofOpt_ok h
    obtain ⟨v, hv, h⟩ := ofOpt_ok h
    obtain ⟨x, hx, hvx⟩ := he _ _ hv
    have hy : ((ops[j]?).bind (·.dst)).bind (a.tmps[·]?) = some x := by rw [ht]; exact hx
    rw [← ok_inj h]
    unfold yielded
    simp only [hy]
    cases hvx <;> first | (simp [isIt, sameBool_eq]; done) | rfl

theorem put_ER {env env' : Env} {a : Act} {d : Option Tmp} {v : AV} {x : Value} {sz : Nat} (he : ER ι env a.tmps) (hs : a.tmps.size = sz) (hd : ∀ t, d = some t → t < sz)
    (hg : ∀ j, env'.get j = if d = some j then some v else env.get j) (hv : VR ι v x) : ER ι env' (a.put d x).tmps ∧ (a.put d x).tmps.size = sz := by
  cases d with
  | none => exact ⟨fun t u hu => he t u (by rw [hg, if_neg (by simp)] at hu; exact hu), hs⟩
  | some t =>
    have ht := hd t rfl
    refine ⟨fun j u hu => ?_, by simp [Act.put, hs]⟩
    rw [hg] at hu
    simp only [Act.put]
    by_cases hj : t = j
    · subst hj
      rw [if_pos rfl] at hu
      injection hu with hu; subst hu
      exact ⟨x, by rw [Array.getElem?_setIfInBounds, if_pos rfl, if_pos (by rw [hs]; exact ht)], hv⟩
    · rw [if_neg (by simpa using hj)] at hu
      obtain ⟨y, hy, hvy⟩ := he j u hu
      exact ⟨y, by rw [Array.getElem?_setIfInBounds_ne hj]; exact hy, hvy⟩
theorem put_defers {a : Act} {d : Option Tmp} {x : Value} : (a.put d x).defers = a.defers := by cases d <;> rfl

theorem Post.trans {m nx nx1 N sz : Nat} {w1 : World} {ι1 : Ix} {H1 : Heap} {fin : Fin} {Q : Exit → Act → World → Prop} (h : Post m ι H nx w sz fin Q) (s : Stp ι H nx w ι1 H1 nx1 w1) (hf : Fresh ι nx N) (hN : fin.nx ≤ N) (hw : Wf H nx) : Post m ι1 H1 nx1 w1 sz fin Q :=
  fun ι' a' w' h1 h2 h3 h4 h5 => h ι' a' w' h1 (s.trans h2 hf hN hw) h3 h4 h5

/-- the operations of a region from i on -/
def From (ops : Array Oper) (i : Nat) (l : List Oper) : Prop := ∀ j, l[j]? = if j < l.length then ops[i + j]? else none
theorem From.cons {ops : Array Oper} {i : Nat} {o : Oper} {l : List Oper} (h : From ops i (o :: l)) : ops[i]? = some o ∧ From ops (i + 1) l := by
  refine ⟨?_, fun j => ?_⟩
  · have := h 0; simp at this; exact this.symm
  · have := h (j + 1)
    simp only [List.getElem?_cons_succ, List.length_cons, Nat.add_lt_add_iff_right] at this
    rw [this, show i + (j + 1) = i + 1 + j by omega]

theorem evSeq_ok {ev : Evr} (hs : SoundE P ev) {sz : Nat} {ops : Array Oper} : ∀ {l : List Oper} {i : Nat} {env : Env} {H : Heap} {nx : Nat} {fin : Fin}, From ops i l → evSeq P ev sz ops l env H nx = .ok fin →
    nx ≤ fin.nx ∧ ∀ F, Wide F → ∀ m ι w N a Q, HR ι H w → Wf H nx → Fresh ι nx N → fin.nx ≤ N → ER ι env a.tmps → a.tmps.size = sz → m ≤ w.heap.size → Marks m ι w a.defers → Post m ι H nx w sz fin Q → wpOpsIn F 0 P ops Q (List.range' i l.length) a w
  | [], i, env, H, nx, fin, _, h => by
    cases ok_inj (show Res.ok (⟨.normal, env, H, nx⟩ : Fin) = Res.ok fin from h)
    exact ⟨Nat.le_refl _, fun F hF m ι w N a Q hr hw hf hN he hsz hm hd hp => hp ι a w hr .refl he hsz hd⟩
  | o :: l, i, env, H, nx, fin, hfrom, h => by
    obtain ⟨hoi, hfrom'⟩ := hfrom.cons
    change seqStep P ev sz ops o (evSeq P ev sz ops l) env H nx = .ok fin at h
    unfold seqStep at h
    obtain ⟨g, hg, h⟩ := and_ok h
    rw [sel_eq] at h
    have hrange : List.range' i (o :: l).length = i :: List.range' (i + 1) l.length := by simp [List.range'_succ]
    -- a value put, and the rest
    have put : ∀ {v : AV} {env' : Env} {H1 : Heap} {nx1 : Nat}, evSeq P ev sz ops l env' H1 nx1 = .ok fin → (∀ t, o.dst = some t → t < sz) → (∀ j, env'.get j = if o.dst = some j then some v else env.get j) →
        nx1 ≤ fin.nx ∧ ∀ (F : Fence), Wide F → ∀ (m : Nat) (ι : Ix) (w : World) (ι1 : Ix) (w1 : World) (N : Nat) (a : Act) (Q : Exit → Act → World → Prop) (x : Value), HR ι1 H1 w1 → Wf H nx → Fresh ι nx N → fin.nx ≤ N → Stp ι H nx w ι1 H1 nx1 w1 → ER ι env a.tmps → a.tmps.size = sz → m ≤ w.heap.size → Marks m ι w a.defers → VR ι1 v x → Post m ι H nx w sz fin Q →
          wpOpsIn F 0 P ops Q (List.range' (i + 1) l.length) (a.put o.dst x) w1 := by
      intro v env' H1 nx1 hk hd hgt
      obtain ⟨h1, h2⟩ := evSeq_ok hs hfrom' hk
      refine ⟨h1, fun F hF m ι w ι1 w1 N a Q x hr1 hw hf hN hst he hsz hm hdf hv hp => ?_⟩
      obtain ⟨e1, e2⟩ := put_ER (he.mono hst.le) hsz hd hgt hv
      exact h2 F hF m ι1 w1 N _ Q hr1 (hst.wf hw) (hst.fresh hf hw) hN e1 e2 (Nat.le_trans hm hst.size) (by rw [put_defers]; exact hdf.step hst) (hp.trans hst hf hN hw)
    split at h
    case isFalse hgf =>
      obtain ⟨env', hk, hd, hgt⟩ := putQ_ok h
      obtain ⟨h1, h2⟩ := put hk hd hgt
      refine ⟨h1, fun F hF m ι w N a Q hr hw hf hN he hsz hm hdf hp => ?_⟩
      rw [hrange]
      have hwant := guard_ok he hg
      simp only [wpOpsIn, hoi]
      rw [if_neg (by rw [hwant]; exact hgf)]
      exact ⟨fun f _ => hF.fn f, h2 F hF m ι w ι w N a Q undef hr hw hf hN .refl he hsz hm hdf (.tuple .nil) hp⟩
    case isTrue hgt0 =>
      have enter : ∀ {F : Fence} {ι : Ix} {a : Act} {w : World} {Q : Exit → Act → World → Prop}, ER ι env a.tmps → o.wpIn F 0 P a w (wpOpsIn F 0 P ops Q (List.range' (i + 1) l.length)) Q → wpOpsIn F 0 P ops Q (List.range' i (o :: l).length) a w := by
        intro F ι a w Q he hh
        rw [hrange]
        have hwant := guard_ok he hg
        simp only [wpOpsIn, hoi]
        rw [if_pos (by rw [hwant]; exact hgt0)]
        exact hh
      have quiet : ∀ {v : AV} {env' : Env}, evQ P env H o.op = .ok v → evSeq P ev sz ops l env' H nx = .ok fin → (∀ t, o.dst = some t → t < sz) → (∀ j, env'.get j = if o.dst = some j then some v else env.get j) →
          nx ≤ fin.nx ∧ ∀ (F : Fence), Wide F → ∀ (m : Nat) (ι : Ix) (w : World) (N : Nat) (a : Act) (Q : Exit → Act → World → Prop), HR ι H w → Wf H nx → Fresh ι nx N → fin.nx ≤ N → ER ι env a.tmps → a.tmps.size = sz → m ≤ w.heap.size → Marks m ι w a.defers → Post m ι H nx w sz fin Q → wpOpsIn F 0 P ops Q (List.range' i (o :: l).length) a w := by
        intro v env' hv hk hd hgt
        obtain ⟨h1, h2⟩ := put hk hd hgt
        refine ⟨h1, fun F hF m ι w N a Q hr hw hf hN he hsz hm hdf hp => enter he ?_⟩
        obtain ⟨x, g1, g2⟩ := evQ_ok (P := P) hr he hv
        refine wpIn_intro hF (evQ_nd hv) ?_
        simp only [g1, Oper.uponIn]
        exact h2 F hF m ι w ι w N a Q x hr hw hf hN .refl he hsz hm hdf g2 hp
      unfold seqDo at h
      split at h
      · obtain ⟨v, hv, h⟩ := and_ok h
        obtain ⟨env', hk, hd, hgt⟩ := putQ_ok h
        exact quiet hv hk hd hgt
      · obtain ⟨v, hv, h⟩ := and_ok h
        obtain ⟨env', hk, hd, hgt⟩ := putK_ok h
        exact quiet hv hk hd hgt
      · obtain ⟨v, hv, h⟩ := and_ok h
        obtain ⟨env', hk, hd, hgt⟩ := putK_ok h
        exact quiet hv hk hd hgt
      · obtain ⟨q, hq, h⟩ := and_ok h
        obtain ⟨H1, hk, _, hH⟩ := newBlk_ex h
        obtain ⟨env', hk, hd, hgt⟩ := putK_ok hk
        obtain ⟨h1, h2⟩ := put hk hd hgt
        refine ⟨by omega, fun F hF m ι w N a Q hr hw hf hN he hsz hm hdf hp => enter he ?_⟩
        obtain ⟨cs, el, g1, g2, g3⟩ := evAl_ok (P := P) (w := w) he hq
        obtain ⟨g4, g5⟩ := hH ι w N cs el cs.toList hr hw hf (by omega) g2 (by rw [g2.length]; simp) (fun i x hx => by simpa using hx)
        refine wpIn_intro hF (evAl_nd hq) ?_
        simp only [g1, Oper.uponIn]
        exact h2 F hF m ι w _ _ N a Q _ g4 hw hf hN g5 he hsz hm hdf (newVal_VR (p := ⟨w.heap.size, cs.size, 0⟩) (Ix.set_same _ _ _ _) g3) hp
      · have hnd := evE_nd h
        obtain ⟨v, H1, nx1, hk, hnx, hE⟩ := evE_ex (P := P) h
        obtain ⟨env', hk, hd, hgt⟩ := putK_ok hk
        obtain ⟨h1, h2⟩ := put hk hd hgt
        refine ⟨by omega, fun F hF m ι w N a Q hr hw hf hN he hsz hm hdf hp => enter he ?_⟩
        obtain ⟨ι1, w1, x, g1, g2, g3, g4⟩ := hE ι w N a o rfl hr hw hf (by omega) he
        refine wpIn_intro hF hnd ?_
        rcases g1 with g1 | ⟨g1, rfl⟩
        · simp only [g1, Oper.uponIn]
          exact h2 F hF m ι w ι1 w1 N a Q x g3 hw hf hN g4 he hsz hm hdf g2 hp
        · simp only [g1, Oper.uponIn]
          exact h2 F hF m ι w ι1 w1 N a Q undef g3 hw hf hN g4 he hsz hm hdf g2 hp
      · obtain ⟨q, hq, h⟩ := and_ok h
        obtain ⟨v, H1, nx1, hk, hnx, hC⟩ := anyK_ex hs hq h
        obtain ⟨env', hk, hd, hgt⟩ := putQ_ok hk
        obtain ⟨h1, h2⟩ := put hk hd hgt
        refine ⟨by omega, fun F hF m ι w N a Q hr hw hf hN he hsz hm hdf hp => enter he ?_⟩
        exact hC F hF ι w N a o _ Q rfl hr hw hf (by omega) he fun ι1 w1 x g3 g4 g5 => h2 F hF m ι w ι1 w1 N a Q x g4 hw hf hN g5 he hsz hm hdf g3 hp
end
end Go.Ew
