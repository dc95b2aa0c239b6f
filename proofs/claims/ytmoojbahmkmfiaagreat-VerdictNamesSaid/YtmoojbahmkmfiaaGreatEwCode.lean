/- THE EVALUATOR IS SOUND: code, and whole calls. -/
import Derived.Test.YtmoojbahmkmfiaaGreatEwD6
import Derived.Scope
namespace Go.Ew
open Go.RowKit
section
variable {P : Program}

theorem wpIn_scope_straight {F : Fence} {c : Code} {Q : Exit → Act → World → Prop} {a : Act} {w : World} (h : c.wpIn F 0 P (Exit.noGoto Q) a w) : (Code.scope c).wpIn F 0 P Q a w := by
  intro b k cs hro hb hr
  have s0 : step P (lone (b.atR a (.code (.scope c) :: k)) cs w) = .next (lone (b.atR a (.code c :: .inScope c :: k)) cs w) := step_lone_go (by simp [stepG, stepG.exec, Frame.atR])
  obtain ⟨e, a₁, w₁, hq, harr⟩ := h b (.inScope c :: k) cs hro hb hr
  refine (fun (hh : ∃ e a' w', Q e a' w' ∧ ArrivesIn (Machine.fenced P F) P (lone (b.atR a (.code c :: .inScope c :: k)) cs w) b k cs e a' w') => ?_) ?_
  · obtain ⟨e', a', w', h1, h2⟩ := hh
    exact ⟨e', a', w', h1, .of_steps (.one (fenced_calm hb hr rfl) s0) h2⟩
  · cases e with
    | normal => 
      have s1 : step P (lone (b.atR a₁ (.inScope c :: k)) cs w₁) = .next (lone (b.atR a₁ k) cs w₁) := step_lone_go (by simp [stepG, stepG.exec, Frame.atR])
      exact ⟨.normal, a₁, w₁, hq, StepsIn.trans harr (.one (fenced_calm hb hr rfl) s1)⟩
    | exit id => exact ⟨.exit id, a₁, w₁, hq, fun k' hk => harr.1 k' (by simp [exitTo, hk]), fun hr hk => harr.2 hr (by simp [exitTo, hk])⟩
    | goto l => exact hq.elim
    | ret => exact ⟨_, a₁, w₁, hq, harr⟩
    | panic ch => exact ⟨_, a₁, w₁, hq, harr⟩
    | outgrown => exact ⟨_, a₁, w₁, hq, harr⟩

/-- a loop, as so many rounds -/
def SoundL (P : Program) (ev : CodeFn) : Prop := ∀ sz c env H nx fin, ev sz (.loop c) env H nx = .ok fin → nx ≤ fin.nx ∧ ∃ n,
  ∀ F, Wide F → (F.round = none ∨ noRange c = true) → ∀ m ι w N a Q, HR ι H w → Wf H nx → Fresh ι nx N → fin.nx ≤ N → ER ι env a.tmps → a.tmps.size = sz → m ≤ w.heap.size → Marks m ι w a.defers → Post m ι H nx w sz fin Q → Code.roundsIn F 0 P c Q n a w

theorem toExit_not {x : X} (h : ¬ x.isNormal = true) {K : Act → World → Prop} {Q : Exit → Act → World → Prop} {a : Act} {w : World} (hq : Q x.toExit a w) : Exit.then K Q x.toExit a w := by
  cases x with
  | normal => exact absurd rfl h
  | exit id => exact hq
  | ret => exact hq

theorem step_loopL {ev : CodeFn} {O : Ora} (hs : Sound P ev) (hl : SoundL P ev) : SoundL P (stepC P ⟨ev, O⟩) := by
  intro sz c env H nx fin h
  change stSeq ev sz c (.loop c) env H nx = .ok fin at h
  unfold stSeq at h
  obtain ⟨r, hr, h⟩ := and_ok h
  obtain ⟨h1, h2⟩ := hs _ _ _ _ _ _ hr
  unfold thenK at h
  rw [sel_eq] at h
  split at h
  · rename_i hn
    obtain ⟨h3, n, h4⟩ := hl _ _ _ _ _ _ h
    refine ⟨by omega, n + 1, fun F hF hno m ι w N a Q hr hw hf hN he hsz hm hd hp => ?_⟩
    rw [roundsIn_succ]
    refine h2 F hF hno m ι w N a _ hr hw hf (by omega) he hsz hm hd fun ι' a' w' g1 g2 g3 g4 g5 => ?_
    rw [isNormal_ok hn]
    exact h4 F hF hno m ι' w' N a' Q g1 (g2.wf hw) (g2.fresh hf hw) hN g3 g4 (Nat.le_trans hm g2.size) g5 (hp.trans g2 hf hN hw)
  · rename_i hn
    cases ok_inj h
    refine ⟨h1, 1, fun F hF hno m ι w N a Q hr hw hf hN he hsz hm hd hp => ?_⟩
    rw [roundsIn_succ]
    refine h2 F hF hno m ι w N a _ hr hw hf hN he hsz hm hd fun ι' a' w' g1 g2 g3 g4 g5 => ?_
    exact toExit_not hn (hp ι' a' w' g1 g2 g3 g4 g5)

theorem noGoto_of {x : X} {Q : Exit → Act → World → Prop} {a : Act} {w : World} (h : Q x.toExit a w) : Exit.noGoto Q x.toExit a w := by cases x <;> exact h

theorem noRange_two {a b : Code} {F : Fence} (h : F.round = none ∨ sel (noRange a) (noRange b) false = true) : (F.round = none ∨ noRange a = true) ∧ (F.round = none ∨ noRange b = true) := by
  rcases h with h | h
  · exact ⟨.inl h, .inl h⟩
  · rw [sel_eq] at h
    split at h
    · exact ⟨.inr (by assumption), .inr h⟩
    · cases h

/-- A RANGE OVER A FUNCTION. -/
theorem range_ok {ev : Evr} (hs : SoundE P ev) {sz : Nat} {f : Operand} {ps : Array Tmp} {x y : Code} {env : Env} {H : Heap} {nx : Nat} {fin : Fin} (h : stRange P ev sz f ps.toList x y env H nx = .ok fin) :
    nx ≤ fin.nx ∧ ∀ F, Wide F → F.round = none → ∀ m ι w N a Q, HR ι H w → Wf H nx → Fresh ι nx N → fin.nx ≤ N → ER ι env a.tmps → a.tmps.size = sz → m ≤ w.heap.size → Marks m ι w a.defers → Post m ι H nx w sz fin Q → (Code.rangeFunc f ps x y).wpIn F 0 P Q a w := by
  unfold stRange at h
  obtain ⟨fv, hfv, h⟩ := and_ok h
  unfold rangeK at h
  split at h
  · rename_i g first captured
    obtain ⟨H1, h, hH1⟩ := newLoop_ok h
    obtain ⟨v, H2, nx2, h, hnx, fn, c, hfn, hbd, hnm, hC⟩ := callO_ex hs h
    obtain ⟨blk, lr, hb, hlr, h⟩ := getLoop_ok h
    obtain ⟨hst, h⟩ := must_ok h
    obtain ⟨blk2, lr2, H3, hb2, hl2, h, hH3⟩ := setLoop_ok h
    rw [hb] at hb2; injection hb2 with hb2; subst hb2
    rw [hlr] at hl2; injection hl2 with hl2; subst hl2
    cases ok_inj h
    have hst : lr.st = 0 ∨ lr.st = 2 := by
      rw [Bool.or_eq_true] at hst
      rcases hst with hst | hst
      · have := ble_iff.1 hst; omega
      · exact .inr (beq_iff.1 hst)
    refine ⟨by simp only; omega, fun F hF hround m ι w N a Q hr hw hf hN he hsz hm hd hp => ?_⟩
    simp only at hN
    refine wpIn_rangeFunc fun fid _ => ?_
    rw [hround]
    have hfr := arg_VR he hfv
    cases hfe : a.eval f <;> rw [hfe] at hfr <;> cases hfr
    rename_i f1 c1 hfst hcap
    have hLR : LR ι { env := env, sz := sz, params := ps.toList, assign := x, body := y, st := 0, jump := .normal } { state := .ready, pending := none, fn := fid, tmps := a.tmps, params := ps, assign := x, body := y, defers := w.heap.size } :=
      ⟨he, hsz, rfl, rfl, rfl, fun _ => rfl, fun h => (by cases h), fun _ _ => rfl⟩
    obtain ⟨g1, g2⟩ := loop_new hr hw hf (by omega) hLR hH1
    have hw1 := g2.wf hw
    have hf1 := g2.fresh hf hw
    have hp1 := Ix.set_same ι nx 0 ⟨w.heap.size + 1, 0, 0⟩
    have hne : (fn.name == "runtime.NumGoroutine") = false := by simpa using hnm
    have hmarks : Marks m (ι.set nx 0 ⟨w.heap.size + 1, 0, 0⟩) ((w.alloc (.deferred (some []))).alloc (.loop { state := .ready, pending := none, fn := fid, tmps := a.tmps, params := ps, assign := x, body := y, defers := w.heap.size })) ([{ target := .collected w.heap.size, args := #[] }] ++ a.defers) := by
      obtain ⟨Ds, e1, e2, e3⟩ := hd.step g2
      obtain ⟨Ds', e1', _, e3'⟩ := hd
      have hDs : ∀ D ∈ Ds, D < w.heap.size := by
        intro D hD
        have : mark D ∈ Ds'.map mark := by rw [← e1', e1]; exact List.mem_map_of_mem hD
        obtain ⟨D', h1, h2⟩ := List.mem_map.1 this
        have h3 : D' = D := by
          have := congrArg Deferred.target h2
          simp only [mark] at this
          injection this
        subst h3
        exact lt_of_get (e3' _ h1).2.1
      refine ⟨w.heap.size :: Ds, by rw [e1]; rfl, List.nodup_cons.2 ⟨fun hh => absurd (hDs _ hh) (Nat.lt_irrefl _), e2⟩, fun D hD => ?_⟩
      rcases List.mem_cons.1 hD with rfl | hD
      · refine ⟨hm, ?_, fun b v p hbp hpc => ?_⟩
        · rw [Below.heap_alloc _ _ _ (by simp [World.size_alloc])]; exact World.alloc_heap_new w _
        · rcases Ix.set_cases hbp with ⟨_, _, e3⟩ | h4
          · rw [e3] at hpc; simp only at hpc; omega
          · have := hr.bound _ _ _ h4; omega
      · exact e3 D hD
    refine ⟨_, _, ((w.alloc (.deferred (some []))).alloc (.loop { state := .ready, pending := none, fn := fid, tmps := a.tmps, params := ps, assign := x, body := y, defers := w.heap.size })), { target := .fn (.func g) c1, args := f1 ++ #[.func (.yield (w.heap.size + 1)) #[] #[]] }, ((w.alloc (.deferred (some []))).alloc (.loop { state := .ready, pending := none, fn := fid, tmps := a.tmps, params := ps, assign := x, body := y, defers := w.heap.size })), g, f1 ++ #[.func (.yield (w.heap.size + 1)) #[] #[]] ++ c1, ((w.alloc (.deferred (some []))).alloc (.loop { state := .ready, pending := none, fn := fid, tmps := a.tmps, params := ps, assign := x, body := y, defers := w.heap.size })), run_enterLoop_outer fid a.tmps ps x y, ?_, fun f' _ => hF.fn f', ?_, hF.room, ?_⟩
    · simp only [resolve, hfe, Deferred.ofValue, Sem.run_pure]
      simp [Act.eval]
    · simp only [invoke, callFunc, Sem.run_bind, run_program, Sem.run_pure, Result.andThen_ok, hfn, hne, hbd, Option.isNone_some, Bool.false_eq_true, if_false]
    · have hargs : VRL (ι.set nx 0 ⟨w.heap.size + 1, 0, 0⟩) (first ++ [.yield nx] ++ captured) (f1 ++ #[Value.func (.yield (w.heap.size + 1)) #[] #[]] ++ c1).toList := by
        simp only [Array.toList_append]
        exact ((hfst.mono g2.le).append (.cons (.yield hp1) .nil)).append (hcap.mono g2.le)
      refine (hC F hF _ _ N _ g1 hw1 hf1 (by omega) hargs).mono ?_
      rintro e w2 ⟨ι2, xv, rfl, k1, k2, k3⟩
      have hp2 := k3.le _ _ _ hp1
      obtain ⟨r2, hr2, hL2⟩ := k2.loop _ _ _ _ hb hlr hp2
      have hbusy : r2.state ≠ .busy := by
        rcases hst with h0 | h0
        · rw [hL2.ready h0]; simp
        · rw [hL2.done h0]; simp
      have hpend : r2.pending = lr.jump.code := hL2.jump (by omega) (by omega)
      obtain ⟨u1, u2⟩ := loop_turn (nx := nx2) k2 hb hp2 hr2 hH3 (r2 := { r2 with state := .exhausted }) ⟨hL2.env, hL2.sz, hL2.params, hL2.assign, hL2.body, fun h => (by cases h), fun h => (by cases h), fun h => absurd (show 3 ≤ 2 from h) (by decide)⟩
      have s2 := g2.trans k3 hf (N := N) (by omega) hw
      have s3 := s2.trans u2 hf (N := N) (by omega) hw
      have hq := hp ι2 { a with defers := [{ target := .collected w.heap.size, args := #[] }] ++ a.defers } _ u1 s3 (he.mono s3.le) hsz ((hmarks.step k3).step u2)
      have hend : (Instr.endLoop (w.heap.size + 1)).run P w2 = .ok lr.jump.code (w2.putObj (w.heap.size + 1) (.loop { r2 with state := .exhausted })) := by rw [← hpend]; exact run_endLoop hr2 hbusy
      refine ⟨_, _, hend, ?_⟩
      simp only at hq
      cases hj : lr.jump with
      | normal => rw [hj] at hq; exact hq
      | exit id => rw [hj] at hq; exact wpIn_exit hq
      | ret => rw [hj] at hq; exact wpIn_ret hq
  · cases h

theorem step_sound {ev : Evr} (hmix : P.follows .mixedOrders = true) (hs : SoundE P ev) (hl : SoundL P ev.code) : Sound P (stepC P ev) := by
  intro sz c env H nx fin h
  cases c with
  | skip =>
    cases ok_inj (show Res.ok (⟨.normal, env, H, nx⟩ : Fin) = Res.ok fin from h)
    exact ⟨Nat.le_refl _, fun F hF hno m ι w N a Q hr hw hf hN he hsz hm hd hp => wpIn_skip (hp ι a w hr .refl he hsz hd)⟩
  | label l =>
    cases ok_inj (show Res.ok (⟨.normal, env, H, nx⟩ : Fin) = Res.ok fin from h)
    exact ⟨Nat.le_refl _, fun F hF hno m ι w N a Q hr hw hf hN he hsz hm hd hp => wpIn_label (hp ι a w hr .refl he hsz hd)⟩
  | exit id =>
    cases ok_inj (show Res.ok (⟨.exit id, env, H, nx⟩ : Fin) = Res.ok fin from h)
    exact ⟨Nat.le_refl _, fun F hF hno m ι w N a Q hr hw hf hN he hsz hm hd hp => wpIn_exit (hp ι a w hr .refl he hsz hd)⟩
  | ret =>
    cases ok_inj (show Res.ok (⟨.ret, env, H, nx⟩ : Fin) = Res.ok fin from h)
    exact ⟨Nat.le_refl _, fun F hF hno m ι w N a Q hr hw hf hN he hsz hm hd hp => wpIn_ret (hp ι a w hr .refl he hsz hd)⟩
  | goto l => cases h
  | refuse why => cases h
  | rangeFunc f p x y =>
    obtain ⟨h1, h2⟩ := range_ok hs (show stRange P ev sz f p.toList x y env H nx = .ok fin from h)
    refine ⟨h1, fun F hF hno => h2 F hF (hno.resolve_right fun hh => by cases hh)⟩
  | region rid ops draw =>
    change stRegion P ev sz ops draw env H nx = .ok fin at h
    unfold stRegion at h
    cases draw with
    | true =>
      obtain ⟨hd, h⟩ := must_ok (show must (drawOk ops) "draw" _ = _ from h)
      obtain ⟨h1, h2⟩ := evDrw_ok (rid := rid) hs hmix hd h
      exact ⟨h1, fun F hF _ => h2 F hF⟩
    | false =>
      have h : evSeq P ev sz ops ops.toList env H nx = .ok fin := h
      obtain ⟨h1, h2⟩ := evSeq_ok hs (From.all ops) h
      refine ⟨h1, fun F hF hno m ι w N a Q hr hw hf hN he hsz hm hd hp => wpIn_region ?_⟩
      have := h2 F hF m ι w N a Q hr hw hf hN he hsz hm hd hp
      rwa [Array.length_toList, ← List.range_eq_range'] at this
  | seq a b =>
    change stSeq ev.code sz a b env H nx = .ok fin at h
    unfold stSeq at h
    obtain ⟨r, hr, h⟩ := and_ok h
    obtain ⟨h1, h2⟩ := hs.code _ _ _ _ _ _ hr
    unfold thenK at h
    rw [sel_eq] at h
    split at h
    · rename_i hn
      obtain ⟨h3, h4⟩ := hs.code _ _ _ _ _ _ h
      refine ⟨by omega, fun F hF hno m ι w N act Q hr hw hf hN he hsz hm hd hp => wpIn_seq ?_⟩
      obtain ⟨n1, n2⟩ := noRange_two (show F.round = none ∨ sel (noRange a) (noRange b) false = true from hno)
      refine h2 F hF n1 m ι w N act _ hr hw hf (by omega) he hsz hm hd fun ι' a' w' g1 g2 g3 g4 g5 => ?_
      rw [isNormal_ok hn]
      exact h4 F hF n2 m ι' w' N a' Q g1 (g2.wf hw) (g2.fresh hf hw) hN g3 g4 (Nat.le_trans hm g2.size) g5 (hp.trans g2 hf hN hw)
    · rename_i hn
      cases ok_inj h
      refine ⟨h1, fun F hF hno m ι w N act Q hr hw hf hN he hsz hm hd hp => wpIn_seq ?_⟩
      obtain ⟨n1, n2⟩ := noRange_two (show F.round = none ∨ sel (noRange a) (noRange b) false = true from hno)
      refine h2 F hF n1 m ι w N act _ hr hw hf hN he hsz hm hd fun ι' a' w' g1 g2 g3 g4 g5 => ?_
      exact toExit_not hn (hp ι' a' w' g1 g2 g3 g4 g5)
  | cond c a b =>
    change stCond ev.code sz c a b env H nx = .ok fin at h
    unfold stCond at h
    obtain ⟨v, hv, h⟩ := and_ok h
    obtain ⟨t, ht, h⟩ := and_ok h
    have hvb : v = .bool t := by
      cases v <;> first | (cases ok_inj (show Res.ok _ = Res.ok t from ht); rfl) | (cases ht)
    subst hvb
    obtain ⟨h1, h2⟩ := hs.code _ _ _ _ _ _ h
    refine ⟨h1, fun F hF hno m ι w N act Q hr hw hf hN he hsz hm hd hp => ?_⟩
    obtain ⟨n1, n2⟩ := noRange_two (show F.round = none ∨ sel (noRange a) (noRange b) false = true from hno)
    have hc := arg_VR he hv
    have hce : act.eval c = .bool t := by
      cases hx : act.eval c <;> rw [hx] at hc <;> cases hc; rfl
    refine wpIn_cond hce ?_
    have := h2 F hF (by cases t <;> assumption) m ι w N act Q hr hw hf hN he hsz hm hd hp
    rw [sel_eq] at this
    exact this
  | block id a =>
    change stBlock ev.code sz id a env H nx = .ok fin at h
    unfold stBlock at h
    obtain ⟨r, hr, h⟩ := and_ok h
    cases ok_inj h
    obtain ⟨h1, h2⟩ := hs.code _ _ _ _ _ _ hr
    refine ⟨h1, fun F hF hno m ι w N act Q hr hw hf hN he hsz hm hd hp => wpIn_block ?_⟩
    refine h2 F hF hno m ι w N act _ hr hw hf hN he hsz hm hd fun ι' a' w' g1 g2 g3 g4 g5 => ?_
    have hq := hp ι' a' w' g1 g2 g3 g4 g5
    simp only at hq
    cases hx : r.x with
    | normal => rw [hx] at hq; exact hq
    | ret => rw [hx] at hq; exact hq
    | exit id' =>
      rw [hx] at hq
      simp only [X.out, sel_eq, beq_iff] at hq
      show (if id' = id then Q .normal a' w' else Q (.exit id') a' w')
      split
      · rename_i he; rw [if_pos he] at hq; exact hq
      · rename_i he; rw [if_neg he] at hq; exact hq
  | loop a =>
    obtain ⟨h1, n, h2⟩ := step_loopL (O := ev.ora) hs.code hl _ _ _ _ _ _ h
    exact ⟨h1, fun F hF hno m ι w N act Q hr hw hf hN he hsz hm hd hp => wpIn_loop_rounds n (h2 F hF hno m ι w N act Q hr hw hf hN he hsz hm hd hp)⟩
  | scope a =>
    have h : ev.code sz a env H nx = .ok fin := h
    obtain ⟨h1, h2⟩ := hs.code _ _ _ _ _ _ h
    exact ⟨h1, fun F hF hno m ι w N act Q hr hw hf hN he hsz hm hd hp => wpIn_scope_straight (h2 F hF hno m ι w N act _ hr hw hf hN he hsz hm hd fun ι' a' w' g1 g2 g3 g4 g5 => noGoto_of (hp ι' a' w' g1 g2 g3 g4 g5))⟩

theorem evC_sound (hmix : P.follows .mixedOrders = true) {O : Ora} (hO : OraSound P O) : ∀ n, Sound P (evC P O n) ∧ SoundL P (evC P O n)
  | 0 => ⟨fun _ _ _ _ _ _ h => (by cases h), fun _ _ _ _ _ _ h => (by cases h)⟩
  | n+1 =>
    let ⟨h1, h2⟩ := evC_sound hmix hO n
    ⟨step_sound hmix ⟨h1, hO⟩ h2, step_loopL h1 h2⟩

/-- the table that knows nothing -/
def noOra : Ora := fun _ _ _ _ => none
theorem noOra_sound : OraSound P noOra := fun _ _ _ _ _ _ _ h => by cases h

/-- A CALL WITHOUT ARGUMENTS THAT THE EVALUATOR TAKES FOR TRUE returns true in every world, and leaves what was there as it was. -/
theorem evTrue_calls (hmix : P.follows .mixedOrders = true) {O : Ora} (hO : OraSound P O) {n : Nat} {f : FuncId} (h : evTrue P O n f = true) (w : World) :
    Calls P f #[] w fun e w' => e = .returned (.bool true) ∧ w'.os = w.os ∧ w'.output = w.output ∧ w'.tape = w.tape ∧ w.heap.size ≤ w'.heap.size ∧ ∀ c, c < w.heap.size → w'.heap[c]? = w.heap[c]? := by
  unfold evTrue isTrue at h
  split at h
  · rename_i b H' nx' hev
    subst h
    unfold evF at hev
    obtain ⟨v, H1, nx1, hk, _, fn, c, _, _, _, hC⟩ := callK_ex (evC_sound hmix hO n).1 hev
    have hk := ok_inj hk
    injection hk with e1 e2
    injection e2 with e2 e3
    subst e1 e2 e3
    have hr0 : HR (fun _ _ => none) .lf w := ⟨fun _ _ _ _ _ h => (by cases h), fun _ _ _ _ h => (by cases h), fun _ _ _ h => (by cases h), fun _ _ h => (by cases h), fun _ _ _ _ _ _ h => (by cases h), fun _ _ _ h => (by cases h), fun _ _ _ _ h => (by cases h)⟩
    rw [← callsIn_wide (n := 0)]
    refine (hC Fence.wide wide_wide (fun _ _ => none) w nx1 #[] hr0 (fun _ _ => rfl) (fun _ _ _ _ => rfl) (Nat.le_refl _) .nil).mono ?_
    rintro e w' ⟨ι', x, rfl, hx, _, hst⟩
    cases hx
    exact ⟨rfl, hst.os, hst.output, hst.tape, hst.size, fun c hc => hst.frame c hc fun _ _ _ h => by cases h⟩
  · cases h
end
#print axioms evTrue_calls
end Go.Ew
