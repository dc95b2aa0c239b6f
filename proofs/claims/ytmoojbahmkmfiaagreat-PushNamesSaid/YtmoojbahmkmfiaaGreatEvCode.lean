/- THE EVALUATOR IS SOUND: code, and whole calls. -/
import Derived.Test.YtmoojbahmkmfiaaGreatEvD6
namespace Go.Ev
section
variable {P : Program}

/-- a loop, as so many rounds -/
def SoundL (P : Program) (ev : CodeFn) : Prop := ∀ sz c env H nx fin, ev sz (.loop c) env H nx = .ok fin → nx ≤ fin.nx ∧ ∃ m,
  ∀ ι w N a Q, HR ι H w → Wf H nx → Fresh ι nx N → fin.nx ≤ N → ER ι env a.tmps → a.tmps.size = sz → a.defers = [] → Post ι H nx w sz fin Q → Code.rounds P c Q m a w

theorem isNormal_ok {x : X} (h : x.isNormal = true) : x = .normal := by cases x <;> first | rfl | cases h
theorem toExit_not {x : X} (h : ¬ x.isNormal = true) {K : Act → World → Prop} {Q : Exit → Act → World → Prop} {a : Act} {w : World} (hq : Q x.toExit a w) : Exit.then K Q x.toExit a w := by
  cases x with
  | normal => exact absurd rfl h
  | exit id => exact hq
  | ret => exact hq

theorem step_loopL {ev : CodeFn} (hs : Sound P ev) (hl : SoundL P ev) : SoundL P (stepC P ev) := by
  intro sz c env H nx fin h
  change stSeq ev sz c (.loop c) env H nx = .ok fin at h
  unfold stSeq at h
  obtain ⟨r, hr, h⟩ := and_ok h
  obtain ⟨h1, h2⟩ := hs _ _ _ _ _ _ hr
  unfold thenK at h
  rw [sel_eq] at h
  split at h
  · rename_i hn
    obtain ⟨h3, m, h4⟩ := hl _ _ _ _ _ _ h
    refine ⟨by omega, m + 1, fun ι w N a Q hr hw hf hN he hsz hd hp => ?_⟩
    rw [rounds_succ]
    refine h2 ι w N a _ hr hw hf (by omega) he hsz hd fun ι' a' w' g1 g2 g3 g4 g5 => ?_
    rw [isNormal_ok hn]
    exact h4 ι' w' N a' Q g1 (g2.wf hw) (g2.fresh hf hw) hN g3 g4 g5 (hp.trans g2 hf hN hw)
  · rename_i hn
    cases ok_inj h
    refine ⟨h1, 1, fun ι w N a Q hr hw hf hN he hsz hd hp => ?_⟩
    rw [rounds_succ]
    refine h2 ι w N a _ hr hw hf hN he hsz hd fun ι' a' w' g1 g2 g3 g4 g5 => ?_
    exact toExit_not hn (hp ι' a' w' g1 g2 g3 g4 g5)

theorem noGoto_of {x : X} {Q : Exit → Act → World → Prop} {a : Act} {w : World} (h : Q x.toExit a w) : Exit.noGoto Q x.toExit a w := by cases x <;> exact h

theorem step_sound {ev : CodeFn} (hmix : P.follows .mixedOrders = true) (hs : Sound P ev) (hl : SoundL P ev) : Sound P (stepC P ev) := by
  intro sz c env H nx fin h
  cases c with
  | skip =>
    cases ok_inj (show Res.ok (⟨.normal, env, H, nx⟩ : Fin) = Res.ok fin from h)
    exact ⟨Nat.le_refl _, fun ι w N a Q hr hw hf hN he hsz hd hp => wp_skip (hp ι a w hr .refl he hsz hd)⟩
  | label l =>
    cases ok_inj (show Res.ok (⟨.normal, env, H, nx⟩ : Fin) = Res.ok fin from h)
    exact ⟨Nat.le_refl _, fun ι w N a Q hr hw hf hN he hsz hd hp => wp_label (hp ι a w hr .refl he hsz hd)⟩
  | exit id =>
    cases ok_inj (show Res.ok (⟨.exit id, env, H, nx⟩ : Fin) = Res.ok fin from h)
    exact ⟨Nat.le_refl _, fun ι w N a Q hr hw hf hN he hsz hd hp => wp_exit (hp ι a w hr .refl he hsz hd)⟩
  | ret =>
    cases ok_inj (show Res.ok (⟨.ret, env, H, nx⟩ : Fin) = Res.ok fin from h)
    exact ⟨Nat.le_refl _, fun ι w N a Q hr hw hf hN he hsz hd hp => wp_ret (hp ι a w hr .refl he hsz hd)⟩
  | goto l => cases h
  | refuse why => cases h
  | rangeFunc f p x y => cases h
  | region rid ops draw =>
    change stRegion P ev sz ops draw env H nx = .ok fin at h
    unfold stRegion at h
    cases draw with
    | true =>
      obtain ⟨hd, h⟩ := must_ok (show must (drawOk ops) "draw" _ = _ from h)
      exact evDrw_ok hs hmix hd h
    | false =>
      have h : evSeq P ev sz ops ops.toList env H nx = .ok fin := h
      obtain ⟨h1, h2⟩ := evSeq_ok hs (From.all ops) h
      refine ⟨h1, fun ι w N a Q hr hw hf hN he hsz hd hp => wp_region ?_⟩
      have := h2 ι w N a Q hr hw hf hN he hsz hd hp
      rwa [Array.length_toList, ← List.range_eq_range'] at this
  | seq a b =>
    change stSeq ev sz a b env H nx = .ok fin at h
    unfold stSeq at h
    obtain ⟨r, hr, h⟩ := and_ok h
    obtain ⟨h1, h2⟩ := hs _ _ _ _ _ _ hr
    unfold thenK at h
    rw [sel_eq] at h
    split at h
    · rename_i hn
      obtain ⟨h3, h4⟩ := hs _ _ _ _ _ _ h
      refine ⟨by omega, fun ι w N act Q hr hw hf hN he hsz hd hp => wp_seq ?_⟩
      refine h2 ι w N act _ hr hw hf (by omega) he hsz hd fun ι' a' w' g1 g2 g3 g4 g5 => ?_
      rw [isNormal_ok hn]
      exact h4 ι' w' N a' Q g1 (g2.wf hw) (g2.fresh hf hw) hN g3 g4 g5 (hp.trans g2 hf hN hw)
    · rename_i hn
      cases ok_inj h
      refine ⟨h1, fun ι w N act Q hr hw hf hN he hsz hd hp => wp_seq ?_⟩
      refine h2 ι w N act _ hr hw hf hN he hsz hd fun ι' a' w' g1 g2 g3 g4 g5 => ?_
      exact toExit_not hn (hp ι' a' w' g1 g2 g3 g4 g5)
  | cond c a b =>
    change stCond ev sz c a b env H nx = .ok fin at h
    unfold stCond at h
    obtain ⟨v, hv, h⟩ := and_ok h
    obtain ⟨t, ht, h⟩ := and_ok h
    have hvb : v = .bool t := by
      cases v <;> first | (cases ok_inj (show Res.ok _ = Res.ok t from ht); rfl) | (cases ht)
    subst hvb
    obtain ⟨h1, h2⟩ := hs _ _ _ _ _ _ h
    refine ⟨h1, fun ι w N act Q hr hw hf hN he hsz hd hp => ?_⟩
    have hc := arg_VR he hv
    have hce : act.eval c = .bool t := by
      cases hx : act.eval c <;> rw [hx] at hc <;> cases hc; rfl
    refine wp_cond hce ?_
    have := h2 ι w N act Q hr hw hf hN he hsz hd hp
    rw [sel_eq] at this
    exact this
  | block id a =>
    change stBlock ev sz id a env H nx = .ok fin at h
    unfold stBlock at h
    obtain ⟨r, hr, h⟩ := and_ok h
    cases ok_inj h
    obtain ⟨h1, h2⟩ := hs _ _ _ _ _ _ hr
    refine ⟨h1, fun ι w N act Q hr hw hf hN he hsz hd hp => wp_block ?_⟩
    refine h2 ι w N act _ hr hw hf hN he hsz hd fun ι' a' w' g1 g2 g3 g4 g5 => ?_
    have hq := hp ι' a' w' g1 g2 g3 g4 g5
    simp only at hq
    cases hx : r.x with
    | normal => rw [hx] at hq; exact hq
    | ret => rw [hx] at hq; exact hq
    | exit id' =>
      rw [hx] at hq
      simp only [X.out, sel_eq, beq_iff] at hq
      show (if id' = id then Q .normal a' w' else Q (.exit id') a' w')
      split
      · rename_i he; rw [if_pos he] at hq; exact hq
      · rename_i he; rw [if_neg he] at hq; exact hq
  | loop a =>
    obtain ⟨h1, m, h2⟩ := step_loopL hs hl _ _ _ _ _ _ h
    exact ⟨h1, fun ι w N act Q hr hw hf hN he hsz hd hp => wp_loop_rounds m (h2 ι w N act Q hr hw hf hN he hsz hd hp)⟩
  | scope a =>
    have h : ev sz a env H nx = .ok fin := h
    obtain ⟨h1, h2⟩ := hs _ _ _ _ _ _ h
    exact ⟨h1, fun ι w N act Q hr hw hf hN he hsz hd hp => wp_scope_straight (h2 ι w N act _ hr hw hf hN he hsz hd fun ι' a' w' g1 g2 g3 g4 g5 => noGoto_of (hp ι' a' w' g1 g2 g3 g4 g5))⟩

theorem evC_sound (hmix : P.follows .mixedOrders = true) : ∀ n, Sound P (evC P n) ∧ SoundL P (evC P n)
  | 0 => ⟨fun _ _ _ _ _ _ h => (by cases h), fun _ _ _ _ _ _ h => (by cases h)⟩
  | n+1 =>
    let ⟨h1, h2⟩ := evC_sound hmix n
    ⟨step_sound hmix h1 h2, step_loopL h1 h2⟩

/-- A CALL WITHOUT ARGUMENTS THAT THE EVALUATOR TAKES FOR TRUE returns true in every world, and leaves what was there as it was. -/
theorem evTrue_calls (hmix : P.follows .mixedOrders = true) {n : Nat} {f : FuncId} (h : evTrue P n f = true) (w : World) :
    Calls P f #[] w fun e w' => e = .returned (.bool true) ∧ w'.os = w.os ∧ w'.output = w.output ∧ w'.tape = w.tape ∧ w.heap.size ≤ w'.heap.size ∧ ∀ c, c < w.heap.size → w'.heap[c]? = w.heap[c]? := by
  unfold evTrue isTrue at h
  split at h
  · rename_i b H' nx' hev
    subst h
    unfold evF at hev
    obtain ⟨v, H1, nx1, hk, _, fn, c, _, _, _, hC⟩ := callK_ex (evC_sound hmix n).1 hev
    have hk := ok_inj hk
    injection hk with e1 e2
    injection e2 with e2 e3
    subst e1 e2 e3
    have hr0 : HR (fun _ _ => none) .lf w := ⟨fun _ _ _ _ _ h => (by cases h), fun _ _ _ _ h => (by cases h), fun _ _ _ h => (by cases h), fun _ _ h => (by cases h), fun _ _ _ _ _ _ h => (by cases h), fun _ _ _ h => (by cases h)⟩
    refine (hC (fun _ _ => none) w nx1 #[] hr0 (fun _ _ => rfl) (fun _ _ _ _ => rfl) (Nat.le_refl _) .nil).mono ?_
    rintro e w' ⟨ι', x, rfl, hx, _, hst⟩
    cases hx
    exact ⟨rfl, hst.os, hst.output, hst.tape, hst.size, fun c hc => hst.frame c hc fun _ _ _ h => by cases h⟩
  · cases h
end
#print axioms evTrue_calls
end Go.Ev
