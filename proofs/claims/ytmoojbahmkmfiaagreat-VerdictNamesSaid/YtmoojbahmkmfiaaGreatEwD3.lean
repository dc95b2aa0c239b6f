/- WHAT THE EVALUATOR's RUN THROUGH A DRAWN REGION TELLS, operation by operation. -/
import Derived.Test.YtmoojbahmkmfiaaGreatEwD2
namespace Go.Ew

inductive Kd where
  | skip | q | rd | al | e
def Kd.goes : Kd → Bool
  | .skip => false
  | _ => true

def Kd.isE : Kd → Bool
  | .e => true
  | _ => false
def Kd.isRd : Kd → Bool
  | .rd => true
  | _ => false

/-- what an effect (or a call) comes to, whatever the slots beside its own hold -/
def EffW (P : Program) (ops : Array Oper) (o : Oper) (env : Env) (H : Heap) (nx : Nat) (v : AV) (H' : Heap) (nx' : Nat) : Prop :=
  ∀ (F : Fence), Wide F → ∀ (ι : Ix) (w : World) (N : Nat) (a : Act) (K : Act → World → Prop) (Q : Exit → Act → World → Prop), HR ι H w → Wf H nx → Fresh ι nx N → nx' ≤ N → ER ι (cut ops o env) a.tmps →
    (∀ ι' w' x, VR ι' v x → HR ι' H' w' → Stp ι H nx w ι' H' nx' w' → K (a.put o.dst x) w') → o.wpIn F 0 P a w K Q
/-- a block as it was made -/
structure Made (nx : Nat) (l : List AV) (blk : Blk) (H H' : Heap) : Prop where
  get : ∀ j, H'.get j = if j = nx then some blk else H.get j
  ver : blk.ver = 0
  exts : blk.exts = []
  esz : blk.esz = 0
  loop : blk.loop = none
  size : blk.size = l.length
  cells : ∀ i, i < l.length → blk.cells.get i = l[i]?
  one : allOne l = true
def Does (P : Program) (ops : Array Oper) (o : Oper) (env : Env) (H : Heap) (nx : Nat) (v : AV) (H' : Heap) (nx' : Nat) : Kd → Prop
  | .skip => v = noVal ∧ H' = H ∧ nx' = nx
  | .q => evQ P env H o.op = .ok v ∧ (∀ t a, o.op ≠ .load t a) ∧ (∀ t x l h m, o.op ≠ .slice t x l h m) ∧ H' = H ∧ nx' = nx
  | .rd => evQ P env H o.op = .ok v ∧ H' = H ∧ nx' = nx
  | .al => ∃ r blk, evAl P env o.op = .ok r ∧ v = madeVal nx r.2 ∧ nx' = nx + 1 ∧ Made nx r.1 blk H H'
  | .e => EffW P ops o env H nx v H' nx'
structure At (P : Program) (ops : Array Oper) (sz : Nat) (o : Oper) (kd : Kd) (env : Env) (H : Heap) (nx : Nat) (v : AV) (env' : Env) (H' : Heap) (nx' : Nat) : Prop where
  dst : ∀ t, o.dst = some t → t < sz
  put : ∀ j, env'.get j = if o.dst = some j then some v else env.get j
  nxle : nx ≤ nx'
  guard : guardA ops env o = .ok kd.goes
  does : Does P ops o env H nx v H' nx' kd

structure Tc (P : Program) (ops : Array Oper) (sz i n : Nat) (m : Mem) (En : Nat → Env) (Hp : Nat → Heap) (Nx : Nat → Nat) (Vl : Nat → AV) (kd : Nat → Kd) : Prop where
  at_ : ∀ k, i ≤ k → k < n → ∃ o, ops[k]? = some o ∧ At P ops sz o (kd k) (En k) (Hp k) (Nx k) (Vl k) (En (k + 1)) (Hp (k + 1)) (Nx (k + 1))
  chain0 : ∀ k, i ≤ k → k < n → kd k = .e → ∀ e ∈ m.effs, Bef ops k e.1
  chain : ∀ k, i ≤ k → k < n → kd k = .e → ∀ j, i ≤ j → j < k → kd j = .e → Bef ops k j
  rdE0 : ∀ k, i ≤ k → k < n → kd k = .e → ∀ e ∈ m.reads, Bef ops k e.1 ∨ evQ P e.2.1 (Hp (k + 1)) e.2.2.1 = .ok e.2.2.2
  rdE : ∀ k, i ≤ k → k < n → kd k = .e → ∀ j o, i ≤ j → j < k → kd j = .rd → ops[j]? = some o → Bef ops k j ∨ evQ P (En j) (Hp (k + 1)) o.op = .ok (Vl j)
  eRd0 : ∀ k o, i ≤ k → k < n → kd k = .rd → ops[k]? = some o → ∀ e ∈ m.effs, Bef ops k e.1 ∨ evQ P (En k) e.2 o.op = .ok (Vl k)
  eRd : ∀ k o, i ≤ k → k < n → kd k = .rd → ops[k]? = some o → ∀ j, i ≤ j → j < k → kd j = .e → Bef ops k j ∨ evQ P (En k) (Hp j) o.op = .ok (Vl k)

/-- the effects that are remembered stand in a chain -/
def Chained (ops : Array Oper) (m : Mem) : Prop := match m.effs with
  | [] => True
  | (h, _) :: r => ∀ e ∈ r, Bef ops h e.1

def upd {α : Type} (i : Nat) (x : α) (f : Nat → α) : Nat → α := fun k => if k = i then x else f k
theorem upd_at {α : Type} {i : Nat} {x : α} {f : Nat → α} : upd i x f i = x := by simp [upd]
theorem upd_ne {α : Type} {i k : Nat} {x : α} {f : Nat → α} (h : k ≠ i) : upd i x f k = f k := by simp [upd, h]

section
variable {P : Program} {ops : Array Oper}

/-- one operation ahead of a trace -/
theorem Tc.cons {sz i n : Nat} {m m' : Mem} {En : Nat → Env} {Hp : Nat → Heap} {Nx : Nat → Nat} {Vl : Nat → AV} {kd : Nat → Kd} {o : Oper} {env : Env} {H : Heap} {nx : Nat} {v : AV} {κ : Kd}
    (h : Tc P ops sz (i + 1) n m' En Hp Nx Vl kd) (ho : ops[i]? = some o) (ha : At P ops sz o κ env H nx v (En (i + 1)) (Hp (i + 1)) (Nx (i + 1)))
    (he : m'.effs = if κ.isE = true then (i, H) :: m.effs else m.effs) (hrd : m'.reads = if κ.isRd = true then (i, env, o.op, v) :: m.reads else m.reads)
    (c1 : κ = .e → ∀ e ∈ m.effs, Bef ops i e.1) (c2 : κ = .e → ∀ e ∈ m.reads, Bef ops i e.1 ∨ evQ P e.2.1 (Hp (i + 1)) e.2.2.1 = .ok e.2.2.2)
    (c3 : κ = .rd → ∀ e ∈ m.effs, Bef ops i e.1 ∨ evQ P env e.2 o.op = .ok v) :
    Tc P ops sz i n m (upd i env En) (upd i H Hp) (upd i nx Nx) (upd i v Vl) (upd i κ kd) := by
  have sub : ∀ e ∈ m.effs, e ∈ m'.effs := fun e h' => by rw [he]; split <;> simp [h']
  have sub2 : ∀ e ∈ m.reads, e ∈ m'.reads := fun e h' => by rw [hrd]; split <;> simp [h']
  refine ⟨fun k h1 h2 => ?_, fun k h1 h2 h3 e hm => ?_, fun k h1 h2 h3 j h4 h5 h6 => ?_, fun k h1 h2 h3 e hm => ?_, fun k h1 h2 h3 j oj h4 h5 h6 h7 => ?_, fun k ok h1 h2 h3 h4 e hm => ?_, fun k ok h1 h2 h3 h4 j h5 h6 h7 => ?_⟩
  · by_cases hk : k = i
    · subst hk
      refine ⟨o, ho, ?_⟩
      rw [upd_at, upd_at, upd_at, upd_at, upd_at, upd_ne (by omega), upd_ne (by omega), upd_ne (by omega)]
      exact ha
    · obtain ⟨ok, g1, g2⟩ := h.at_ k (by omega) h2
      refine ⟨ok, g1, ?_⟩
      rw [upd_ne hk, upd_ne hk, upd_ne hk, upd_ne hk, upd_ne hk, upd_ne (by omega), upd_ne (by omega), upd_ne (by omega)]
      exact g2
  · by_cases hk : k = i
    · subst hk; rw [upd_at] at h3; exact c1 h3 e hm
    · rw [upd_ne hk] at h3; exact h.chain0 k (by omega) h2 h3 e (sub e hm)
  · have hk : k ≠ i := by omega
    rw [upd_ne hk] at h3
    by_cases hj : j = i
    · subst hj
      rw [upd_at] at h6
      refine h.chain0 k (by omega) h2 h3 (j, H) ?_
      rw [he, h6]; simp [Kd.isE]
    · rw [upd_ne hj] at h6; exact h.chain k (by omega) h2 h3 j (by omega) h5 h6
  · by_cases hk : k = i
    · subst hk; rw [upd_at] at h3; rw [upd_ne (by omega)]; exact c2 h3 e hm
    · rw [upd_ne hk] at h3; rw [upd_ne (by omega)]; exact h.rdE0 k (by omega) h2 h3 e (sub2 e hm)
  · have hk : k ≠ i := by omega
    rw [upd_ne hk] at h3
    rw [upd_ne (show k + 1 ≠ i by omega)]
    by_cases hj : j = i
    · subst hj
      rw [upd_at] at h6
      rw [upd_at, upd_at]
      rw [ho] at h7; injection h7 with h7; subst h7
      refine h.rdE0 k (by omega) h2 h3 (j, env, o.op, v) ?_
      rw [hrd, h6]; simp [Kd.isRd]
    · rw [upd_ne hj] at h6
      rw [upd_ne hj, upd_ne hj]
      exact h.rdE k (by omega) h2 h3 j oj (by omega) h5 h6 h7
  · by_cases hk : k = i
    · subst hk
      rw [upd_at] at h3
      rw [upd_at, upd_at]
      rw [ho] at h4; injection h4 with h4; subst h4
      exact c3 h3 e hm
    · rw [upd_ne hk] at h3
      rw [upd_ne hk, upd_ne hk]
      exact h.eRd0 k ok (by omega) h2 h3 h4 e (sub e hm)
  · have hk : k ≠ i := by omega
    rw [upd_ne hk] at h3
    rw [upd_ne hk, upd_ne hk]
    by_cases hj : j = i
    · subst hj
      rw [upd_at] at h7
      rw [upd_at]
      refine h.eRd0 k ok (by omega) h2 h3 h4 (j, H) ?_
      rw [he, h7]; simp [Kd.isE]
    · rw [upd_ne hj] at h7
      rw [upd_ne hj]
      exact h.eRd k ok (by omega) h2 h3 h4 j (by omega) h6 h7

theorem againReads_ok {bi : Nat} {H : Heap} : ∀ {l : List (Nat × Env × Op × AV)}, againReads P bi H l = true → ∀ e ∈ l, Nat.testBit bi e.1 = true ∨ evQ P e.2.1 H e.2.2.1 = .ok e.2.2.2
  | [], _, e, h => by simp at h
  | (j, env, op, v) :: l, h, e, hm => by
    rw [againReads, sel_eq] at h
    split at h
    case isFalse => cases h
    rename_i h1
    rw [sel_eq] at h1
    rw [List.mem_cons] at hm
    rcases hm with hm | hm
    · subst hm
      split at h1
      · exact .inl (by assumption)
      · right
        unfold isOk at h1
        split at h1
        · rename_i u hu; rw [← same_eq h1]; exact hu
        · cases h1
    · exact againReads_ok h e hm
theorem againEffs_ok {bi : Nat} {env : Env} {op : Op} {v : AV} : ∀ {l : List (Nat × Heap)}, againEffs P bi env op v l = true → ∀ e ∈ l, Nat.testBit bi e.1 = true ∨ evQ P env e.2 op = .ok v
  | [], _, e, h => by simp at h
  | (j, H) :: l, h, e, hm => by
    rw [againEffs, sel_eq] at h
    split at h
    case isFalse => cases h
    rename_i h1
    rw [sel_eq] at h1
    rw [List.mem_cons] at hm
    rcases hm with hm | hm
    · subst hm
      split at h1
      · exact .inl (by assumption)
      · right
        unfold isOk at h1
        split at h1
        · rename_i u hu; rw [← same_eq h1]; exact hu
        · cases h1
    · exact againEffs_ok h e hm
theorem chainOk_ok {m : Mem} {bi i : Nat} (hc : Chained ops m) (hb : ∀ j, Nat.testBit bi j = true → Bef ops i j) (h : chainOk bi m.effs = true) : ∀ e ∈ m.effs, Bef ops i e.1 := by
  unfold Chained at hc
  intro e he
  cases hm : m.effs with
  | nil => rw [hm] at he; simp at he
  | cons x r =>
    rw [hm] at he hc h
    obtain ⟨j, Hj⟩ := x
    have hj := hb j h
    rw [List.mem_cons] at he
    rcases he with he | he
    · subst he; exact hj
    · exact hj.trans (hc e he)

/-- an effect by evE -/
theorem evE_effW {β : Type} {o : Oper} {env : Env} {H : Heap} {nx : Nat} {k : AV → Heap → Nat → Res β} {r : β} (h : evE P env H nx o.op k = .ok r) :
    ∃ v H' nx', k v H' nx' = .ok r ∧ nx ≤ nx' ∧ EffW P ops o env H nx v H' nx' := by
  rw [evE_congr H nx k (cut_agrees (ops := ops))] at h
  have hnd := evE_nd h
  obtain ⟨v, H', nx', hk, hnx, hE⟩ := evE_ex (P := P) h
  refine ⟨v, H', nx', hk, hnx, fun F hF ι w N a K Q hr hw hf hN he hK => ?_⟩
  obtain ⟨ι', w', x, g1, g2, g3, g4⟩ := hE ι w N a o rfl hr hw hf hN he
  refine wpIn_intro hF hnd ?_
  rcases g1 with g1 | ⟨g1, rfl⟩
  · simp only [g1, Oper.uponIn]; exact hK ι' w' x g2 g3 g4
  · simp only [g1, Oper.uponIn]; exact hK ι' w' undef g2 g3 g4
theorem call_effW {ev : Evr} (hs : SoundE P ev) {β : Type} {o : Oper} {env : Env} {H : Heap} {nx : Nat} {q : Callee × List AV} {k : AV → Heap → Nat → Res β} {r : β} (hq : evCall env o.op = .ok q) (h : anyK P ev q.1 q.2 H nx k = .ok r) :
    ∃ v H' nx', k v H' nx' = .ok r ∧ nx ≤ nx' ∧ EffW P ops o env H nx v H' nx' := by
  rw [evCall_congr (cut_agrees (ops := ops))] at hq
  obtain ⟨v, H', nx', hk, hnx, hC⟩ := anyK_ex hs hq h
  exact ⟨v, H', nx', hk, hnx, fun F hF ι w N a K Q hr hw hf hN he hK => hC F hF ι w N a o K Q rfl hr hw hf hN he hK⟩

theorem evDrw_tc {ev : Evr} (hs : SoundE P ev) {sz : Nat} (hbits : ∀ (k b j : Nat), (befs ops.toList)[k]? = some b → Nat.testBit b j = true → Bef ops k j) :
    ∀ {l : List Oper} {bs : List Nat} {i : Nat} {m : Mem} {env : Env} {H : Heap} {nx : Nat} {fin : Fin}, From ops i l → (∀ j, bs[j]? = (befs ops.toList)[i + j]?) → Chained ops m → evDrw P ev sz ops l bs i m env H nx = .ok fin →
      fin.x = .normal ∧ ∃ En Hp Nx Vl kd, Tc P ops sz i (i + l.length) m En Hp Nx Vl kd ∧ En i = env ∧ Hp i = H ∧ Nx i = nx ∧ En (i + l.length) = fin.env ∧ Hp (i + l.length) = fin.H ∧ Nx (i + l.length) = fin.nx
  | [], bs, i, m, env, H, nx, fin, _, _, _, h => by
    cases ok_inj (show Res.ok (⟨.normal, env, H, nx⟩ : Fin) = Res.ok fin from h)
    refine ⟨rfl, fun _ => env, fun _ => H, fun _ => nx, fun _ => noVal, fun _ => .skip, ?_, rfl, rfl, rfl, rfl, rfl, rfl⟩
    constructor <;> (intros; simp only [List.length_nil] at *; omega)
  | o :: l, bs, i, m, env, H, nx, fin, hfrom, hbs, hch, h => by
    obtain ⟨hoi, hfrom'⟩ := hfrom.cons
    change drwStep P ev sz ops o (evDrw P ev sz ops l) bs i m env H nx = .ok fin at h
    unfold drwStep at h
    cases bs with
    | nil => cases h
    | cons b bs =>
      simp only at h
      have hb0 : (befs ops.toList)[i]? = some b := by have := hbs 0; simpa using this.symm
      have hbit : ∀ j, Nat.testBit b j = true → Bef ops i j := fun j => hbits i b j hb0
      have hbs' : ∀ j, bs[j]? = (befs ops.toList)[i + 1 + j]? := fun j => by
        have := hbs (j + 1)
        rw [List.getElem?_cons_succ] at this
        rw [this, show i + (j + 1) = i + 1 + j by omega]
      obtain ⟨g, hg, h⟩ := and_ok h
      -- a step, and the rest
      have step : ∀ {κ : Kd} {v : AV} {env' : Env} {H' : Heap} {nx' : Nat} {m' : Mem}, evDrw P ev sz ops l bs (Nat.succ i) m' env' H' nx' = .ok fin →
          Does P ops o env H nx v H' nx' κ → guardA ops env o = .ok κ.goes → nx ≤ nx' → (∀ t, o.dst = some t → t < sz) → (∀ j, env'.get j = if o.dst = some j then some v else env.get j) →
          (m'.effs = if κ.isE = true then (i, H) :: m.effs else m.effs) → (m'.reads = if κ.isRd = true then (i, env, o.op, v) :: m.reads else m.reads) →
          (κ = .e → ∀ e ∈ m.effs, Bef ops i e.1) → (κ = .e → ∀ e ∈ m.reads, Bef ops i e.1 ∨ evQ P e.2.1 H' e.2.2.1 = .ok e.2.2.2) → (κ = .rd → ∀ e ∈ m.effs, Bef ops i e.1 ∨ evQ P env e.2 o.op = .ok v) →
          fin.x = .normal ∧ ∃ En Hp Nx Vl kd, Tc P ops sz i (i + (o :: l).length) m En Hp Nx Vl kd ∧ En i = env ∧ Hp i = H ∧ Nx i = nx ∧ En (i + (o :: l).length) = fin.env ∧ Hp (i + (o :: l).length) = fin.H ∧ Nx (i + (o :: l).length) = fin.nx := by
        intro κ v env' H' nx' m' hk hdo hgu hnx hd hput he hrd c1 c2 c3
        have hch' : Chained ops m' := by
          unfold Chained
          rw [he]
          by_cases hκ : κ = .e
          · subst hκ; exact c1 rfl
          · have : κ.isE = false := by cases κ <;> first | rfl | exact absurd rfl hκ
            rw [this]; exact hch
        obtain ⟨hx, En, Hp, Nx, Vl, kd, ht, e1, e2, e3, e4, e5, e6⟩ := evDrw_tc hs hbits hfrom' hbs' hch' hk
        have hlen : i + (o :: l).length = i + 1 + l.length := by simp; omega
        rw [hlen]
        refine ⟨hx, upd i env En, upd i H Hp, upd i nx Nx, upd i v Vl, upd i κ kd, ?_, upd_at, upd_at, upd_at, ?_, ?_, ?_⟩
        · refine ht.cons hoi ⟨hd, ?_, ?_, hgu, ?_⟩ he hrd c1 ?_ c3
          · rw [e1]; exact hput
          · rw [e3]; exact hnx
          · rw [e2, e3]; exact hdo
          · rw [e2]; exact c2
        · rw [upd_ne (by omega)]; exact e4
        · rw [upd_ne (by omega)]; exact e5
        · rw [upd_ne (by omega)]; exact e6
      rw [sel_eq] at h
      split at h
      case isFalse hgf =>
        have hgf : g = false := by simpa using hgf
        subst hgf
        obtain ⟨env', hk, hd, hgt⟩ := putQ_ok h
        exact step (κ := .skip) hk ⟨rfl, rfl, rfl⟩ hg (Nat.le_refl _) hd hgt rfl rfl (by simp) (by simp) (by simp)
      case isTrue hgt0 =>
        subst hgt0
        unfold drwDo at h
        have hcls : ∀ c, cls o.op = c → (c = .mv ∨ c = .q) → (∀ t a, o.op ≠ .load t a) ∧ (∀ t x l h m, o.op ≠ .slice t x l h m) := by
          intro c hc hcc
          refine ⟨fun t a ho => ?_, fun t x l h m ho => ?_⟩ <;> (rw [ho] at hc; rcases hcc with rfl | rfl <;> cases hc)
        cases hc : cls o.op with
        | mv =>
          rw [hc] at h
          obtain ⟨v, hv, h⟩ := and_ok h
          obtain ⟨env', hk, hd, hgt⟩ := putQ_ok h
          obtain ⟨n1, n2⟩ := hcls _ hc (.inl rfl)
          exact step (κ := .q) hk ⟨hv, n1, n2, rfl, rfl⟩ hg (Nat.le_refl _) hd hgt rfl rfl (by simp) (by simp) (by simp)
        | q =>
          rw [hc] at h
          obtain ⟨v, hv, h⟩ := and_ok h
          obtain ⟨env', hk, hd, hgt⟩ := putK_ok h
          obtain ⟨n1, n2⟩ := hcls _ hc (.inr rfl)
          exact step (κ := .q) hk ⟨hv, n1, n2, rfl, rfl⟩ hg (Nat.le_refl _) hd hgt rfl rfl (by simp) (by simp) (by simp)
        | rd =>
          rw [hc] at h
          obtain ⟨v, hv, h⟩ := and_ok h
          obtain ⟨hag, h⟩ := must_ok h
          obtain ⟨env', hk, hd, hgt⟩ := putK_ok h
          exact step (κ := .rd) hk ⟨hv, rfl, rfl⟩ hg (Nat.le_refl _) hd hgt rfl rfl (by simp) (by simp) (fun _ e he => (againEffs_ok hag e he).imp (hbit _) id)
        | al =>
          rw [hc] at h
          obtain ⟨q, hq, h⟩ := and_ok h
          obtain ⟨H1, hk, ⟨blk, b1, b2, b3, b4, b0, b5, b6, b7⟩, _⟩ := newBlk_ex h
          obtain ⟨env', hk, hd, hgt⟩ := putK_ok hk
          exact step (κ := .al) hk ⟨q, blk, hq, rfl, rfl, ⟨b1, b2, b3, b4, b0, b5, b6, b7⟩⟩ hg (Nat.le_succ _) hd hgt rfl rfl (by simp) (by simp) (by simp)
        | e =>
          rw [hc] at h
          obtain ⟨hco, h⟩ := must_ok h
          obtain ⟨v, H', nx', hk, hnx, hE⟩ := evE_effW (ops := ops) h
          obtain ⟨hag, hk⟩ := must_ok hk
          obtain ⟨env', hk, hd, hgt⟩ := putK_ok hk
          exact step (κ := .e) hk hE hg hnx hd hgt rfl rfl (fun _ => chainOk_ok hch hbit hco) (fun _ e he => (againReads_ok hag e he).imp (hbit _) id) (by simp)
        | call =>
          rw [hc] at h
          obtain ⟨hco, h⟩ := must_ok h
          obtain ⟨q, hq, h⟩ := and_ok h
          obtain ⟨v, H', nx', hk, hnx, hE⟩ := call_effW (ops := ops) hs hq h
          obtain ⟨hag, hk⟩ := must_ok hk
          obtain ⟨env', hk, hd, hgt⟩ := putK_ok hk
          exact step (κ := .e) hk hE hg hnx hd hgt rfl rfl (fun _ => chainOk_ok hch hbit hco) (fun _ e he => (againReads_ok hag e he).imp (hbit _) id) (by simp)
end
end Go.Ew
