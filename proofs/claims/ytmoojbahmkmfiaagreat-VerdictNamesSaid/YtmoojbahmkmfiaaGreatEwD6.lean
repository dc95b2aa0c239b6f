/- A DRAWN REGION: the whole. -/
import Derived.Test.YtmoojbahmkmfiaaGreatEwD5
namespace Go.Ew

theorem last_e (kd : Nat → Kd) (i : Nat) : ∀ (d : Nat), (∀ k, i < k → k < i + 1 + d → kd k ≠ .e) ∨ ∃ j, i < j ∧ j < i + 1 + d ∧ kd j = .e ∧ ∀ k, j < k → k < i + 1 + d → kd k ≠ .e
  | 0 => .inl fun k h1 h2 => by omega
  | d+1 => by
    by_cases h : kd (i + 1 + d) = .e
    · exact .inr ⟨i + 1 + d, by omega, by omega, h, fun k h1 h2 => by omega⟩
    · rcases last_e kd i d with g | ⟨j, g1, g2, g3, g4⟩
      · refine .inl fun k h1 h2 => ?_
        by_cases hk : k = i + 1 + d
        · subst hk; exact h
        · exact g k h1 (by omega)
      · refine .inr ⟨j, g1, by omega, g3, fun k h1 h2 => ?_⟩
        by_cases hk : k = i + 1 + d
        · subst hk; exact h
        · exact g4 k h1 (by omega)

/-- how many operations have not been -/
def cnt (l : Array Bool) : Nat → Nat
  | 0 => 0
  | m+1 => cnt l m + if l.getD m false then 0 else 1
theorem cnt_le {l l' : Array Bool} (h : ∀ k, In l k → In l' k) : ∀ m, cnt l' m ≤ cnt l m
  | 0 => Nat.le_refl _
  | m+1 => by
    have := cnt_le h m
    unfold cnt
    by_cases hm : l.getD m false = true
    · rw [if_pos hm, if_pos (show l'.getD m false = true from h m hm)]; omega
    · rw [if_neg hm]; split <;> omega
theorem cnt_lt {l l' : Array Bool} (h : ∀ k, In l k → In l' k) {i : Nat} (h1 : ¬ In l i) (h2 : In l' i) : ∀ m, i < m → cnt l' m < cnt l m
  | 0, hm => by omega
  | m+1, hm => by
    unfold cnt
    by_cases hi : i = m
    · subst hi
      have := cnt_le h i
      rw [if_pos (show l'.getD i false = true from h2), if_neg (show ¬ l.getD i false = true from h1)]; omega
    · have := cnt_lt h h1 h2 m (by omega)
      by_cases hm : l.getD m false = true
      · rw [if_pos hm, if_pos (show l'.getD m false = true from h m hm)]; omega
      · rw [if_neg hm]; split <;> omega
theorem cnt_zero {l : Array Bool} : ∀ {m : Nat}, cnt l m = 0 → ∀ k, k < m → In l k
  | 0, _, k, hk => by omega
  | m+1, h, k, hk => by
    unfold cnt at h
    by_cases hm : l.getD m false = true
    · by_cases hkm : k = m
      · subst hkm; exact hm
      · exact cnt_zero (m := m) (by omega) k (by omega)
    · rw [if_neg hm] at h; omega
theorem cnt_max (l : Array Bool) : ∀ m, cnt l m ≤ m
  | 0 => Nat.le_refl _
  | m+1 => by have := cnt_max l m; unfold cnt; split <;> omega

section
variable {P : Program} {ops : Array Oper} {sz : Nat} {ds : List Deferred} {En : Nat → Env} {Hp : Nat → Heap} {Nx : Nat → Nat} {Vl : Nat → AV} {kd : Nat → Kd} {ι0 : Ix} {w0 : World} {l : Array Bool} {ι : Ix} {g : Nat} {a : Act} {w : World} {i : Nat} {o : Oper}

/-- what a reading gives, whenever it is its turn -/
theorem Inv.reads (I : Inv P ops sz ds En Hp Nx kd ι0 w0 l ι g a w) (R : Rg P ops sz En Hp Nx Vl kd) (hi : i < ops.size) (hni : ¬ In l i) (hcl : Closed ops fun k => k = i ∨ In l k) (ho : ops[i]? = some o)
    (hk : kd i = .rd) (hev : evQ P (En i) (Hp i) o.op = .ok (Vl i)) : ∃ Hx, HR ι Hx w ∧ evQ P (En i) Hx o.op = .ok (Vl i) := by
  rcases Nat.lt_trichotomy i g with h | h | h
  · rcases last_e kd i (g - (i + 1)) with hn | ⟨j, h1, h2, h3, h4⟩
    · refine ⟨Hp i, I.hr.sub ?_, hev⟩
      refine (R.gap' (I.wf i (by omega)) (by omega) I.gle fun k a1 a2 => ?_).2.1
      by_cases hki : k = i
      · subst hki; rw [hk]; simp
      · exact hn k (by omega) (by omega)
    · have hin := I.before j (by omega) h3
      have hjn : j < ops.size := by have := I.gle; omega
      rcases R.tc.rdE j (Nat.zero_le _) hjn h3 i o (Nat.zero_le _) h1 hk ho with hb | hb
      · exact absurd (hb _ I.closed hin) hni
      · refine ⟨Hp (j + 1), I.hr.sub ?_, hb⟩
        exact (R.gap' (I.wf (j + 1) (by omega)) (by omega) I.gle fun k a1 a2 => h4 k (by omega) (by omega)).2.1
  · subst h
    rw [I.here hi] at hk; cases hk
  · have hg : g < ops.size := by omega
    have he := I.here hg
    rcases R.tc.eRd i o (Nat.zero_le _) hi hk ho g (Nat.zero_le _) h he with hb | hb
    · exact absurd (bef_in hcl hb (by omega)) (I.behind g (Nat.le_refl _) hg he)
    · exact ⟨Hp g, I.hr, hb⟩

theorem Inv.op {F : Fence} (hF : Wide F) (I : Inv P ops sz ds En Hp Nx kd ι0 w0 l ι g a w) (R : Rg P ops sz En Hp Nx Vl kd) (hw0 : Wf (Hp 0) (Nx 0)) (hf0 : Fresh ι0 (Nx 0) (Nx ops.size)) (hi : i < ops.size) (hni : ¬ In l i) (hcl : Closed ops fun k => k = i ∨ In l k)
    {K : Act → World → Prop} {Q : Exit → Act → World → Prop} (hK : ∀ ι' g' a' w', Inv P ops sz ds En Hp Nx kd ι0 w0 (l.setIfInBounds i true) ι' g' a' w' → K a' w') : wpOpIn F 0 P ops Q i K a w := by
  obtain ⟨o, ho, ha⟩ := R.at_ hi
  have her := I.cutER R hi hni hcl ho
  have hguard := guard_ok her (by rw [cut_guard]; exact ha.guard)
  unfold wpOpIn
  rw [ho]
  simp only [hguard]
  have hdo := ha.does
  cases hk : kd i with
  | skip =>
    rw [hk] at hdo
    obtain ⟨e1, _, _⟩ := hdo
    rw [if_neg (by simp [Kd.goes])]
    refine ⟨fun f _ => hF.fn f, ?_⟩
    exact hK _ _ _ _ (I.still R hi hni hcl ho (by simp [hk]) (by simp [hk]) (by rw [e1]; exact .tuple .nil) ha.dst)
  | q =>
    rw [hk] at hdo
    obtain ⟨e1, e2, e3, _, _⟩ := hdo
    rw [if_pos (by simp [Kd.goes])]
    rw [evQ_congr _ (cut_agrees (ops := ops)), evQ_heap (H' := Hp g) e2 e3] at e1
    obtain ⟨x, g1, g2⟩ := evQ_ok (P := P) I.hr her e1
    refine wpIn_intro hF (evQ_nd e1) ?_
    simp only [g1, Oper.uponIn]
    exact hK _ _ _ _ (I.still R hi hni hcl ho (by simp [hk]) (by simp [hk]) g2 ha.dst)
  | rd =>
    rw [hk] at hdo
    obtain ⟨e1, _, _⟩ := hdo
    rw [if_pos (by simp [Kd.goes])]
    obtain ⟨Hx, hr, hx⟩ := I.reads R hi hni hcl ho hk e1
    rw [evQ_congr _ (cut_agrees (ops := ops))] at hx
    obtain ⟨x, g1, g2⟩ := evQ_ok (P := P) hr her hx
    refine wpIn_intro hF (evQ_nd hx) ?_
    simp only [g1, Oper.uponIn]
    exact hK _ _ _ _ (I.still R hi hni hcl ho (by simp [hk]) (by simp [hk]) g2 ha.dst)
  | al =>
    rw [hk] at hdo
    obtain ⟨r, blk, e1, e2, e3, hm⟩ := hdo
    rw [if_pos (by simp [Kd.goes])]
    rw [evAl_congr (cut_agrees (ops := ops))] at e1
    obtain ⟨cs, el, g1, g2, g3⟩ := evAl_ok (P := P) (w := w) her e1
    refine wpIn_intro hF (evAl_nd e1) ?_
    simp only [g1, Oper.uponIn]
    exact hK _ _ _ _ (I.made R hw0 hf0 hi hni hcl ho hk e2 hm g2 g3 ha.dst)
  | e =>
    rw [hk] at hdo
    rw [if_pos (by simp [Kd.goes])]
    have hig : i = g := by
      rcases Nat.lt_trichotomy i g with h | h | h
      · exact absurd (I.before i h hk) hni
      · exact h
      · have hg : g < ops.size := by omega
        have he := I.here hg
        have := R.tc.chain i (Nat.zero_le _) hi hk g (Nat.zero_le _) h he
        exact absurd (bef_in hcl this (by omega)) (I.behind g (Nat.le_refl _) hg he)
    have hfr : Fresh ι (Nx i) (Nx (i + 1)) := by
      intro b v h1 h2
      cases hq : ι b v with
      | none => rfl
      | some p =>
        have hm := R.nx_mono (i := i + 1) (j := ops.size) (by omega) (Nat.le_refl _)
        obtain ⟨k, k1, k2, k3, k4, k5⟩ := I.fresh b v p (by rw [← hig]; exact h1) (by omega) hq
        have hki : k ≠ i := fun h => by rw [h, hk] at k3; cases k3
        have := R.nx_mono (i := i + 1) (j := k) (by omega) (by omega)
        omega
    refine hdo F hF ι w (Nx (i + 1)) a K Q (by rw [hig]; exact I.hr) (I.wf i (by omega)) hfr (Nat.le_refl _) her fun ι' w' x h1 h2 h3 => ?_
    obtain ⟨g', hI⟩ := I.effect R hw0 hf0 hi hni hcl ho hig hk h1 h2 h3 ha.dst
    exact hK _ _ _ _ hI

theorem Inv.any {F : Fence} (hF : Wide F) (R : Rg P ops sz En Hp Nx Vl kd) (hw0 : Wf (Hp 0) (Nx 0)) (hf0 : Fresh ι0 (Nx 0) (Nx ops.size)) {Q : Exit → Act → World → Prop}
    (hQ : ∀ ι a w, HR ι (Hp ops.size) w → Stp ι0 (Hp 0) (Nx 0) w0 ι (Hp ops.size) (Nx ops.size) w → ER ι (En ops.size) a.tmps → a.tmps.size = sz → a.defers = ds → Q .normal a w) :
    ∀ (fuel : Nat) (l : Array Bool) (ι : Ix) (g : Nat) (a : Act) (w : World), Inv P ops sz ds En Hp Nx kd ι0 w0 l ι g a w → cnt l ops.size ≤ fuel → wpAnyIn F 0 P .any ops Q fuel l a w := by
  have fin : ∀ (l : Array Bool) (ι : Ix) (g : Nat) (a : Act) (w : World), Inv P ops sz ds En Hp Nx kd ι0 w0 l ι g a w → (∀ k, k < ops.size → In l k) → Q .normal a w := by
    intro l ι g a w I hall
    have hg : g = ops.size := by
      rcases Nat.lt_or_ge g ops.size with h | h
      · exact absurd (hall g h) (I.behind g (Nat.le_refl _) h (I.here h))
      · have := I.gle; omega
    subst hg
    refine hQ ι a w I.hr I.stp (fun t v hv => I.slots t v ops.size (Nat.le_refl _) (fun j o ho hd => ?_) hv) I.tsize I.defers
    have : j < ops.size := (Array.getElem?_eq_some_iff.1 ho).1
    exact ⟨fun _ => hall j this, fun _ => this⟩
  have rdy : ∀ (l : Array Bool) (i : Nat), l.size = ops.size → i ∈ Region.ready .any ops l → i < ops.size ∧ ¬ In l i ∧ ∃ o, ops[i]? = some o ∧ ∀ e ∈ o.after, Region.binds .any e = true → In l e.on := by
    intro l i hs hi
    obtain ⟨h1, o, h2, h3⟩ := mem_ready.1 hi
    have hlt : i < ops.size := (Array.getElem?_eq_some_iff.1 h2).1
    refine ⟨hlt, ?_, o, h2, h3⟩
    unfold In
    have hl : i < l.size := by omega
    simp [hl] at h1 ⊢
    exact h1
  have done : ∀ (l : Array Bool), l.size = ops.size → Region.ready .any ops l = [] → ∀ k, k < ops.size → In l k := by
    intro l hs hr k
    induction k using Nat.strongRecOn with
    | _ k ih =>
      intro hk
      cases hin : l.getD k false with
      | true => exact hin
      | false =>
        exfalso
        have hmem : k ∈ Region.ready .any ops l := by
          have ho : ops[k]? = some ops[k] := Array.getElem?_eq_getElem hk
          refine mem_ready.2 ⟨?_, _, ho, fun e he hb => ?_⟩
          · have hl : k < l.size := by omega
            simp [hl] at hin ⊢; exact hin
          · have hed : e.on < k := by
              have key : ∀ (l : List Oper) (n j : Nat) (o : Oper), edgesOk l n = true → l[j]? = some o → ∀ e ∈ o.after, Region.binds .any e = true → e.on < n + j := by
                intro l
                induction l with
                | nil => intro n j o _ h; simp at h
                | cons x l ihl =>
                  intro n j o h hj e he hb
                  simp only [edgesOk, sel_eq] at h
                  split at h
                  case isFalse => cases h
                  rename_i hall
                  cases j with
                  | zero =>
                    simp only [List.getElem?_cons_zero] at hj
                    injection hj with hj; subst hj
                    have := List.all_eq_true.1 hall e (by simpa using he)
                    rw [hb] at this
                    simpa using this
                  | succ j =>
                    simp only [List.getElem?_cons_succ] at hj
                    have := ihl (Nat.succ n) j o h hj e he hb
                    omega
              have := key ops.toList 0 k ops[k] R.edges (by simp) e he hb
              omega
            exact ih e.on hed (by omega)
        rw [hr] at hmem; cases hmem
  intro fuel
  induction fuel with
  | zero =>
    intro l ι g a w I hc
    have hall := cnt_zero (m := ops.size) (Nat.le_zero.1 hc)
    refine ⟨?_, fin l ι g a w I hall⟩
    cases hr : Region.ready .any ops l with
    | nil => rfl
    | cons x xs =>
      obtain ⟨h1, h2, _⟩ := rdy l x I.lsize (by rw [hr]; simp)
      exact absurd (hall x h1) h2
  | succ fuel ih =>
    intro l ι g a w I hc
    refine ⟨fun hr => fin l ι g a w I (done l I.lsize hr), fun i hi => ?_⟩
    obtain ⟨h1, h2, o, h3, h4⟩ := rdy l i I.lsize hi
    have hcl : Closed ops fun k => k = i ∨ In l k := by
      intro j oj hj hoj e he hb
      rcases hj with hj | hj
      · subst hj
        rw [h3] at hoj; injection hoj with hoj; subst hoj
        exact .inr (h4 e he hb)
      · exact .inr (I.closed j oj hj hoj e he hb)
    refine I.op hF R hw0 hf0 h1 h2 hcl fun ι' g' a' w' I' => ih _ ι' g' a' w' I' ?_
    have hset : ∀ j, In (l.setIfInBounds i true) j ↔ j = i ∨ In l j := fun j => In.set (by rw [I.lsize]; exact h1)
    have := cnt_lt (l := l) (l' := l.setIfInBounds i true) (fun k hk => (hset k).2 (.inr hk)) h2 ((hset i).2 (.inl rfl)) ops.size h1
    omega

/-- A DRAWN REGION. -/
theorem evDrw_ok {ev : Evr} (hs : SoundE P ev) (hmix : P.follows .mixedOrders = true) {env : Env} {H : Heap} {nx rid : Nat} {fin : Fin} (hd : drawOk ops = true) (h : evDrw P ev sz ops ops.toList (befs ops.toList) 0 ⟨[], []⟩ env H nx = .ok fin) :
    nx ≤ fin.nx ∧ ∀ F, Wide F → ∀ m ι w N a Q, HR ι H w → Wf H nx → Fresh ι nx N → fin.nx ≤ N → ER ι env a.tmps → a.tmps.size = sz → m ≤ w.heap.size → Marks m ι w a.defers → Post m ι H nx w sz fin Q → (Code.region rid ops true).wpIn F 0 P Q a w := by
  obtain ⟨he, hsh⟩ := drawOk_ok hd
  obtain ⟨hx, En, Hp, Nx, Vl, kd, ht, e1, e2, e3, e4, e5, e6⟩ := evDrw_tc hs (fun k b j h1 h2 => befs_ok he h1 h2) (From.all ops) (fun j => by rw [Nat.zero_add]) (show Chained ops ⟨[], []⟩ from trivial) h
  have hlen : 0 + ops.toList.length = ops.size := by simp
  rw [hlen] at ht e4 e5 e6
  have R : Rg P ops sz En Hp Nx Vl kd := ⟨ht, he, hsh⟩
  refine ⟨by rw [← e3, ← e6]; exact R.nx_mono (Nat.zero_le _) (Nat.le_refl _), fun F hF m ι w N a Q hr hw hf hN her hsz hm hdf hp => wpIn_region_any hmix ?_⟩
  have hr' : HR ι H { w with drawn := w.drawn + 1 } := hr.drew
  have hf0 : Fresh ι (Nx 0) (Nx ops.size) := by rw [e3]; exact hf.le (by rw [e6]; exact hN)
  have hw0 : Wf (Hp 0) (Nx 0) := by rw [e2, e3]; exact hw
  refine Inv.any (ds := a.defers) hF (ι0 := ι) (w0 := { w with drawn := w.drawn + 1 }) R hw0 hf0 (fun ι' a' w' h1 h2 h3 h4 h5 => ?_) ops.size _ ι ((next_e kd ops.size ops.size 0 (by omega)).choose) a _ ?_ (cnt_max _ _)
  · have hst : Stp ι H nx w ι' fin.H fin.nx w' := by
      rw [e5, e6, e2, e3] at h2
      exact Stp.of_drew (w := w) h2
    have := hp ι' a' w' (by rw [← e5]; exact h1) hst (by rw [← e4]; exact h3) h4 (by rw [h5]; exact hdf.step hst)
    rw [hx] at this; exact this
  · obtain ⟨g1, g2, g3, g4⟩ := (next_e kd ops.size ops.size 0 (by omega)).choose_spec
    generalize (next_e kd ops.size ops.size 0 (by omega)).choose = g at g1 g2 g3 g4
    have hno : ∀ k, ¬ In (Array.replicate ops.size false) k := fun k => by
      unfold In
      simp only [Array.getD_eq_getD_getElem?, Array.getElem?_replicate]
      split <;> simp
    have hun : ∀ k, k < ops.size → kd k = .al → ∀ v, ι (Nx k) v = none := fun k h1 h2 v => by
      have m1 := R.nx_mono (i := 0) (j := k) (Nat.zero_le _) (by omega)
      have m2 := R.nx_mono (i := k + 1) (j := ops.size) (by omega) (Nat.le_refl _)
      have := R.nx_al h1 h2
      exact hf0 (Nx k) v m1 (by omega)
    have hgap := fun m (h1 : m ≤ g) => R.gap' hw0 (Nat.zero_le m) (by omega) fun k a1 a2 => g3 k a1 (by omega)
    have hr0 : HR ι (Hp 0) { w with drawn := w.drawn + 1 } := by rw [e2]; exact hr'
    have hrg : HR ι (Hp g) { w with drawn := w.drawn + 1 } := by
      have := adv R hw0 hr0 (fun k h1 h2 h3 => .inl (hun k h2 h3)) g (by omega) (fun k h1 h2 => g3 k h1 (by omega))
      rwa [Nat.zero_add] at this
    refine ⟨by simp, fun j oj hj => absurd hj (hno j), g2, fun k a1 a2 => absurd a2 (g3 k (Nat.zero_le _) a1), fun k _ _ _ => hno k, g4, hrg, fun k a1 => (hgap k a1).1, fun k a1 a2 _ => hun k a1 a2, fun k _ _ _ a4 => absurd a4 (hno k),
      fun k a1 a2 _ => ?_, fun b v p a1 a2 a3 => ?_, fun t v k hk hwr hv => ?_, hsz, rfl, ?_⟩
    · obtain ⟨oo, r, blk, q1, q2, q3, q4, hm⟩ := R.al (k := k) (by omega) a2
      have hget : (Hp (k + 1)).get (Nx k) = some blk := by rw [hm.get, if_pos rfl]
      rw [hget]
      exact (R.gap' (hgap (k + 1) (by omega)).1 (by omega) g2 fun j b1 b2 => g3 j (Nat.zero_le _) b2).2.1 _ _ hget
    · have m1 := R.nx_mono (i := 0) (j := g) (Nat.zero_le _) g2
      rw [hf0 b v (by omega) a2] at a3; cases a3
    · have hk0 := R.keeps (t := t) (i := 0) k (by omega) fun j oj h1 h2 hoj hdj => hno j ((hwr j oj hoj hdj).1 (by omega))
      rw [Nat.zero_add] at hk0
      rw [hk0, e1] at hv
      exact her t v hv
    · obtain ⟨h1, h2, h3⟩ := hgap g (Nat.le_refl _)
      have m2 := R.nx_mono (i := g) (j := ops.size) g2 (Nat.le_refl _)
      exact ⟨fun _ _ _ h => h, fun _ _ _ h => .inl h, fun b hb => (h3 b hb).imp id fun h => ⟨h.1, by omega⟩, R.nx_mono (Nat.zero_le _) (Nat.le_refl _), fun b bk hb _ => h2 b bk hb, fun _ _ _ => rfl, Nat.le_refl _, rfl, rfl, rfl⟩
end
end Go.Ew
