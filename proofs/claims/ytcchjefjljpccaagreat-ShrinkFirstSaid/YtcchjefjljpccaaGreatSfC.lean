/- Plain laws of the references; spiritlevelref13.Valid; arguments opened. -/
import Derived.Test.YtcchjefjljpccaaGreatSfA
import Derived.IntWalk
import Derived.Test.YtcchjefjljpccaaGreatPShrinkFirstx18
import Derived.Test.YtcchjefjljpccaaGreatPShrinkFirstx20
import Derived.Deep.QuietTactic
import Derived.BigQuiet
import Derived.Test.YtcchjefjljpccaaGreatSfB
import Derived.Deep.Slices
import Derived.ChangeSame
/- PLAIN LAWS: what the printed functions of the references come to. -/
namespace Go.Proofs.YtcchjefjljpccaaGreat.SF
open Go.RowKit Go.Proofs.YtcchjefjljpccaaGreatW.PrintWords Go.Proofs.YtcchjefjljpccaaGreatW.PrintLast Go.Proofs.YtcchjefjljpccaaGreatW.PrintMore Go.Proofs.YtcchjefjljpccaaGreat.PShrinkFirst
set_option linter.unusedVariables false
set_option linter.unusedSimpArgs false

def R64 (x : Int) : Prop := -9223372036854775808 ≤ x ∧ x ≤ 9223372036854775807
theorem w64 {x : Int} (h : R64 x) : wrap64 x = x := by unfold R64 at h; unfold wrap64; omega
theorem tdiv2 {x : Int} (h : 0 ≤ x) : x.tdiv 2 = x / 2 := Int.tdiv_eq_ediv_of_nonneg h
theorem tmod2 {x : Int} (h : 0 ≤ x) : x.tmod 2 = x % 2 := Int.tmod_eq_emod_of_nonneg h
theorem wdiv2 {x : Int} (h : R64 x) (h0 : 0 ≤ x) : wrap64 (x.tdiv 2) = x / 2 := by
  rw [tdiv2 h0, w64]
  unfold R64 at *; omega
theorem rd_drop (xs : List Int) (i : Nat) (h : i < xs.length) : xs.drop i = rd xs (i : Int) :: xs.drop (i + 1) := drop_at xs i h

/-! ### literals -/
theorem lits_l0 (l : List Int) (top : Int) (hr : ∀ x ∈ l, R64 x) (hn : l.length ≤ 1000) : ∀ (d i k : Nat), l.length - i = d → i ≤ l.length → d < k → spiritlevelref02_literals.l0 k l top (i : Int) = some (!((l.drop i).any (outside (top + 1)))) := by
  intro d
  induction d with
  | zero =>
    intro i k hd hi hk
    obtain ⟨k, rfl⟩ : ∃ m, k = m + 1 := ⟨k - 1, by omega⟩
    simp only [spiritlevelref02_literals.l0]
    rw [if_neg (by omega), List.drop_of_length_le (by omega)]
    rfl
  | succ d ih =>
    intro i k hd hi hk
    obtain ⟨k, rfl⟩ : ∃ m, k = m + 1 := ⟨k - 1, by omega⟩
    have hlt : i < l.length := by omega
    have hx := hr _ (rd_mem l i hlt)
    have e : wrap64 ((i : Int) + 1) = ((i + 1 : Nat) : Int) := by rw [w64 (by unfold R64; omega)]; omega
    simp only [spiritlevelref02_literals.l0]
    rw [if_pos (by omega), if_pos (by omega), rd_drop l i hlt, List.any_cons]
    by_cases h0 : rd l (i : Int) < 0
    · rw [if_pos h0]
      simp [outside, h0]
    · rw [if_neg h0, wdiv2 hx (by omega)]
      by_cases h1 : rd l (i : Int) / 2 > top
      · rw [if_pos h1]
        have : outside (top + 1) (rd l (i : Int)) = true := by simp [outside]; right; omega
        rw [this]; rfl
      · rw [if_neg h1, e, ih (i + 1) k (by omega) (by omega) (by omega)]
        have : outside (top + 1) (rd l (i : Int)) = false := by simp [outside]; omega
        rw [this]; rfl
theorem lits_f (l : List Int) (top : Int) (hr : ∀ x ∈ l, R64 x) (hn : l.length ≤ 1000) (k : Nat) (hk : l.length < k) : spiritlevelref02_literals.f k l top = some (!(l.any (outside (top + 1)))) := by
  unfold spiritlevelref02_literals.f
  have := lits_l0 l top hr hn l.length 0 k (by omega) (by omega) hk
  simpa using this

/-! ### ref02.Check -/
section
variable (a0 : Int) (l1 : List S44) (l2 : List S46) (l3 l4 : List Int)
theorem chk_l1 (h0 : 0 ≤ a0) (h1 : a0 ≤ 1000) (hn1 : l1.length ≤ 60) (hn2 : l2.length ≤ 120) (hr : ∀ x ∈ l2, R64 x.f0 ∧ R64 x.f1) : ∀ (d i : Nat), l2.length - i = d → i ≤ l2.length →
    ∃ r, (∀ k, d < k → spiritlevelref02_Check.l1 k (i : Int) a0 l1 l2 l3 l4 = some r) ∧ (r = 0 → andsBad (1 + a0 + l1.length) (l2.drop i) i = false) := by
  intro d
  induction d with
  | zero =>
    intro i hd hi
    refine ⟨0, fun k hk => ?_, fun _ => ?_⟩
    · obtain ⟨k, rfl⟩ : ∃ m, k = m + 1 := ⟨k - 1, by omega⟩
      simp only [spiritlevelref02_Check.l1]
      rw [if_neg (by omega)]
    · rw [List.drop_of_length_le (by omega)]; rfl
  | succ d ih =>
    intro i hd hi
    have hlt : i < l2.length := by omega
    obtain ⟨r, hr1, hr2⟩ := ih (i + 1) (by omega) (by omega)
    have hm : rd_T46 l2 (i : Int) ∈ l2 := by simp [rd_T46, List.getD_eq_getElem?_getD, List.getElem?_eq_getElem hlt]
    obtain ⟨hx, hy⟩ := hr _ hm
    have e : wrap64 ((i : Int) + 1) = ((i + 1 : Nat) : Int) := by rw [w64 (by unfold R64; omega)]; omega
    have e2 : wrap64 (wrap64 (a0 + (l1.length : Int)) + (i : Int)) = a0 + l1.length + i := by rw [w64 (x := a0 + _) (by unfold R64; omega), w64 (by unfold R64; omega)]
    have hdrop := drop_at46 l2 i hlt
    have hb : andsBad (1 + a0 + (l1.length : Int)) (l2.drop i) (i : Int) = (decide ((rd_T46 l2 (i : Int)).f1 < 0) || decide ((rd_T46 l2 (i : Int)).f0 < (rd_T46 l2 (i : Int)).f1) || decide ((rd_T46 l2 (i : Int)).f0 ≥ 2 * (1 + a0 + (l1.length : Int) + i)) || andsBad (1 + a0 + (l1.length : Int)) (l2.drop (i + 1)) ((i + 1 : Nat) : Int)) := by
      rw [hdrop]; rfl
    have step : ∀ k, spiritlevelref02_Check.l1 (k + 1) (i : Int) a0 l1 l2 l3 l4 = (if (rd_T46 l2 (i : Int)).f1 < 0 then some 8 else if (rd_T46 l2 (i : Int)).f0 < (rd_T46 l2 (i : Int)).f1 then some 8 else if wrap64 (((rd_T46 l2 (i : Int)).f0).tdiv 2) > wrap64 (wrap64 (a0 + (l1.length : Int)) + (i : Int)) then some 8 else spiritlevelref02_Check.l1 k (wrap64 ((i : Int) + 1)) a0 l1 l2 l3 l4) := fun k => by
      simp only [spiritlevelref02_Check.l1]
      rw [if_pos (by omega), if_pos (by omega)]
    rw [e, e2] at step
    by_cases c1 : (rd_T46 l2 (i : Int)).f1 < 0
    · refine ⟨8, fun k hk => ?_, fun h => by omega⟩
      obtain ⟨k, rfl⟩ : ∃ m, k = m + 1 := ⟨k - 1, by omega⟩
      rw [step, if_pos c1]
    · by_cases c2 : (rd_T46 l2 (i : Int)).f0 < (rd_T46 l2 (i : Int)).f1
      · refine ⟨8, fun k hk => ?_, fun h => by omega⟩
        obtain ⟨k, rfl⟩ : ∃ m, k = m + 1 := ⟨k - 1, by omega⟩
        rw [step, if_neg c1, if_pos c2]
      · rw [wdiv2 hx (by omega)] at step
        by_cases c3 : (rd_T46 l2 (i : Int)).f0 / 2 > a0 + (l1.length : Int) + i
        · refine ⟨8, fun k hk => ?_, fun h => by omega⟩
          obtain ⟨k, rfl⟩ : ∃ m, k = m + 1 := ⟨k - 1, by omega⟩
          rw [step, if_neg c1, if_neg c2, if_pos c3]
        · refine ⟨r, fun k hk => ?_, fun h => ?_⟩
          · obtain ⟨k, rfl⟩ : ∃ m, k = m + 1 := ⟨k - 1, by omega⟩
            rw [step, if_neg c1, if_neg c2, if_neg c3]
            exact hr1 k (by omega)
          · rw [hb, hr2 h]
            simp only [Bool.or_false, Bool.or_eq_false_iff, decide_eq_false_iff_not]
            omega

theorem chk_l0 (h0 : 0 ≤ a0) (h1 : a0 ≤ 1000) (hn1 : l1.length ≤ 60) (hn2 : l2.length ≤ 120) (hr1 : ∀ x ∈ l1, R64 x.f0 ∧ R64 x.f1) (hr : ∀ x ∈ l2, R64 x.f0 ∧ R64 x.f1) (top : Int) : ∀ (d i : Nat), l1.length - i = d → i ≤ l1.length →
    ∃ r, (∀ k, d + l2.length + 3 < k → spiritlevelref02_Check.l0 k top (i : Int) a0 l1 l2 l3 l4 = some r) ∧ (r = 0 → (l1.drop i).any (wrongB (top + 1)) = false ∧ andsBad (1 + a0 + l1.length) l2 0 = false) := by
  intro d
  induction d with
  | zero =>
    intro i hd hi
    obtain ⟨r, ha, hb⟩ := chk_l1 a0 l1 l2 l3 l4 h0 h1 hn1 hn2 hr l2.length 0 (by omega) (by omega)
    refine ⟨r, fun k hk => ?_, fun h => ?_⟩
    · obtain ⟨k, rfl⟩ : ∃ m, k = m + 1 := ⟨k - 1, by omega⟩
      simp only [spiritlevelref02_Check.l0]
      rw [if_neg (by omega)]
      exact ha k (by omega)
    · rw [List.drop_of_length_le (by omega)]; exact ⟨rfl, hb h⟩
  | succ d ih =>
    intro i hd hi
    have hlt : i < l1.length := by omega
    obtain ⟨r, ha, hb⟩ := ih (i + 1) (by omega) (by omega)
    obtain ⟨hx, hy⟩ := hr1 _ (rd_mem44 l1 i hlt)
    have e : wrap64 ((i : Int) + 1) = ((i + 1 : Nat) : Int) := by rw [w64 (by unfold R64; omega)]; omega
    have hdrop : (l1.drop i).any (wrongB (top + 1)) = ((outside (top + 1) (rd_T44 l1 (i : Int)).f0 || decide ((rd_T44 l1 (i : Int)).f1 < 0) || decide ((rd_T44 l1 (i : Int)).f1 > 2)) || (l1.drop (i + 1)).any (wrongB (top + 1))) := by
      rw [drop_at44 l1 i hlt]; rfl
    have step : ∀ k, 2 ≤ k → spiritlevelref02_Check.l0 (k + 1) top (i : Int) a0 l1 l2 l3 l4 = (if outside (top + 1) (rd_T44 l1 (i : Int)).f0 = true then some 8 else if (rd_T44 l1 (i : Int)).f1 < 0 then some 8 else if (rd_T44 l1 (i : Int)).f1 > 2 then some 8 else spiritlevelref02_Check.l0 k top (wrap64 ((i : Int) + 1)) a0 l1 l2 l3 l4) := fun k hk => by
      simp only [spiritlevelref02_Check.l0]
      rw [if_pos (by omega), if_pos (by omega), lits_f _ top (by simpa using hx) (by simp) k (by simp; omega)]
      simp only [Option.bind_some, List.any_cons, List.any_nil, Bool.or_false]
      cases outside (top + 1) (rd_T44 l1 (i : Int)).f0 <;> simp
    rw [e] at step
    cases co : outside (top + 1) (rd_T44 l1 (i : Int)).f0 with
    | true =>
      refine ⟨8, fun k hk => ?_, fun h => by omega⟩
      obtain ⟨k, rfl⟩ : ∃ m, k = m + 1 := ⟨k - 1, by omega⟩
      rw [step k (by omega), if_pos co]
    | false =>
      have co' : ¬ outside (top + 1) (rd_T44 l1 (i : Int)).f0 = true := by rw [co]; simp
      by_cases c1 : (rd_T44 l1 (i : Int)).f1 < 0
      · refine ⟨8, fun k hk => ?_, fun h => by omega⟩
        obtain ⟨k, rfl⟩ : ∃ m, k = m + 1 := ⟨k - 1, by omega⟩
        rw [step k (by omega), if_neg co', if_pos c1]
      · by_cases c2 : (rd_T44 l1 (i : Int)).f1 > 2
        · refine ⟨8, fun k hk => ?_, fun h => by omega⟩
          obtain ⟨k, rfl⟩ : ∃ m, k = m + 1 := ⟨k - 1, by omega⟩
          rw [step k (by omega), if_neg co', if_neg c1, if_pos c2]
        · refine ⟨r, fun k hk => ?_, fun h => ?_⟩
          · obtain ⟨k, rfl⟩ : ∃ m, k = m + 1 := ⟨k - 1, by omega⟩
            rw [step k (by omega), if_neg co', if_neg c1, if_neg c2]
            exact ha k (by omega)
          · obtain ⟨q1, q2⟩ := hb h
            refine ⟨?_, q2⟩
            rw [hdrop, co, q1]
            simp [c1, c2]

theorem chk_total (hn1 : l1.length ≤ 60) (hn2 : l2.length ≤ 120) (hn3 : l3.length ≤ 110) (hn4 : l4.length ≤ 110) (hr1 : ∀ x ∈ l1, R64 x.f0 ∧ R64 x.f1) (hr2 : ∀ x ∈ l2, R64 x.f0 ∧ R64 x.f1) (hr3 : ∀ x ∈ l3, R64 x) (hr4 : ∀ x ∈ l4, R64 x) :
    ∃ r, (∀ k, 500 ≤ k → spiritlevelref02_Check.f k a0 l1 l2 l3 l4 = some r) ∧ (r = 0 → GatesOk a0 l1 l2 l3 l4) := by
  by_cases c1 : a0 < 0
  · exact ⟨8, fun k hk => by unfold spiritlevelref02_Check.f; rw [if_pos c1], fun h => by omega⟩
  have j0t : ∀ k, 500 ≤ k → spiritlevelref02_Check.j0 k true a0 l1 l2 l3 l4 = some 4 := fun k hk => by
    obtain ⟨k, rfl⟩ : ∃ m, k = m + 1 := ⟨k - 1, by omega⟩
    simp [spiritlevelref02_Check.j0]
  by_cases c2 : a0 > 1000
  · exact ⟨4, fun k hk => by unfold spiritlevelref02_Check.f; rw [if_neg c1, if_pos c2, j0t k hk], fun h => by omega⟩
  have hsz : spiritlevelref02_Size.f a0 l1 l2 l3 l4 = some (a0 + l1.length + l2.length) := by
    unfold spiritlevelref02_Size.f
    rw [w64 (x := a0 + _) (by unfold R64; omega), w64 (by unfold R64; omega)]
  by_cases c3 : a0 + (l1.length : Int) + l2.length > 1000
  · exact ⟨4, fun k hk => by unfold spiritlevelref02_Check.f; rw [if_neg c1, if_neg c2, hsz]; simp only [Option.bind_some]; rw [if_pos c3, j0t k hk], fun h => by omega⟩
  by_cases c4 : (l3.length : Int) > 100
  · exact ⟨4, fun k hk => by unfold spiritlevelref02_Check.f; rw [if_neg c1, if_neg c2, hsz]; simp only [Option.bind_some]; rw [if_neg c3, if_pos c4, j0t k hk], fun h => by omega⟩
  by_cases c5 : (l4.length : Int) > 100
  · exact ⟨4, fun k hk => by unfold spiritlevelref02_Check.f; rw [if_neg c1, if_neg c2, hsz]; simp only [Option.bind_some]; rw [if_neg c3, if_neg c4, decide_eq_true c5, j0t k hk], fun h => by omega⟩
  obtain ⟨r, ha, hb⟩ := chk_l0 a0 l1 l2 l3 l4 (by omega) (by omega) hn1 hn2 hr1 hr2 (a0 + l1.length + l2.length) l1.length 0 (by omega) (by omega)
  have htop : topOf a0 l1 l2 = a0 + l1.length + l2.length + 1 := by unfold topOf; omega
  cases o3 : l3.any (outside (a0 + l1.length + l2.length + 1)) with
  | true =>
    refine ⟨8, fun k hk => ?_, fun h => by omega⟩
    obtain ⟨k, rfl⟩ : ∃ m, k = m + 1 + 1 := ⟨k - 2, by omega⟩
    unfold spiritlevelref02_Check.f
    rw [if_neg c1, if_neg c2, hsz]; simp only [Option.bind_some]; rw [if_neg c3, if_neg c4, decide_eq_false c5]
    simp only [spiritlevelref02_Check.j0]
    rw [if_neg (by simp), hsz]; simp only [Option.bind_some]
    rw [lits_f l3 _ hr3 (by omega) (k + 1) (by omega), o3]
    simp [spiritlevelref02_Check.j1]
  | false =>
    cases o4 : l4.any (outside (a0 + l1.length + l2.length + 1)) with
    | true =>
      refine ⟨8, fun k hk => ?_, fun h => by omega⟩
      obtain ⟨k, rfl⟩ : ∃ m, k = m + 1 + 1 := ⟨k - 2, by omega⟩
      unfold spiritlevelref02_Check.f
      rw [if_neg c1, if_neg c2, hsz]; simp only [Option.bind_some]; rw [if_neg c3, if_neg c4, decide_eq_false c5]
      simp only [spiritlevelref02_Check.j0]
      rw [if_neg (by simp), hsz]; simp only [Option.bind_some]
      rw [lits_f l3 _ hr3 (by omega) (k + 1) (by omega), o3, lits_f l4 _ hr4 (by omega) (k + 1) (by omega), o4]
      simp [spiritlevelref02_Check.j1]
    | false =>
      refine ⟨r, fun k hk => ?_, fun h => ?_⟩
      · obtain ⟨k, rfl⟩ : ∃ m, k = m + 1 + 1 := ⟨k - 2, by omega⟩
        unfold spiritlevelref02_Check.f
        rw [if_neg c1, if_neg c2, hsz]; simp only [Option.bind_some]; rw [if_neg c3, if_neg c4, decide_eq_false c5]
        simp only [spiritlevelref02_Check.j0]
        rw [if_neg (by simp), hsz]; simp only [Option.bind_some]
        rw [lits_f l3 _ hr3 (by omega) (k + 1) (by omega), o3, lits_f l4 _ hr4 (by omega) (k + 1) (by omega), o4]
        simp only [Bool.not_false, if_true, Option.bind_some, Bool.not_true, spiritlevelref02_Check.j1]
        rw [if_neg (by simp)]
        exact ha k (by omega)
      · obtain ⟨q1, q2⟩ := hb h
        refine ⟨by omega, by omega, by rw [htop]; omega, by omega, by omega, by rw [htop]; exact o3, by rw [htop]; exact o4, by rw [htop]; simpa using q1, q2⟩

theorem small_total (hr0 : R64 a0) (hb1 : l1.length ≤ 4611686018427387) (hb2 : l2.length ≤ 4611686018427387) (hr1 : ∀ x ∈ l1, R64 x.f0 ∧ R64 x.f1) (hr2 : ∀ x ∈ l2, R64 x.f0 ∧ R64 x.f1) (hr3 : ∀ x ∈ l3, R64 x) (hr4 : ∀ x ∈ l4, R64 x) :
    ∃ r, (∀ k, 500 ≤ k → spiritlevellaw39_small.f k a0 l1 l2 l3 l4 = some r) ∧ (r = true → GatesOk a0 l1 l2 l3 l4 ∧ a0 + l1.length ≤ 6) := by
  have hg : ∃ b, spiritlevelref02_Great.f a0 l1 l2 l3 l4 = some b ∧ (b = false → l1.length ≤ 60 ∧ l2.length ≤ 120 ∧ l3.length ≤ 110 ∧ l4.length ≤ 110) := by
    unfold spiritlevelref02_Great.f
    repeat' split
    all_goals first | exact ⟨true, rfl, fun h => absurd h (by decide)⟩ | exact ⟨_, rfl, fun _ => ⟨by omega, by omega, by omega, by omega⟩⟩
  obtain ⟨b, hgb, hgl⟩ := hg
  cases b with
  | true =>
    refine ⟨false, fun k hk => ?_, fun h => by cases h⟩
    unfold spiritlevellaw39_small.f spiritlevelref36_Great.f
    rw [hgb]; simp
  | false =>
    obtain ⟨n1, n2, n3, n4⟩ := hgl rfl
    obtain ⟨r, ha, hb⟩ := chk_total a0 l1 l2 l3 l4 n1 n2 n3 n4 hr1 hr2 hr3 hr4
    by_cases c0 : r = 0
    · subst c0
      have g := hb rfl
      have := g.h0; have := g.h1
      have hsz : spiritlevelref02_Size.f a0 l1 l2 l3 l4 = some (a0 + l1.length + l2.length) := by
        unfold spiritlevelref02_Size.f
        rw [w64 (x := a0 + _) (by unfold R64; omega), w64 (by unfold R64; omega)]
      have hG : ∃ gr, ∀ k, 500 ≤ k → spiritlevelref36_Great.f k a0 l1 l2 l3 l4 = some gr := by
        by_cases c1 : a0 + (l1.length : Int) + l2.length > 40
        · exact ⟨true, fun k hk => by unfold spiritlevelref36_Great.f; rw [hgb]; simp only [Option.bind_some]; rw [if_neg (by simp), ha k hk]; simp only [Option.bind_some]; rw [if_pos trivial, hsz]; simp only [Option.bind_some]; rw [if_pos c1]⟩
        · by_cases c2 : (l3.length : Int) > 10
          · exact ⟨true, fun k hk => by unfold spiritlevelref36_Great.f; rw [hgb]; simp only [Option.bind_some]; rw [if_neg (by simp), ha k hk]; simp only [Option.bind_some]; rw [if_pos trivial, hsz]; simp only [Option.bind_some]; rw [if_neg c1, if_pos c2]⟩
          · exact ⟨_, fun k hk => by unfold spiritlevelref36_Great.f; rw [hgb]; simp only [Option.bind_some]; rw [if_neg (by simp), ha k hk]; simp only [Option.bind_some]; rw [if_pos trivial, hsz]; simp only [Option.bind_some]; rw [if_neg c1, if_neg c2]⟩
      obtain ⟨gr, hG⟩ := hG
      cases gr with
      | true => exact ⟨false, fun k hk => by unfold spiritlevellaw39_small.f; rw [hG k hk]; simp, fun h => by cases h⟩
      | false =>
        by_cases c3 : (l1.length : Int) > 6
        · exact ⟨false, fun k hk => by unfold spiritlevellaw39_small.f spiritlevelref12_Check.f; rw [hG k hk]; simp only [Option.bind_some]; rw [if_neg (by simp), ha k hk]; simp only [Option.bind_some]; rw [if_pos trivial, if_pos c3]; simp, fun h => by cases h⟩
        · by_cases c4 : wrap64 ((l1.length : Int) + a0) > 10
          · exact ⟨false, fun k hk => by unfold spiritlevellaw39_small.f spiritlevelref12_Check.f; rw [hG k hk]; simp only [Option.bind_some]; rw [if_neg (by simp), ha k hk]; simp only [Option.bind_some]; rw [if_pos trivial, if_neg c3, if_pos c4]; simp, fun h => by cases h⟩
          · refine ⟨decide (wrap64 (a0 + (l1.length : Int)) ≤ 6), fun k hk => by unfold spiritlevellaw39_small.f spiritlevelref12_Check.f; rw [hG k hk]; simp only [Option.bind_some]; rw [if_neg (by simp), ha k hk]; simp only [Option.bind_some]; rw [if_pos trivial, if_neg c3, if_neg c4]; simp, fun h => ⟨g, ?_⟩⟩
            rw [w64 (by unfold R64; omega)] at h
            exact of_decide_eq_true h
    · refine ⟨false, fun k hk => ?_, fun h => by cases h⟩
      unfold spiritlevellaw39_small.f spiritlevelref36_Great.f spiritlevelref12_Check.f
      rw [hgb]; simp only [Option.bind_some]
      rw [if_neg (by simp), ha k hk]; simp only [Option.bind_some]
      rw [if_neg c0]; simp only [Option.bind_some]
      rw [if_neg (by simp), if_neg c0]; simp [c0]
end
end Go.Proofs.YtcchjefjljpccaaGreat.SF

/- PLAIN LAWS: clauses, cubes, first states. -/
namespace Go.Proofs.YtcchjefjljpccaaGreat.SF
open Go.RowKit Go.Proofs.YtcchjefjljpccaaGreatW.PrintWords Go.Proofs.YtcchjefjljpccaaGreatW.PrintLast Go.Proofs.YtcchjefjljpccaaGreatW.PrintMore Go.Proofs.YtcchjefjljpccaaGreat.PShrinkFirst
set_option linter.unusedVariables false
set_option linter.unusedSimpArgs false

/-- place j of a list is right for a clause over n variables -/
def okAt (n : Nat) (c : List Int) (j : Nat) : Prop :=
  2 ≤ rd c j ∧ rd c j ≤ 2 * (n : Int) + 1 ∧ (0 < j → rd c ((j - 1 : Nat) : Int) < rd c j ∧ ¬ (rd c ((j - 1 : Nat) : Int) % 2 = 0 ∧ rd c j = rd c ((j - 1 : Nat) : Int) + 1))

theorem clause_l0 (n : Nat) (hn : n ≤ 4000) (c : List Int) (hc : c.length ≤ 9223372036854775807) (ho : ∀ j, j < c.length → okAt n c j) : ∀ (d i k : Nat), c.length - i = d → i ≤ c.length → d < k → clause_Check.l0 k (n : Int) c c (c.length : Int) (i : Int) = some 0 := by
  intro d
  induction d with
  | zero =>
    intro i k hd hi hk
    obtain ⟨k, rfl⟩ : ∃ m, k = m + 1 := ⟨k - 1, by omega⟩
    simp only [clause_Check.l0]
    rw [if_neg (by omega)]
  | succ d ih =>
    intro i k hd hi hk
    obtain ⟨k, rfl⟩ : ∃ m, k = m + 1 := ⟨k - 1, by omega⟩
    have hlt : i < c.length := by omega
    obtain ⟨p1, p2, p3⟩ := ho i hlt
    have e : wrap64 ((i : Int) + 1) = ((i + 1 : Nat) : Int) := by rw [w64 (by unfold R64; omega)]; omega
    have hk1 : clause_known.f (n : Int) (rd c (i : Int)) = some true := by
      unfold clause_known.f
      rw [if_pos p1, wdiv2 (by unfold R64; omega) (by omega), decide_eq_true (by omega)]
    simp only [clause_Check.l0]
    rw [if_pos (by omega), if_pos (by omega), if_pos (by omega), hk1]
    simp only [Option.bind_some, if_true]
    by_cases hz : i = 0
    · subst hz
      rw [if_neg (by omega), e]
      exact ih 1 k (by omega) (by omega) (by omega)
    · have e1 : wrap64 ((i : Int) - 1) = ((i - 1 : Nat) : Int) := by rw [w64 (by unfold R64; omega)]; omega
      obtain ⟨q1, q2, _⟩ := ho (i - 1) (by omega)
      obtain ⟨q3, q4⟩ := p3 (by omega)
      rw [if_pos (by omega), e1, if_pos (by omega), if_pos (by omega), if_neg (by omega), wdiv2 (by unfold R64; omega) (by omega), wdiv2 (by unfold R64; omega) (by omega), if_neg (by omega), e]
      exact ih (i + 1) k (by omega) (by omega) (by omega)
theorem clause_ok (n : Nat) (hn : n ≤ 4000) (c : List Int) (hc : c.length ≤ 9223372036854775807) (ho : ∀ j, j < c.length → okAt n c j) (k : Nat) (hk : c.length + 1 < k) : clause_Check.f k (n : Int) c = some 0 := by
  obtain ⟨k, rfl⟩ : ∃ m, k = m + 1 := ⟨k - 1, by omega⟩
  unfold clause_Check.f
  rw [if_neg (by omega), decide_eq_false (by omega)]
  simp only [clause_Check.j0]
  rw [if_neg (by simp)]
  exact clause_l0 n hn c hc ho c.length 0 k (by omega) (by omega) (by omega)

theorem okAt_mem {n : Nat} {c : List Int} (ho : ∀ j, j < c.length → okAt n c j) : validCube n c := by
  intro l hl
  obtain ⟨j, hj, rfl⟩ := List.getElem_of_mem hl
  have := ho j hj
  have e : rd c (j : Int) = c[j] := by simp [rd, List.getD_eq_getElem?_getD, List.getElem?_eq_getElem hj]
  unfold okAt at this
  rw [e] at this
  exact ⟨this.1, this.2.1⟩

/-- a literal holds in a state -/
def holdsB (st : List Bool) (l : Int) : Bool := (rdOf false st (l / 2 - 1)) == (l % 2 == 0)
theorem in_l0 (n : Nat) (hn : n ≤ 1000000) (c : List Int) (hc : c.length ≤ 9223372036854775807) (hv : validCube n c) (st : List Bool) (hst : st.length = n) : ∀ (d i k : Nat), c.length - i = d → i ≤ c.length → d < k → spiritlevelref37_In.l0 k c st (i : Int) = some ((c.drop i).all (holdsB st)) := by
  intro d
  induction d with
  | zero =>
    intro i k hd hi hk
    obtain ⟨k, rfl⟩ : ∃ m, k = m + 1 := ⟨k - 1, by omega⟩
    simp only [spiritlevelref37_In.l0]
    rw [if_neg (by omega), List.drop_of_length_le (by omega)]; rfl
  | succ d ih =>
    intro i k hd hi hk
    obtain ⟨k, rfl⟩ : ∃ m, k = m + 1 := ⟨k - 1, by omega⟩
    have hlt : i < c.length := by omega
    obtain ⟨p1, p2⟩ := hv _ (rd_mem c i hlt)
    have e : wrap64 ((i : Int) + 1) = ((i + 1 : Nat) : Int) := by rw [w64 (by unfold R64; omega)]; omega
    have e1 : wrap64 (wrap64 ((rd c (i : Int)).tdiv 2) - 1) = rd c (i : Int) / 2 - 1 := by rw [wdiv2 (by unfold R64; omega) (by omega), w64 (by unfold R64; omega)]
    simp only [spiritlevelref37_In.l0]
    rw [if_pos (by omega), if_pos (by omega), e1, if_pos (by omega), if_pos (by omega), tmod2 (by omega), e, rd_drop c i hlt, List.all_cons]
    cases hh : holdsB st (rd c (i : Int)) with
    | true =>
      unfold holdsB at hh
      rw [if_neg (by rw [bne, hh]; simp), ih (i + 1) k (by omega) (by omega) (by omega)]
      rfl
    | false =>
      unfold holdsB at hh
      rw [if_pos (by rw [bne, hh]; rfl)]
      rfl
theorem in_f (n : Nat) (hn : n ≤ 1000000) (c : List Int) (hc : c.length ≤ 9223372036854775807) (hv : validCube n c) (st : List Bool) (hst : st.length = n) (k : Nat) (hk : c.length < k) : spiritlevelref37_In.f k c st = some (c.all (holdsB st)) := by
  have := in_l0 n hn c hc hv st hst c.length 0 k (by omega) (by omega) hk
  simpa [spiritlevelref37_In.f] using this

/-- is a state a first one -/
def startsAt (l1 : List S44) (st : List Bool) (i : Nat) : Bool := ((rd_T44 l1 (i : Int)).f1 == 2) || ((rdOf false st (i : Int)) == ((rd_T44 l1 (i : Int)).f1 == 1))
def startsB (l1 : List S44) (st : List Bool) : Bool := (List.range l1.length).all (startsAt l1 st)
theorem starts_l0 (l1 : List S44) (hn : l1.length ≤ 1000000) (st : List Bool) (hst : st.length = l1.length) : ∀ (d i k : Nat), l1.length - i = d → i ≤ l1.length → d < k → traces_starts.l0 k st l1 (l1.length : Int) (i : Int) = some (((List.range l1.length).drop i).all (startsAt l1 st)) := by
  intro d
  induction d with
  | zero =>
    intro i k hd hi hk
    obtain ⟨k, rfl⟩ : ∃ m, k = m + 1 := ⟨k - 1, by omega⟩
    simp only [traces_starts.l0]
    rw [if_neg (by omega), List.drop_of_length_le (by simp; omega)]; rfl
  | succ d ih =>
    intro i k hd hi hk
    obtain ⟨k, rfl⟩ : ∃ m, k = m + 1 := ⟨k - 1, by omega⟩
    have hlt : i < l1.length := by omega
    have e : wrap64 ((i : Int) + 1) = ((i + 1 : Nat) : Int) := by rw [w64 (by unfold R64; omega)]; omega
    have hdr : (List.range l1.length).drop i = i :: (List.range l1.length).drop (i + 1) := by
      rw [List.drop_eq_getElem_cons (by simp; omega)]; simp
    simp only [traces_starts.l0]
    rw [if_pos (by omega), if_pos (by omega), if_pos (by omega), e, hdr, List.all_cons]
    by_cases h2 : (rd_T44 l1 (i : Int)).f1 = 2
    · rw [if_pos h2, ih (i + 1) k (by omega) (by omega) (by omega)]
      have : startsAt l1 st i = true := by simp [startsAt, h2]
      rw [this]; rfl
    · rw [if_neg h2, if_pos (by omega)]
      cases hh : ((rdOf false st (i : Int)) == ((rd_T44 l1 (i : Int)).f1 == 1)) with
      | true =>
        rw [if_neg (by rw [bne, hh]; simp), ih (i + 1) k (by omega) (by omega) (by omega)]
        have : startsAt l1 st i = true := by simp only [startsAt, hh, Bool.or_true]
        rw [this]; rfl
      | false =>
        rw [if_pos (by rw [bne, hh]; rfl)]
        have : startsAt l1 st i = false := by simp only [startsAt, hh, Bool.or_false]; exact beq_eq_false_iff_ne.mpr h2
        rw [this]; rfl
theorem starts_f (a0 : Int) (l1 : List S44) (l2 : List S46) (l3 l4 : List Int) (hn : l1.length ≤ 1000000) (st : List Bool) (hst : st.length = l1.length) (k : Nat) (hk : l1.length < k) : traces_starts.f k a0 l1 l2 l3 l4 st = some (startsB l1 st) := by
  have := starts_l0 l1 hn st hst l1.length 0 k (by omega) (by omega) hk
  simpa [traces_starts.f, startsB] using this
end Go.Proofs.YtcchjefjljpccaaGreat.SF

/- spiritlevelref13.Valid: the walk. -/
namespace Go.Proofs.YtcchjefjljpccaaGreat.SF
open Go.RowKit Go.Lib Go.Proofs.YtcchjefjljpccaaGreatW.PrintWords Go.Proofs.YtcchjefjljpccaaGreatW.PrintLast Go.Proofs.YtcchjefjljpccaaGreatW.PrintMore Go.Proofs.YtcchjefjljpccaaGreat.PShrinkFirst
set_option maxHeartbeats 4000000
set_option maxRecDepth 100000
set_option linter.unusedVariables false
set_option linter.unusedSimpArgs false

def litB (n l : Int) : Bool := decide (2 ≤ l) && decide (l ≤ 2 * n + 1)
theorem lit_calls (n l : Int) (w : World) (h0 : 0 ≤ n) (h1 : n ≤ 1000000) : Calls Tryz.prog 25 #[.int .i64 n, .int .i64 l] w fun e w' => e = .returned (.bool (litB n l)) ∧ w' = w := by
  by_cases h2 : 2 ≤ l
  · go_enter Tryz.func25, Tryz.ntmps25
    go_wp2
    go_ret
    exact ⟨by simp [litB, h2], rfl⟩
  · go_enter Tryz.func25, Tryz.ntmps25
    go_wp2
    go_ret
    exact ⟨by simp [litB, h2]; intro h; omega, rfl⟩

theorem valid_walk (n : Nat) (A : Option Addr) (cc : Nat) (c : List Int) (w : World) (o : Bool) (ho : o = true ↔ ∀ j, j < c.length → okAt n c j) (hn : n ≤ 1000000) (hr : Kd.C (Kd.int .i64) w A c.length c) (hg : ∀ x ∈ c, R64 x) :
    Calls Tryz.prog 8 #[.int .i64 (n : Int), .slice A c.length cc] w fun e w' => e = .returned (.bool o) ∧ Drawn0 w w' := by
  have hlen : c.length ≤ 9223372036854775807 := hr.2.1
  have HR := Aside0.mk hr
  have HG := Aside0.mk hg
  have HO := Aside0.mk ho
  clear hr hg ho
  go_enter Tryz.func8, Tryz.ntmps8
  go_wp2
  go_loopg [5] c.length (fun gg v5 w' => ∃ kk : Nat, kk ≤ c.length ∧ c.length - kk ≤ gg ∧ v5 = .int .i64 kk ∧ Aside0 (∀ j, j < kk → okAt n c j) ∧ Aside0 (Drawn0 w w'))
  case atStart => exact ⟨0, Nat.zero_le _, by omega, rfl, ⟨fun j hj => absurd hj (by omega)⟩, ⟨Drawn0.refl _⟩⟩
  case round =>
    obtain ⟨kk, hkk, hgk, rfl, A0, HD⟩ := hrel
    by_cases hlt : kk < c.length
    · have hltz : (kk : Int) < (c.length : Int) := by omega
      obtain ⟨ad, e, hx⟩ := Kd.at_int (Kd.C_below HR.out HD.out.below) (kk : Int) (by omega) hltz
      cases e
      rw [Int.toNat_natCast] at hx
      have hx64 := HG.out _ (rd_mem c kk hlt)
      cases hl : litB n (rd c (kk : Int)) with
      | false =>
        have hof : o = false := by
          cases o with
          | false => rfl
          | true =>
            have := HO.out.1 rfl kk hlt
            simp [litB] at hl
            have h1 := this.1; have h2 := this.2.1
            omega
        subst hof
        have hcall := fun W => lit_calls n (rd c (kk : Int)) W (by omega) (by omega)
        rw [hl] at hcall
        clear hl hx64
        generalize rd c (kk : Int) = y at hx hcall
        go_wp2_with fail
        go_quiet ((go_at_call 25; exact Calls.quiet_of_same (hcall _)))
        go_wp2
        go_ret
        exact ⟨rfl, by repeat (first | exact HD.out | apply Drawn0.step)⟩
      | true =>
        have hcall := fun W => lit_calls n (rd c (kk : Int)) W (by omega) (by omega)
        rw [hl] at hcall
        have hlo : 2 ≤ rd c (kk : Int) ∧ rd c (kk : Int) ≤ 2 * (n : Int) + 1 := by simpa [litB] using hl
        clear hl
        by_cases hz : kk = 0
        · have A1 : Aside0 (∀ j, j < kk + 1 → okAt n c j) := ⟨fun j hj => by
            have : j = kk := by omega
            subst this
            exact ⟨hlo.1, hlo.2, fun h => absurd h (by omega)⟩⟩
          have hz0 : decide (0 < kk) = false := decide_eq_false (by omega)
          have hz1 : decide (0 < (kk : Int)) = false := decide_eq_false (by omega)
          clear hlo hx64 hz
          generalize rd c (kk : Int) = y at hx hcall
          go_wp2_with fail
          go_quiet ((go_at_call 25; exact Calls.quiet_of_same (hcall _)))
          go_wp2
          go_roundg (c.length - (kk + 1))
          case measure => omega
          case rel => exact ⟨kk + 1, by omega, by omega, by go_num, A1, ⟨by repeat (first | exact HD.out | apply Drawn0.step)⟩⟩
        · obtain ⟨p, hp⟩ : ∃ p, kk = p + 1 := ⟨kk - 1, by omega⟩
          obtain ⟨ad2, e2, hx2⟩ := Kd.at_int (Kd.C_below HR.out HD.out.below) (p : Int) (by omega) (by omega)
          cases e2
          rw [Int.toNat_natCast] at hx2
          obtain ⟨p1, p2, _⟩ := A0.out p (by omega)
          have hok : Aside0 (rd c (p : Int) < rd c (kk : Int) ∧ ¬ (rd c (p : Int) % 2 = 0 ∧ rd c (kk : Int) = rd c (p : Int) + 1) → ∀ j, j < kk + 1 → okAt n c j) := ⟨fun h j hj => by
            by_cases hjk : j = kk
            · subst hjk
              exact ⟨hlo.1, hlo.2, fun _ => by rw [hp, show p + 1 - 1 = p by omega, ← hp]; exact h⟩
            · exact A0.out j (by omega)⟩
          have hno : Aside0 (¬ (rd c (p : Int) < rd c (kk : Int) ∧ ¬ (rd c (p : Int) % 2 = 0 ∧ rd c (kk : Int) = rd c (p : Int) + 1)) → o = false) := ⟨fun h => by
            cases o with
            | false => rfl
            | true =>
              have := (HO.out.1 rfl kk hlt).2.2 (by omega)
              rw [hp, show p + 1 - 1 = p by omega, ← hp] at this
              exact absurd this h⟩
          clear hx64
          generalize rd c (kk : Int) = y at hx hcall hlo hok hno
          generalize rd c (p : Int) = z at hx2 p1 p2 hok hno
          have u1 : IntKind.i64.wrap (y - z) = y - z := IntWalk.i64_in _ (by omega)
          have u2 : IntKind.i64.wrap (z + 1) = z + 1 := IntWalk.i64_in _ (by omega)
          have u3 : z.tmod 2 = z % 2 := tmod2 (by omega)
          have u4 : IntKind.i64.wrap ((kk : Int) - 1) = (p : Int) := by rw [show (kk : Int) - 1 = p by omega]; exact IntWalk.i64_in _ (by omega)
          have hz0 : decide (0 < kk) = true := decide_eq_true (by omega)
          have hz1 : decide (0 < (kk : Int)) = true := decide_eq_true (by omega)
          have v1 : (0 : Int) ≤ (p : Int) := by omega
          have v2 : (p : Int) < (c.length : Int) := by omega
          have v3 : p < c.length := by omega
          clear hp hz
          by_cases q1 : y - z < 1
          · have hof : o = false := hno.out (by omega)
            subst hof
            have q1b : decide (y - z < 1) = true := decide_eq_true q1
            clear q1 hlo p1 p2
            go_wp2_with fail
            go_quiet ((go_at_call 25; exact Calls.quiet_of_same (hcall _)))
            go_wp2
            go_ret
            exact ⟨rfl, by repeat (first | exact HD.out | apply Drawn0.step)⟩
          · have q1b : decide (y - z < 1) = false := decide_eq_false q1
            by_cases q2 : z % 2 = 0
            · have q2b : (z % 2 == 0) = true := beq_iff_eq.mpr q2
              by_cases q3 : y = z + 1
              · have q3b : (y == z + 1) = true := beq_iff_eq.mpr q3
                have hof : o = false := hno.out (by omega)
                subst hof
                clear q1 q2 q3 hlo p1 p2
                go_wp2_with fail
                go_quiet ((go_at_call 25; exact Calls.quiet_of_same (hcall _)))
                go_wp2
                go_ret
                exact ⟨rfl, by repeat (first | exact HD.out | apply Drawn0.step)⟩
              · have q3b : (y == z + 1) = false := beq_eq_false_iff_ne.mpr q3
                have A1 := Aside0.mk (hok.out (by omega))
                clear q1 q2 q3 hlo p1 p2
                go_wp2_with fail
                go_quiet ((go_at_call 25; exact Calls.quiet_of_same (hcall _)))
                go_wp2
                go_roundg (c.length - (kk + 1))
                case measure => omega
                case rel => exact ⟨kk + 1, by omega, by omega, by go_num, A1, ⟨by repeat (first | exact HD.out | apply Drawn0.step)⟩⟩
            · have q2b : (z % 2 == 0) = false := beq_eq_false_iff_ne.mpr q2
              have A1 := Aside0.mk (hok.out (by omega))
              clear q1 q2 hlo p1 p2
              go_wp2_with fail
              go_quiet ((go_at_call 25; exact Calls.quiet_of_same (hcall _)))
              go_wp2
              go_roundg (c.length - (kk + 1))
              case measure => omega
              case rel => exact ⟨kk + 1, by omega, by omega, by go_num, A1, ⟨by repeat (first | exact HD.out | apply Drawn0.step)⟩⟩
    · have hof : o = true := HO.out.2 fun j hj => A0.out j (by omega)
      subst hof
      go_wp2
      go_ret
      exact ⟨rfl, by repeat (first | exact HD.out | apply Drawn0.step)⟩
end Go.Proofs.YtcchjefjljpccaaGreat.SF

/- THE PLAIN LAW OF ShrinkFirst. -/
namespace Go.Proofs.YtcchjefjljpccaaGreat.SF
open Go.RowKit Go.Proofs.YtcchjefjljpccaaGreatW.PrintWords Go.Proofs.YtcchjefjljpccaaGreatW.PrintLast Go.Proofs.YtcchjefjljpccaaGreatW.PrintMore Go.Proofs.YtcchjefjljpccaaGreat.PShrinkFirst
set_option linter.unusedVariables false
set_option linter.unusedSimpArgs false

theorem allB_mem : ∀ (n : Nat) (st : List Bool), st ∈ allB n ↔ st.length = n
  | 0, st => by simp [allB]
  | n + 1, st => by
    simp only [allB, List.mem_flatMap]
    constructor
    · rintro ⟨l, hl, hs⟩
      have := (allB_mem n l).1 hl
      simp at hs
      rcases hs with rfl | rfl <;> simp [this]
    · intro h
      have hne : st ≠ [] := by rintro rfl; simp at h
      refine ⟨st.dropLast, (allB_mem n _).2 (by simp [h]), ?_⟩
      have hs := (List.dropLast_concat_getLast hne).symm
      cases hb : st.getLast hne with
      | false => rw [hb] at hs; simp; left; exact hs
      | true => rw [hb] at hs; simp; right; exact hs

theorem okAt_lt {n : Nat} {c : List Int} (ho : ∀ j, j < c.length → okAt n c j) : ∀ (d i : Nat), i + d + 1 < c.length → rd c (i : Int) < rd c ((i + d + 1 : Nat) : Int)
  | 0, i, h => by
    have := (ho (i + 1) (by omega)).2.2 (by omega)
    exact this.1
  | d + 1, i, h => by
    have h1 := okAt_lt ho d i (by omega)
    have h2 := ((ho (i + (d + 1) + 1) (by omega)).2.2 (by omega)).1
    rw [show i + (d + 1) + 1 - 1 = i + d + 1 by omega] at h2
    omega
theorem rd_get {c : List Int} {j : Nat} (hj : j < c.length) : rd c (j : Int) = c[j] := by simp [rd, List.getD_eq_getElem?_getD, List.getElem?_eq_getElem hj]
theorem not_both {n : Nat} {c : List Int} (ho : ∀ j, j < c.length → okAt n c j) (v : Int) (h1 : 2 * v ∈ c) (h2 : 2 * v + 1 ∈ c) : False := by
  obtain ⟨i, hi, e1⟩ := List.getElem_of_mem h1
  obtain ⟨j, hj, e2⟩ := List.getElem_of_mem h2
  rw [← rd_get hi] at e1
  rw [← rd_get hj] at e2
  rcases Nat.lt_trichotomy i j with h | h | h
  · have h3 := (ho (i + 1) (by omega)).2.2 (by omega)
    rw [show i + 1 - 1 = i by omega] at h3
    by_cases hij : j = i + 1
    · subst hij
      exact h3.2 ⟨by omega, by omega⟩
    · have := okAt_lt ho (j - i - 2) (i + 1) (by omega)
      rw [show i + 1 + (j - i - 2) + 1 = j by omega] at this
      omega
  · subst h; omega
  · have := okAt_lt ho (i - j - 1) j (by omega)
    rw [show j + (i - j - 1) + 1 = i by omega] at this
    omega

def mkState (l1 : List S44) (cube : List Int) : List Bool :=
  (List.range l1.length).map fun (i : Nat) => if 2 * ((i : Int) + 1) ∈ cube then true else if 2 * ((i : Int) + 1) + 1 ∈ cube then false else ((rd_T44 l1 (i : Int)).f1 == 1)
theorem mkState_get (l1 : List S44) (cube : List Int) (i : Nat) (h : i < l1.length) : rdOf false (mkState l1 cube) (i : Int) = (if 2 * ((i : Int) + 1) ∈ cube then true else if 2 * ((i : Int) + 1) + 1 ∈ cube then false else ((rd_T44 l1 (i : Int)).f1 == 1)) := by
  simp [rdOf, mkState, List.getD_eq_getElem?_getD, List.getElem?_map, List.getElem?_range h]

theorem first_law (l1 : List S44) (cube : List Int) (ho : ∀ j, j < cube.length → okAt l1.length cube j) (hres : ∀ i : Nat, i < l1.length → 0 ≤ (rd_T44 l1 (i : Int)).f1 ∧ (rd_T44 l1 (i : Int)).f1 ≤ 2) :
    (!cube.any (against l1)) = (allB l1.length).any fun st => startsB l1 st && cube.all (holdsB st) := by
  have hv := okAt_mem ho
  rw [Bool.eq_iff_iff]
  simp only [Bool.not_eq_true', List.any_eq_false, List.any_eq_true, Bool.and_eq_true, List.all_eq_true]
  constructor
  · intro h
    refine ⟨mkState l1 cube, (allB_mem _ _).2 (by simp [mkState]), ?_, ?_⟩
    · simp only [startsB, List.all_eq_true, List.mem_range]
      intro i hi
      obtain ⟨r0, r2⟩ := hres i hi
      simp only [startsAt, Bool.or_eq_true, beq_iff_eq, mkState_get l1 cube i hi]
      by_cases h2 : (rd_T44 l1 (i : Int)).f1 = 2
      · exact .inl h2
      · right
        split
        · rename_i hm
          have := h _ hm
          simp only [against, show 2 * ((i : Int) + 1) / 2 - 1 = i by omega, show 2 * ((i : Int) + 1) % 2 = 0 by omega, Bool.and_eq_true, bne_iff_ne, beq_iff_eq, not_and] at this
          have h1 := this h2
          have : (rd_T44 l1 (i : Int)).f1 = 1 := by omega
          simp [this]
        · split
          · rename_i hm
            have := h _ hm
            simp only [against, show (2 * ((i : Int) + 1) + 1) / 2 - 1 = i by omega, show (2 * ((i : Int) + 1) + 1) % 2 = 1 by omega, Bool.and_eq_true, bne_iff_ne, beq_iff_eq, not_and] at this
            have h1 := this h2
            simp [h1]
          · rfl
    · intro l hl
      obtain ⟨p1, p2⟩ := hv l hl
      have hi : (l / 2 - 1).toNat < l1.length := by omega
      have ei : ((l / 2 - 1).toNat : Int) = l / 2 - 1 := by omega
      have hg := mkState_get l1 cube _ hi
      rw [ei] at hg
      simp only [holdsB, hg, beq_iff_eq]
      by_cases he : l % 2 = 0
      · rw [if_pos (by rw [show 2 * (l / 2 - 1 + 1) = l by omega]; exact hl)]
        simp [he]
      · have h1 : 2 * (l / 2 - 1 + 1) + 1 = l := by omega
        rw [if_neg (fun hm => not_both ho _ hm (by rw [h1]; exact hl)), if_pos (by rw [h1]; exact hl)]
        symm
        exact beq_eq_false_iff_ne.mpr he
  · rintro ⟨st, hst, hs, hh⟩ l hl
    obtain ⟨p1, p2⟩ := hv l hl
    have hi : (l / 2 - 1).toNat < l1.length := by omega
    have ei : ((l / 2 - 1).toNat : Int) = l / 2 - 1 := by omega
    simp only [startsB, List.all_eq_true, List.mem_range] at hs
    have h1 := hs _ hi
    have h2 := hh l hl
    simp only [startsAt, ei, Bool.or_eq_true, beq_iff_eq] at h1
    simp only [holdsB, beq_iff_eq] at h2
    simp only [against, Bool.and_eq_true, bne_iff_ne, beq_iff_eq, not_and]
    intro hne heq
    rcases h1 with h1 | h1
    · exact hne h1
    · rw [h2, heq] at h1
      by_cases he : l % 2 = 0
      · rw [he] at h1; simp at h1
      · have : l % 2 = 1 := by omega
        rw [this] at h1; simp at h1
end Go.Proofs.YtcchjefjljpccaaGreat.SF

/- ARGUMENTS OPENED: what a reading tells of the cells, kind by kind. -/
namespace Go.Proofs.YtcchjefjljpccaaGreat.SF
open Go.RowKit Go.ChangeShapes Go.WideShapes Go.Deep Go.Proofs.YtcchjefjljpccaaGreatW.PrintWords Go.Proofs.YtcchjefjljpccaaGreatW.PrintLast Go.Proofs.YtcchjefjljpccaaGreatW.PrintMore Go.Proofs.YtcchjefjljpccaaGreat.PShrinkFirst
set_option linter.unusedVariables false

/-- whatever reads as a datum of type t: its cells are such as K says of some value -/
def Opens {H : Type} (enc : TypeId × Value → H) (P : Program) (w : World) (base : Nat) (spare : Nat → Bool) (held : Bool) {α : Type} (t : TypeId) (K : α → List Value → Prop) : Prop :=
  ∀ fuel cs x, DataW.trod enc P w base spare held fuel t cs = some x → ∃ a, K a cs

section
variable {H : Type} {enc : TypeId × Value → H} {P : Program} {w : World} {base : Nat} {spare : Nat → Bool} {held : Bool}
theorem opens_int {t : TypeId} {k : IntKind} (ht : P.underlying t = some (.int k)) : Opens enc P w base spare held t (fun (n : Int) cs => cs = [.int k n] ∧ (Lit.int k n).wf = true) := by
  intro fuel cs x h
  cases fuel with
  | zero => simp [DataW.trod] at h
  | succ fuel =>
    unfold DataW.trod at h
    rw [ht] at h
    split at h <;> simp_all
theorem opens_bool {t : TypeId} (ht : P.underlying t = some .bool) : Opens enc P w base spare held t (fun (n : Bool) cs => cs = [.bool n]) := by
  intro fuel cs x h
  cases fuel with
  | zero => simp [DataW.trod] at h
  | succ fuel =>
    unfold DataW.trod at h
    rw [ht] at h
    split at h <;> simp_all
theorem opens_slice {α : Type} {t e : TypeId} {K : α → List Value → Prop} (ht : P.underlying t = some (.slice e)) (hK : Opens enc P w base spare held e K) (hn : ∀ a cs, K a cs → cs.length = P.cellsOf e) :
    Opens enc P w base spare held t (fun (xs : List α) cs => ∃ A c, cs = [.slice A xs.length c] ∧ xs.length ≤ c ∧ c ≤ maxLen ∧ ReadsRow K (P.cellsOf e) w A xs.length xs) := by
  intro fuel cs x h
  rcases open_slice ht h with ⟨rfl, _⟩ | ⟨a, len, cap, m, n, D, Pl, rfl, hb, hl, hm, hmm, hx, hi⟩
  · exact ⟨[], none, 0, rfl, by simp, by unfold maxLen; omega, rfl, by simp, fun h => by simp at h⟩
  · have hlm : len ≤ m := by rw [hmm]; split <;> omega
    have hel : ∀ i : Fin len, ∃ y, ∃ cs', w.cells? base (a.add (i.1 * P.cellsOf e)) (P.cellsOf e) = some cs' ∧ K y cs' := fun i => by
      obtain ⟨cs', hc, ht'⟩ := hi i.1 (by omega)
      obtain ⟨y, hy⟩ := hK _ _ _ ht'
      exact ⟨y, cs', hc, hy⟩
    have hch : ∃ f : Fin len → α, ∀ i, ∃ cs', w.cells? base (a.add (i.1 * P.cellsOf e)) (P.cellsOf e) = some cs' ∧ K (f i) cs' := ⟨fun i => Classical.choose (hel i), fun i => Classical.choose_spec (hel i)⟩
    obtain ⟨f, hf⟩ := hch
    refine ⟨List.ofFn f, some a, cap, by simp, by simpa using hl, hm, by simp, by unfold maxLen at hm; simp; omega, fun _ => ⟨a, rfl, fun j p hp => ?_⟩⟩
    rw [List.getElem?_ofFn] at hp
    split at hp
    · rename_i hj
      injection hp with hp
      subst hp
      obtain ⟨cs', hc, hk⟩ := hf ⟨j, hj⟩
      obtain ⟨_, hcl, hat⟩ := World.cells?_some hc
      refine ⟨cs', hcl, hk, fun i u hu => ?_⟩
      have hi' : i < P.cellsOf e := by
        rcases Nat.lt_or_ge i cs'.length with h | h
        · omega
        · rw [List.getElem?_eq_none h] at hu; cases hu
      have := hat i hi'
      rw [hu] at this
      rw [← this, Go.Deep.add_add]
    · cases hp
end

theorem wf64 {x : Int} (h : (Lit.int .i64 x).wf = true) : -9223372036854775808 ≤ x ∧ x ≤ 9223372036854775807 := by
  simp only [Lit.wf, IntKind.min, IntKind.max, IntKind.signed, IntKind.bits, Bool.and_eq_true, decide_eq_true_eq, if_true] at h
  omega

section
variable {H : Type} {enc : TypeId × Value → H} {w : World} {base : Nat} {spare : Nat → Bool} {held : Bool}
abbrev KI (x : Int) (cs : List Value) : Prop := cs = [.int .i64 x] ∧ (Lit.int .i64 x).wf = true
theorem opens3 : Opens enc Tryz.prog w base spare held 3 KI := opens_int Tryz.underlying3
abbrev K44 (x : S44) (cs : List Value) : Prop := cs = [.int .i64 x.f0, .int .i64 x.f1] ∧ (Lit.int .i64 x.f0).wf = true ∧ (Lit.int .i64 x.f1).wf = true
abbrev K46 (x : S46) (cs : List Value) : Prop := cs = [.int .i64 x.f0, .int .i64 x.f1] ∧ (Lit.int .i64 x.f0).wf = true ∧ (Lit.int .i64 x.f1).wf = true
theorem cells3 : Tryz.prog.cellsOf 3 = 1 := by kernel_rfl
theorem cells44 : Tryz.prog.cellsOf 44 = 2 := by kernel_rfl
theorem cells46 : Tryz.prog.cellsOf 46 = 2 := by kernel_rfl
theorem two_cells {cs : List Value} {v0 v1 : Value} (hl : cs.length = 2) (h0 : (cs.drop 0).take 1 = [v0]) (h1 : (cs.drop 1).take 1 = [v1]) : cs = [v0, v1] := by
  match cs, hl with
  | [a, b], _ => simp at h0 h1; simp [h0, h1]
theorem opens44 : Opens enc Tryz.prog w base spare held 44 K44 := by
  intro fuel cs x h
  obtain ⟨y0, y1, n, _, hl, h0, h1⟩ := trod_struct2 Tryz.underlying44 h
  obtain ⟨a, e0, w0⟩ := opens3 _ _ _ h0
  obtain ⟨b, e1, w1⟩ := opens3 _ _ _ h1
  rw [cells44] at hl
  rw [cells3] at e0 e1
  exact ⟨⟨a, b⟩, two_cells hl e0 e1, w0, w1⟩
theorem opens46 : Opens enc Tryz.prog w base spare held 46 K46 := by
  intro fuel cs x h
  obtain ⟨y0, y1, n, _, hl, h0, h1⟩ := trod_struct2 Tryz.underlying46 h
  obtain ⟨a, e0, w0⟩ := opens3 _ _ _ h0
  obtain ⟨b, e1, w1⟩ := opens3 _ _ _ h1
  rw [cells46] at hl
  rw [cells3] at e0 e1
  exact ⟨⟨a, b⟩, two_cells hl e0 e1, w0, w1⟩

/-- a slice of elements that a kind reads, each of which is such as q says -/
def SliceOf {α : Type} (d : Kd α) (q : α → Prop) (w : World) (xs : List α) (v : Value) : Prop := ∃ A c, v = .slice A xs.length c ∧ xs.length ≤ c ∧ Kd.C d w A xs.length xs ∧ ∀ x ∈ xs, q x
theorem rows_split {α : Type} {K : α → List Value → Prop} {d : Kd α} {q : α → Prop} {A : Option Addr} {xs : List α} {n : Nat} (hn : n = d.sz) (hk : ∀ a cs, K a cs → d.K w a cs ∧ q a) (h : ReadsRow K n w A xs.length xs) : Kd.C d w A xs.length xs ∧ ∀ x ∈ xs, q x := by
  subst hn
  obtain ⟨h1, h2, h3⟩ := h
  constructor
  · refine ⟨h1, h2, fun hp => ?_⟩
    obtain ⟨ad, e, hc⟩ := h3 hp
    refine ⟨ad, e, fun j p hj => ?_⟩
    obtain ⟨c, hs, hK, hcell⟩ := hc j p hj
    exact ⟨c, hs, (hk _ _ hK).1, hcell⟩
  · intro x hx
    obtain ⟨j, hj, rfl⟩ := List.getElem_of_mem hx
    obtain ⟨ad, e, hc⟩ := h3 (by omega)
    obtain ⟨c, hs, hK, hcell⟩ := hc j _ (List.getElem?_eq_getElem hj)
    exact (hk _ _ hK).2
def Rg (x : Int) : Prop := -9223372036854775808 ≤ x ∧ x ≤ 9223372036854775807
theorem opens24 : Opens enc Tryz.prog w base spare held 24 (fun (xs : List Int) cs => ∃ v, cs = [v] ∧ SliceOf (Kd.int .i64) Rg w xs v) := by
  intro fuel cs x h
  obtain ⟨xs, A, c, rfl, hc, _, hr⟩ := opens_slice Tryz.underlying24 opens3 (fun a cs h => by rw [h.1, cells3]; rfl) _ _ _ h
  obtain ⟨h1, h2⟩ := rows_split (d := Kd.int .i64) (q := Rg) cells3 (fun a cs h => ⟨h.1, wf64 h.2⟩) hr
  exact ⟨xs, _, rfl, A, c, rfl, hc, h1, h2⟩
theorem opens22 : Opens enc Tryz.prog w base spare held 22 (fun (xs : List S44) cs => ∃ v, cs = [v] ∧ SliceOf k44 (fun x => Rg x.f0 ∧ Rg x.f1) w xs v) := by
  intro fuel cs x h
  obtain ⟨xs, A, c, rfl, hc, _, hr⟩ := opens_slice Tryz.underlying22 opens44 (fun a cs h => by rw [h.1, cells44]; rfl) _ _ _ h
  obtain ⟨h1, h2⟩ := rows_split (d := k44) (q := fun x : S44 => Rg x.f0 ∧ Rg x.f1) cells44 (fun a cs h => ⟨by rw [h.1]; exact k44_mk _ _, wf64 h.2.1, wf64 h.2.2⟩) hr
  exact ⟨xs, _, rfl, A, c, rfl, hc, h1, h2⟩
theorem opens23 : Opens enc Tryz.prog w base spare held 23 (fun (xs : List S46) cs => ∃ v, cs = [v] ∧ SliceOf k46 (fun x => Rg x.f0 ∧ Rg x.f1) w xs v) := by
  intro fuel cs x h
  obtain ⟨xs, A, c, rfl, hc, _, hr⟩ := opens_slice Tryz.underlying23 opens46 (fun a cs h => by rw [h.1, cells46]; rfl) _ _ _ h
  obtain ⟨h1, h2⟩ := rows_split (d := k46) (q := fun x : S46 => Rg x.f0 ∧ Rg x.f1) cells46 (fun a cs h => ⟨by rw [h.1]; exact k46_mk _ _, wf64 h.2.1, wf64 h.2.2⟩) hr
  exact ⟨xs, _, rfl, A, c, rfl, hc, h1, h2⟩
theorem cells26 : Tryz.prog.cellsOf 26 = 5 := by kernel_rfl
theorem cells22 : Tryz.prog.cellsOf 22 = 1 := by kernel_rfl
theorem cells23 : Tryz.prog.cellsOf 23 = 1 := by kernel_rfl
theorem cells24 : Tryz.prog.cellsOf 24 = 1 := by kernel_rfl
/-- a circuit -/
structure CircOf (w : World) (a0 : Int) (l1 : List S44) (l2 : List S46) (l3 l4 : List Int) (cs : List Value) : Prop where
  ex : ∃ v1 v2 v3 v4, cs = [.int .i64 a0, v1, v2, v3, v4] ∧ SliceOf k44 (fun x => Rg x.f0 ∧ Rg x.f1) w l1 v1 ∧ SliceOf k46 (fun x => Rg x.f0 ∧ Rg x.f1) w l2 v2 ∧ SliceOf (Kd.int .i64) Rg w l3 v3 ∧ SliceOf (Kd.int .i64) Rg w l4 v4
  rg : Rg a0
theorem five_cells {cs : List Value} {v0 v1 v2 v3 v4 : Value} (hl : cs.length = 5) (h0 : (cs.drop 0).take 1 = [v0]) (h1 : (cs.drop 1).take 1 = [v1]) (h2 : (cs.drop 2).take 1 = [v2]) (h3 : (cs.drop 3).take 1 = [v3]) (h4 : (cs.drop 4).take 1 = [v4]) : cs = [v0, v1, v2, v3, v4] := by
  match cs, hl with
  | [a, b, c, d, e], _ => simp at h0 h1 h2 h3 h4; simp [h0, h1, h2, h3, h4]
theorem opens26 : Opens enc Tryz.prog w base spare held 26 (fun (x : Int × List S44 × List S46 × List Int × List Int) cs => CircOf w x.1 x.2.1 x.2.2.1 x.2.2.2.1 x.2.2.2.2 cs) := by
  intro fuel cs x h
  obtain ⟨xs, n, _, _, hl, hlen, hf⟩ := DataW.trod_struct Tryz.underlying26 h
  match xs, hlen with
  | [y0, y1, y2, y3, y4], _ =>
    have h0 := hf 0 _ rfl
    have h1 := hf 1 _ rfl
    have h2 := hf 2 _ rfl
    have h3 := hf 3 _ rfl
    have h4 := hf 4 _ rfl
    obtain ⟨a0, e0, w0⟩ := opens3 _ _ _ h0
    obtain ⟨l1, v1, e1, s1⟩ := opens22 _ _ _ h1
    obtain ⟨l2, v2, e2, s2⟩ := opens23 _ _ _ h2
    obtain ⟨l3, v3, e3, s3⟩ := opens24 _ _ _ h3
    obtain ⟨l4, v4, e4, s4⟩ := opens24 _ _ _ h4
    rw [cells26] at hl
    replace e0 : (cs.drop 0).take (Tryz.prog.cellsOf 3) = _ := e0
    replace e1 : (cs.drop 1).take (Tryz.prog.cellsOf 22) = _ := e1
    replace e2 : (cs.drop 2).take (Tryz.prog.cellsOf 23) = _ := e2
    replace e3 : (cs.drop 3).take (Tryz.prog.cellsOf 24) = _ := e3
    replace e4 : (cs.drop 4).take (Tryz.prog.cellsOf 24) = _ := e4
    rw [cells3] at e0; rw [cells22] at e1; rw [cells23] at e2; rw [cells24] at e3 e4
    exact ⟨(a0, l1, l2, l3, l4), ⟨v1, v2, v3, v4, five_cells hl e0 e1 e2 e3 e4, s1, s2, s3, s4⟩, wf64 w0⟩
end
end Go.Proofs.YtcchjefjljpccaaGreat.SF
