/- Contracts of gates.Check, shrink.First, traces.First (conditions: those named in each). -/
import Derived.Test.YtcchjefjljpccaaGreatPShrinkFirstx0
import Derived.Shelf.Abstract
import Derived.Laws.EntriesVeiled
import Derived.Test.YtcchjefjljpccaaGreatPShrinkFirstx1
import Derived.Test.YtcchjefjljpccaaGreatPShrinkFirstx20
namespace Go.Proofs.YtcchjefjljpccaaGreat.SF
open Go.RowKit Go.Lib Go.Proofs.YtcchjefjljpccaaGreatW.PrintWords Go.Proofs.YtcchjefjljpccaaGreatW.PrintLast Go.Proofs.YtcchjefjljpccaaGreatW.PrintMore Go.Proofs.YtcchjefjljpccaaGreat.PShrinkFirst
set_option maxHeartbeats 4000000
set_option maxRecDepth 100000
set_option linter.unusedVariables false
set_option linter.unusedSimpArgs false

/-- WHAT IS ASKED OF A PREDICATE that is handed to the library: at each element, in each world in which what was there stands. -/
def Pred {α : Type} (g : Nat) (lb : Array Value) (enc : α → Value) (p : α → Bool) (xs : List α) (w : World) : Prop :=
  ∀ (W : World) (x : α), x ∈ xs → Below w.heap.size w W → Calls Tryz.prog g (#[enc x] ++ lb) W fun e w' => e = .returned (.bool (p x)) ∧ Below w.heap.size w w'

def idx {α : Type} (p : α → Bool) : List α → Int → Int
  | [], _ => -1
  | x :: r, i => if p x then i else idx p r (i + 1)
theorem idx_ge {α : Type} (p : α → Bool) : ∀ (l : List α) (i : Int), 0 ≤ i → decide (idx p l i ≥ 0) = l.any p
  | [], i, _ => rfl
  | x :: r, i, h => by
    unfold idx
    cases hx : p x with
    | true => simp [hx, h]
    | false => simp only [Bool.false_eq_true, if_false, List.any_cons, hx, Bool.false_or]; exact idx_ge p r (i + 1) (by omega)
theorem drop_at (xs : List Int) (kk : Nat) (h : kk < xs.length) : xs.drop kk = rd xs (kk : Int) :: xs.drop (kk + 1) := by
  rw [List.drop_eq_getElem_cons h]
  simp [rd, List.getD_eq_getElem?_getD, List.getElem?_eq_getElem h]
theorem rd_mem (xs : List Int) (kk : Nat) (h : kk < xs.length) : rd xs (kk : Int) ∈ xs := by
  simp [rd, List.getD_eq_getElem?_getD, List.getElem?_eq_getElem h]

theorem indexFunc_int (g : Nat) (lb : Array Value) (eg : ∀ args w, (callFunc g args).run Tryz.prog w = .ok (.enter g args) w) (p : Int → Bool) (A : Option Addr) (c : Nat) (xs : List Int) (w : World)
    (hr : Kd.C (Kd.int .i64) w A xs.length xs) (hn : xs.length ≤ 1000000000) (hp : Pred g lb (Value.int .i64) p xs w) :
    Calls Tryz.prog 52 #[.slice A xs.length c, .func (.func g) #[] lb] w fun e w' => e = .returned (.int .i64 (idx p xs 0)) ∧ Below w.heap.size w w' := by
  have HR := Aside0.mk hr
  have HP := Aside0.mk hp
  clear hr hp
  go_enter Tryz.func52, Tryz.ntmps52
  go_wp2
  go_loopg [5, 8] xs.length (fun gg _ s8 wr => ∃ kk : Nat, kk ≤ xs.length ∧ xs.length - kk ≤ gg ∧ s8 = .int .i64 kk ∧ Aside0 (Below w.heap.size w wr) ∧ Aside0 (idx p xs 0 = idx p (xs.drop kk) kk))
  case atStart => exact ⟨0, Nat.zero_le _, by omega, rfl, ⟨Below.refl _ w⟩, ⟨by simp⟩⟩
  case round =>
    obtain ⟨kk, hkk, hg, rfl, BW, A0⟩ := hrel
    by_cases hlt : kk < xs.length
    · have hltz : (kk : Int) < (xs.length : Int) := by omega
      obtain ⟨ad, e, hx⟩ := Kd.at_int (Kd.C_below HR.out BW.out) (kk : Int) (by omega) hltz
      cases e
      rw [Int.toNat_natCast] at hx
      have hcall := HP.out wr (rd xs kk) (rd_mem xs kk hlt) BW.out
      have hd := Aside0.mk (drop_at xs kk hlt)
      generalize rd xs (kk : Int) = y at hx hcall hd
      cases hq : p y with
      | true =>
        rw [hq] at hcall
        go_wp2_with fail
        refine hcall.mono ?_
        rintro e w' ⟨rfl, hb'⟩
        clear hcall
        go_wp2
        go_ret
        refine ⟨?_, hb'⟩
        rw [A0.out, hd.out]
        simp [idx, hq]
      | false =>
        rw [hq] at hcall
        go_wp2_with fail
        refine hcall.mono ?_
        rintro e w' ⟨rfl, hb'⟩
        clear hcall
        go_wp2
        go_roundg (xs.length - (kk + 1))
        case measure => omega
        case rel =>
          refine ⟨kk + 1, by omega, by omega, by go_num, ⟨hb'⟩, ⟨?_⟩⟩
          rw [A0.out, hd.out]
          simp [idx, hq]
    · have hltz : ¬ (kk : Int) < (xs.length : Int) := by omega
      go_wp2
      go_ret
      refine ⟨?_, BW.out⟩
      rw [A0.out, List.drop_of_length_le (by omega)]
      rfl
theorem e52 : ∀ args w, (callFunc 52 args).run Tryz.prog w = .ok (.enter 52 args) w := Go.Proofs.enters_of Tryz.func52 (by kernel_rfl) rfl
theorem containsFunc_int (g : Nat) (lb : Array Value) (eg : ∀ args w, (callFunc g args).run Tryz.prog w = .ok (.enter g args) w) (p : Int → Bool) (A : Option Addr) (c : Nat) (xs : List Int) (w : World)
    (hr : Kd.C (Kd.int .i64) w A xs.length xs) (hn : xs.length ≤ 1000000000) (hp : Pred g lb (Value.int .i64) p xs w) :
    Calls Tryz.prog 29 #[.slice A xs.length c, .func (.func g) #[] lb] w fun e w' => e = .returned (.bool (xs.any p)) ∧ Below w.heap.size w w' := by
  have hcall := indexFunc_int g lb eg p A c xs w hr hn hp
  have hi := Aside0.mk (idx_ge p xs 0 (by omega))
  clear hr hp
  generalize idx p xs 0 = i at hcall hi
  go_enter Tryz.func29, Tryz.ntmps29
  go_wp2_with fail
  refine hcall.mono ?_
  rintro e w' ⟨rfl, hb'⟩
  clear hcall
  go_wp2
  go_ret
  exact ⟨by rw [← hi.out]; rfl, hb'⟩

theorem drop_at44 (xs : List S44) (kk : Nat) (h : kk < xs.length) : xs.drop kk = rd_T44 xs (kk : Int) :: xs.drop (kk + 1) := by
  rw [List.drop_eq_getElem_cons h]
  simp [rd_T44, List.getD_eq_getElem?_getD, List.getElem?_eq_getElem h]
theorem rd_mem44 (xs : List S44) (kk : Nat) (h : kk < xs.length) : rd_T44 xs (kk : Int) ∈ xs := by
  simp [rd_T44, List.getD_eq_getElem?_getD, List.getElem?_eq_getElem h]
def enc44 (x : S44) : Value := .agg #[.int .i64 x.f0, .int .i64 x.f1]

theorem indexFunc_44 (g : Nat) (lb : Array Value) (eg : ∀ args w, (callFunc g args).run Tryz.prog w = .ok (.enter g args) w) (p : S44 → Bool) (A : Option Addr) (c : Nat) (xs : List S44) (w : World)
    (hr : Kd.C k44 w A xs.length xs) (hn : xs.length ≤ 1000000000) (hp : Pred g lb enc44 p xs w) :
    Calls Tryz.prog 73 #[.slice A xs.length c, .func (.func g) #[] lb] w fun e w' => e = .returned (.int .i64 (idx p xs 0)) ∧ Below w.heap.size w w' := by
  have HR := Aside0.mk hr
  have HP := Aside0.mk hp
  clear hr hp
  go_enter Tryz.func73, Tryz.ntmps73
  go_wp2
  go_loopg [5, 8] xs.length (fun gg _ s8 wr => ∃ kk : Nat, kk ≤ xs.length ∧ xs.length - kk ≤ gg ∧ s8 = .int .i64 kk ∧ Aside0 (Below w.heap.size w wr) ∧ Aside0 (idx p xs 0 = idx p (xs.drop kk) kk))
  case atStart => exact ⟨0, Nat.zero_le _, by omega, rfl, ⟨Below.refl _ w⟩, ⟨by simp⟩⟩
  case round =>
    obtain ⟨kk, hkk, hg, rfl, BW, A0⟩ := hrel
    by_cases hlt : kk < xs.length
    · have hltz : (kk : Int) < (xs.length : Int) := by omega
      obtain ⟨ad, e, hx0, hx1⟩ := at_T44 (Kd.C_below HR.out BW.out) (kk : Int) (by omega) hltz
      cases e
      rw [Int.toNat_natCast] at hx0 hx1
      have hcall := HP.out wr (rd_T44 xs kk) (rd_mem44 xs kk hlt) BW.out
      have hd := Aside0.mk (drop_at44 xs kk hlt)
      generalize rd_T44 xs (kk : Int) = y at hx0 hx1 hcall hd
      obtain ⟨y0, y1⟩ := y
      cases hq : p ⟨y0, y1⟩ with
      | true =>
        rw [hq] at hcall
        go_wp2_with fail
        refine hcall.mono ?_
        rintro e w' ⟨rfl, hb'⟩
        clear hcall
        go_wp2
        go_ret
        refine ⟨?_, hb'⟩
        rw [A0.out, hd.out]
        simp [idx, hq]
      | false =>
        rw [hq] at hcall
        go_wp2_with fail
        refine hcall.mono ?_
        rintro e w' ⟨rfl, hb'⟩
        clear hcall
        go_wp2
        go_roundg (xs.length - (kk + 1))
        case measure => omega
        case rel =>
          refine ⟨kk + 1, by omega, by omega, by go_num, ⟨hb'⟩, ⟨?_⟩⟩
          rw [A0.out, hd.out]
          simp [idx, hq]
    · have hltz : ¬ (kk : Int) < (xs.length : Int) := by omega
      go_wp2
      go_ret
      refine ⟨?_, BW.out⟩
      rw [A0.out, List.drop_of_length_le (by omega)]
      rfl

theorem e73 : ∀ args w, (callFunc 73 args).run Tryz.prog w = .ok (.enter 73 args) w := Go.Proofs.enters_of Tryz.func73 (by kernel_rfl) rfl
theorem containsFunc_44 (g : Nat) (lb : Array Value) (eg : ∀ args w, (callFunc g args).run Tryz.prog w = .ok (.enter g args) w) (p : S44 → Bool) (A : Option Addr) (c : Nat) (xs : List S44) (w : World)
    (hr : Kd.C k44 w A xs.length xs) (hn : xs.length ≤ 1000000000) (hp : Pred g lb enc44 p xs w) :
    Calls Tryz.prog 57 #[.slice A xs.length c, .func (.func g) #[] lb] w fun e w' => e = .returned (.bool (xs.any p)) ∧ Below w.heap.size w w' := by
  have hcall := indexFunc_44 g lb eg p A c xs w hr hn hp
  have hi := Aside0.mk (idx_ge p xs 0 (by omega))
  clear hr hp
  generalize idx p xs 0 = i at hcall hi
  go_enter Tryz.func57, Tryz.ntmps57
  go_wp2_with fail
  refine hcall.mono ?_
  rintro e w' ⟨rfl, hb'⟩
  clear hcall
  go_wp2
  go_ret
  exact ⟨by rw [← hi.out]; rfl, hb'⟩

theorem bcell {W w1 : World} (hb : Below W.heap.size W w1) : (∀ b o, b < W.heap.size → w1.cell? ⟨b, o, none⟩ = W.cell? ⟨b, o, none⟩) ∧ (∀ b o, b < W.heap.size → w1.frozen? ⟨b, o, none⟩ = W.frozen? ⟨b, o, none⟩) :=
  ⟨fun b o h => hb.cell (p := ⟨b, o, none⟩) h, fun b o h => hb.frozen (p := ⟨b, o, none⟩) h⟩
/-! ### gates.Check -/
theorem starts_calls (a0 : Int) (A1 A2 A3 A4 : Option Addr) (n1 n2 n3 n4 c1 c2 c3 c4 : Nat) (w : World) (h0 : 0 ≤ a0) (h1 : a0 ≤ 100000) (h2 : n1 ≤ 4611686018427387904) (h3 : n2 ≤ 4611686018427387) :
    Calls Tryz.prog 54 #[.agg #[.int .i64 a0, .slice A1 n1 c1, .slice A2 n2 c2, .slice A3 n3 c3, .slice A4 n4 c4]] w fun e w' => e = .returned (.agg #[.int .i64 1, .int .i64 (1 + a0), .int .i64 (1 + a0 + n1), .int .i64 (1 + a0 + n1 + n2)]) ∧ Below w.heap.size w w' := by
  go_enter Tryz.func54, Tryz.ntmps54
  go_wp2
  exact bodyPost_ret (v := .agg #[.int .i64 1, .int .i64 (1 + a0), .int .i64 (1 + a0 + n1), .int .i64 (1 + a0 + n1 + n2)]) (by simp [results, Tryz.results54, go_sem]) rfl ⟨rfl, by repeat (first | exact Below.refl _ _ | apply below_alloc | (refine Below.setCell ?_ (by simp) _))⟩

def outside (top l : Int) : Bool := decide (l < 0) || decide (l / 2 ≥ top)
theorem outside_calls (l top : Int) (b : Nat) (w : World) (hc : w.cell? ⟨b, 3, none⟩ = some (.int .i64 top)) :
    Calls Tryz.prog 55 #[.int .i64 l, .pointer (some ⟨b, 0, none⟩)] w fun e w' => e = .returned (.bool (outside top l)) ∧ Below w.heap.size w w' := by
  by_cases h0 : l < 0
  · go_enter Tryz.func55, Tryz.ntmps55
    go_wp2
    go_ret
    exact ⟨by simp [outside, h0], Below.refl _ _⟩
  · go_enter Tryz.func55, Tryz.ntmps55
    go_wp2
    go_ret
    exact ⟨by simp [outside, h0]; intro; omega, Below.refl _ _⟩
theorem e55 : ∀ args w, (callFunc 55 args).run Tryz.prog w = .ok (.enter 55 args) w := Go.Proofs.enters_of Tryz.func55 (by kernel_rfl) rfl

def wrongB (top : Int) (x : S44) : Bool := outside top x.f0 || decide (x.f1 < 0) || decide (x.f1 > 2)
theorem wrong_calls (x : S44) (top : Int) (b b2 : Nat) (w : World) (hb : b < w.heap.size) (hb2 : b2 < w.heap.size) (hc : w.cell? ⟨b, 3, none⟩ = some (.int .i64 top))
    (hf : w.cell? ⟨b2, 0, none⟩ = some (.func (.func 55) #[] #[.pointer (some ⟨b, 0, none⟩)])) :
    Calls Tryz.prog 56 #[enc44 x, .pointer (some ⟨b2, 0, none⟩)] w fun e w' => e = .returned (.bool (wrongB top x)) ∧ Below w.heap.size w w' := by
  obtain ⟨y0, y1⟩ := x
  have hcall := fun W (h : Below w.heap.size w W) => outside_calls y0 top b W ((h.cell (p := ⟨b, 3, none⟩) hb).trans hc)
  have e55 := e55
  have HO : Aside0 (wrongB top ⟨y0, y1⟩ = (outside top y0 || decide (y1 < 0) || decide (y1 > 2))) := ⟨rfl⟩
  have HC := Aside0.mk hcall
  clear hcall
  unfold enc44
  cases ho : outside top y0 with
  | true =>
    rw [ho] at HC HO
    clear ho
    go_enter Tryz.func56, Tryz.ntmps56
    go_wp2_with fail
    refine (HC.out _ (below_alloc (Below.refl _ _) _)).mono ?_
    rintro e w' ⟨rfl, hb'⟩
    go_wp2
    go_ret
    exact ⟨by rw [HO.out]; rfl, (below_alloc (Below.refl _ _) _).trans (hb'.mono (by simp))⟩
  | false =>
    rw [ho] at HC HO
    clear ho
    by_cases h1 : y1 < 0
    · have h1b : decide (y1 < 0) = true := decide_eq_true h1
      rw [h1b] at HO
      go_enter Tryz.func56, Tryz.ntmps56
      go_wp2_with fail
      refine (HC.out _ (below_alloc (Below.refl _ _) _)).mono ?_
      rintro e w' ⟨rfl, hb'⟩
      obtain ⟨hc1, hf1⟩ := bcell hb'
      go_wp2
      go_ret
      exact ⟨by rw [HO.out]; rfl, (below_alloc (Below.refl _ _) _).trans (hb'.mono (by simp))⟩
    · have h1b : decide (y1 < 0) = false := decide_eq_false h1
      rw [h1b] at HO
      go_enter Tryz.func56, Tryz.ntmps56
      go_wp2_with fail
      refine (HC.out _ (below_alloc (Below.refl _ _) _)).mono ?_
      rintro e w' ⟨rfl, hb'⟩
      obtain ⟨hc1, hf1⟩ := bcell hb'
      go_wp2
      go_ret
      exact ⟨by rw [HO.out]; simp, (below_alloc (Below.refl _ _) _).trans (hb'.mono (by simp))⟩
end Go.Proofs.YtcchjefjljpccaaGreat.SF

namespace Go.Proofs.YtcchjefjljpccaaGreat.SF
open Go.RowKit Go.Lib Go.Proofs.YtcchjefjljpccaaGreatW.PrintWords Go.Proofs.YtcchjefjljpccaaGreatW.PrintLast Go.Proofs.YtcchjefjljpccaaGreatW.PrintMore Go.Proofs.YtcchjefjljpccaaGreat.PShrinkFirst
attribute [local go_sem] max2_int min2_int max_two min_two max_three min_three max_four min_four
set_option maxHeartbeats 4000000
set_option maxRecDepth 100000
set_option linter.unusedVariables false
set_option linter.unusedSimpArgs false

def andsBad (base : Int) : List S46 → Int → Bool
  | [], _ => false
  | g :: r, i => decide (g.f1 < 0) || decide (g.f0 < g.f1) || decide (g.f0 ≥ 2 * (base + i)) || andsBad base r (i + 1)
def topOf (a0 : Int) (l1 : List S44) (l2 : List S46) : Int := 1 + a0 + l1.length + l2.length
def gatesCheck (a0 : Int) (l1 : List S44) (l2 : List S46) (l3 l4 : List Int) : Int :=
  if a0 < 0 then 8 else if a0 > 1000 then 4 else if topOf a0 l1 l2 - 1 > 1000 then 4 else if 100 < l3.length ∨ 100 < l4.length then 4
  else if l3.any (outside (topOf a0 l1 l2)) then 8 else if l4.any (outside (topOf a0 l1 l2)) then 8 else if l1.any (wrongB (topOf a0 l1 l2)) then 8
  else if andsBad (1 + a0 + l1.length) l2 0 then 8 else 0

def circ (a0 : Int) (A1 A2 A3 A4 : Option Addr) (n1 n2 n3 n4 c1 c2 c3 c4 : Nat) : Value := .agg #[.int .i64 a0, .slice A1 n1 c1, .slice A2 n2 c2, .slice A3 n3 c3, .slice A4 n4 c4]

theorem gates_early (a0 : Int) (A1 A2 A3 A4 : Option Addr) (n1 n2 n3 n4 c1 c2 c3 c4 : Nat) (w : World) (h : a0 < 0) :
    Calls Tryz.prog 37 #[circ a0 A1 A2 A3 A4 n1 n2 n3 n4 c1 c2 c3 c4] w fun e w' => e = .returned (.int .i64 8) ∧ Below w.heap.size w w' := by
  unfold circ
  go_enter Tryz.func37, Tryz.ntmps37
  go_wp2
  go_ret
  exact ⟨rfl, below_alloc (Below.refl _ _) _⟩
theorem gates_many (a0 : Int) (A1 A2 A3 A4 : Option Addr) (n1 n2 n3 n4 c1 c2 c3 c4 : Nat) (w : World) (h : 1000 < a0) :
    Calls Tryz.prog 37 #[circ a0 A1 A2 A3 A4 n1 n2 n3 n4 c1 c2 c3 c4] w fun e w' => e = .returned (.int .i64 4) ∧ Below w.heap.size w w' := by
  unfold circ
  have h2 : ¬ a0 < 0 := by omega
  go_enter Tryz.func37, Tryz.ntmps37
  go_wp2
  go_ret
  exact ⟨rfl, below_alloc (Below.refl _ _) _⟩
theorem ix88 (x0 x1 x2 x3 : Int) : ∀ w, (Instr.index 88 (.agg #[.int .i64 x0, .int .i64 x1, .int .i64 x2, .int .i64 x3]) (.int .i64 3)).run Tryz.prog w = .ok (.int .i64 x3) w := fun _ => by kernel_rfl
theorem gates_many2 (a0 : Int) (A1 A2 A3 A4 : Option Addr) (n1 n2 n3 n4 c1 c2 c3 c4 : Nat) (w : World) (h0 : 0 ≤ a0) (h : a0 ≤ 1000) (hn1 : n1 ≤ 4611686018427387) (hn2 : n2 ≤ 4611686018427387) (h3 : 1000 < 1 + a0 + n1 + n2 - 1) :
    Calls Tryz.prog 37 #[circ a0 A1 A2 A3 A4 n1 n2 n3 n4 c1 c2 c3 c4] w fun e w' => e = .returned (.int .i64 4) ∧ Below w.heap.size w w' := by
  unfold circ
  have hs := fun W => starts_calls a0 A1 A2 A3 A4 n1 n2 n3 n4 c1 c2 c3 c4 W h0 (by omega) (by omega) hn2
  have HS := Aside0.mk hs
  clear hs
  generalize ht : 1 + a0 + (n1 : Int) + (n2 : Int) = top at HS h3
  have hb1 : top ≤ 20000000000000000 := by omega
  clear ht
  have h4 : ¬ 1000 < a0 := by omega
  have i3 := ix88 1 (1 + a0) (1 + a0 + (n1 : Int)) top
  have h5 : ¬ a0 < 0 := by omega
  go_enter Tryz.func37, Tryz.ntmps37
  go_wp2_with fail
  refine (HS.out _).mono ?_
  rintro e w' ⟨rfl, hb'⟩
  go_wp2
  go_ret
  exact ⟨rfl, (below_alloc (Below.refl _ _) _).trans (hb'.mono (by simp))⟩

theorem gates_many3 (a0 : Int) (A1 A2 A3 A4 : Option Addr) (n1 n2 n3 n4 c1 c2 c3 c4 : Nat) (w : World) (h0 : 0 ≤ a0) (h : a0 ≤ 1000) (h3 : 1 + a0 + n1 + n2 - 1 ≤ 1000) (h6 : 100 < n3 ∨ 100 < n4) :
    Calls Tryz.prog 37 #[circ a0 A1 A2 A3 A4 n1 n2 n3 n4 c1 c2 c3 c4] w fun e w' => e = .returned (.int .i64 4) ∧ Below w.heap.size w w' := by
  unfold circ
  have HS := Aside0.mk (fun W => starts_calls a0 A1 A2 A3 A4 n1 n2 n3 n4 c1 c2 c3 c4 W h0 (by omega) (by omega) (by omega))
  generalize ht : 1 + a0 + (n1 : Int) + (n2 : Int) = top at HS h3
  have hb1 : 1 ≤ top := by omega
  clear ht
  have h4 : ¬ 1000 < a0 := by omega
  have h5 : ¬ a0 < 0 := by omega
  have h8 : decide (1000 < top - 1 ∨ 100 < if n3 < n4 then (n4 : Int) else (n3 : Int)) = true := decide_eq_true (by right; split <;> omega)
  have i3 := ix88 1 (1 + a0) (1 + a0 + (n1 : Int)) top
  go_enter Tryz.func37, Tryz.ntmps37
  go_wp2_with fail
  refine (HS.out _).mono ?_
  rintro e w' ⟨rfl, hb'⟩
  obtain ⟨hc1, hf1⟩ := bcell hb'
  go_wp2
  all_goals
    go_ret
    exact ⟨rfl, (below_alloc (Below.refl _ _) _).trans (hb'.mono (by simp))⟩

theorem any_outside (A : Option Addr) (c : Nat) (xs : List Int) (W : World) (b : Nat) (top : Int) (hr : Kd.C (Kd.int .i64) W A xs.length xs) (hn : xs.length ≤ 1000000000) (hb : b < W.heap.size) (hc : W.cell? ⟨b, 3, none⟩ = some (.int .i64 top)) :
    Calls Tryz.prog 29 #[.slice A xs.length c, .func (.func 55) #[] #[.pointer (some ⟨b, 0, none⟩)]] W fun e w' => e = .returned (.bool (xs.any (outside top))) ∧ Below W.heap.size W w' :=
  containsFunc_int 55 _ e55 (outside top) A c xs W hr hn fun W' x _ h => (outside_calls x top b W' ((h.cell (p := ⟨b, 3, none⟩) hb).trans hc)).mono fun _ _ ⟨he, hb'⟩ => ⟨he, h.trans (hb'.mono h.size)⟩
theorem e56 : ∀ args w, (callFunc 56 args).run Tryz.prog w = .ok (.enter 56 args) w := Go.Proofs.enters_of Tryz.func56 (by kernel_rfl) rfl
theorem any_wrong (A : Option Addr) (c : Nat) (xs : List S44) (W : World) (b b2 : Nat) (top : Int) (hr : Kd.C k44 W A xs.length xs) (hn : xs.length ≤ 1000000000) (hb : b < W.heap.size) (hb2 : b2 < W.heap.size) (hc : W.cell? ⟨b, 3, none⟩ = some (.int .i64 top))
    (hf : W.cell? ⟨b2, 0, none⟩ = some (.func (.func 55) #[] #[.pointer (some ⟨b, 0, none⟩)])) :
    Calls Tryz.prog 57 #[.slice A xs.length c, .func (.func 56) #[] #[.pointer (some ⟨b2, 0, none⟩)]] W fun e w' => e = .returned (.bool (xs.any (wrongB top))) ∧ Below W.heap.size W w' :=
  containsFunc_44 56 _ e56 (wrongB top) A c xs W hr hn fun W' x _ h => (wrong_calls x top b b2 W' (Nat.lt_of_lt_of_le hb h.size) (Nat.lt_of_lt_of_le hb2 h.size) ((h.cell (p := ⟨b, 3, none⟩) hb).trans hc) ((h.cell (p := ⟨b2, 0, none⟩) hb2).trans hf)).mono fun _ _ ⟨he, hb'⟩ => ⟨he, h.trans (hb'.mono h.size)⟩

theorem gates_bads (a0 : Int) (A1 A2 A3 A4 : Option Addr) (c1 c2 c3 c4 : Nat) (l1 : List S44) (l2 : List S46) (l3 l4 : List Int) (w : World) (h0 : 0 ≤ a0) (h : a0 ≤ 1000) (h3 : topOf a0 l1 l2 - 1 ≤ 1000) (hn3 : l3.length ≤ 100) (hn4 : l4.length ≤ 100)
    (hr1 : Kd.C k44 w A1 l1.length l1) (hr2 : Kd.C k46 w A2 l2.length l2) (hr3 : Kd.C (Kd.int .i64) w A3 l3.length l3) (hr4 : Kd.C (Kd.int .i64) w A4 l4.length l4) (g3 : l3.any (outside (topOf a0 l1 l2)) = true) :
    Calls Tryz.prog 37 #[circ a0 A1 A2 A3 A4 l1.length l2.length l3.length l4.length c1 c2 c3 c4] w fun e w' => e = .returned (.int .i64 8) ∧ Below w.heap.size w w' := by
  unfold circ
  unfold topOf at *
  have HS := Aside0.mk (fun W => starts_calls a0 A1 A2 A3 A4 l1.length l2.length l3.length l4.length c1 c2 c3 c4 W h0 (by omega) (by omega) (by omega))
  generalize ht : 1 + a0 + (l1.length : Int) + (l2.length : Int) = top at *
  have hb1 : 1 ≤ top := by omega
  have hl1 : l1.length ≤ 1000 := by omega
  have hl2 : l2.length ≤ 1000 := by omega
  have H1 := Aside0.mk hr1
  have H2 := Aside0.mk hr2
  have H3 := Aside0.mk hr3
  have H4 := Aside0.mk hr4
  have HT := Aside0.mk ht
  have G3 := Aside0.mk g3
  clear ht hr1 hr2 hr3 hr4 g3
  have h4 : ¬ 1000 < a0 := by omega
  have h5 : ¬ a0 < 0 := by omega
  have h8 : decide (1000 < top - 1 ∨ 100 < if l3.length < l4.length then (l4.length : Int) else (l3.length : Int)) = false := decide_eq_false (by intro h; rcases h with h | h; omega; split at h <;> omega)
  have i3 := ix88 1 (1 + a0) (1 + a0 + (l1.length : Int)) top
  go_enter Tryz.func37, Tryz.ntmps37
  go_wp2_with fail
  refine (HS.out _).mono ?_
  rintro e w' ⟨rfl, hb'⟩
  have HB1 := Aside0.mk ((below_alloc (Below.refl w.heap.size w) _).trans (hb'.mono (by simp)))
  obtain ⟨hc1, hf1⟩ := bcell hb'
  have hz1 : w.heap.size < w'.heap.size := by have := hb'.size; (try simp at this); omega
  clear hb'
  go_wp2_with fail
  all_goals
    refine (HS.out _).mono ?_
    rintro e w2 ⟨rfl, hb'⟩
    have HB2 := Aside0.mk (HB1.out.trans (hb'.mono HB1.out.size))
    obtain ⟨hc2, hf2⟩ := bcell hb'
    have hz2 : w.heap.size < w2.heap.size := by have := hb'.size; omega
    clear hb'
    go_wp2_with fail
    have HB3 := Aside0.mk (below_alloc (below_alloc HB2.out (Obj.cells #[.int .i64 1, .int .i64 (1 + a0), .int .i64 (1 + a0 + (l1.length : Int)), .int .i64 top] 88)) (Obj.cells #[.func (.func 55) #[] #[.pointer (some ⟨w2.heap.size, 0, none⟩)]] 69))
    refine (any_outside A3 c3 l3 _ w2.heap.size top (Kd.C_below H3.out HB3.out) (by omega) (by simp; try omega) (by simp)).mono ?_
    rintro e w3 ⟨rfl, hb'⟩
    rw [G3.out]
    have HB3' := Aside0.mk (HB3.out.trans (hb'.mono HB3.out.size))
    obtain ⟨hc3, hf3⟩ := bcell hb'
    have hz3 : w.heap.size < w3.heap.size ∧ w2.heap.size + 1 < w3.heap.size := by have := hb'.size; (try simp at this); omega
    have hy3 := hz3.2
    have hx3 := hz3.1
    have hw3 : w2.heap.size < w3.heap.size := by omega
    clear hb' hz3
    have hq3 : w.heap.size < w2.heap.size + 1 + 1 := by omega
    go_wp2
    go_ret
    exact ⟨rfl, HB3'.out⟩
theorem gates_cons (a0 : Int) (A1 A2 A3 A4 : Option Addr) (c1 c2 c3 c4 : Nat) (l1 : List S44) (l2 : List S46) (l3 l4 : List Int) (w : World) (h0 : 0 ≤ a0) (h : a0 ≤ 1000) (h3 : topOf a0 l1 l2 - 1 ≤ 1000) (hn3 : l3.length ≤ 100) (hn4 : l4.length ≤ 100)
    (hr1 : Kd.C k44 w A1 l1.length l1) (hr2 : Kd.C k46 w A2 l2.length l2) (hr3 : Kd.C (Kd.int .i64) w A3 l3.length l3) (hr4 : Kd.C (Kd.int .i64) w A4 l4.length l4) (g3 : l3.any (outside (topOf a0 l1 l2)) = false) (g4 : l4.any (outside (topOf a0 l1 l2)) = true) :
    Calls Tryz.prog 37 #[circ a0 A1 A2 A3 A4 l1.length l2.length l3.length l4.length c1 c2 c3 c4] w fun e w' => e = .returned (.int .i64 8) ∧ Below w.heap.size w w' := by
  unfold circ
  unfold topOf at *
  have HS := Aside0.mk (fun W => starts_calls a0 A1 A2 A3 A4 l1.length l2.length l3.length l4.length c1 c2 c3 c4 W h0 (by omega) (by omega) (by omega))
  generalize ht : 1 + a0 + (l1.length : Int) + (l2.length : Int) = top at *
  have hb1 : 1 ≤ top := by omega
  have hl1 : l1.length ≤ 1000 := by omega
  have hl2 : l2.length ≤ 1000 := by omega
  have H1 := Aside0.mk hr1
  have H2 := Aside0.mk hr2
  have H3 := Aside0.mk hr3
  have H4 := Aside0.mk hr4
  have HT := Aside0.mk ht
  have G3 := Aside0.mk g3
  have G4 := Aside0.mk g4
  clear ht hr1 hr2 hr3 hr4 g3 g4
  have h4 : ¬ 1000 < a0 := by omega
  have h5 : ¬ a0 < 0 := by omega
  have h8 : decide (1000 < top - 1 ∨ 100 < if l3.length < l4.length then (l4.length : Int) else (l3.length : Int)) = false := decide_eq_false (by intro h; rcases h with h | h; omega; split at h <;> omega)
  have i3 := ix88 1 (1 + a0) (1 + a0 + (l1.length : Int)) top
  go_enter Tryz.func37, Tryz.ntmps37
  go_wp2_with fail
  refine (HS.out _).mono ?_
  rintro e w' ⟨rfl, hb'⟩
  have HB1 := Aside0.mk ((below_alloc (Below.refl w.heap.size w) _).trans (hb'.mono (by simp)))
  obtain ⟨hc1, hf1⟩ := bcell hb'
  have hz1 : w.heap.size < w'.heap.size := by have := hb'.size; (try simp at this); omega
  clear hb'
  go_wp2_with fail
  all_goals
    refine (HS.out _).mono ?_
    rintro e w2 ⟨rfl, hb'⟩
    have HB2 := Aside0.mk (HB1.out.trans (hb'.mono HB1.out.size))
    obtain ⟨hc2, hf2⟩ := bcell hb'
    have hz2 : w.heap.size < w2.heap.size := by have := hb'.size; omega
    clear hb'
    go_wp2_with fail
    have HB3 := Aside0.mk (below_alloc (below_alloc HB2.out (Obj.cells #[.int .i64 1, .int .i64 (1 + a0), .int .i64 (1 + a0 + (l1.length : Int)), .int .i64 top] 88)) (Obj.cells #[.func (.func 55) #[] #[.pointer (some ⟨w2.heap.size, 0, none⟩)]] 69))
    refine (any_outside A3 c3 l3 _ w2.heap.size top (Kd.C_below H3.out HB3.out) (by omega) (by simp; try omega) (by simp)).mono ?_
    rintro e w3 ⟨rfl, hb'⟩
    rw [G3.out]
    have HB3' := Aside0.mk (HB3.out.trans (hb'.mono HB3.out.size))
    obtain ⟨hc3, hf3⟩ := bcell hb'
    have hz3 : w.heap.size < w3.heap.size ∧ w2.heap.size + 1 < w3.heap.size := by have := hb'.size; (try simp at this); omega
    have hy3 := hz3.2
    have hx3 := hz3.1
    have hw3 : w2.heap.size < w3.heap.size := by omega
    clear hb' hz3
    have hq3 : w.heap.size < w2.heap.size + 1 + 1 := by omega
    go_wp2_with fail
    refine (any_outside A4 c4 l4 _ w2.heap.size top (Kd.C_below H4.out HB3'.out) (by omega) hw3 (by rw [hc3 _ _ (by simp; try omega)]; simp)).mono ?_
    rintro e w4 ⟨rfl, hb'⟩
    rw [G4.out]
    have HB4' := Aside0.mk (HB3'.out.trans (hb'.mono HB3'.out.size))
    obtain ⟨hc4, hf4⟩ := bcell hb'
    have hz4 : w.heap.size < w4.heap.size ∧ w2.heap.size + 1 < w4.heap.size := by have := hb'.size; (try simp at this); omega
    have hy4 := hz4.2
    have hx4 := hz4.1
    have hw4 : w2.heap.size < w4.heap.size := by omega
    clear hb' hz4
    have hq4 : w.heap.size < w2.heap.size + 1 + 1 := by omega
    go_wp2
    go_ret
    exact ⟨rfl, HB4'.out⟩
theorem gates_latch (a0 : Int) (A1 A2 A3 A4 : Option Addr) (c1 c2 c3 c4 : Nat) (l1 : List S44) (l2 : List S46) (l3 l4 : List Int) (w : World) (h0 : 0 ≤ a0) (h : a0 ≤ 1000) (h3 : topOf a0 l1 l2 - 1 ≤ 1000) (hn3 : l3.length ≤ 100) (hn4 : l4.length ≤ 100)
    (hr1 : Kd.C k44 w A1 l1.length l1) (hr2 : Kd.C k46 w A2 l2.length l2) (hr3 : Kd.C (Kd.int .i64) w A3 l3.length l3) (hr4 : Kd.C (Kd.int .i64) w A4 l4.length l4) (g3 : l3.any (outside (topOf a0 l1 l2)) = false) (g4 : l4.any (outside (topOf a0 l1 l2)) = false) (g1 : l1.any (wrongB (topOf a0 l1 l2)) = true) :
    Calls Tryz.prog 37 #[circ a0 A1 A2 A3 A4 l1.length l2.length l3.length l4.length c1 c2 c3 c4] w fun e w' => e = .returned (.int .i64 8) ∧ Below w.heap.size w w' := by
  unfold circ
  unfold topOf at *
  have HS := Aside0.mk (fun W => starts_calls a0 A1 A2 A3 A4 l1.length l2.length l3.length l4.length c1 c2 c3 c4 W h0 (by omega) (by omega) (by omega))
  generalize ht : 1 + a0 + (l1.length : Int) + (l2.length : Int) = top at *
  have hb1 : 1 ≤ top := by omega
  have hl1 : l1.length ≤ 1000 := by omega
  have hl2 : l2.length ≤ 1000 := by omega
  have H1 := Aside0.mk hr1
  have H2 := Aside0.mk hr2
  have H3 := Aside0.mk hr3
  have H4 := Aside0.mk hr4
  have HT := Aside0.mk ht
  have G3 := Aside0.mk g3
  have G4 := Aside0.mk g4
  have G1 := Aside0.mk g1
  clear ht hr1 hr2 hr3 hr4 g3 g4 g1
  have h4 : ¬ 1000 < a0 := by omega
  have h5 : ¬ a0 < 0 := by omega
  have h8 : decide (1000 < top - 1 ∨ 100 < if l3.length < l4.length then (l4.length : Int) else (l3.length : Int)) = false := decide_eq_false (by intro h; rcases h with h | h; omega; split at h <;> omega)
  have i3 := ix88 1 (1 + a0) (1 + a0 + (l1.length : Int)) top
  go_enter Tryz.func37, Tryz.ntmps37
  go_wp2_with fail
  refine (HS.out _).mono ?_
  rintro e w' ⟨rfl, hb'⟩
  have HB1 := Aside0.mk ((below_alloc (Below.refl w.heap.size w) _).trans (hb'.mono (by simp)))
  obtain ⟨hc1, hf1⟩ := bcell hb'
  have hz1 : w.heap.size < w'.heap.size := by have := hb'.size; (try simp at this); omega
  clear hb'
  go_wp2_with fail
  all_goals
    refine (HS.out _).mono ?_
    rintro e w2 ⟨rfl, hb'⟩
    have HB2 := Aside0.mk (HB1.out.trans (hb'.mono HB1.out.size))
    obtain ⟨hc2, hf2⟩ := bcell hb'
    have hz2 : w.heap.size < w2.heap.size := by have := hb'.size; omega
    clear hb'
    go_wp2_with fail
    have HB3 := Aside0.mk (below_alloc (below_alloc HB2.out (Obj.cells #[.int .i64 1, .int .i64 (1 + a0), .int .i64 (1 + a0 + (l1.length : Int)), .int .i64 top] 88)) (Obj.cells #[.func (.func 55) #[] #[.pointer (some ⟨w2.heap.size, 0, none⟩)]] 69))
    refine (any_outside A3 c3 l3 _ w2.heap.size top (Kd.C_below H3.out HB3.out) (by omega) (by simp; try omega) (by simp)).mono ?_
    rintro e w3 ⟨rfl, hb'⟩
    rw [G3.out]
    have HB3' := Aside0.mk (HB3.out.trans (hb'.mono HB3.out.size))
    obtain ⟨hc3, hf3⟩ := bcell hb'
    have hz3 : w.heap.size < w3.heap.size ∧ w2.heap.size + 1 < w3.heap.size := by have := hb'.size; (try simp at this); omega
    have hy3 := hz3.2
    have hx3 := hz3.1
    have hw3 : w2.heap.size < w3.heap.size := by omega
    clear hb' hz3
    have hq3 : w.heap.size < w2.heap.size + 1 + 1 := by omega
    go_wp2_with fail
    refine (any_outside A4 c4 l4 _ w2.heap.size top (Kd.C_below H4.out HB3'.out) (by omega) hw3 (by rw [hc3 _ _ (by simp; try omega)]; simp)).mono ?_
    rintro e w4 ⟨rfl, hb'⟩
    rw [G4.out]
    have HB4' := Aside0.mk (HB3'.out.trans (hb'.mono HB3'.out.size))
    obtain ⟨hc4, hf4⟩ := bcell hb'
    have hz4 : w.heap.size < w4.heap.size ∧ w2.heap.size + 1 < w4.heap.size := by have := hb'.size; (try simp at this); omega
    have hy4 := hz4.2
    have hx4 := hz4.1
    have hw4 : w2.heap.size < w4.heap.size := by omega
    clear hb' hz4
    have hq4 : w.heap.size < w2.heap.size + 1 + 1 := by omega
    go_wp2_with fail
    refine (any_wrong A1 c1 l1 _ w2.heap.size (w2.heap.size + 1) top (Kd.C_below H1.out HB4'.out) (by omega) hw4 hy4 (by rw [hc4 _ _ hw3, hc3 _ _ (by simp; try omega)]; simp) (by rw [hc4 _ _ hy3, hc3 _ _ (by simp; try omega)]; simp)).mono ?_
    rintro e w5 ⟨rfl, hb'⟩
    rw [G1.out]
    have HB5' := Aside0.mk (HB4'.out.trans (hb'.mono HB4'.out.size))
    obtain ⟨hc5, hf5⟩ := bcell hb'
    have hz5 : w.heap.size < w5.heap.size ∧ w2.heap.size + 1 < w5.heap.size := by have := hb'.size; (try simp at this); omega
    have hy5 := hz5.2
    have hx5 := hz5.1
    have hw5 : w2.heap.size < w5.heap.size := by omega
    clear hb' hz5
    have hq5 : w.heap.size < w2.heap.size + 1 + 1 := by omega
    go_wp2
    go_ret
    exact ⟨rfl, HB5'.out⟩
end Go.Proofs.YtcchjefjljpccaaGreat.SF

namespace Go.Proofs.YtcchjefjljpccaaGreat.SF
open Go.RowKit Go.Lib Go.Proofs.YtcchjefjljpccaaGreatW.PrintWords Go.Proofs.YtcchjefjljpccaaGreatW.PrintLast Go.Proofs.YtcchjefjljpccaaGreatW.PrintMore Go.Proofs.YtcchjefjljpccaaGreat.PShrinkFirst
attribute [local go_sem] max2_int min2_int max_two min_two max_three min_three max_four min_four
set_option maxHeartbeats 4000000
set_option maxRecDepth 100000
set_option linter.unusedVariables false
set_option linter.unusedSimpArgs false

def gres (o : Bool) : Int := if o then 8 else 0
theorem drop_at46 (xs : List S46) (kk : Nat) (h : kk < xs.length) : xs.drop kk = rd_T46 xs (kk : Int) :: xs.drop (kk + 1) := by
  rw [List.drop_eq_getElem_cons h]
  simp [rd_T46, List.getD_eq_getElem?_getD, List.getElem?_eq_getElem h]
theorem gates_loop (o : Bool) (a0 : Int) (A1 A2 A3 A4 : Option Addr) (c1 c2 c3 c4 : Nat) (l1 : List S44) (l2 : List S46) (l3 l4 : List Int) (w : World) (h0 : 0 ≤ a0) (h : a0 ≤ 1000) (h3 : topOf a0 l1 l2 - 1 ≤ 1000) (hn3 : l3.length ≤ 100) (hn4 : l4.length ≤ 100)
    (hr1 : Kd.C k44 w A1 l1.length l1) (hr2 : Kd.C k46 w A2 l2.length l2) (hr3 : Kd.C (Kd.int .i64) w A3 l3.length l3) (hr4 : Kd.C (Kd.int .i64) w A4 l4.length l4) (g3 : l3.any (outside (topOf a0 l1 l2)) = false) (g4 : l4.any (outside (topOf a0 l1 l2)) = false) (g1 : l1.any (wrongB (topOf a0 l1 l2)) = false) (g2 : andsBad (1 + a0 + l1.length) l2 0 = o) :
    Calls Tryz.prog 37 #[circ a0 A1 A2 A3 A4 l1.length l2.length l3.length l4.length c1 c2 c3 c4] w fun e w' => e = .returned (.int .i64 (gres o)) ∧ Below w.heap.size w w' := by
  unfold circ
  unfold topOf at *
  have HS := Aside0.mk (fun W => starts_calls a0 A1 A2 A3 A4 l1.length l2.length l3.length l4.length c1 c2 c3 c4 W h0 (by omega) (by omega) (by omega))
  generalize ht : 1 + a0 + (l1.length : Int) + (l2.length : Int) = top at *
  have hb1 : 1 ≤ top := by omega
  have hl1 : l1.length ≤ 1000 := by omega
  have hl2 : l2.length ≤ 1000 := by omega
  have H1 := Aside0.mk hr1
  have H2 := Aside0.mk hr2
  have H3 := Aside0.mk hr3
  have H4 := Aside0.mk hr4
  have HT := Aside0.mk ht
  have G3 := Aside0.mk g3
  have G4 := Aside0.mk g4
  have G1 := Aside0.mk g1
  have G2 := Aside0.mk g2
  clear ht hr1 hr2 hr3 hr4 g3 g4 g1 g2
  have h4 : ¬ 1000 < a0 := by omega
  have h5 : ¬ a0 < 0 := by omega
  have h8 : decide (1000 < top - 1 ∨ 100 < if l3.length < l4.length then (l4.length : Int) else (l3.length : Int)) = false := decide_eq_false (by intro h; rcases h with h | h; omega; split at h <;> omega)
  have i3 := ix88 1 (1 + a0) (1 + a0 + (l1.length : Int)) top
  go_enter Tryz.func37, Tryz.ntmps37
  go_wp2_with fail
  refine (HS.out _).mono ?_
  rintro e w' ⟨rfl, hb'⟩
  have HB1 := Aside0.mk ((below_alloc (Below.refl w.heap.size w) _).trans (hb'.mono (by simp)))
  obtain ⟨hc1, hf1⟩ := bcell hb'
  have hz1 : w.heap.size < w'.heap.size := by have := hb'.size; (try simp at this); omega
  clear hb'
  go_wp2_with fail
  all_goals
    refine (HS.out _).mono ?_
    rintro e w2 ⟨rfl, hb'⟩
    have HB2 := Aside0.mk (HB1.out.trans (hb'.mono HB1.out.size))
    obtain ⟨hc2, hf2⟩ := bcell hb'
    have hz2 : w.heap.size < w2.heap.size := by have := hb'.size; omega
    clear hb'
    go_wp2_with fail
    have HB3 := Aside0.mk (below_alloc (below_alloc HB2.out (Obj.cells #[.int .i64 1, .int .i64 (1 + a0), .int .i64 (1 + a0 + (l1.length : Int)), .int .i64 top] 88)) (Obj.cells #[.func (.func 55) #[] #[.pointer (some ⟨w2.heap.size, 0, none⟩)]] 69))
    refine (any_outside A3 c3 l3 _ w2.heap.size top (Kd.C_below H3.out HB3.out) (by omega) (by simp; try omega) (by simp)).mono ?_
    rintro e w3 ⟨rfl, hb'⟩
    rw [G3.out]
    have HB3' := Aside0.mk (HB3.out.trans (hb'.mono HB3.out.size))
    obtain ⟨hc3, hf3⟩ := bcell hb'
    have hz3 : w.heap.size < w3.heap.size ∧ w2.heap.size + 1 < w3.heap.size := by have := hb'.size; (try simp at this); omega
    have hy3 := hz3.2
    have hx3 := hz3.1
    have hw3 : w2.heap.size < w3.heap.size := by omega
    clear hb' hz3
    have hq3 : w.heap.size < w2.heap.size + 1 + 1 := by omega
    go_wp2_with fail
    refine (any_outside A4 c4 l4 _ w2.heap.size top (Kd.C_below H4.out HB3'.out) (by omega) hw3 (by rw [hc3 _ _ (by simp; try omega)]; simp)).mono ?_
    rintro e w4 ⟨rfl, hb'⟩
    rw [G4.out]
    have HB4' := Aside0.mk (HB3'.out.trans (hb'.mono HB3'.out.size))
    obtain ⟨hc4, hf4⟩ := bcell hb'
    have hz4 : w.heap.size < w4.heap.size ∧ w2.heap.size + 1 < w4.heap.size := by have := hb'.size; (try simp at this); omega
    have hy4 := hz4.2
    have hx4 := hz4.1
    have hw4 : w2.heap.size < w4.heap.size := by omega
    clear hb' hz4
    have hq4 : w.heap.size < w2.heap.size + 1 + 1 := by omega
    go_wp2_with fail
    refine (any_wrong A1 c1 l1 _ w2.heap.size (w2.heap.size + 1) top (Kd.C_below H1.out HB4'.out) (by omega) hw4 hy4 (by rw [hc4 _ _ hw3, hc3 _ _ (by simp; try omega)]; simp) (by rw [hc4 _ _ hy3, hc3 _ _ (by simp; try omega)]; simp)).mono ?_
    rintro e w5 ⟨rfl, hb'⟩
    rw [G1.out]
    have HB5' := Aside0.mk (HB4'.out.trans (hb'.mono HB4'.out.size))
    obtain ⟨hc5, hf5⟩ := bcell hb'
    have hz5 : w.heap.size < w5.heap.size ∧ w2.heap.size + 1 < w5.heap.size := by have := hb'.size; (try simp at this); omega
    have hy5 := hz5.2
    have hx5 := hz5.1
    have hw5 : w2.heap.size < w5.heap.size := by omega
    clear hb' hz5
    have hq5 : w.heap.size < w2.heap.size + 1 + 1 := by omega
    have HZ := Aside0.mk (show w5.cell? ⟨w2.heap.size, 2, none⟩ = some (.int .i64 (1 + a0 + (l1.length : Int))) by rw [hc5 _ _ hw4, hc4 _ _ hw3, hc3 _ _ (by simp; try omega)]; simp)
    go_wp2
    go_loopg [54] l2.length (fun gg v54 wr => ∃ kk : Nat, kk ≤ l2.length ∧ l2.length - kk ≤ gg ∧ v54 = .int .i64 kk ∧ Aside0 (Below w.heap.size w wr) ∧ Aside0 (Below w5.heap.size w5 wr) ∧ Aside0 (andsBad (1 + a0 + l1.length) (l2.drop kk) kk = o))
    case atStart => exact ⟨0, Nat.zero_le _, by omega, rfl, HB5', ⟨Below.refl _ _⟩, ⟨by simpa using G2.out⟩⟩
    case round =>
      obtain ⟨kk, hkk, hg, rfl, BW, BW5, A0⟩ := hrel
      have hsz := BW.out.size
      have hsz5 := BW5.out.size
      have hcz := (BW5.out.cell (p := ⟨w2.heap.size, 2, none⟩) (by omega)).trans HZ.out
      have hlz : w2.heap.size < wr.heap.size := by omega
      have hnz : w2.heap.size ≠ wr.heap.size := by omega
      clear hc1 hc2 hc3 hc4 hc5 hf1 hf2 hf3 hf4 hf5
      by_cases hlt : kk < l2.length
      · have hltz : (kk : Int) < (l2.length : Int) := by omega
        obtain ⟨ad, e, hx0, hx1⟩ := at_T46 (Kd.C_below H2.out BW.out) (kk : Int) (by omega) hltz
        cases e
        rw [Int.toNat_natCast] at hx0 hx1
        have hd := Aside0.mk (drop_at46 l2 kk hlt)
        have hbs : (0 : Int) ≤ 1 + a0 + (l1.length : Int) := by omega
        have hbs2 : 1 + a0 + (l1.length : Int) ≤ 100000 := by omega
        generalize rd_T46 l2 (kk : Int) = y at hx0 hx1 hd
        obtain ⟨y0, y1⟩ := y
        have A1' : Aside0 ((decide (y1 < 0) || decide (y0 < y1) || decide (y0 ≥ 2 * ((1 + a0 + (l1.length : Int)) + kk)) || andsBad (1 + a0 + (l1.length : Int)) (l2.drop (kk + 1)) ((kk + 1 : Nat) : Int)) = o) := ⟨by have := A0.out; rw [hd.out] at this; exact this⟩
        clear A0
        by_cases h1 : y1 < 0
        · have ho : Aside0 (o = true) := ⟨by rw [← A1'.out]; simp [h1]⟩
          go_wp2
          go_ret
          exact ⟨by rw [ho.out]; rfl, by repeat (first | exact BW.out | apply below_alloc | (refine Below.setCell ?_ (by simp; try omega) _))⟩
        · by_cases h2 : y0 < y1
          · have ho : Aside0 (o = true) := ⟨by rw [← A1'.out]; simp [h2]⟩
            go_wp2
            go_ret
            exact ⟨by rw [ho.out]; rfl, by repeat (first | exact BW.out | apply below_alloc | (refine Below.setCell ?_ (by simp; try omega) _))⟩
          · by_cases h6 : y0 ≥ 2 * ((1 + a0 + (l1.length : Int)) + kk)
            · have ho : Aside0 (o = true) := ⟨by rw [← A1'.out]; simp [h6]⟩
              go_wp2
              go_ret
              exact ⟨by rw [ho.out]; rfl, by repeat (first | exact BW.out | apply below_alloc | (refine Below.setCell ?_ (by simp; try omega) _))⟩
            · have ho : Aside0 (andsBad (1 + a0 + (l1.length : Int)) (l2.drop (kk + 1)) ((kk + 1 : Nat) : Int) = o) := ⟨by rw [← A1'.out]; simp [h1, h2, h6]⟩
              go_wp2
              go_roundg (l2.length - (kk + 1))
              case measure => omega
              case rel =>
                refine ⟨kk + 1, by omega, by omega, by go_num, ⟨?_⟩, ⟨?_⟩, ?_⟩
                · repeat (first | exact BW.out | apply below_alloc | (refine Below.setCell ?_ (by simp; try omega) _))
                · repeat (first | exact BW5.out | apply below_alloc | (refine Below.setCell ?_ (by simp; try omega) _))
                · exact ho
      · have hkl : kk = l2.length := by omega
        have ho : Aside0 (o = false) := ⟨by rw [← A0.out, List.drop_of_length_le (by omega)]; rfl⟩
        clear hkl
        go_wp2
        go_ret
        exact ⟨by rw [ho.out]; rfl, BW.out⟩
end Go.Proofs.YtcchjefjljpccaaGreat.SF

namespace Go.Proofs.YtcchjefjljpccaaGreat.SF
open Go.RowKit Go.Lib Go.Proofs.YtcchjefjljpccaaGreatW.PrintWords Go.Proofs.YtcchjefjljpccaaGreatW.PrintLast Go.Proofs.YtcchjefjljpccaaGreatW.PrintMore Go.Proofs.YtcchjefjljpccaaGreat.PShrinkFirst
attribute [local go_sem] max2_int min2_int max_two min_two max_three min_three max_four min_four
set_option maxHeartbeats 4000000
set_option maxRecDepth 100000
set_option linter.unusedVariables false
set_option linter.unusedSimpArgs false

/-- gates.Check finds a circuit right. -/
structure GatesOk (a0 : Int) (l1 : List S44) (l2 : List S46) (l3 l4 : List Int) : Prop where
  h0 : 0 ≤ a0
  h1 : a0 ≤ 1000
  h3 : topOf a0 l1 l2 - 1 ≤ 1000
  n3 : l3.length ≤ 100
  n4 : l4.length ≤ 100
  g3 : l3.any (outside (topOf a0 l1 l2)) = false
  g4 : l4.any (outside (topOf a0 l1 l2)) = false
  g1 : l1.any (wrongB (topOf a0 l1 l2)) = false
  g2 : andsBad (1 + a0 + l1.length) l2 0 = false

theorem gates_ok (a0 : Int) (A1 A2 A3 A4 : Option Addr) (c1 c2 c3 c4 : Nat) (l1 : List S44) (l2 : List S46) (l3 l4 : List Int) (w : World) (g : GatesOk a0 l1 l2 l3 l4)
    (hr1 : Kd.C k44 w A1 l1.length l1) (hr2 : Kd.C k46 w A2 l2.length l2) (hr3 : Kd.C (Kd.int .i64) w A3 l3.length l3) (hr4 : Kd.C (Kd.int .i64) w A4 l4.length l4) :
    Calls Tryz.prog 37 #[circ a0 A1 A2 A3 A4 l1.length l2.length l3.length l4.length c1 c2 c3 c4] w fun e w' => e = .returned (.int .i64 0) ∧ Below w.heap.size w w' :=
  gates_loop false a0 A1 A2 A3 A4 c1 c2 c3 c4 l1 l2 l3 l4 w g.h0 g.h1 g.h3 g.n3 g.n4 hr1 hr2 hr3 hr4 g.g3 g.g4 g.g1 g.g2

/-! ### shrink.first -/
/-- does a literal of a cube speak against the reset of its latch? -/
def against (l1 : List S44) (l : Int) : Bool := ((rd_T44 l1 (l / 2 - 1)).f1 != 2) && ((rd_T44 l1 (l / 2 - 1)).f1 == l % 2)
def validCube (n : Nat) (cube : List Int) : Prop := ∀ l ∈ cube, 2 ≤ l ∧ l ≤ 2 * (n : Int) + 1

theorem against_calls (a0 : Int) (A1 A2 A3 A4 : Option Addr) (c1 c2 c3 c4 n2 n3 n4 : Nat) (l1 : List S44) (l : Int) (b : Nat) (w : World) (hb : b < w.heap.size) (hl0 : 2 ≤ l) (hl : l ≤ 2 * (l1.length : Int) + 1) (hn : l1.length ≤ 1000000)
    (hr1 : Kd.C k44 w A1 l1.length l1) (hc : w.cell? ⟨b, 1, none⟩ = some (.slice A1 l1.length c1)) :
    Calls Tryz.prog 58 #[.int .i64 l, .pointer (some ⟨b, 0, none⟩)] w fun e w' => e = .returned (.bool (against l1 l)) ∧ Below w.heap.size w w' := by
  have h1 : 0 ≤ l / 2 - 1 := by omega
  have h2 : l / 2 - 1 < (l1.length : Int) := by omega
  obtain ⟨ad, e, hx0, hx1⟩ := at_T44 hr1 (l / 2 - 1) h1 h2
  cases e
  clear hr1
  rw [show (l / 2 - 1).toNat = (l / 2).toNat - 1 by omega] at hx0 hx1
  have HA : Aside0 (against l1 l = (((rd_T44 l1 (l / 2 - 1)).f1 != 2) && ((rd_T44 l1 (l / 2 - 1)).f1 == l % 2))) := ⟨rfl⟩
  generalize rd_T44 l1 (l / 2 - 1) = y at hx0 hx1 HA
  obtain ⟨y0, y1⟩ := y
  by_cases h3 : y1 = 2
  · subst h3
    go_enter Tryz.func58, Tryz.ntmps58
    go_wp2
    go_ret
    exact ⟨by rw [HA.out]; rfl, Below.refl _ _⟩
  · have h3b : (y1 != 2) = true := bne_iff_ne.mpr h3
    go_enter Tryz.func58, Tryz.ntmps58
    go_wp2
    go_ret
    exact ⟨by rw [HA.out]; simp [h3b], Below.refl _ _⟩
theorem e58 : ∀ args w, (callFunc 58 args).run Tryz.prog w = .ok (.enter 58 args) w := Go.Proofs.enters_of Tryz.func58 (by kernel_rfl) rfl

theorem first_inner (a0 : Int) (A1 A2 A3 A4 Ac : Option Addr) (c1 c2 c3 c4 cc n2 n3 n4 : Nat) (l1 : List S44) (cube : List Int) (w : World) (hn : l1.length ≤ 1000000) (hnc : cube.length ≤ 1000000) (hv : validCube l1.length cube)
    (hr1 : Kd.C k44 w A1 l1.length l1) (hrc : Kd.C (Kd.int .i64) w Ac cube.length cube) :
    Calls Tryz.prog 38 #[circ a0 A1 A2 A3 A4 l1.length n2 n3 n4 c1 c2 c3 c4, .slice Ac cube.length cc] w fun e w' => e = .returned (.bool (!cube.any (against l1))) ∧ Below w.heap.size w w' := by
  have hcall := containsFunc_int 58 #[.pointer (some ⟨w.heap.size, 0, none⟩)] e58 (against l1) Ac cc cube (w.alloc (.cells #[.int .i64 a0, .slice A1 l1.length c1, .slice A2 n2 c2, .slice A3 n3 c3, .slice A4 n4 c4] 26)) (Kd.C_below hrc (below_alloc (Below.refl _ _) _)) (by omega)
    (fun W x hx hb => (against_calls a0 A1 A2 A3 A4 c1 c2 c3 c4 n2 n3 n4 l1 x w.heap.size W (Nat.lt_of_lt_of_le (by simp) hb.size) (hv x hx).1 (hv x hx).2 hn (Kd.C_below (Kd.C_below hr1 (below_alloc (Below.refl _ _) _)) hb) ((hb.cell (p := ⟨w.heap.size, 1, none⟩) (by simp)).trans (by simp))).mono fun _ _ ⟨he, hb'⟩ => ⟨he, hb.trans (hb'.mono hb.size)⟩)
  have HC := Aside0.mk hcall
  clear hcall hr1 hrc hv
  unfold circ
  generalize cube.any (against l1) = r at HC
  go_enter Tryz.func38, Tryz.ntmps38
  go_wp2_with fail
  refine HC.out.mono ?_
  rintro e w' ⟨rfl, hb'⟩
  go_wp2
  go_ret
  exact ⟨rfl, (below_alloc (Below.refl _ _) _).trans (hb'.mono (by simp))⟩

theorem First_calls (k : Nat) (a0 : Int) (A1 A2 A3 A4 Ac : Option Addr) (c1 c2 c3 c4 cc : Nat) (l1 : List S44) (l2 : List S46) (l3 l4 : List Int) (cube : List Int) (w : World) (g : GatesOk a0 l1 l2 l3 l4) (hnc : cube.length ≤ 1000000) (hv : validCube l1.length cube) (hck : clause_Check.f k l1.length cube = some 0) (hcc : cube.length ≤ cc)
    (hr1 : Kd.C k44 w A1 l1.length l1) (hr2 : Kd.C k46 w A2 l2.length l2) (hr3 : Kd.C (Kd.int .i64) w A3 l3.length l3) (hr4 : Kd.C (Kd.int .i64) w A4 l4.length l4) (hrc : Kd.C (Kd.int .i64) w Ac cube.length cube) :
    Calls Tryz.prog 18 #[circ a0 A1 A2 A3 A4 l1.length l2.length l3.length l4.length c1 c2 c3 c4, .slice Ac cube.length cc] w fun e w' => e = .returned (.tuple #[.bool (!cube.any (against l1)), .int .i64 0]) ∧ Below w.heap.size w w' := by
  have hlen : l1.length ≤ 1000000 := by have := g.h3; have := g.h0; unfold topOf at *; omega
  have HG := Aside0.mk (fun W (h : Below w.heap.size w W) => gates_ok a0 A1 A2 A3 A4 c1 c2 c3 c4 l1 l2 l3 l4 W g (Kd.C_below hr1 h) (Kd.C_below hr2 h) (Kd.C_below hr3 h) (Kd.C_below hr4 h))
  have HK := Aside0.mk (fun W (h : Below w.heap.size w W) => clause_Check.calls k l1.length Ac cc cube 0 W (Kd.C_below hrc h) hcc hck)
  have HF := Aside0.mk (fun W (h : Below w.heap.size w W) => first_inner a0 A1 A2 A3 A4 Ac c1 c2 c3 c4 cc l2.length l3.length l4.length l1 cube W hlen hnc hv (Kd.C_below hr1 h) (Kd.C_below hrc h))
  clear hr1 hr2 hr3 hr4 hrc hv hck g
  unfold circ at *
  generalize cube.any (against l1) = r at HF
  go_enter Tryz.func18, Tryz.ntmps18
  go_wp2_with fail
  refine (HG.out _ (below_alloc (Below.refl _ _) _)).mono ?_
  rintro e w' ⟨rfl, hb'⟩
  have HB1 := Aside0.mk ((below_alloc (Below.refl w.heap.size w) _).trans (hb'.mono (by simp)))
  obtain ⟨hc1, hf1⟩ := bcell hb'
  have hz1 : w.heap.size < w'.heap.size := by have := hb'.size; simp at this; omega
  clear hb'
  go_wp2_with fail
  refine (HK.out _ HB1.out).mono ?_
  rintro e w2 ⟨rfl, hd⟩
  have HB2 := Aside0.mk (HB1.out.trans (hd.below.mono HB1.out.size))
  obtain ⟨hc2, hf2⟩ := bcell hd.below
  have hz2 : w.heap.size < w2.heap.size := by have := hd.below.size; omega
  clear hd
  go_wp2_with fail
  refine (HF.out _ HB2.out).mono ?_
  rintro e w3 ⟨rfl, hb'⟩
  go_wp2
  go_ret2
  exact ⟨rfl, HB2.out.trans (hb'.mono HB2.out.size)⟩

theorem tracesFirst_calls (k : Nat) (a0 : Int) (A1 A2 A3 A4 As : Option Addr) (c1 c2 c3 c4 cs : Nat) (l1 : List S44) (l2 : List S46) (l3 l4 : List Int) (st : List Bool) (r : Bool) (w : World) (g : GatesOk a0 l1 l2 l3 l4) (hl : st.length = l1.length) (hst : traces_starts.f k a0 l1 l2 l3 l4 st = some r) (hcs : st.length ≤ cs)
    (hc1 : l1.length ≤ c1) (hc2 : l2.length ≤ c2) (hc3 : l3.length ≤ c3) (hc4 : l4.length ≤ c4)
    (hr1 : Kd.C k44 w A1 l1.length l1) (hr2 : Kd.C k46 w A2 l2.length l2) (hr3 : Kd.C (Kd.int .i64) w A3 l3.length l3) (hr4 : Kd.C (Kd.int .i64) w A4 l4.length l4) (hrs : Kd.C Kd.bool w As st.length st) :
    Calls Tryz.prog 22 #[circ a0 A1 A2 A3 A4 l1.length l2.length l3.length l4.length c1 c2 c3 c4, .slice As st.length cs] w fun e w' => e = .returned (.tuple #[.bool r, .int .i64 0]) ∧ Below w.heap.size w w' := by
  have HG := Aside0.mk (fun W (h : Below w.heap.size w W) => gates_ok a0 A1 A2 A3 A4 c1 c2 c3 c4 l1 l2 l3 l4 W g (Kd.C_below hr1 h) (Kd.C_below hr2 h) (Kd.C_below hr3 h) (Kd.C_below hr4 h))
  have HS := Aside0.mk (fun W (h : Below w.heap.size w W) => traces_starts.calls k a0 A1 c1 l1 A2 c2 l2 A3 c3 l3 A4 c4 l4 As cs st r W (Kd.C_below hr1 h) hc1 (Kd.C_below hr2 h) hc2 (Kd.C_below hr3 h) hc3 (Kd.C_below hr4 h) hc4 (Kd.C_below hrs h) hcs hst)
  clear hr1 hr2 hr3 hr4 hrs hst g
  unfold circ at *
  rw [hl] at *
  go_enter Tryz.func22, Tryz.ntmps22
  go_wp2_with fail
  refine (HG.out _ (below_alloc (Below.refl _ _) _)).mono ?_
  rintro e w' ⟨rfl, hb'⟩
  have HB1 := Aside0.mk ((below_alloc (Below.refl w.heap.size w) _).trans (hb'.mono (by simp)))
  obtain ⟨hc1, hf1⟩ := bcell hb'
  have hz1 : w.heap.size < w'.heap.size := by have := hb'.size; simp at this; omega
  clear hb'
  go_wp2_with fail
  refine (HS.out _ HB1.out).mono ?_
  rintro e w2 ⟨rfl, hd⟩
  go_wp2
  go_ret2
  exact ⟨rfl, HB1.out.trans (hd.mono HB1.out.size)⟩
end Go.Proofs.YtcchjefjljpccaaGreat.SF
