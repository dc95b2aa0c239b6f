/- ShrinkFirst: the walk, and the plain laws joined. -/
import Derived.Test.YtcchjefjljpccaaGreatSfA
import Derived.Test.YtcchjefjljpccaaGreatSfC
import Derived.Test.YtcchjefjljpccaaGreatSfB
import Derived.Deep.RegionHeld3
import Derived.Test.YtcchjefjljpccaaGreatPShrinkFirstx18
namespace Go.Proofs.YtcchjefjljpccaaGreat.SF
open Go.RowKit Go.Lib Go.Proofs.YtcchjefjljpccaaGreatW.PrintWords Go.Proofs.YtcchjefjljpccaaGreatW.PrintLast Go.Proofs.YtcchjefjljpccaaGreatW.PrintMore Go.Proofs.YtcchjefjljpccaaGreat.PShrinkFirst
attribute [local go_sem] max2_int min2_int max_two min_two max_three min_three max_four min_four
set_option maxHeartbeats 4000000
set_option maxRecDepth 100000
set_option linter.unusedVariables false
set_option linter.unusedSimpArgs false

def AliveOk : Prop := ∀ w, Calls Tryz.prog 6 #[] w fun e w' => e = .returned (.bool true) ∧ Below w.heap.size w w'

section
variable (k : Nat) (a0 : Int) (A1 A2 A3 A4 Ac : Option Addr) (c1 c2 c3 c4 cc : Nat) (l1 : List S44) (l2 : List S46) (l3 l4 : List Int) (cube : List Int) (w : World)

theorem main_small (ha : AliveOk) (hs : spiritlevellaw39_small.f k a0 l1 l2 l3 l4 = some false)
    (hc1 : l1.length ≤ c1) (hc2 : l2.length ≤ c2) (hc3 : l3.length ≤ c3) (hc4 : l4.length ≤ c4)
    (hr1 : Kd.C k44 w A1 l1.length l1) (hr2 : Kd.C k46 w A2 l2.length l2) (hr3 : Kd.C (Kd.int .i64) w A3 l3.length l3) (hr4 : Kd.C (Kd.int .i64) w A4 l4.length l4) :
    Calls Tryz.prog 5 #[circ a0 A1 A2 A3 A4 l1.length l2.length l3.length l4.length c1 c2 c3 c4, .slice Ac cube.length cc] w fun e w' => e = .returned (.bool true) ∧ Below w.heap.size w w' := by
  have HA := Aside0.mk ha
  have HS := Aside0.mk (fun W (h : Below w.heap.size w W) => spiritlevellaw39_small.calls k a0 A1 c1 l1 A2 c2 l2 A3 c3 l3 A4 c4 l4 false W (Kd.C_below hr1 h) hc1 (Kd.C_below hr2 h) hc2 (Kd.C_below hr3 h) hc3 (Kd.C_below hr4 h) hc4 hs)
  clear ha hs hr1 hr2 hr3 hr4
  unfold circ
  go_enter Tryz.func5, Tryz.ntmps5
  go_wp2_with fail
  refine (HA.out _).mono ?_
  rintro e w1 ⟨rfl, hb'⟩
  have HB1 := Aside0.mk ((below_alloc (Below.refl w.heap.size w) _).trans (hb'.mono (by simp)))
  obtain ⟨hc1, hf1⟩ := bcell hb'
  have hz1 : w.heap.size < w1.heap.size := by have := hb'.size; simp at this; omega
  clear hb'
  go_wp2_with fail
  refine (HS.out _ HB1.out).mono ?_
  rintro e w2 ⟨rfl, hd⟩
  go_wp2
  go_ret
  exact ⟨rfl, HB1.out.trans (hd.mono HB1.out.size)⟩

theorem main_valid (ha : AliveOk) (hs : spiritlevellaw39_small.f k a0 l1 l2 l3 l4 = some true) (hv : false = true ↔ ∀ j, j < cube.length → okAt l1.length cube j) (hvn : l1.length ≤ 1000000) (hvg : ∀ x ∈ cube, R64 x) (hcc : cube.length ≤ cc)
    (hc1 : l1.length ≤ c1) (hc2 : l2.length ≤ c2) (hc3 : l3.length ≤ c3) (hc4 : l4.length ≤ c4)
    (hr1 : Kd.C k44 w A1 l1.length l1) (hr2 : Kd.C k46 w A2 l2.length l2) (hr3 : Kd.C (Kd.int .i64) w A3 l3.length l3) (hr4 : Kd.C (Kd.int .i64) w A4 l4.length l4) (hrc : Kd.C (Kd.int .i64) w Ac cube.length cube) :
    Calls Tryz.prog 5 #[circ a0 A1 A2 A3 A4 l1.length l2.length l3.length l4.length c1 c2 c3 c4, .slice Ac cube.length cc] w fun e w' => e = .returned (.bool true) ∧ Below w.heap.size w w' := by
  have HA := Aside0.mk ha
  have HS := Aside0.mk (fun W (h : Below w.heap.size w W) => spiritlevellaw39_small.calls k a0 A1 c1 l1 A2 c2 l2 A3 c3 l3 A4 c4 l4 true W (Kd.C_below hr1 h) hc1 (Kd.C_below hr2 h) hc2 (Kd.C_below hr3 h) hc3 (Kd.C_below hr4 h) hc4 hs)
  have HV := Aside0.mk (fun W (h : Below w.heap.size w W) => (valid_walk l1.length Ac cc cube W false hv hvn (Kd.C_below hrc h) hvg).mono fun _ _ q => (⟨q.1, q.2.below⟩ : _ ∧ Below W.heap.size W _))
  clear ha hs hr1 hr2 hr3 hr4 hrc hv hvg
  unfold circ
  go_enter Tryz.func5, Tryz.ntmps5
  go_wp2_with fail
  refine (HA.out _).mono ?_
  rintro e w1 ⟨rfl, hb'⟩
  have HB1 := Aside0.mk ((below_alloc (Below.refl w.heap.size w) _).trans (hb'.mono (by simp)))
  obtain ⟨hc1, hf1⟩ := bcell hb'
  have hz1 : w.heap.size < w1.heap.size := by have := hb'.size; simp at this; omega
  clear hb'
  go_wp2_with fail
  refine (HS.out _ HB1.out).mono ?_
  rintro e w2 ⟨rfl, hd⟩
  have HB2 := Aside0.mk (HB1.out.trans (hd.mono HB1.out.size))
  obtain ⟨hc2, hf2⟩ := bcell hd
  have hz2 : w.heap.size < w2.heap.size := by have := hd.size; omega
  clear hd
  go_wp2_with fail
  refine (HV.out _ HB2.out).mono ?_
  rintro e w3 ⟨rfl, hd⟩
  go_wp2
  go_ret
  exact ⟨rfl, HB2.out.trans (hd.mono HB2.out.size)⟩

theorem allB_len (n : Nat) (h : n ≤ 6) : (allB n).length ≤ 64 := by
  match n, h with
  | 0, _ => decide
  | 1, _ => decide
  | 2, _ => decide
  | 3, _ => decide
  | 4, _ => decide
  | 5, _ => decide
  | 6, _ => decide
  | n + 7, h => exact absurd h (by omega)
theorem take_any {α : Type} (p : α → Bool) (L : List α) (kk : Nat) (x : α) (h : L[kk]? = some x) : (L.take (kk + 1)).any p = ((L.take kk).any p || p x) := by
  rw [List.take_add_one, h]
  simp
theorem rd_L8_get (L : List (List Bool)) (kk : Nat) (h : kk < L.length) : L[kk]? = some (rd_L8 L (kk : Int)) := by
  simp [rd_L8, List.getD_eq_getElem?_getD, List.getElem?_eq_getElem h]

theorem main_loop (S I : List Bool → Bool) (ha : AliveOk) (g : GatesOk a0 l1 l2 l3 l4) (hn : l1.length ≤ 6) (hs : spiritlevellaw39_small.f k a0 l1 l2 l3 l4 = some true) (hv : true = true ↔ ∀ j, j < cube.length → okAt l1.length cube j) (hvn : l1.length ≤ 1000000) (hvg : ∀ x ∈ cube, R64 x) (hck : clause_Check.f k l1.length cube = some 0)
    (hvc : validCube l1.length cube) (hcl : cube.length ≤ 1000000) (hcc : cube.length ≤ cc)
    (hSt : ∀ st ∈ allB l1.length, st.length = l1.length ∧ traces_starts.f k a0 l1 l2 l3 l4 st = some (S st) ∧ spiritlevelref37_In.f k cube st = some (I st))
    (hfin : (!cube.any (against l1)) = (allB l1.length).any fun st => S st && I st)
    (hc1 : l1.length ≤ c1) (hc2 : l2.length ≤ c2) (hc3 : l3.length ≤ c3) (hc4 : l4.length ≤ c4)
    (hr1 : Kd.C k44 w A1 l1.length l1) (hr2 : Kd.C k46 w A2 l2.length l2) (hr3 : Kd.C (Kd.int .i64) w A3 l3.length l3) (hr4 : Kd.C (Kd.int .i64) w A4 l4.length l4) (hrc : Kd.C (Kd.int .i64) w Ac cube.length cube) :
    Calls Tryz.prog 5 #[circ a0 A1 A2 A3 A4 l1.length l2.length l3.length l4.length c1 c2 c3 c4, .slice Ac cube.length cc] w fun e w' => e = .returned (.bool true) ∧ Below w.heap.size w w' := by
  have HA := Aside0.mk ha
  have HS := Aside0.mk (fun W (h : Below w.heap.size w W) => spiritlevellaw39_small.calls k a0 A1 c1 l1 A2 c2 l2 A3 c3 l3 A4 c4 l4 true W (Kd.C_below hr1 h) hc1 (Kd.C_below hr2 h) hc2 (Kd.C_below hr3 h) hc3 (Kd.C_below hr4 h) hc4 hs)
  have HV := Aside0.mk (fun W (h : Below w.heap.size w W) => (valid_walk l1.length Ac cc cube W true hv hvn (Kd.C_below hrc h) hvg).mono fun _ _ q => (⟨q.1, q.2.below⟩ : _ ∧ Below W.heap.size W _))
  have HF := Aside0.mk (fun W (h : Below w.heap.size w W) => First_calls k a0 A1 A2 A3 A4 Ac c1 c2 c3 c4 cc l1 l2 l3 l4 cube W g hcl hvc hck hcc (Kd.C_below hr1 h) (Kd.C_below hr2 h) (Kd.C_below hr3 h) (Kd.C_below hr4 h) (Kd.C_below hrc h))
  have HL := Aside0.mk (fun W => all_calls l1.length hn W)
  have HT := Aside0.mk (fun W (h : Below w.heap.size w W) As cs st hm hcs (hrs : Kd.C Kd.bool W As st.length st) => tracesFirst_calls k a0 A1 A2 A3 A4 As c1 c2 c3 c4 cs l1 l2 l3 l4 st (S st) W g (hSt st hm).1 (hSt st hm).2.1 hcs hc1 hc2 hc3 hc4 (Kd.C_below hr1 h) (Kd.C_below hr2 h) (Kd.C_below hr3 h) (Kd.C_below hr4 h) hrs)
  have HI := Aside0.mk (fun W (h : Below w.heap.size w W) As cs st hm hcs (hrs : Kd.C Kd.bool W As st.length st) => spiritlevelref37_In.calls k Ac cc cube As cs st (I st) W (Kd.C_below hrc h) hcc hrs hcs (hSt st hm).2.2)
  have HFIN := Aside0.mk hfin
  clear ha g hs hv hvg hck hvc hSt hfin hr1 hr2 hr3 hr4 hrc
  generalize cube.any (against l1) = fr at HF HFIN
  have hLb := allB_len l1.length hn
  generalize hL : allB l1.length = L at HL HT HI HFIN hLb
  clear hL
  unfold circ at *
  go_enter Tryz.func5, Tryz.ntmps5
  go_wp2_with fail
  refine (HA.out _).mono ?_
  rintro e w1 ⟨rfl, hb'⟩
  have HB1 := Aside0.mk ((below_alloc (Below.refl w.heap.size w) _).trans (hb'.mono (by simp)))
  obtain ⟨hc1, hf1⟩ := bcell hb'
  have hz1 : w.heap.size < w1.heap.size := by have := hb'.size; simp at this; omega
  clear hb'
  go_wp2_with fail
  refine (HS.out _ HB1.out).mono ?_
  rintro e w2 ⟨rfl, hd⟩
  have HB2 := Aside0.mk (HB1.out.trans (hd.mono HB1.out.size))
  obtain ⟨hc2, hf2⟩ := bcell hd
  have hz2 : w.heap.size < w2.heap.size := by have := hd.size; omega
  clear hd
  go_wp2_with fail
  refine (HV.out _ HB2.out).mono ?_
  rintro e w3 ⟨rfl, hd⟩
  have HB3 := Aside0.mk (HB2.out.trans (hd.mono HB2.out.size))
  obtain ⟨hc3, hf3⟩ := bcell hd
  have hz3 : w.heap.size < w3.heap.size := by have := hd.size; omega
  clear hd
  go_wp2_with fail
  refine (HF.out _ HB3.out).mono ?_
  rintro e w4 ⟨rfl, hd⟩
  have HB4 := Aside0.mk (HB3.out.trans (hd.mono HB3.out.size))
  obtain ⟨hc4, hf4⟩ := bcell hd
  have hz4 : w.heap.size < w4.heap.size := by have := hd.size; omega
  clear hd
  go_wp2_with fail
  refine (HL.out _).mono ?_
  rintro e w5 ⟨Al, cl, rfl, hcl', hCl, hd⟩
  have HCL := Aside0.mk hCl
  have HB5 := Aside0.mk (HB4.out.trans (hd.mono HB4.out.size))
  obtain ⟨hc5, hf5⟩ := bcell hd
  have hz5 : w.heap.size < w5.heap.size := by have := hd.size; omega
  clear hd hCl
  have hbx : ∀ j v, (w.alloc (.cells #[.int .i64 a0, .slice A1 l1.length c1, .slice A2 l2.length c2, .slice A3 l3.length c3, .slice A4 l4.length c4] 26)).cell? ⟨w.heap.size, j, none⟩ = some v → w5.cell? ⟨w.heap.size, j, none⟩ = some v := fun j v h => by
    rw [hc5 _ _ hz4, hc4 _ _ hz3, hc3 _ _ hz2, hc2 _ _ hz1, hc1 _ _ (by simp)]; exact h
  have X0 := Aside0.mk (hbx 0 (.int .i64 a0) (by simp))
  have X1 := Aside0.mk (hbx 1 (.slice A1 l1.length c1) (by simp))
  have X2 := Aside0.mk (hbx 2 (.slice A2 l2.length c2) (by simp))
  have X3 := Aside0.mk (hbx 3 (.slice A3 l3.length c3) (by simp))
  have X4 := Aside0.mk (hbx 4 (.slice A4 l4.length c4) (by simp))
  clear hbx hc1 hc2 hc3 hc4 hc5 hf1 hf2 hf3 hf4 hf5
  go_wp2
  go_loopg [8, 10] L.length (fun gg v8 v10 wr => ∃ (kk : Nat) (wv : Bool), kk ≤ L.length ∧ L.length - kk ≤ gg ∧ v8 = .bool wv ∧ v10 = .int .i64 kk ∧ Aside0 (Below w.heap.size w wr) ∧ Aside0 (Below w5.heap.size w5 wr) ∧ Aside0 (wv = (L.take kk).any fun st => S st && I st))
  case atStart => exact ⟨0, false, Nat.zero_le _, by omega, rfl, rfl, HB5, ⟨Below.refl _ _⟩, ⟨by simp⟩⟩
  case round =>
    obtain ⟨kk, wv, hkk, hg, rfl, rfl, BW, BW5, WV⟩ := hrel
    have hsz5 := BW5.out.size
    have x0 := (BW5.out.cell (p := ⟨w.heap.size, 0, none⟩) hz5).trans X0.out
    have x1 := (BW5.out.cell (p := ⟨w.heap.size, 1, none⟩) hz5).trans X1.out
    have x2 := (BW5.out.cell (p := ⟨w.heap.size, 2, none⟩) hz5).trans X2.out
    have x3 := (BW5.out.cell (p := ⟨w.heap.size, 3, none⟩) hz5).trans X3.out
    have x4 := (BW5.out.cell (p := ⟨w.heap.size, 4, none⟩) hz5).trans X4.out
    by_cases hlt : kk < L.length
    · have hltz : (kk : Int) < (L.length : Int) := by omega
      obtain ⟨ad, As, cs, e, hx0, hcs, hCs⟩ := at_L8 (Kd.C_below HCL.out BW5.out) (kk : Int) (by omega) hltz
      cases e
      rw [Int.toNat_natCast] at hx0
      have hg8 := rd_L8_get L kk hlt
      have hmem : rd_L8 L (kk : Int) ∈ L := List.mem_of_getElem? hg8
      have WV' := Aside0.mk (take_any (fun st => S st && I st) L kk _ hg8)
      generalize rd_L8 L (kk : Int) = st at hx0 hcs hCs hmem WV'
      have HM := Aside0.mk hmem
      have HCS := Aside0.mk hCs
      clear hmem hCs hg8
      go_wp2_with fail
      have hB0 : Below w.heap.size w wr.drew := BW.out.drew
      have hB1 : Below wr.heap.size wr wr.drew := (Below.refl wr.heap.size wr).drew
      go_region_held3 (fun w' => Below w.heap.size w w' ∧ Below wr.heap.size wr w' ∧ w'.cell? ⟨w.heap.size, 0, none⟩ = some (.int .i64 a0) ∧ w'.cell? ⟨w.heap.size, 1, none⟩ = some (.slice A1 l1.length c1) ∧ w'.cell? ⟨w.heap.size, 2, none⟩ = some (.slice A2 l2.length c2) ∧ w'.cell? ⟨w.heap.size, 3, none⟩ = some (.slice A3 l3.length c3) ∧ w'.cell? ⟨w.heap.size, 4, none⟩ = some (.slice A4 l4.length c4) ∧ w'.cell? (ad.add kk) = some (.slice As st.length cs))
        (go_keep)
        (first | (go_at_call 22; refine (HT.out _ (by assumption) As cs st HM.out hcs (Kd.C_below HCS.out (by assumption))).mono ?_; rintro e w' ⟨rfl, hb'⟩; have d0 : Below w.heap.size w w' := below_then (by assumption) (Below.size (w' := _) (by assumption)) hb'; have d1 : Below wr.heap.size wr w' := below_then (by assumption) (Below.size (w' := _) (by assumption)) hb'; have y0 := pw_cell_below hb' (a := ⟨w.heap.size, 0, none⟩) (v := .int .i64 a0) (by assumption); have y1 := pw_cell_below hb' (a := ⟨w.heap.size, 1, none⟩) (v := .slice A1 l1.length c1) (by assumption); have y2 := pw_cell_below hb' (a := ⟨w.heap.size, 2, none⟩) (v := .slice A2 l2.length c2) (by assumption); have y3 := pw_cell_below hb' (a := ⟨w.heap.size, 3, none⟩) (v := .slice A3 l3.length c3) (by assumption); have y4 := pw_cell_below hb' (a := ⟨w.heap.size, 4, none⟩) (v := .slice A4 l4.length c4) (by assumption); have y5 := pw_cell_below hb' (a := ad.add kk) (v := .slice As st.length cs) (by assumption)))
      go_split_ands
      have d0 : Below w.heap.size w w' := by assumption
      have d1 : Below wr.heap.size wr w' := by assumption
      have D0 := Aside0.mk d0
      have D5 := Aside0.mk (BW5.out.trans (d1.mono BW5.out.size))
      have HIc := Aside0.mk (HI.out w' d0 As cs st HM.out hcs (Kd.C_below HCS.out d1))
      clear d0 d1
      cases wv with
      | true =>
        go_wp2
        go_roundg (L.length - (kk + 1))
        case measure => omega
        case rel => exact ⟨kk + 1, true, by omega, by omega, rfl, by go_num, D0, D5, ⟨by rw [WV'.out, ← WV.out]; rfl⟩⟩
      | false =>
        cases hS : S st with
        | false =>
          have HSS := Aside0.mk hS
          clear hS
          go_wp2
          go_roundg (L.length - (kk + 1))
          case measure => omega
          case rel => exact ⟨kk + 1, false, by omega, by omega, rfl, by go_num, D0, D5, ⟨by rw [WV'.out, ← WV.out, HSS.out]; rfl⟩⟩
        | true =>
          have HSS := Aside0.mk hS
          clear hS
          go_wp2_with fail
          refine HIc.out.mono ?_
          rintro e w10 ⟨rfl, hd⟩
          have E0 := Aside0.mk (D0.out.trans (hd.below.mono D0.out.size))
          have E5 := Aside0.mk (D5.out.trans (hd.below.mono D5.out.size))
          have HII := Aside0.mk (show ((L.take (kk + 1)).any fun st => S st && I st) = I st by rw [WV'.out, ← WV.out, HSS.out]; simp)
          generalize I st = ii at HII
          go_wp2
          go_roundg (L.length - (kk + 1))
          case measure => omega
          case rel => exact ⟨kk + 1, ii, by omega, by omega, rfl, by go_num, E0, E5, ⟨HII.out.symm⟩⟩
    · have hwf : Aside0 (fr = !wv) := ⟨by
        have h1 := HFIN.out
        have h2 := WV.out
        rw [List.take_of_length_le (by omega)] at h2
        rw [← h2] at h1
        cases fr <;> cases wv <;> simp_all⟩
      cases wv with
      | true =>
        have hf := hwf.out
        simp at hf
        subst hf
        clear hwf HFIN
        go_wp2
        go_ret
        exact ⟨rfl, BW.out⟩
      | false =>
        have hf := hwf.out
        simp at hf
        subst hf
        clear hwf HFIN
        go_wp2
        go_ret
        exact ⟨rfl, BW.out⟩
end
end Go.Proofs.YtcchjefjljpccaaGreat.SF

/- ShrinkFirst: the walk and the plain laws joined. -/
namespace Go.Proofs.YtcchjefjljpccaaGreat.SF
open Go.RowKit Go.Proofs.YtcchjefjljpccaaGreatW.PrintWords Go.Proofs.YtcchjefjljpccaaGreatW.PrintLast Go.Proofs.YtcchjefjljpccaaGreatW.PrintMore Go.Proofs.YtcchjefjljpccaaGreat.PShrinkFirst
set_option maxRecDepth 100000 in
theorem alive_run : Ew.evTrue Tryz.prog (fun _ _ _ _ => none) 1000000 6 = true := by kernel_rfl
theorem aliveOk : AliveOk := fun w => (Ew.evTrue_calls (O := fun _ _ _ _ => none) (Checked.mixed Tryz.checked) Ew.noOra_sound alive_run w).mono fun _ _ h => ⟨h.1, Ew.below_of h.2⟩

theorem okAt_ge {n : Nat} {c : List Int} (ho : ∀ j, j < c.length → okAt n c j) : ∀ j : Nat, j < c.length → 2 + (j : Int) ≤ rd c (j : Int)
  | 0, h => by have := (ho 0 h).1; simpa using this
  | j + 1, h => by
    have h1 := okAt_ge ho j (by omega)
    have h2 := ((ho (j + 1) h).2.2 (by omega)).1
    rw [show j + 1 - 1 = j by omega] at h2
    omega
theorem okAt_len {n : Nat} {c : List Int} (ho : ∀ j, j < c.length → okAt n c j) : c.length ≤ 2 * n := by
  rcases Nat.eq_zero_or_pos c.length with h | h
  · omega
  · have h1 := okAt_ge ho (c.length - 1) (by omega)
    have h2 := (ho (c.length - 1) (by omega)).2.1
    omega

theorem top_calls (a0 : Int) (l1 : List S44) (l2 : List S46) (l3 l4 cube : List Int) (cs : List Value) (vc : Value) (w : World) (hc : CircOf w a0 l1 l2 l3 l4 cs) (hq : SliceOf (Kd.int .i64) Rg w cube vc) :
    Calls Tryz.prog 5 #[.agg cs.toArray, vc] w fun e w' => e = .returned (.bool true) ∧ Below w.heap.size w w' := by
  obtain ⟨⟨v1, v2, v3, v4, rfl, ⟨A1, c1, rfl, hc1, hr1, hg1⟩, ⟨A2, c2, rfl, hc2, hr2, hg2⟩, ⟨A3, c3, rfl, hc3, hr3, hg3⟩, ⟨A4, c4, rfl, hc4, hr4, hg4⟩⟩, hrg⟩ := hc
  obtain ⟨Ac, cc, rfl, hcc, hrc, hgc⟩ := hq
  have hlc : cube.length ≤ 9223372036854775807 := hrc.2.1
  show Calls Tryz.prog 5 #[circ a0 A1 A2 A3 A4 l1.length l2.length l3.length l4.length c1 c2 c3 c4, .slice Ac cube.length cc] w _
  have hst := small_total a0 l1 l2 l3 l4 hrg
  by_cases hb : l1.length ≤ 4611686018427387 ∧ l2.length ≤ 4611686018427387
  · obtain ⟨r, hs, hsg⟩ := hst hb.1 hb.2 hg1 hg2 hg3 hg4
    cases r with
    | false => exact main_small 500 a0 A1 A2 A3 A4 Ac c1 c2 c3 c4 cc l1 l2 l3 l4 cube w aliveOk (hs 500 (by omega)) hc1 hc2 hc3 hc4 hr1 hr2 hr3 hr4
    | true =>
      obtain ⟨g, hn⟩ := hsg rfl
      have h0 := g.h0
      have hk : 500 ≤ 500 + cube.length + l1.length := by omega
      by_cases ho : ∀ j, j < cube.length → okAt l1.length cube j
      · have hvc := okAt_mem ho
        have hlen := okAt_len ho
        have hres : ∀ i : Nat, i < l1.length → 0 ≤ (rd_T44 l1 (i : Int)).f1 ∧ (rd_T44 l1 (i : Int)).f1 ≤ 2 := fun i hi => by
          have h1 := g.g1
          rw [List.any_eq_false] at h1
          have h2 := h1 _ (rd_mem44 l1 i hi)
          simp [wrongB] at h2
          omega
        refine main_loop (500 + cube.length + l1.length) a0 A1 A2 A3 A4 Ac c1 c2 c3 c4 cc l1 l2 l3 l4 cube w (startsB l1) (fun st => cube.all (holdsB st)) aliveOk g (by omega) (hs _ hk) ⟨fun _ => ho, fun _ => rfl⟩ (by omega) hgc (clause_ok l1.length (by omega) cube hlc ho _ (by omega)) hvc (by omega) hcc ?_ (first_law l1 cube ho hres) hc1 hc2 hc3 hc4 hr1 hr2 hr3 hr4 hrc
        intro st hm
        have hl := (allB_mem _ _).1 hm
        exact ⟨hl, starts_f a0 l1 l2 l3 l4 (by omega) st hl _ (by omega), in_f l1.length (by omega) cube hlc hvc st hl _ (by omega)⟩
      · exact main_valid (500 + cube.length + l1.length) a0 A1 A2 A3 A4 Ac c1 c2 c3 c4 cc l1 l2 l3 l4 cube w aliveOk (hs _ hk) ⟨(fun h => by cases h), fun h => absurd h ho⟩ (by omega) hgc hcc hc1 hc2 hc3 hc4 hr1 hr2 hr3 hr4 hrc
  · have hG : spiritlevelref02_Great.f a0 l1 l2 l3 l4 = some true := by
      unfold spiritlevelref02_Great.f
      by_cases h1 : (l1.length : Int) > 60
      · rw [if_pos h1]
      · rw [if_neg h1, if_pos (by omega)]
    have hs : spiritlevellaw39_small.f 500 a0 l1 l2 l3 l4 = some false := by
      unfold spiritlevellaw39_small.f spiritlevelref36_Great.f
      rw [hG]; simp
    exact main_small 500 a0 A1 A2 A3 A4 Ac c1 c2 c3 c4 cc l1 l2 l3 l4 cube w aliveOk hs hc1 hc2 hc3 hc4 hr1 hr2 hr3 hr4
end Go.Proofs.YtcchjefjljpccaaGreat.SF
