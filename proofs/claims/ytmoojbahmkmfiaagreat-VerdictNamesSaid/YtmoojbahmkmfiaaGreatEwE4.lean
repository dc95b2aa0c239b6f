/- EFFECTS are the model's. -/
import Derived.Test.YtmoojbahmkmfiaaGreatEwE3
namespace Go.Ew
section
variable {P : Program} {w : World} {ι : Ix} {H H' : Heap}

theorem mem_VR {ι : Ix} {l : List AV} {xs : List Value} (h : VRL ι l xs) : l.length = xs.length := h.length

theorem app_of {sT xT e : TypeId} {d : TypeDesc} {sz n : Nat} {ty : TypeId} {y x : Value} {new : List Value} {i : TypeInfo} {z : Value} (hu : P.underlying sT = some (.slice e)) (hx : P.underlying xT = some d) (hd : ∀ k, d ≠ .int k)
    (hi : P.info? e = some i) (hz : i.zero = some z) (hb : i.bytes ≤ 100000) (hsz : sz = i.size) (hzs : z.cells.size = sz)
    (hl : ∀ w : World, (Builtin.lenOf x).run P w = .ok n w) (hf : (Builtin.firstCells sz n x).run P w = .ok new.toArray w) (hfd : (Builtin.firstCells sz n x).run P w.drew = .ok new.toArray w.drew) :
    App P sz n new y w ((Builtin.append_ #[sT, xT] ty #[y, x]).run P w) := by
  have hs : (sizeOf e).run P w = .ok sz w := by simp [sizeOf, typeInfo, hi, hsz]
  refine ⟨fun h0 hy => ?_, fun a len cap w' hy hle hst => ?_, fun base len cap old hy hmax hle ho => ?_⟩
  · subst h0 hy; exact append_nil hu hx hd hs (hl w) hf
  · subst hy; exact append_in hu hx hd hs (hl w) hf hle hst
  · subst hy
    obtain ⟨nc, h1, h2⟩ := append_new (ty := ty) hu hx hd hi hz hb hmax hsz (hl w) hfd ho hle
    exact ⟨nc, Builtin.zeroCells z.cells (nc - (len + n)), e, h1, by simp [Builtin.zeroCells, hzs], h2⟩
theorem app_make {sT xT e : TypeId} {k kx : IntKind} {sz n : Nat} {ty : TypeId} {y : Value} {i : TypeInfo} {z : Value} (hu : P.underlying sT = some (.slice e)) (hx : P.underlying xT = some (.int k))
    (hi : P.info? e = some i) (hz : i.zero = some z) (hb : i.bytes ≤ 100000) (hn : n ≤ 1000000) (hsz : sz = i.size) (hzs : z.cells.size = sz) :
    App P sz n (zeros z.cells (n * sz)).toList y w ((Builtin.append_ #[sT, xT] ty #[y, .int kx (n : Nat)]).run P w) := by
  refine ⟨fun h0 hy => ?_, fun a len cap w' hy hle hst => ?_, fun base len cap old hy hmax hle ho => ?_⟩
  · subst h0 hy; exact append_nil_make hu hx hi
  · subst hy; exact append_in_make hu hx hi hz hb hn hsz hzs hle hst
  · subst hy
    obtain ⟨nc, h1, h2⟩ := append_new_make (ty := ty) (kx := kx) hu hx hi hz hb hmax hsz hzs ho hle
    exact ⟨nc, Builtin.zeroCells z.cells (nc - (len + n)), e, h1, by simp [Builtin.zeroCells, hzs], h2⟩

/-- what an effect comes to in a world -/
def Eff (P : Program) (env : Env) (H : Heap) (nx : Nat) (op : Op) (v : AV) (H' : Heap) (nx' : Nat) : Prop :=
  ∀ (ι : Ix) (w : World) (N : Nat) (a : Act) (o : Oper), o.op = op → HR ι H w → Wf H nx → Fresh ι nx N → nx' ≤ N → ER ι env a.tmps →
    ∃ ι' w' x, ((execOp a.eval o).run P w = .ok (.value x) w' ∨ ((execOp a.eval o).run P w = .ok .skip w' ∧ x = undef)) ∧ VR ι' v x ∧ HR ι' H' w' ∧ Stp ι H nx w ι' H' nx' w'
/-- what a builtin comes to in a world -/
def BEff (P : Program) (H : Heap) (nx : Nat) (b : Builtin) (ts : Array TypeId) (l : List AV) (v : AV) (H' : Heap) (nx' : Nat) : Prop :=
  ∀ (ι : Ix) (w : World) (N : Nat) (xs : Array Value), HR ι H w → Wf H nx → Fresh ι nx N → nx' ≤ N → VRL ι l xs.toList →
    ∃ ι' w' x, (∀ ty cc, (builtin b ts ty cc xs).run P w = .ok (.value x) w') ∧ VR ι' v x ∧ HR ι' H' w' ∧ Stp ι H nx w ι' H' nx' w'

theorem run_storeAt {t : TypeId} {n : Nat} {a : Addr} {x : Value} {w' : World} (hn : (sizeOf t).run P w = .ok n w) (hx : x.cells.size = n) (hst : (storeCells a x.cells.toList).run P w = .ok () w') :
    (Instr.storeAt t (.pointer (some a)) x).run P w = .ok () w' := by
  simp [Instr.storeAt, Instr.sureAddr, storeVar, hn, hx, hst]
theorem lenOf_slice {x : Value} {p : Option Addr} {n c : Nat} (h : x = .slice p n c) (w : World) : (Builtin.lenOf x).run P w = .ok n w := by subst h; rfl
theorem lenA_nil {n : Nat} (h : lenA .nilslice = .ok n) : n = 0 := (ok_inj (show Res.ok 0 = Res.ok n from h)).symm
theorem two_args {l m : AV} {xs : Array Value} (h : VRL ι [l, m] xs.toList) : ∃ y u, xs = #[y, u] ∧ VR ι l y ∧ VR ι m u := by
  obtain ⟨y, ys, hy, hyv, hys⟩ := VRL.split h
  obtain ⟨u, us, hu', huv, hus⟩ := VRL.split hys
  cases hus
  exact ⟨y, u, Array.toList_inj.1 (by rw [hy, hu']), hyv, huv⟩
theorem one_arg {l : AV} {xs : Array Value} (h : VRL ι [l] xs.toList) : ∃ y, xs = #[y] ∧ VR ι l y := by
  obtain ⟨y, ys, hy, hyv, hys⟩ := VRL.split h
  cases hys
  exact ⟨y, Array.toList_inj.1 (by rw [hy]), hyv⟩
theorem ts_two {ts : Array TypeId} {a b : TypeId} (h : ts.toList = [a, b]) : ts = #[a, b] := Array.toList_inj.1 (by rw [h])
theorem ts_one {ts : Array TypeId} {a : TypeId} (h : ts.toList = [a]) : ts = #[a] := Array.toList_inj.1 (by rw [h])
theorem firstCells_len {s : AV} {sz n : Nat} {l : List AV} (h : firstCells H sz n s = .ok l) (hn : s = .nilslice → n = 0) : l.length = n * sz := by
  unfold firstCells at h
  split at h
  · cases ok_inj h; rw [hn rfl]; simp
  · rw [sel_eq] at h
    split at h
    · rename_i h0
      cases ok_inj h; rw [beq_iff.1 h0]; simp
    · obtain ⟨_, h⟩ := must_ok h
      obtain ⟨_, _, h⟩ := ofOpt_ok h
      obtain ⟨_, _, h⟩ := ofOpt_ok h
      obtain ⟨_, h⟩ := must_ok h
      obtain ⟨_, hm, h⟩ := ofOpt_ok h
      cases ok_inj h
      exact (cellsAt_ok _ _ _ hm).1
  · cases h

theorem eAppend_ex {β : Type} {nx : Nat} {ts : Array TypeId} {s x : AV} {k : AV → Heap → Nat → Res β} {r : β} (h : eAppend P H nx ts.toList s x k = .ok r) :
    ∃ v H' nx', k v H' nx' = .ok r ∧ nx ≤ nx' ∧ BEff P H nx .append ts [s, x] v H' nx' := by
  unfold eAppend at h
  split at h
  · rename_i st xt hts
    cases ts_two hts
    obtain ⟨e, he, h⟩ := and_ok h
    obtain ⟨sz, hsz, h⟩ := and_ok h
    obtain ⟨d, hd, h⟩ := ofOpt_ok h
    unfold eAppendTo at h
    obtain ⟨i, hi, h⟩ := ofOpt_ok h
    obtain ⟨hby, h⟩ := must_ok h
    obtain ⟨z, hz, h⟩ := ofOpt_ok h
    obtain ⟨hzs, h⟩ := must_ok h
    obtain ⟨hpos, h⟩ := must_ok h
    have hby : i.bytes ≤ 100000 := ble_iff.1 hby
    have hzs : z.cells.size = sz := beq_iff.1 hzs
    have hpos : 0 < sz := blt_iff.1 hpos
    have hu := elemT_under he
    have hszi : sz = i.size := by
      obtain ⟨i', hi', hsz⟩ := ofOpt_ok hsz
      rw [hi] at hi'; injection hi' with hi'; subst hi'; exact (ok_inj hsz).symm
    split at h
    · rename_i kd
      obtain ⟨n, hn, h⟩ := and_ok h
      obtain ⟨hmax, h⟩ := must_ok h
      have hmax : n ≤ 1000000 := ble_iff.1 hmax
      obtain ⟨zl, hzl, h⟩ := and_ok h
      have hzr : ∀ ι, VRL ι zl z.cells.toList := fun ι => by
        obtain ⟨i2, v2, hi2, hv2, hzr2⟩ := info_size (ι := ι) hzl
        rw [hi] at hi2; injection hi2 with hi2; subst hi2
        rw [hz] at hv2; injection hv2 with hv2; subst hv2
        exact hzr2
      have hzll : zl.length = sz := by rw [(hzr fun _ _ => none).length, ← hzs]; simp
      obtain ⟨v, H', nx', hk, hnx, hH⟩ := appendA_ex P hpos (by rw [rep_length, hzll]) h
      refine ⟨v, H', nx', hk, hnx, fun ι w N xs hr hw hf hN hl => ?_⟩
      obtain ⟨y, u, rfl, hyv, huv⟩ := two_args hl
      obtain ⟨kx, rfl⟩ := asNat_VR hn huv
      have hrow := zeros_VRL (hzr ι) n
      rw [hzs] at hrow
      obtain ⟨ι', w', y', g1, g2, g3, g4⟩ := hH ι w N y _ ((Builtin.append_ #[st, xt] 0 #[y, .int kx (n : Nat)]).run P w) hr hw hf hN hyv hrow (app_make hu hd hi hz hby hmax hszi hzs)
      refine ⟨ι', w', y', fun ty cc => ?_, g2, g3, g4⟩
      have g1' : (Builtin.append_ #[st, xt] ty #[y, .int kx (n : Nat)]).run P w = .ok y' w' := g1
      simp only [builtin, Sem.run_bind, g1', Result.andThen_ok, Sem.run_pure]
    · rename_i hnd
      obtain ⟨n, hn, h⟩ := and_ok h
      obtain ⟨new, hnew, h⟩ := and_ok h
      have hnil : x = AV.nilslice → n = 0 := fun hh => by subst hh; exact lenA_nil hn
      obtain ⟨v, H', nx', hk, hnx, hH⟩ := appendA_ex P hpos (firstCells_len hnew hnil) h
      refine ⟨v, H', nx', hk, hnx, fun ι w N xs hr hw hf hN hl => ?_⟩
      obtain ⟨y, u, rfl, hyv, huv⟩ := two_args hl
      obtain ⟨p, c, hux⟩ := lenA_VR hn huv
      obtain ⟨xs, x1, x2, _, _⟩ := firstCells_ok (P := P) hr hnew huv hnil
      obtain ⟨ι', w', y', g1, g2, g3, g4⟩ := hH ι w N y xs ((Builtin.append_ #[st, xt] 0 #[y, u]).run P w) hr hw hf hN hyv x1 (app_of hu hd hnd hi hz hby hszi hzs (lenOf_slice hux) (x2 w rfl) (x2 w.drew rfl))
      refine ⟨ι', w', y', fun ty cc => ?_, g2, g3, g4⟩
      have g1' : (Builtin.append_ #[st, xt] ty #[y, u]).run P w = .ok y' w' := g1
      simp only [builtin, Sem.run_bind, g1', Result.andThen_ok, Sem.run_pure]
  · cases h

theorem eClear_ex {β : Type} {nx : Nat} {ts : Array TypeId} {x : AV} {k : AV → Heap → Nat → Res β} {r : β} (h : eClear P H nx ts.toList x k = .ok r) :
    ∃ v H' nx', k v H' nx' = .ok r ∧ nx ≤ nx' ∧ BEff P H nx .clear ts [x] v H' nx' := by
  unfold eClear at h
  split at h
  · rename_i st hts
    cases ts_one hts
    obtain ⟨e, he, h⟩ := and_ok h
    obtain ⟨z, hz, h⟩ := and_ok h
    have hu := elemT_under he
    cases x with
    | nilslice =>
      refine ⟨_, _, _, h, Nat.le_refl _, fun ι w N xs hr hw hf hN hl => ?_⟩
      obtain ⟨y, rfl, hyv⟩ := one_arg hl
      cases hyv
      refine ⟨ι, w, undef, fun ty cc => ?_, .tuple .nil, hr, .refl⟩
      simp [builtin, Builtin.clear_, run_underlying hu, undef]
    | slice b v off n cap =>
      simp only [sel_eq] at h
      split at h
      · rename_i h0
        have h0 : n = 0 := beq_iff.1 h0
        refine ⟨_, _, _, h, Nat.le_refl _, fun ι w N xs hr hw hf hN hl => ?_⟩
        obtain ⟨y, rfl, hyv⟩ := one_arg hl
        subst h0
        refine ⟨ι, w, undef, fun ty cc => ?_, .tuple .nil, hr, .refl⟩
        cases hyv <;> simp [builtin, Builtin.clear_, run_underlying hu, undef]
      · rename_i h0
        have h0 : n ≠ 0 := fun hh => h0 (beq_iff.2 hh)
        obtain ⟨H', hk, hH⟩ := writeCells_ex P h
        refine ⟨_, _, _, hk, Nat.le_refl _, fun ι w N xs hr hw hf hN hl => ?_⟩
        obtain ⟨y, rfl, hyv⟩ := one_arg hl
        obtain ⟨i, zv, hi, hzv, hzr⟩ := info_size (ι := ι) hz
        have hrow := zeros_VRL hzr n
        have hzvr : ∀ w : World, (zeroValue e).run P w = .ok zv w := fun w => by simp [zeroValue, typeInfo, hi, hzv]
        have hzc : Builtin.zeroCells zv.cells n = zeros zv.cells (n * zv.cells.size) := rfl
        obtain ⟨m, rfl⟩ : ∃ m, n = m + 1 := ⟨n - 1, by omega⟩
        cases hyv with
        | known hp hle =>
          obtain ⟨w', g1, g2, g3⟩ := hH ι w _ _ nx hr hp hrow
          rw [← hzc] at g1
          exact ⟨ι, w', undef, fun ty cc => by simp [builtin, Builtin.clear_, run_underlying hu, undef, hzvr, g1], .tuple .nil, g2, g3⟩
        | opn hp hle hs =>
          obtain ⟨w', g1, g2, g3⟩ := hH ι w _ _ nx hr hp hrow
          rw [← hzc] at g1
          exact ⟨ι, w', undef, fun ty cc => by simp [builtin, Builtin.clear_, run_underlying hu, undef, hzvr, g1], .tuple .nil, g2, g3⟩
    | _ => cases h
  · cases h

theorem eCopy_ex {β : Type} {nx : Nat} {ts : Array TypeId} {d s : AV} {k : AV → Heap → Nat → Res β} {r : β} (h : eCopy P H nx ts.toList d s k = .ok r) :
    ∃ v H' nx', k v H' nx' = .ok r ∧ nx ≤ nx' ∧ BEff P H nx .copy ts [d, s] v H' nx' := by
  unfold eCopy at h
  split at h
  · rename_i dt x0 hts
    cases ts_two hts
    obtain ⟨e, he, h⟩ := and_ok h
    obtain ⟨sz, hsz, h⟩ := and_ok h
    obtain ⟨ns, hns, h⟩ := and_ok h
    obtain ⟨nd, hnd, h⟩ := and_ok h
    rw [forceNat_eq] at h
    obtain ⟨cells, hcells, h⟩ := and_ok h
    have hu := elemT_under he
    have hnil : s = AV.nilslice → Nat.min ns nd = 0 := fun hh => by subst hh; rw [lenA_nil hns]; exact Nat.zero_min _
    have hlen := firstCells_len hcells hnil
    cases d with
    | nilslice =>
      have h0 : nd = 0 := lenA_nil hnd
      rw [h0] at hcells hlen hnil h
      refine ⟨_, _, _, h, Nat.le_refl _, fun ι w N xs hr hw hf hN hl => ?_⟩
      obtain ⟨y, u, rfl, hyv, huv⟩ := two_args hl
      obtain ⟨p, c, hux⟩ := lenA_VR hns huv
      obtain ⟨xs, x1, x2, _, _⟩ := firstCells_ok (P := P) hr hcells huv hnil
      cases hyv
      have hlo : (Builtin.lenOf u).run P w = .ok ns w := lenOf_slice hux w
      have x3 := x2 w rfl
      refine ⟨ι, w, .int .i64 (0 : Nat), fun ty cc => ?_, .int _ _, hr, .refl⟩
      have hm : Nat.min ns 0 = 0 := Nat.min_zero _
      rw [hm] at x3
      simp [builtin, Builtin.copy_, run_underlying hu, hlo, sizeT_run hsz, x3, goInt]
    | slice b v off n cap =>
      have hdn : nd = n := (ok_inj (show Res.ok n = Res.ok nd from hnd)).symm
      rw [hdn] at hcells hlen hnil h
      simp only [sel_eq] at h
      split at h
      · rename_i h0
        have h0 : Nat.min ns n = 0 := beq_iff.1 h0
        refine ⟨_, _, _, h, Nat.le_refl _, fun ι w N xs hr hw hf hN hl => ?_⟩
        obtain ⟨y, u, rfl, hyv, huv⟩ := two_args hl
        obtain ⟨p, c, hux⟩ := lenA_VR hns huv
        obtain ⟨xs, x1, x2, _, _⟩ := firstCells_ok (P := P) hr hcells huv hnil
        have hlo : (Builtin.lenOf u).run P w = .ok ns w := lenOf_slice hux w
        have x3 := x2 w rfl
        have h0' : min ns n = 0 := h0
        have hxs : xs = [] := List.eq_nil_of_length_eq_zero (by rw [← x1.length, hlen, h0]; simp)
        subst hxs
        refine ⟨ι, w, .int .i64 (0 : Nat), fun ty cc => ?_, .int _ _, hr, .refl⟩
        have x3' : (Builtin.firstCells sz 0 u).run P w = .ok #[] w := by rw [h0] at x3; exact x3
        cases hyv <;> simp [builtin, Builtin.copy_, run_underlying hu, hlo, sizeT_run hsz, x3, x3', goInt, store_none] <;> omega
      · rename_i hne
        obtain ⟨H', hk, hH⟩ := writeCells_ex P h
        refine ⟨_, _, _, hk, Nat.le_refl _, fun ι w N xs hr hw hf hN hl => ?_⟩
        obtain ⟨y, u, rfl, hyv, huv⟩ := two_args hl
        obtain ⟨p, c, hux⟩ := lenA_VR hns huv
        obtain ⟨xs, x1, x2, _, _⟩ := firstCells_ok (P := P) hr hcells huv hnil
        have hlo : (Builtin.lenOf u).run P w = .ok ns w := lenOf_slice hux w
        have x3 := x2 w rfl
        cases hyv with
        | known hp hle =>
          obtain ⟨w', g1, g2, g3⟩ := hH ι w _ _ nx hr hp x1
          exact ⟨ι, w', .int .i64 (Nat.min ns n : Nat), fun ty cc => by simp [builtin, Builtin.copy_, run_underlying hu, hlo, sizeT_run hsz, x3, goInt, g1], .int _ _, g2, g3⟩
        | opn hp hle hs =>
          obtain ⟨w', g1, g2, g3⟩ := hH ι w _ _ nx hr hp x1
          exact ⟨ι, w', .int .i64 (Nat.min ns n : Nat), fun ty cc => by simp [builtin, Builtin.copy_, run_underlying hu, hlo, sizeT_run hsz, x3, goInt, g1], .int _ _, g2, g3⟩
        | loose => exact absurd (beq_iff.2 (Nat.min_zero _)) hne
    | _ => cases h
  · cases h

theorem eBuiltin_ex {β : Type} {nx : Nat} {b : Builtin} {ts : Array TypeId} {l : List AV} {k : AV → Heap → Nat → Res β} {r : β} (h : eBuiltin P H nx b ts.toList l k = .ok r) :
    ∃ v H' nx', k v H' nx' = .ok r ∧ nx ≤ nx' ∧ BEff P H nx b ts l v H' nx' := by
  unfold eBuiltin at h
  split at h
  · exact eAppend_ex h
  · exact eClear_ex h
  · exact eCopy_ex h
  · cases h

theorem evE_ex {β : Type} {env : Env} {nx : Nat} {op : Op} {k : AV → Heap → Nat → Res β} {r : β} (h : evE P env H nx op k = .ok r) :
    ∃ v H' nx', k v H' nx' = .ok r ∧ nx ≤ nx' ∧ Eff P env H nx op v H' nx' := by
  cases op with
  | store t ao xo =>
    obtain ⟨av, hav, h⟩ := and_ok h
    obtain ⟨xv, hxv, h⟩ := and_ok h
    unfold storeA at h
    split at h
    · obtain ⟨n, hn, h⟩ := and_ok h
      obtain ⟨hlen, h⟩ := must_ok h
      have hlen : xv.cells.length = n := beq_iff.1 hlen
      obtain ⟨H', hk, hH⟩ := writeCells_ex P h
      refine ⟨_, _, _, hk, Nat.le_refl _, fun ι w N a o ho hr hw hf hN he => ?_⟩
      obtain ⟨dst, op, type, pos, after, guard⟩ := o
      simp only at ho
      subst ho
      have ha := arg_VR he hav
      have hx := arg_VR he hxv
      cases hax : a.eval ao <;> rw [hax] at ha <;> cases ha
      rename_i p hp
      obtain ⟨w', g1, g2, g3⟩ := hH ι w p (a.eval xo).cells.toList nx hr hp hx.cells
      refine ⟨ι, w', undef, .inr ⟨?_, rfl⟩, .tuple .nil, g2, g3⟩
      have := run_storeAt (P := P) (w := w) (t := t) (x := a.eval xo) (sizeT_run hn) (by rw [← hlen, hx.cells.length]; simp) g1
      simp only [execOp, hax, Sem.run_bind, this, Result.andThen_ok, Sem.run_pure]
    · cases h
  | call c =>
    obtain ⟨callee, cargs, cts⟩ := c
    cases callee with
    | value f => cases h
    | invoke => cases h
    | builtin b =>
      obtain ⟨l, hl, h⟩ := and_ok h
      obtain ⟨v, H', nx', hk, hnx, hH⟩ := eBuiltin_ex h
      refine ⟨v, H', nx', hk, hnx, fun ι w N a o ho hr hw hf hN he => ?_⟩
      obtain ⟨ι', w', x, g1, g2, g3, g4⟩ := hH ι w N (cargs.map a.eval) hr hw hf hN (by rw [Array.toList_map]; exact args_VR he hl)
      refine ⟨ι', w', x, .inl ?_, g2, g3, g4⟩
      obtain ⟨dst, op, type, pos, after, guard⟩ := o
      simp only at ho
      subst ho
      simp only [execOp, resolve, Sem.run_bind, Sem.run_pure, Result.andThen_ok, invoke]
      exact g1 _ _
  | _ => cases h
end
end Go.Ew
