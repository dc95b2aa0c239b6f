/- OPERATIONS THAT MAKE ONE BLOCK are the model's. -/
import Derived.Test.YtmoojbahmkmfiaaGreatEwMem
namespace Go.Ew
section
variable {P : Program} {w : World} {ι : Ix} {H H' : Heap}

theorem rep_length (n : Nat) (l : List AV) : (rep n l).length = n * l.length := by
  induction n with
  | zero => simp [rep]
  | succ n ih => simp [rep, ih, Nat.succ_mul]; omega
theorem rep_get (l : List AV) : ∀ (n i : Nat), i < n * l.length → (rep n l)[i]? = l[i % l.length]?
  | 0, i, h => by simp at h
  | n+1, i, h => by
    rw [Nat.succ_mul] at h
    unfold rep
    rw [List.getElem?_append]
    split
    · rename_i hi; rw [Nat.mod_eq_of_lt hi]
    · rename_i hi
      have hpos : 0 < l.length := by
        rcases Nat.eq_zero_or_pos l.length with h0 | h0
        · rw [h0] at h; simp at h
        · exact h0
      rw [rep_get l n _ (by omega)]
      congr 1
      rw [show i = (i - l.length) + l.length by omega, Nat.add_mod_right]
      simp
/-- the model's row of zeros -/
def zeros (z : Array Value) (n : Nat) : Array Value := (Array.range n).map (z[· % z.size]!)
theorem zeros_size (z : Array Value) (n : Nat) : (zeros z n).size = n := by simp [zeros]
theorem zeros_ite (z : Array Value) (n : Nat) : (Array.range n).map ((if n = 0 then #[] else z)[· % (if n = 0 then #[] else z : Array Value).size]!) = zeros z n := by
  by_cases h : n = 0
  · subst h; simp [zeros]
  · simp only [h, if_false]; rfl
theorem zeros_VRL {l : List AV} {z : Array Value} (h : VRL ι l z.toList) (m : Nat) : VRL ι (rep m l) (zeros z (m * z.size)).toList := by
  have hlen : l.length = z.size := by rw [h.length]; simp
  refine VRL.of_get (by rw [rep_length, hlen]; simp [zeros]) fun i a x ha hx => ?_
  have hi : i < m * l.length := by
    have := (List.getElem?_eq_some_iff.1 ha).1; rwa [rep_length] at this
  have hpos : 0 < l.length := by
    rcases Nat.eq_zero_or_pos l.length with h0 | h0
    · rw [h0] at hi; simp at hi
    · exact h0
  rw [rep_get l m i hi] at ha
  obtain ⟨y, hy, hv⟩ := h.get _ ha
  have hm : i % l.length < z.size := by rw [← hlen]; exact Nat.mod_lt _ hpos
  have : (zeros z (m * z.size)).toList[i]? = some z[i % z.size]! := by
    simp [zeros]; rw [← hlen]; simp [hi]
  rw [this] at hx
  injection hx with hx
  rw [hlen] at hy
  rw [Array.getElem?_toList] at hy
  rw [getElem!_def, hy] at hx
  subst hx; exact hv

theorem info_size {t : TypeId} {z : List AV} (h : zeroCells P t = .ok z) : ∃ i v, P.info? t = some i ∧ i.zero = some v ∧ VRL ι z v.cells.toList := by
  obtain ⟨i, hi, h⟩ := ofOpt_ok h
  obtain ⟨v, hv, h⟩ := ofOpt_ok h
  obtain ⟨l, hl, h⟩ := ofOpt_ok h
  cases ok_inj h
  exact ⟨i, v, hi, hv, ofScalars_VR hl⟩

/-- what the model gives for a new block -/
def newVal (g : Nat) : Option (Nat × Nat) → Value
  | none => .pointer (some ⟨g, 0, none⟩)
  | some (n, m) => .slice (some ⟨g, 0, none⟩) n m
theorem newVal_VR {nx : Nat} {p : Pl} {s : Option (Nat × Nat)} (h : ι nx 0 = some p) (hs : ∀ n m, s = some (n, m) → n ≤ m) : VR ι (madeVal nx s) (newVal p.blk s) := by
  cases s with
  | none => exact .ptr h
  | some q => obtain ⟨n, m⟩ := q; exact .known h (hs n m rfl)

theorem aggCells_ok {a : AV} {l : List AV} (h : aggCells a = .ok l) : a = .agg l := by
  unfold aggCells at h
  split at h
  · cases ok_inj h; rfl
  · cases h

theorem run_box (el : TypeId) (v : Value) : (Instr.box el v).run P w = .ok (.pointer (some ⟨w.heap.size, 0, none⟩)) (plus w v.cells el) := by
  simp [Instr.box, newVar, newRow]; rfl
theorem run_newRow (el : TypeId) (cs : Array Value) : (newRow el cs).run P w = .ok ⟨w.heap.size, 0, none⟩ (plus w cs el) := by
  simp [newRow]; rfl

theorem evAl_ok {env : Env} {a : Act} (he : ER ι env a.tmps) {o : Oper} {r : List AV × Option (Nat × Nat)} (h : evAl P env o.op = .ok r) :
    ∃ cs el, (execOp a.eval o).run P w = .ok (.value (newVal w.heap.size r.2)) (plus w cs el) ∧ VRL ι r.1 cs.toList ∧ ∀ n m, r.2 = some (n, m) → n ≤ m := by
  obtain ⟨dst, op, type, pos, after, guard⟩ := o
  simp only at h
  cases op with
  | alloc t =>
    obtain ⟨z, hz, h⟩ := and_ok h
    cases ok_inj h
    obtain ⟨v, hv, hz⟩ := zeroCells_run (ι := ι) (w := w) hz
    refine ⟨v.cells, t, ?_, hz, by simp⟩
    simp [execOp, Instr.alloc, hv, newVar, run_newRow]; rfl
  | box t x =>
    obtain ⟨v, hv, h⟩ := and_ok h
    cases ok_inj h
    refine ⟨(a.eval x).cells, t, ?_, (arg_VR he hv).cells, by simp⟩
    simp [execOp, run_box]; rfl
  | buildSlice t len ps =>
    obtain ⟨e, hte, h⟩ := and_ok h
    obtain ⟨sz, hsz, h⟩ := and_ok h
    obtain ⟨z, hz, h⟩ := and_ok h
    obtain ⟨l, hl, h⟩ := and_ok h
    obtain ⟨hmax, h⟩ := must_ok h
    obtain ⟨hzl, h⟩ := must_ok h
    obtain ⟨g, hg, h⟩ := and_ok h
    obtain ⟨q, hq, h⟩ := and_ok h
    cases ok_inj h
    cases aggCells_ok hq
    have hmax : len * sz ≤ 1000000 := ble_iff.1 hmax
    have hzl : z.length = sz := beq_iff.1 hzl
    obtain ⟨i, v, hi, hv, hzv⟩ := info_size (ι := ι) hz
    have hvs : v.cells.size = sz := by rw [← hzl, hzv.length]; simp
    obtain ⟨t1, hg, ht1⟩ := setCells_ok _ _ _ _ hg
    have hrow := zeros_VRL hzv len
    rw [hvs] at hrow
    obtain ⟨t2, cs, h1, h2, h3, h4⟩ := fillK_ok (ι := ι) (place' := fun i => some (i * sz, sz)) (fun i => rfl) hg (l' := (ps.map fun (i, x) => (i, a.eval x)).toList) (by rw [Array.toList_map]; exact parts_PR he hl)
      (TR.of_setCells hrow ht1) (zeros_size _ _)
    obtain ⟨m, hm, h4⟩ := ofOpt_ok h4
    cases ok_inj h4
    refine ⟨cs, e, ?_, h3.cellsAt h2.symm hm, fun n m h => by injection h with h; injection h with h1 h2; omega⟩
    have hu := elemT_under hte
    have hsr := sizeT_run (w := w) hsz
    have hzr : (zeroValue e).run P w = .ok v w := by simp [zeroValue, typeInfo, hi, hv]
    have hfill : ∀ z0 : Array Value, z0 = (if len * sz = 0 then #[] else v.cells) → Instr.fill (fun i => some (i * sz, sz)) ((Array.range (len * sz)).map (fun x => z0[x % z0.size]!)) (ps.map (fun x => (x.fst, a.eval x.snd))).toList = some cs := by
      rintro _ rfl
      rw [zeros_ite]; exact h1
    simp only [execOp, Instr.buildSlice, Sem.run_bind, run_underlying hu, Result.andThen_ok, hsr, Sem.run_ite]
    rw [if_neg (by omega)]
    by_cases h0 : len * sz = 0
    · rw [if_pos h0]
      simp only [Sem.run_pure, Result.andThen_ok]
      rw [hfill #[] (by rw [if_pos h0])]
      simp only [Sem.run_bind, run_newRow, Result.andThen_ok, Sem.run_pure]
      rfl
    · rw [if_neg h0]
      simp only [Sem.run_pure, Result.andThen_ok, hzr]
      rw [hfill v.cells (by rw [if_neg h0])]
      simp only [Sem.run_bind, run_newRow, Result.andThen_ok, Sem.run_pure]
      rfl
  | makeSlice t lo co =>
    obtain ⟨e, hte, h⟩ := and_ok h
    obtain ⟨i, hi, h⟩ := ofOpt_ok h
    obtain ⟨lv, hlv, h⟩ := and_ok h
    obtain ⟨n, hn, h⟩ := and_ok h
    obtain ⟨cv, hcv, h⟩ := and_ok h
    obtain ⟨m, hm, h⟩ := and_ok h
    obtain ⟨h1, h⟩ := must_ok h
    obtain ⟨h2, h⟩ := must_ok h
    obtain ⟨h3, h⟩ := must_ok h
    obtain ⟨z, hz, h⟩ := and_ok h
    obtain ⟨h4, h⟩ := must_ok h
    cases ok_inj h
    have h1 : n ≤ m := ble_iff.1 h1
    have h2 : m ≤ 1000000 := ble_iff.1 h2
    have h3 : i.bytes ≤ 100000 := ble_iff.1 h3
    have h4 : z.length = i.size := beq_iff.1 h4
    obtain ⟨k, hk⟩ := asNat_VR hn (arg_VR he hlv)
    obtain ⟨k', hk'⟩ := asNat_VR hm (arg_VR he hcv)
    obtain ⟨i', v, hi', hv, hzv⟩ := info_size (ι := ι) hz
    rw [hi] at hi'; injection hi' with hi'; subst hi'
    have hvs : v.cells.size = i.size := by rw [← h4, hzv.length]; simp
    have hrow := zeros_VRL hzv m
    refine ⟨_, e, ?_, hrow, fun n' m' h => by injection h with h; injection h with h5 h6; omega⟩
    have hu := elemT_under hte
    have hzr : (zeroValue e).run P w = .ok v w := by simp [zeroValue, typeInfo, hi, hv]
    have wn : IntKind.wrap .i64 (n : Int) = n := wrap_i64 (by omega) (by omega)
    have wm : IntKind.wrap .i64 (m : Int) = m := wrap_i64 (by omega) (by omega)
    have hb : (i.bytes : Int) * (m : Int) ≤ 2 ^ 48 := by
      have : i.bytes * m ≤ 100000 * 1000000 := Nat.mul_le_mul h3 h2
      have e : ((2 : Int) ^ 48) = 281474976710656 := by decide
      rw [e]
      have : ((i.bytes * m : Nat) : Int) ≤ 100000000000 := by omega
      rw [Int.natCast_mul] at this
      omega
    have ht : (decide ((m : Int) < 0) || decide ((i.bytes : Int) * (m : Int) > 2 ^ 48)) = false := by
      simp only [Bool.or_eq_false_iff, decide_eq_false_iff_not]; constructor <;> omega
    have hcond : ((((decide ((m : Int) < 0) || decide ((i.bytes : Int) * (m : Int) > 2 ^ 48)) || decide ((n : Int) < 0)) || decide ((n : Int) > (m : Int)))) = false := by
      rw [ht]; simp; omega
    simp only [execOp, hk, hk', Instr.makeSlice, Sem.run_bind, run_underlying hu, Result.andThen_ok, asInt, run_asIntOf, Sem.run_pure, typeInfo, run_program, hi, wn, wm, hcond, Bool.false_eq_true, if_false, run_askRoom, sizeOf]
    have hrow2 : ∀ z0 : Array Value, z0 = (if m * i.size = 0 then #[] else v.cells) → (Array.range (m * i.size)).map (fun x => z0[x % z0.size]!) = zeros v.cells (m * v.cells.size) := by
      rintro _ rfl
      rw [hvs]; exact zeros_ite _ _
    simp only [Int.toNat_natCast, Sem.run_ite]
    by_cases h0 : m * i.size = 0
    · rw [if_pos h0]
      simp only [Sem.run_pure, Sem.run_bind, Result.andThen_ok, run_newRow]
      rw [hrow2 #[] (by rw [if_pos h0])]
      rfl
    · rw [if_neg h0]
      simp only [Sem.run_pure, Sem.run_bind, Result.andThen_ok, hzr, run_newRow]
      rw [hrow2 v.cells (by rw [if_neg h0])]
      rfl
  | _ => cases h
end
end Go.Ew
