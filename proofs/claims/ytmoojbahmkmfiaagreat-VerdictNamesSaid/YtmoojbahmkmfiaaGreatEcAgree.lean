/- THE TWO EVALUATORS AGREE: the one in continuation style is the other one. PRINTED by mkp.py. -/
import Derived.Test.YtmoojbahmkmfiaaGreatEcFast
import Derived.Test.YtmoojbahmkmfiaaGreatEwNum
namespace Go.Ec
open Go.Ew

set_option linter.unusedSimpArgs false
set_option linter.unusedVariables false
def toC {α : Type} (x : Ew.Res α) : Ec.Res α := match x with | .ok a => Ec.Res.ok a | .no _ => Ec.Res.no ""
theorem no_eq {α : Type} (w w' : String) : (Ec.Res.no w : Ec.Res α) = Ec.Res.no w' := rfl
theorem toC_ok {α : Type} (a : α) : toC (.ok a) = Ec.Res.ok a := rfl
theorem toC_no {α : Type} (w : String) : toC (.no w : Ew.Res α) = Ec.Res.no w := rfl
theorem toC_and {α β : Type} (x : Ew.Res α) (k : α → Ew.Res β) : toC (x.and k) = (toC x).and fun a => toC (k a) := by cases x <;> rfl
theorem toC_ofOpt {α β : Type} (o : Option α) (w : String) (k : α → Ew.Res β) : toC (Ew.ofOpt o w k) = Ec.ofOpt o w fun a => toC (k a) := by cases o <;> rfl
theorem toC_must {β : Type} (b : Bool) (w : String) (k : Ew.Res β) : toC (Ew.must b w k) = Ec.must b w (toC k) := by cases b <;> rfl
theorem toC_bool {β : Type} (b : Bool) (x y : Ew.Res β) : toC (@Bool.rec (fun _ => Ew.Res β) x y b) = @Bool.rec (fun _ => Ec.Res β) (toC x) (toC y) b := by cases b <;> rfl
theorem toC_sel {β : Type} (b : Bool) (x y : Ew.Res β) : toC (sel b x y) = sel b (toC x) (toC y) := by cases b <;> rfl
theorem and_ext {α β : Type} {x y : Ec.Res α} {k l : α → Ec.Res β} (h : x = y) (h2 : ∀ a, k a = l a) : x.and k = y.and l := by rw [h, funext h2]
theorem opt_ext {α β : Type} {o : Option α} {w : String} {k l : α → Ec.Res β} (h : ∀ a, k a = l a) : Ec.ofOpt o w k = Ec.ofOpt o w l := by rw [funext h]
theorem must_ext {β : Type} {b : Bool} {w : String} {k l : Ec.Res β} (h : k = l) : Ec.must b w k = Ec.must b w l := by rw [h]
theorem sel_ext {α : Type} {b : Bool} {x y x' y' : α} (h : x = x') (h2 : y = y') : sel b x y = sel b x' y' := by rw [h, h2]
theorem toC_forceNat {β : Type} (n : Nat) (k : Nat → Ew.Res β) : toC (forceNat n k) = forceNat n fun m => toC (k m) := by cases n <;> rfl
theorem forceNat_ext {β : Type} {n : Nat} {k l : Nat → β} (h : ∀ m, k m = l m) : forceNat n k = forceNat n l := by rw [funext h]
theorem toC_force {β : Type} (v : AV) (k : AV → Ew.Res β) : toC (force v k) = force v fun m => toC (k m) := by rw [force_eq, force_eq]
theorem force_ext {β : Type} {n : AV} {k l : AV → β} (h : ∀ m, k m = l m) : force n k = force n l := by rw [funext h]
def cC (ev : Ew.CodeFn) : Ec.CodeFn := fun sz c env H nx => toC (ev sz c env H nx)
def eC (ev : Ew.Evr) : Ec.Evr := ⟨cC ev.code, ev.ora⟩
def nC (k : Ew.Next) : Ec.Next := fun env H nx => toC (k env H nx)
def dC (k : Ew.NextD) : Ec.NextD := fun bs i m env H nx => toC (k bs i m env H nx)
variable {β : Type}
theorem isOk_c (v : AV) (x : Ew.Res AV) : Ew.isOk v x = Ec.isOk v (toC x) := by cases x <;> rfl
theorem setLf_c {α β : Type} (x : α) (d : Nat) (z0 : Nat) (z1 : Tr α → Ew.Res β) : toC (Ew.setLf x d z0 z1) = Ec.setLf x d z0 (fun y0 => toC (z1 y0)) := by
  unfold Ew.setLf Ec.setLf
  induction d generalizing z0 z1 with
  | zero => rfl
  | succ d ih => simp only [toC_bool, ih]
theorem Tr_setK_c {α β : Type} (t : Tr α) (n : Nat) (x : α) (k : Tr α → Ew.Res β) : toC (Ew.Tr.setK t n x k) = Ec.Tr.setK t n x (fun y0 => toC (k y0)) := by
  unfold Ew.Tr.setK Ec.Tr.setK
  induction t generalizing n k with
  | lf => simp only [setLf_c]
  | nd v l r ihl ihr => simp only [toC_bool, ihl, ihr]
theorem arg_c (env : Env) (o : Operand) : toC (Ew.arg env o) = Ec.arg env o := by
  unfold Ew.arg Ec.arg
  repeat' first | (with_reducible rfl) | (with_reducible refine and_ext ?_ fun _ => ?_) | (with_reducible refine opt_ext fun _ => ?_) | (with_reducible refine must_ext ?_) | (with_reducible refine sel_ext ?_ ?_) | (with_reducible refine forceNat_ext fun _ => ?_) | (with_reducible refine force_ext fun _ => ?_) | (simp only [toC_ok, toC_no, toC_and, toC_ofOpt, toC_must, toC_sel, toC_forceNat, toC_force, nC, dC]; done) | (simp only [toC_ok, toC_no, toC_and, toC_ofOpt, toC_must, toC_sel, toC_forceNat, toC_force, nC, dC]) | split | rfl
  all_goals (first | done | rfl | (simp_all; done) | (simp_all; rfl))
theorem args_c (env : Env) (z0 : List Operand) : toC (Ew.args env z0) = Ec.args env z0 := by
  induction z0 with
  | nil => rfl
  | cons o r ih => simp only [Ew.args, Ec.args, toC_and, toC_ok, arg_c, ih]
theorem parts_c (env : Env) (z0 : List (Nat × Operand)) : toC (Ew.parts env z0) = Ec.parts env z0 := by
  induction z0 with
  | nil => rfl
  | cons o r ih => obtain ⟨i, o⟩ := o; simp only [Ew.parts, Ec.parts, toC_and, toC_ok, arg_c, ih]
theorem argO_c (env : Env) (o : Option Operand) : toC (Ew.argO env o) = Ec.argO env o := by
  unfold Ew.argO Ec.argO
  repeat' first | (with_reducible rfl) | (with_reducible refine and_ext ?_ fun _ => ?_) | (with_reducible refine opt_ext fun _ => ?_) | (with_reducible refine must_ext ?_) | (with_reducible refine sel_ext ?_ ?_) | (with_reducible refine forceNat_ext fun _ => ?_) | (with_reducible refine force_ext fun _ => ?_) | (simp only [toC_ok, toC_no, toC_and, toC_ofOpt, toC_must, toC_sel, toC_forceNat, toC_force, nC, dC, arg_c]; done) | (simp only [toC_ok, toC_no, toC_and, toC_ofOpt, toC_must, toC_sel, toC_forceNat, toC_force, nC, dC, arg_c]) | split | rfl
  all_goals (first | done | rfl | (simp_all; done) | (simp_all; rfl))
theorem readCells_c (H : Heap) (b v off n : Nat) : toC (Ew.readCells H b v off n) = Ec.readCells H b v off n := by
  unfold Ew.readCells Ec.readCells
  repeat' first | (with_reducible rfl) | (with_reducible refine and_ext ?_ fun _ => ?_) | (with_reducible refine opt_ext fun _ => ?_) | (with_reducible refine must_ext ?_) | (with_reducible refine sel_ext ?_ ?_) | (with_reducible refine forceNat_ext fun _ => ?_) | (with_reducible refine force_ext fun _ => ?_) | (simp only [toC_ok, toC_no, toC_and, toC_ofOpt, toC_must, toC_sel, toC_forceNat, toC_force, nC, dC]; done) | (simp only [toC_ok, toC_no, toC_and, toC_ofOpt, toC_must, toC_sel, toC_forceNat, toC_force, nC, dC]) | split | rfl
  all_goals (first | done | rfl | (simp_all; done) | (simp_all; rfl))
theorem setCells_c {β : Type} (t : Tr AV) (off : Nat) (l : List AV) (k : Tr AV → Ew.Res β) : toC (Ew.setCells t off l k) = Ec.setCells t off l (fun y0 => toC (k y0)) := by
  unfold Ew.setCells Ec.setCells
  induction l generalizing t off with
  | nil => rfl
  | cons v r ih => simp only [Tr_setK_c, ih]
theorem writeCells_c {β : Type} (H : Heap) (b v off : Nat) (l : List AV) (k : Heap → Ew.Res β) : toC (Ew.writeCells H b v off l k) = Ec.writeCells H b v off l (fun y0 => toC (k y0)) := by
  unfold Ew.writeCells Ec.writeCells
  repeat' first | (with_reducible rfl) | (with_reducible refine and_ext ?_ fun _ => ?_) | (with_reducible refine opt_ext fun _ => ?_) | (with_reducible refine must_ext ?_) | (with_reducible refine sel_ext ?_ ?_) | (with_reducible refine forceNat_ext fun _ => ?_) | (with_reducible refine force_ext fun _ => ?_) | (simp only [toC_ok, toC_no, toC_and, toC_ofOpt, toC_must, toC_sel, toC_forceNat, toC_force, nC, dC, Tr_setK_c, setCells_c]; done) | (simp only [toC_ok, toC_no, toC_and, toC_ofOpt, toC_must, toC_sel, toC_forceNat, toC_force, nC, dC, Tr_setK_c, setCells_c]) | split | rfl
  all_goals (first | done | rfl | (simp_all; done) | (simp_all; rfl))
theorem newBlk_c {β : Type} (H : Heap) (nx : Nat) (l : List AV) (esz : Nat) (k : Heap → Nat → Ew.Res β) : toC (Ew.newBlk H nx l esz k) = Ec.newBlk H nx l esz (fun y0 y1 => toC (k y0 y1)) := by
  unfold Ew.newBlk Ec.newBlk
  repeat' first | (with_reducible rfl) | (with_reducible refine and_ext ?_ fun _ => ?_) | (with_reducible refine opt_ext fun _ => ?_) | (with_reducible refine must_ext ?_) | (with_reducible refine sel_ext ?_ ?_) | (with_reducible refine forceNat_ext fun _ => ?_) | (with_reducible refine force_ext fun _ => ?_) | (simp only [toC_ok, toC_no, toC_and, toC_ofOpt, toC_must, toC_sel, toC_forceNat, toC_force, nC, dC, Tr_setK_c, setCells_c]; done) | (simp only [toC_ok, toC_no, toC_and, toC_ofOpt, toC_must, toC_sel, toC_forceNat, toC_force, nC, dC, Tr_setK_c, setCells_c]) | split | rfl
  all_goals (first | done | rfl | (simp_all; done) | (simp_all; rfl))
theorem zeroCells_c (P : Program) (t : TypeId) : toC (Ew.zeroCells P t) = Ec.zeroCells P t := by
  unfold Ew.zeroCells Ec.zeroCells
  repeat' first | (with_reducible rfl) | (with_reducible refine and_ext ?_ fun _ => ?_) | (with_reducible refine opt_ext fun _ => ?_) | (with_reducible refine must_ext ?_) | (with_reducible refine sel_ext ?_ ?_) | (with_reducible refine forceNat_ext fun _ => ?_) | (with_reducible refine force_ext fun _ => ?_) | (simp only [toC_ok, toC_no, toC_and, toC_ofOpt, toC_must, toC_sel, toC_forceNat, toC_force, nC, dC]; done) | (simp only [toC_ok, toC_no, toC_and, toC_ofOpt, toC_must, toC_sel, toC_forceNat, toC_force, nC, dC]) | split | rfl
  all_goals (first | done | rfl | (simp_all; done) | (simp_all; rfl))
theorem sizeT_c (P : Program) (t : TypeId) : toC (Ew.sizeT P t) = Ec.sizeT P t := by
  unfold Ew.sizeT Ec.sizeT
  repeat' first | (with_reducible rfl) | (with_reducible refine and_ext ?_ fun _ => ?_) | (with_reducible refine opt_ext fun _ => ?_) | (with_reducible refine must_ext ?_) | (with_reducible refine sel_ext ?_ ?_) | (with_reducible refine forceNat_ext fun _ => ?_) | (with_reducible refine force_ext fun _ => ?_) | (simp only [toC_ok, toC_no, toC_and, toC_ofOpt, toC_must, toC_sel, toC_forceNat, toC_force, nC, dC]; done) | (simp only [toC_ok, toC_no, toC_and, toC_ofOpt, toC_must, toC_sel, toC_forceNat, toC_force, nC, dC]) | split | rfl
  all_goals (first | done | rfl | (simp_all; done) | (simp_all; rfl))
theorem aggT_c (P : Program) (t : TypeId) : toC (Ew.aggT P t) = Ec.aggT P t := by
  unfold Ew.aggT Ec.aggT
  repeat' first | (with_reducible rfl) | (with_reducible refine and_ext ?_ fun _ => ?_) | (with_reducible refine opt_ext fun _ => ?_) | (with_reducible refine must_ext ?_) | (with_reducible refine sel_ext ?_ ?_) | (with_reducible refine forceNat_ext fun _ => ?_) | (with_reducible refine force_ext fun _ => ?_) | (simp only [toC_ok, toC_no, toC_and, toC_ofOpt, toC_must, toC_sel, toC_forceNat, toC_force, nC, dC]; done) | (simp only [toC_ok, toC_no, toC_and, toC_ofOpt, toC_must, toC_sel, toC_forceNat, toC_force, nC, dC]) | split | rfl
  all_goals (first | done | rfl | (simp_all; done) | (simp_all; rfl))
theorem elemD_c (d : TypeDesc) : toC (Ew.elemD d) = Ec.elemD d := by
  unfold Ew.elemD Ec.elemD
  repeat' first | (with_reducible rfl) | (with_reducible refine and_ext ?_ fun _ => ?_) | (with_reducible refine opt_ext fun _ => ?_) | (with_reducible refine must_ext ?_) | (with_reducible refine sel_ext ?_ ?_) | (with_reducible refine forceNat_ext fun _ => ?_) | (with_reducible refine force_ext fun _ => ?_) | (simp only [toC_ok, toC_no, toC_and, toC_ofOpt, toC_must, toC_sel, toC_forceNat, toC_force, nC, dC]; done) | (simp only [toC_ok, toC_no, toC_and, toC_ofOpt, toC_must, toC_sel, toC_forceNat, toC_force, nC, dC]) | split | rfl
  all_goals (first | done | rfl | (simp_all; done) | (simp_all; rfl))
theorem elemT_c (P : Program) (t : TypeId) : toC (Ew.elemT P t) = Ec.elemT P t := by
  unfold Ew.elemT Ec.elemT
  repeat' first | (with_reducible rfl) | (with_reducible refine and_ext ?_ fun _ => ?_) | (with_reducible refine opt_ext fun _ => ?_) | (with_reducible refine must_ext ?_) | (with_reducible refine sel_ext ?_ ?_) | (with_reducible refine forceNat_ext fun _ => ?_) | (with_reducible refine force_ext fun _ => ?_) | (simp only [toC_ok, toC_no, toC_and, toC_ofOpt, toC_must, toC_sel, toC_forceNat, toC_force, nC, dC, elemD_c]; done) | (simp only [toC_ok, toC_no, toC_and, toC_ofOpt, toC_must, toC_sel, toC_forceNat, toC_force, nC, dC, elemD_c]) | split | rfl
  all_goals (first | done | rfl | (simp_all; done) | (simp_all; rfl))
theorem whole_c (agg : Bool) (l : List AV) : toC (Ew.whole agg l) = Ec.whole agg l := by
  unfold Ew.whole Ec.whole
  repeat' first | (with_reducible rfl) | (with_reducible refine and_ext ?_ fun _ => ?_) | (with_reducible refine opt_ext fun _ => ?_) | (with_reducible refine must_ext ?_) | (with_reducible refine sel_ext ?_ ?_) | (with_reducible refine forceNat_ext fun _ => ?_) | (with_reducible refine force_ext fun _ => ?_) | (simp only [toC_ok, toC_no, toC_and, toC_ofOpt, toC_must, toC_sel, toC_forceNat, toC_force, nC, dC]; done) | (simp only [toC_ok, toC_no, toC_and, toC_ofOpt, toC_must, toC_sel, toC_forceNat, toC_force, nC, dC]) | split | rfl
  all_goals (first | done | rfl | (simp_all; done) | (simp_all; rfl))
theorem loadAt_c (P : Program) (H : Heap) (t : TypeId) (b v off : Nat) : toC (Ew.loadAt P H t b v off) = Ec.loadAt P H t b v off := by
  unfold Ew.loadAt Ec.loadAt
  repeat' first | (with_reducible rfl) | (with_reducible refine and_ext ?_ fun _ => ?_) | (with_reducible refine opt_ext fun _ => ?_) | (with_reducible refine must_ext ?_) | (with_reducible refine sel_ext ?_ ?_) | (with_reducible refine forceNat_ext fun _ => ?_) | (with_reducible refine force_ext fun _ => ?_) | (simp only [toC_ok, toC_no, toC_and, toC_ofOpt, toC_must, toC_sel, toC_forceNat, toC_force, nC, dC, readCells_c, sizeT_c, aggT_c, whole_c]; done) | (simp only [toC_ok, toC_no, toC_and, toC_ofOpt, toC_must, toC_sel, toC_forceNat, toC_force, nC, dC, readCells_c, sizeT_c, aggT_c, whole_c]) | split | rfl
  all_goals (first | done | rfl | (simp_all; done) | (simp_all; rfl))
theorem loadA_c (P : Program) (H : Heap) (t : TypeId) (a : AV) : toC (Ew.loadA P H t a) = Ec.loadA P H t a := by
  unfold Ew.loadA Ec.loadA
  repeat' first | (with_reducible rfl) | (with_reducible refine and_ext ?_ fun _ => ?_) | (with_reducible refine opt_ext fun _ => ?_) | (with_reducible refine must_ext ?_) | (with_reducible refine sel_ext ?_ ?_) | (with_reducible refine forceNat_ext fun _ => ?_) | (with_reducible refine force_ext fun _ => ?_) | (simp only [toC_ok, toC_no, toC_and, toC_ofOpt, toC_must, toC_sel, toC_forceNat, toC_force, nC, dC, loadAt_c]; done) | (simp only [toC_ok, toC_no, toC_and, toC_ofOpt, toC_must, toC_sel, toC_forceNat, toC_force, nC, dC, loadAt_c]) | split | rfl
  all_goals (first | done | rfl | (simp_all; done) | (simp_all; rfl))
theorem bitsSlow_c (op : BinOp) (k : IntKind) (x y : Int) : toC (Ew.bitsSlow op k x y) = Ec.bitsSlow op k x y := by
  unfold Ew.bitsSlow Ec.bitsSlow
  repeat' first | (with_reducible rfl) | (with_reducible refine and_ext ?_ fun _ => ?_) | (with_reducible refine opt_ext fun _ => ?_) | (with_reducible refine must_ext ?_) | (with_reducible refine sel_ext ?_ ?_) | (with_reducible refine forceNat_ext fun _ => ?_) | (with_reducible refine force_ext fun _ => ?_) | (simp only [toC_ok, toC_no, toC_and, toC_ofOpt, toC_must, toC_sel, toC_forceNat, toC_force, nC, dC]; done) | (simp only [toC_ok, toC_no, toC_and, toC_ofOpt, toC_must, toC_sel, toC_forceNat, toC_force, nC, dC]) | split | rfl
  all_goals (first | done | rfl | (simp_all; done) | (simp_all; rfl))
theorem bits64_c (op : BinOp) (a b : Nat) : toC (Ew.bits64 op a b) = Ec.bits64 op a b := by
  unfold Ew.bits64 Ec.bits64
  repeat' first | (with_reducible rfl) | (with_reducible refine and_ext ?_ fun _ => ?_) | (with_reducible refine opt_ext fun _ => ?_) | (with_reducible refine must_ext ?_) | (with_reducible refine sel_ext ?_ ?_) | (with_reducible refine forceNat_ext fun _ => ?_) | (with_reducible refine force_ext fun _ => ?_) | (simp only [toC_ok, toC_no, toC_and, toC_ofOpt, toC_must, toC_sel, toC_forceNat, toC_force, nC, dC]; done) | (simp only [toC_ok, toC_no, toC_and, toC_ofOpt, toC_must, toC_sel, toC_forceNat, toC_force, nC, dC]) | split | rfl
  all_goals (first | done | rfl | (simp_all; done) | (simp_all; rfl))
theorem bitsQ_c (op : BinOp) (k : IntKind) (x y : Int) : toC (Ew.bitsQ op k x y) = Ec.bitsQ op k x y := by
  unfold Ew.bitsQ Ec.bitsQ
  repeat' first | (with_reducible rfl) | (with_reducible refine and_ext ?_ fun _ => ?_) | (with_reducible refine opt_ext fun _ => ?_) | (with_reducible refine must_ext ?_) | (with_reducible refine sel_ext ?_ ?_) | (with_reducible refine forceNat_ext fun _ => ?_) | (with_reducible refine force_ext fun _ => ?_) | (simp only [toC_ok, toC_no, toC_and, toC_ofOpt, toC_must, toC_sel, toC_forceNat, toC_force, nC, dC, bitsSlow_c, bits64_c]; done) | (simp only [toC_ok, toC_no, toC_and, toC_ofOpt, toC_must, toC_sel, toC_forceNat, toC_force, nC, dC, bitsSlow_c, bits64_c]) | split | rfl
  all_goals (first | done | rfl | (simp_all; done) | (simp_all; rfl))
theorem binInt_c (op : BinOp) (k : IntKind) (x y : Int) : toC (Ew.binInt op k x y) = Ec.binInt op k x y := by
  unfold Ew.binInt Ec.binInt
  repeat' first | (with_reducible rfl) | (with_reducible refine and_ext ?_ fun _ => ?_) | (with_reducible refine opt_ext fun _ => ?_) | (with_reducible refine must_ext ?_) | (with_reducible refine sel_ext ?_ ?_) | (with_reducible refine forceNat_ext fun _ => ?_) | (with_reducible refine force_ext fun _ => ?_) | (simp only [toC_ok, toC_no, toC_and, toC_ofOpt, toC_must, toC_sel, toC_forceNat, toC_force, nC, dC, bitsQ_c]; done) | (simp only [toC_ok, toC_no, toC_and, toC_ofOpt, toC_must, toC_sel, toC_forceNat, toC_force, nC, dC, bitsQ_c]) | split | rfl
  all_goals (first | done | rfl | (simp_all; done) | (simp_all; rfl))
theorem eq1_c (d : TypeDesc) (a b : AV) : toC (Ew.eq1 d a b) = Ec.eq1 d a b := by
  unfold Ew.eq1 Ec.eq1
  repeat' first | (with_reducible rfl) | (with_reducible refine and_ext ?_ fun _ => ?_) | (with_reducible refine opt_ext fun _ => ?_) | (with_reducible refine must_ext ?_) | (with_reducible refine sel_ext ?_ ?_) | (with_reducible refine forceNat_ext fun _ => ?_) | (with_reducible refine force_ext fun _ => ?_) | (simp only [toC_ok, toC_no, toC_and, toC_ofOpt, toC_must, toC_sel, toC_forceNat, toC_force, nC, dC]; done) | (simp only [toC_ok, toC_no, toC_and, toC_ofOpt, toC_must, toC_sel, toC_forceNat, toC_force, nC, dC]) | split | rfl
  all_goals (first | done | rfl | (simp_all; done) | (simp_all; rfl))
theorem eqF_c (P : Program) (z0 : List Field) (z1 : Nat) (z2 : List AV) (z3 : List AV) : toC (Ew.eqF P z0 z1 z2 z3) = Ec.eqF P z0 z1 z2 z3 := by
  induction z0 generalizing z1 z2 z3 with
  | nil => rfl
  | cons f r ih =>
    cases z2 <;> cases z3 <;> simp only [Ew.eqF, Ec.eqF, toC_no, toC_must, toC_ofOpt, toC_and, toC_sel, toC_ok, eq1_c, ih]
theorem eqAgg_c (P : Program) (t : TypeId) (fs : Array Field) (l m : List AV) : toC (Ew.eqAgg P t fs l m) = Ec.eqAgg P t fs l m := by
  unfold Ew.eqAgg Ec.eqAgg
  repeat' first | (with_reducible rfl) | (with_reducible refine and_ext ?_ fun _ => ?_) | (with_reducible refine opt_ext fun _ => ?_) | (with_reducible refine must_ext ?_) | (with_reducible refine sel_ext ?_ ?_) | (with_reducible refine forceNat_ext fun _ => ?_) | (with_reducible refine force_ext fun _ => ?_) | (simp only [toC_ok, toC_no, toC_and, toC_ofOpt, toC_must, toC_sel, toC_forceNat, toC_force, nC, dC, eqF_c]; done) | (simp only [toC_ok, toC_no, toC_and, toC_ofOpt, toC_must, toC_sel, toC_forceNat, toC_force, nC, dC, eqF_c]) | split | rfl
  all_goals (first | done | rfl | (simp_all; done) | (simp_all; rfl))
theorem eqD_c (P : Program) (t : TypeId) (d : TypeDesc) (a b : AV) : toC (Ew.eqD P t d a b) = Ec.eqD P t d a b := by
  unfold Ew.eqD Ec.eqD
  repeat' first | (with_reducible rfl) | (with_reducible refine and_ext ?_ fun _ => ?_) | (with_reducible refine opt_ext fun _ => ?_) | (with_reducible refine must_ext ?_) | (with_reducible refine sel_ext ?_ ?_) | (with_reducible refine forceNat_ext fun _ => ?_) | (with_reducible refine force_ext fun _ => ?_) | (simp only [toC_ok, toC_no, toC_and, toC_ofOpt, toC_must, toC_sel, toC_forceNat, toC_force, nC, dC, eqAgg_c]; done) | (simp only [toC_ok, toC_no, toC_and, toC_ofOpt, toC_must, toC_sel, toC_forceNat, toC_force, nC, dC, eqAgg_c]) | split | rfl
  all_goals (first | done | rfl | (simp_all; done) | (simp_all; rfl))
theorem eqA_c (P : Program) (t : TypeId) (a b : AV) : toC (Ew.eqA P t a b) = Ec.eqA P t a b := by
  unfold Ew.eqA Ec.eqA
  repeat' first | (with_reducible rfl) | (with_reducible refine and_ext ?_ fun _ => ?_) | (with_reducible refine opt_ext fun _ => ?_) | (with_reducible refine must_ext ?_) | (with_reducible refine sel_ext ?_ ?_) | (with_reducible refine forceNat_ext fun _ => ?_) | (with_reducible refine force_ext fun _ => ?_) | (simp only [toC_ok, toC_no, toC_and, toC_ofOpt, toC_must, toC_sel, toC_forceNat, toC_force, nC, dC, eqD_c]; done) | (simp only [toC_ok, toC_no, toC_and, toC_ofOpt, toC_must, toC_sel, toC_forceNat, toC_force, nC, dC, eqD_c]) | split | rfl
  all_goals (first | done | rfl | (simp_all; done) | (simp_all; rfl))
theorem shiftN_c (op : BinOp) (k : IntKind) (x : Int) (n : Nat) : toC (Ew.shiftN op k x n) = Ec.shiftN op k x n := by
  unfold Ew.shiftN Ec.shiftN
  repeat' first | (with_reducible rfl) | (with_reducible refine and_ext ?_ fun _ => ?_) | (with_reducible refine opt_ext fun _ => ?_) | (with_reducible refine must_ext ?_) | (with_reducible refine sel_ext ?_ ?_) | (with_reducible refine forceNat_ext fun _ => ?_) | (with_reducible refine force_ext fun _ => ?_) | (simp only [toC_ok, toC_no, toC_and, toC_ofOpt, toC_must, toC_sel, toC_forceNat, toC_force, nC, dC]; done) | (simp only [toC_ok, toC_no, toC_and, toC_ofOpt, toC_must, toC_sel, toC_forceNat, toC_force, nC, dC]) | split | rfl
  all_goals (first | done | rfl | (simp_all; done) | (simp_all; rfl))
theorem shiftA_c (op : BinOp) (k : IntKind) (x y : Int) : toC (Ew.shiftA op k x y) = Ec.shiftA op k x y := by
  unfold Ew.shiftA Ec.shiftA
  repeat' first | (with_reducible rfl) | (with_reducible refine and_ext ?_ fun _ => ?_) | (with_reducible refine opt_ext fun _ => ?_) | (with_reducible refine must_ext ?_) | (with_reducible refine sel_ext ?_ ?_) | (with_reducible refine forceNat_ext fun _ => ?_) | (with_reducible refine force_ext fun _ => ?_) | (simp only [toC_ok, toC_no, toC_and, toC_ofOpt, toC_must, toC_sel, toC_forceNat, toC_force, nC, dC, shiftN_c]; done) | (simp only [toC_ok, toC_no, toC_and, toC_ofOpt, toC_must, toC_sel, toC_forceNat, toC_force, nC, dC, shiftN_c]) | split | rfl
  all_goals (first | done | rfl | (simp_all; done) | (simp_all; rfl))
theorem binI_c (op : BinOp) (k k' : IntKind) (x y : Int) : toC (Ew.binI op k k' x y) = Ec.binI op k k' x y := by
  unfold Ew.binI Ec.binI
  repeat' first | (with_reducible rfl) | (with_reducible refine and_ext ?_ fun _ => ?_) | (with_reducible refine opt_ext fun _ => ?_) | (with_reducible refine must_ext ?_) | (with_reducible refine sel_ext ?_ ?_) | (with_reducible refine forceNat_ext fun _ => ?_) | (with_reducible refine force_ext fun _ => ?_) | (simp only [toC_ok, toC_no, toC_and, toC_ofOpt, toC_must, toC_sel, toC_forceNat, toC_force, nC, dC, binInt_c, shiftA_c]; done) | (simp only [toC_ok, toC_no, toC_and, toC_ofOpt, toC_must, toC_sel, toC_forceNat, toC_force, nC, dC, binInt_c, shiftA_c]) | split | rfl
  all_goals (first | done | rfl | (simp_all; done) | (simp_all; rfl))
theorem binO_c (P : Program) (t : TypeId) (op : BinOp) (a b : AV) : toC (Ew.binO P t op a b) = Ec.binO P t op a b := by
  unfold Ew.binO Ec.binO
  repeat' first | (with_reducible rfl) | (with_reducible refine and_ext ?_ fun _ => ?_) | (with_reducible refine opt_ext fun _ => ?_) | (with_reducible refine must_ext ?_) | (with_reducible refine sel_ext ?_ ?_) | (with_reducible refine forceNat_ext fun _ => ?_) | (with_reducible refine force_ext fun _ => ?_) | (simp only [toC_ok, toC_no, toC_and, toC_ofOpt, toC_must, toC_sel, toC_forceNat, toC_force, nC, dC, eqA_c]; done) | (simp only [toC_ok, toC_no, toC_and, toC_ofOpt, toC_must, toC_sel, toC_forceNat, toC_force, nC, dC, eqA_c]) | split | rfl
  all_goals (first | done | rfl | (simp_all; done) | (simp_all; rfl))
theorem binA_c (P : Program) (t : TypeId) (op : BinOp) (a b : AV) : toC (Ew.binA P t op a b) = Ec.binA P t op a b := by
  unfold Ew.binA Ec.binA
  repeat' first | (with_reducible rfl) | (with_reducible refine and_ext ?_ fun _ => ?_) | (with_reducible refine opt_ext fun _ => ?_) | (with_reducible refine must_ext ?_) | (with_reducible refine sel_ext ?_ ?_) | (with_reducible refine forceNat_ext fun _ => ?_) | (with_reducible refine force_ext fun _ => ?_) | (simp only [toC_ok, toC_no, toC_and, toC_ofOpt, toC_must, toC_sel, toC_forceNat, toC_force, nC, dC, binI_c, binO_c]; done) | (simp only [toC_ok, toC_no, toC_and, toC_ofOpt, toC_must, toC_sel, toC_forceNat, toC_force, nC, dC, binI_c, binO_c]) | split | rfl
  all_goals (first | done | rfl | (simp_all; done) | (simp_all; rfl))
theorem asNat_c (o : AV) : toC (Ew.asNat o) = Ec.asNat o := by
  unfold Ew.asNat Ec.asNat
  repeat' first | (with_reducible rfl) | (with_reducible refine and_ext ?_ fun _ => ?_) | (with_reducible refine opt_ext fun _ => ?_) | (with_reducible refine must_ext ?_) | (with_reducible refine sel_ext ?_ ?_) | (with_reducible refine forceNat_ext fun _ => ?_) | (with_reducible refine force_ext fun _ => ?_) | (simp only [toC_ok, toC_no, toC_and, toC_ofOpt, toC_must, toC_sel, toC_forceNat, toC_force, nC, dC]; done) | (simp only [toC_ok, toC_no, toC_and, toC_ofOpt, toC_must, toC_sel, toC_forceNat, toC_force, nC, dC]) | split | rfl
  all_goals (first | done | rfl | (simp_all; done) | (simp_all; rfl))
theorem optNat_c (o : Option AV) : toC (Ew.optNat o) = Ec.optNat o := by
  unfold Ew.optNat Ec.optNat
  repeat' first | (with_reducible rfl) | (with_reducible refine and_ext ?_ fun _ => ?_) | (with_reducible refine opt_ext fun _ => ?_) | (with_reducible refine must_ext ?_) | (with_reducible refine sel_ext ?_ ?_) | (with_reducible refine forceNat_ext fun _ => ?_) | (with_reducible refine force_ext fun _ => ?_) | (simp only [toC_ok, toC_no, toC_and, toC_ofOpt, toC_must, toC_sel, toC_forceNat, toC_force, nC, dC, asNat_c]; done) | (simp only [toC_ok, toC_no, toC_and, toC_ofOpt, toC_must, toC_sel, toC_forceNat, toC_force, nC, dC, asNat_c]) | split | rfl
  all_goals (first | done | rfl | (simp_all; done) | (simp_all; rfl))
theorem bounds_c (len cap : Nat) (low high max : Option Nat) (k : Nat → Nat → Nat → Ew.Res AV) : toC (Ew.bounds len cap low high max k) = Ec.bounds len cap low high max (fun y0 y1 y2 => toC (k y0 y1 y2)) := by
  unfold Ew.bounds Ec.bounds
  repeat' first | (with_reducible rfl) | (with_reducible refine and_ext ?_ fun _ => ?_) | (with_reducible refine opt_ext fun _ => ?_) | (with_reducible refine must_ext ?_) | (with_reducible refine sel_ext ?_ ?_) | (with_reducible refine forceNat_ext fun _ => ?_) | (with_reducible refine force_ext fun _ => ?_) | (simp only [toC_ok, toC_no, toC_and, toC_ofOpt, toC_must, toC_sel, toC_forceNat, toC_force, nC, dC]; done) | (simp only [toC_ok, toC_no, toC_and, toC_ofOpt, toC_must, toC_sel, toC_forceNat, toC_force, nC, dC]) | split | rfl
  all_goals (first | done | rfl | (simp_all; done) | (simp_all; rfl))
theorem sliceKnown_c (b v off len c sz : Nat) (low high max : Option Nat) : toC (Ew.sliceKnown b v off len c sz low high max) = Ec.sliceKnown b v off len c sz low high max := by
  unfold Ew.sliceKnown Ec.sliceKnown
  repeat' first | (with_reducible rfl) | (with_reducible refine and_ext ?_ fun _ => ?_) | (with_reducible refine opt_ext fun _ => ?_) | (with_reducible refine must_ext ?_) | (with_reducible refine sel_ext ?_ ?_) | (with_reducible refine forceNat_ext fun _ => ?_) | (with_reducible refine force_ext fun _ => ?_) | (simp only [toC_ok, toC_no, toC_and, toC_ofOpt, toC_must, toC_sel, toC_forceNat, toC_force, nC, dC, bounds_c]; done) | (simp only [toC_ok, toC_no, toC_and, toC_ofOpt, toC_must, toC_sel, toC_forceNat, toC_force, nC, dC, bounds_c]) | split | rfl
  all_goals (first | done | rfl | (simp_all; done) | (simp_all; rfl))
theorem sliceOpn_c (H : Heap) (b v off len sz : Nat) (low high max : Option Nat) : toC (Ew.sliceOpn H b v off len sz low high max) = Ec.sliceOpn H b v off len sz low high max := by
  unfold Ew.sliceOpn Ec.sliceOpn
  repeat' first | (with_reducible rfl) | (with_reducible refine and_ext ?_ fun _ => ?_) | (with_reducible refine opt_ext fun _ => ?_) | (with_reducible refine must_ext ?_) | (with_reducible refine sel_ext ?_ ?_) | (with_reducible refine forceNat_ext fun _ => ?_) | (with_reducible refine force_ext fun _ => ?_) | (simp only [toC_ok, toC_no, toC_and, toC_ofOpt, toC_must, toC_sel, toC_forceNat, toC_force, nC, dC, bounds_c]; done) | (simp only [toC_ok, toC_no, toC_and, toC_ofOpt, toC_must, toC_sel, toC_forceNat, toC_force, nC, dC, bounds_c]) | split | rfl
  all_goals (first | done | rfl | (simp_all; done) | (simp_all; rfl))
theorem sliceA_c (P : Program) (H : Heap) (t : TypeId) (x : AV) (low high max : Option Nat) : toC (Ew.sliceA P H t x low high max) = Ec.sliceA P H t x low high max := by
  unfold Ew.sliceA Ec.sliceA
  repeat' first | (with_reducible rfl) | (with_reducible refine and_ext ?_ fun _ => ?_) | (with_reducible refine opt_ext fun _ => ?_) | (with_reducible refine must_ext ?_) | (with_reducible refine sel_ext ?_ ?_) | (with_reducible refine forceNat_ext fun _ => ?_) | (with_reducible refine force_ext fun _ => ?_) | (simp only [toC_ok, toC_no, toC_and, toC_ofOpt, toC_must, toC_sel, toC_forceNat, toC_force, nC, dC, sizeT_c, elemT_c, bounds_c, sliceKnown_c, sliceOpn_c]; done) | (simp only [toC_ok, toC_no, toC_and, toC_ofOpt, toC_must, toC_sel, toC_forceNat, toC_force, nC, dC, sizeT_c, elemT_c, bounds_c, sliceKnown_c, sliceOpn_c]) | split | rfl
  all_goals (first | done | rfl | (simp_all; done) | (simp_all; rfl))
theorem fillK_c (cells : Tr AV) (size : Nat) (place : Nat → Option (Nat × Nat)) (l : List (Nat × AV)) (k : Tr AV → Ew.Res AV) : toC (Ew.fillK cells size place l k) = Ec.fillK cells size place l (fun y0 => toC (k y0)) := by
  induction l generalizing cells with
  | nil => rfl
  | cons q r ih =>
    obtain ⟨i, v⟩ := q
    simp only [Ew.fillK, Ec.fillK]
    cases h : place i with
    | none => rfl
    | some q => obtain ⟨off, n⟩ := q; simp only [toC_must, setCells_c, ih]
theorem places_c (P : Program) (z0 : List Field) : toC (Ew.places P z0) = Ec.places P z0 := by
  induction z0 with
  | nil => rfl
  | cons f r ih => simp only [Ew.places, Ec.places, toC_and, toC_ok, sizeT_c, ih]
theorem partA_c (agg : Bool) (cs : List AV) (off n : Nat) : toC (Ew.partA agg cs off n) = Ec.partA agg cs off n := by
  unfold Ew.partA Ec.partA
  repeat' first | (with_reducible rfl) | (with_reducible refine and_ext ?_ fun _ => ?_) | (with_reducible refine opt_ext fun _ => ?_) | (with_reducible refine must_ext ?_) | (with_reducible refine sel_ext ?_ ?_) | (with_reducible refine forceNat_ext fun _ => ?_) | (with_reducible refine force_ext fun _ => ?_) | (simp only [toC_ok, toC_no, toC_and, toC_ofOpt, toC_must, toC_sel, toC_forceNat, toC_force, nC, dC]; done) | (simp only [toC_ok, toC_no, toC_and, toC_ofOpt, toC_must, toC_sel, toC_forceNat, toC_force, nC, dC]) | split | rfl
  all_goals (first | done | rfl | (simp_all; done) | (simp_all; rfl))
theorem lenA_c (z0 : AV) : toC (Ew.lenA z0) = Ec.lenA z0 := by
  unfold Ew.lenA Ec.lenA
  repeat' first | (with_reducible rfl) | (with_reducible refine and_ext ?_ fun _ => ?_) | (with_reducible refine opt_ext fun _ => ?_) | (with_reducible refine must_ext ?_) | (with_reducible refine sel_ext ?_ ?_) | (with_reducible refine forceNat_ext fun _ => ?_) | (with_reducible refine force_ext fun _ => ?_) | (simp only [toC_ok, toC_no, toC_and, toC_ofOpt, toC_must, toC_sel, toC_forceNat, toC_force, nC, dC]; done) | (simp only [toC_ok, toC_no, toC_and, toC_ofOpt, toC_must, toC_sel, toC_forceNat, toC_force, nC, dC]) | split | rfl
  all_goals (first | done | rfl | (simp_all; done) | (simp_all; rfl))
theorem firstCells_c (H : Heap) (sz n : Nat) (z0 : AV) : toC (Ew.firstCells H sz n z0) = Ec.firstCells H sz n z0 := by
  unfold Ew.firstCells Ec.firstCells
  repeat' first | (with_reducible rfl) | (with_reducible refine and_ext ?_ fun _ => ?_) | (with_reducible refine opt_ext fun _ => ?_) | (with_reducible refine must_ext ?_) | (with_reducible refine sel_ext ?_ ?_) | (with_reducible refine forceNat_ext fun _ => ?_) | (with_reducible refine force_ext fun _ => ?_) | (simp only [toC_ok, toC_no, toC_and, toC_ofOpt, toC_must, toC_sel, toC_forceNat, toC_force, nC, dC, readCells_c]; done) | (simp only [toC_ok, toC_no, toC_and, toC_ofOpt, toC_must, toC_sel, toC_forceNat, toC_force, nC, dC, readCells_c]) | split | rfl
  all_goals (first | done | rfl | (simp_all; done) | (simp_all; rfl))
theorem capA_c (z0 : AV) : toC (Ew.capA z0) = Ec.capA z0 := by
  unfold Ew.capA Ec.capA
  repeat' first | (with_reducible rfl) | (with_reducible refine and_ext ?_ fun _ => ?_) | (with_reducible refine opt_ext fun _ => ?_) | (with_reducible refine must_ext ?_) | (with_reducible refine sel_ext ?_ ?_) | (with_reducible refine forceNat_ext fun _ => ?_) | (with_reducible refine force_ext fun _ => ?_) | (simp only [toC_ok, toC_no, toC_and, toC_ofOpt, toC_must, toC_sel, toC_forceNat, toC_force, nC, dC]; done) | (simp only [toC_ok, toC_no, toC_and, toC_ofOpt, toC_must, toC_sel, toC_forceNat, toC_force, nC, dC]) | split | rfl
  all_goals (first | done | rfl | (simp_all; done) | (simp_all; rfl))
theorem tellA_c (P : Program) (b : Builtin) (argTypes : List TypeId) (l : List AV) : toC (Ew.tellA P b argTypes l) = Ec.tellA P b argTypes l := by
  unfold Ew.tellA Ec.tellA
  repeat' first | (with_reducible rfl) | (with_reducible refine and_ext ?_ fun _ => ?_) | (with_reducible refine opt_ext fun _ => ?_) | (with_reducible refine must_ext ?_) | (with_reducible refine sel_ext ?_ ?_) | (with_reducible refine forceNat_ext fun _ => ?_) | (with_reducible refine force_ext fun _ => ?_) | (simp only [toC_ok, toC_no, toC_and, toC_ofOpt, toC_must, toC_sel, toC_forceNat, toC_force, nC, dC, elemT_c, lenA_c, capA_c]; done) | (simp only [toC_ok, toC_no, toC_and, toC_ofOpt, toC_must, toC_sel, toC_forceNat, toC_force, nC, dC, elemT_c, lenA_c, capA_c]) | split | rfl
  all_goals (first | done | rfl | (simp_all; done) | (simp_all; rfl))
theorem qPick_c (env : Env) (c a b : Operand) : toC (Ew.qPick env c a b) = Ec.qPick env c a b := by
  unfold Ew.qPick Ec.qPick
  repeat' first | (with_reducible rfl) | (with_reducible refine and_ext ?_ fun _ => ?_) | (with_reducible refine opt_ext fun _ => ?_) | (with_reducible refine must_ext ?_) | (with_reducible refine sel_ext ?_ ?_) | (with_reducible refine forceNat_ext fun _ => ?_) | (with_reducible refine force_ext fun _ => ?_) | (simp only [toC_ok, toC_no, toC_and, toC_ofOpt, toC_must, toC_sel, toC_forceNat, toC_force, nC, dC, arg_c]; done) | (simp only [toC_ok, toC_no, toC_and, toC_ofOpt, toC_must, toC_sel, toC_forceNat, toC_force, nC, dC, arg_c]) | split | rfl
  all_goals (first | done | rfl | (simp_all; done) | (simp_all; rfl))
theorem qLoad_c (P : Program) (env : Env) (H : Heap) (t : TypeId) (a : Operand) : toC (Ew.qLoad P env H t a) = Ec.qLoad P env H t a := by
  unfold Ew.qLoad Ec.qLoad
  repeat' first | (with_reducible rfl) | (with_reducible refine and_ext ?_ fun _ => ?_) | (with_reducible refine opt_ext fun _ => ?_) | (with_reducible refine must_ext ?_) | (with_reducible refine sel_ext ?_ ?_) | (with_reducible refine forceNat_ext fun _ => ?_) | (with_reducible refine force_ext fun _ => ?_) | (simp only [toC_ok, toC_no, toC_and, toC_ofOpt, toC_must, toC_sel, toC_forceNat, toC_force, nC, dC, arg_c, loadA_c]; done) | (simp only [toC_ok, toC_no, toC_and, toC_ofOpt, toC_must, toC_sel, toC_forceNat, toC_force, nC, dC, arg_c, loadA_c]) | split | rfl
  all_goals (first | done | rfl | (simp_all; done) | (simp_all; rfl))
theorem qNil_c (env : Env) (x : Operand) : toC (Ew.qNil env x) = Ec.qNil env x := by
  unfold Ew.qNil Ec.qNil
  repeat' first | (with_reducible rfl) | (with_reducible refine and_ext ?_ fun _ => ?_) | (with_reducible refine opt_ext fun _ => ?_) | (with_reducible refine must_ext ?_) | (with_reducible refine sel_ext ?_ ?_) | (with_reducible refine forceNat_ext fun _ => ?_) | (with_reducible refine force_ext fun _ => ?_) | (simp only [toC_ok, toC_no, toC_and, toC_ofOpt, toC_must, toC_sel, toC_forceNat, toC_force, nC, dC, arg_c]; done) | (simp only [toC_ok, toC_no, toC_and, toC_ofOpt, toC_must, toC_sel, toC_forceNat, toC_force, nC, dC, arg_c]) | split | rfl
  all_goals (first | done | rfl | (simp_all; done) | (simp_all; rfl))
theorem qBin_c (P : Program) (env : Env) (op : BinOp) (t : TypeId) (x y : Operand) : toC (Ew.qBin P env op t x y) = Ec.qBin P env op t x y := by
  unfold Ew.qBin Ec.qBin
  repeat' first | (with_reducible rfl) | (with_reducible refine and_ext ?_ fun _ => ?_) | (with_reducible refine opt_ext fun _ => ?_) | (with_reducible refine must_ext ?_) | (with_reducible refine sel_ext ?_ ?_) | (with_reducible refine forceNat_ext fun _ => ?_) | (with_reducible refine force_ext fun _ => ?_) | (simp only [toC_ok, toC_no, toC_and, toC_ofOpt, toC_must, toC_sel, toC_forceNat, toC_force, nC, dC, arg_c, binA_c]; done) | (simp only [toC_ok, toC_no, toC_and, toC_ofOpt, toC_must, toC_sel, toC_forceNat, toC_force, nC, dC, arg_c, binA_c]) | split | rfl
  all_goals (first | done | rfl | (simp_all; done) | (simp_all; rfl))
theorem unA_c (op : UnOp) (a : AV) : toC (Ew.unA op a) = Ec.unA op a := by
  unfold Ew.unA Ec.unA
  repeat' first | (with_reducible rfl) | (with_reducible refine and_ext ?_ fun _ => ?_) | (with_reducible refine opt_ext fun _ => ?_) | (with_reducible refine must_ext ?_) | (with_reducible refine sel_ext ?_ ?_) | (with_reducible refine forceNat_ext fun _ => ?_) | (with_reducible refine force_ext fun _ => ?_) | (simp only [toC_ok, toC_no, toC_and, toC_ofOpt, toC_must, toC_sel, toC_forceNat, toC_force, nC, dC]; done) | (simp only [toC_ok, toC_no, toC_and, toC_ofOpt, toC_must, toC_sel, toC_forceNat, toC_force, nC, dC]) | split | rfl
  all_goals (first | done | rfl | (simp_all; done) | (simp_all; rfl))
theorem qUn_c (env : Env) (op : UnOp) (x : Operand) : toC (Ew.qUn env op x) = Ec.qUn env op x := by
  unfold Ew.qUn Ec.qUn
  repeat' first | (with_reducible rfl) | (with_reducible refine and_ext ?_ fun _ => ?_) | (with_reducible refine opt_ext fun _ => ?_) | (with_reducible refine must_ext ?_) | (with_reducible refine sel_ext ?_ ?_) | (with_reducible refine forceNat_ext fun _ => ?_) | (with_reducible refine force_ext fun _ => ?_) | (simp only [toC_ok, toC_no, toC_and, toC_ofOpt, toC_must, toC_sel, toC_forceNat, toC_force, nC, dC, arg_c, unA_c]; done) | (simp only [toC_ok, toC_no, toC_and, toC_ofOpt, toC_must, toC_sel, toC_forceNat, toC_force, nC, dC, arg_c, unA_c]) | split | rfl
  all_goals (first | done | rfl | (simp_all; done) | (simp_all; rfl))
theorem convA_c (d : TypeDesc) (a : AV) : toC (Ew.convA d a) = Ec.convA d a := by
  unfold Ew.convA Ec.convA
  repeat' first | (with_reducible rfl) | (with_reducible refine and_ext ?_ fun _ => ?_) | (with_reducible refine opt_ext fun _ => ?_) | (with_reducible refine must_ext ?_) | (with_reducible refine sel_ext ?_ ?_) | (with_reducible refine forceNat_ext fun _ => ?_) | (with_reducible refine force_ext fun _ => ?_) | (simp only [toC_ok, toC_no, toC_and, toC_ofOpt, toC_must, toC_sel, toC_forceNat, toC_force, nC, dC]; done) | (simp only [toC_ok, toC_no, toC_and, toC_ofOpt, toC_must, toC_sel, toC_forceNat, toC_force, nC, dC]) | split | rfl
  all_goals (first | done | rfl | (simp_all; done) | (simp_all; rfl))
theorem qConv_c (P : Program) (env : Env) (src dst : TypeId) (x : Operand) : toC (Ew.qConv P env src dst x) = Ec.qConv P env src dst x := by
  unfold Ew.qConv Ec.qConv
  repeat' first | (with_reducible rfl) | (with_reducible refine and_ext ?_ fun _ => ?_) | (with_reducible refine opt_ext fun _ => ?_) | (with_reducible refine must_ext ?_) | (with_reducible refine sel_ext ?_ ?_) | (with_reducible refine forceNat_ext fun _ => ?_) | (with_reducible refine force_ext fun _ => ?_) | (simp only [toC_ok, toC_no, toC_and, toC_ofOpt, toC_must, toC_sel, toC_forceNat, toC_force, nC, dC, arg_c, convA_c]; done) | (simp only [toC_ok, toC_no, toC_and, toC_ofOpt, toC_must, toC_sel, toC_forceNat, toC_force, nC, dC, arg_c, convA_c]) | split | rfl
  all_goals (first | done | rfl | (simp_all; done) | (simp_all; rfl))
theorem qFunc_c (env : Env) (fn : Fn) (first captured : Array Operand) : toC (Ew.qFunc env fn first captured) = Ec.qFunc env fn first captured := by
  unfold Ew.qFunc Ec.qFunc
  repeat' first | (with_reducible rfl) | (with_reducible refine and_ext ?_ fun _ => ?_) | (with_reducible refine opt_ext fun _ => ?_) | (with_reducible refine must_ext ?_) | (with_reducible refine sel_ext ?_ ?_) | (with_reducible refine forceNat_ext fun _ => ?_) | (with_reducible refine force_ext fun _ => ?_) | (simp only [toC_ok, toC_no, toC_and, toC_ofOpt, toC_must, toC_sel, toC_forceNat, toC_force, nC, dC, args_c]; done) | (simp only [toC_ok, toC_no, toC_and, toC_ofOpt, toC_must, toC_sel, toC_forceNat, toC_force, nC, dC, args_c]) | split | rfl
  all_goals (first | done | rfl | (simp_all; done) | (simp_all; rfl))
theorem qSlice_c (P : Program) (env : Env) (H : Heap) (t : TypeId) (x : Operand) (lo hi mx : Option Operand) : toC (Ew.qSlice P env H t x lo hi mx) = Ec.qSlice P env H t x lo hi mx := by
  unfold Ew.qSlice Ec.qSlice
  repeat' first | (with_reducible rfl) | (with_reducible refine and_ext ?_ fun _ => ?_) | (with_reducible refine opt_ext fun _ => ?_) | (with_reducible refine must_ext ?_) | (with_reducible refine sel_ext ?_ ?_) | (with_reducible refine forceNat_ext fun _ => ?_) | (with_reducible refine force_ext fun _ => ?_) | (simp only [toC_ok, toC_no, toC_and, toC_ofOpt, toC_must, toC_sel, toC_forceNat, toC_force, nC, dC, arg_c, argO_c, optNat_c, sliceA_c]; done) | (simp only [toC_ok, toC_no, toC_and, toC_ofOpt, toC_must, toC_sel, toC_forceNat, toC_force, nC, dC, arg_c, argO_c, optNat_c, sliceA_c]) | split | rfl
  all_goals (first | done | rfl | (simp_all; done) | (simp_all; rfl))
theorem fieldAddrA_c (P : Program) (i : Nat) (d : TypeDesc) (a : AV) : toC (Ew.fieldAddrA P i d a) = Ec.fieldAddrA P i d a := by
  unfold Ew.fieldAddrA Ec.fieldAddrA
  repeat' first | (with_reducible rfl) | (with_reducible refine and_ext ?_ fun _ => ?_) | (with_reducible refine opt_ext fun _ => ?_) | (with_reducible refine must_ext ?_) | (with_reducible refine sel_ext ?_ ?_) | (with_reducible refine forceNat_ext fun _ => ?_) | (with_reducible refine force_ext fun _ => ?_) | (simp only [toC_ok, toC_no, toC_and, toC_ofOpt, toC_must, toC_sel, toC_forceNat, toC_force, nC, dC, sizeT_c]; done) | (simp only [toC_ok, toC_no, toC_and, toC_ofOpt, toC_must, toC_sel, toC_forceNat, toC_force, nC, dC, sizeT_c]) | split | rfl
  all_goals (first | done | rfl | (simp_all; done) | (simp_all; rfl))
theorem qFieldAddr_c (P : Program) (env : Env) (t : TypeId) (x : Operand) (i : Nat) : toC (Ew.qFieldAddr P env t x i) = Ec.qFieldAddr P env t x i := by
  unfold Ew.qFieldAddr Ec.qFieldAddr
  repeat' first | (with_reducible rfl) | (with_reducible refine and_ext ?_ fun _ => ?_) | (with_reducible refine opt_ext fun _ => ?_) | (with_reducible refine must_ext ?_) | (with_reducible refine sel_ext ?_ ?_) | (with_reducible refine forceNat_ext fun _ => ?_) | (with_reducible refine force_ext fun _ => ?_) | (simp only [toC_ok, toC_no, toC_and, toC_ofOpt, toC_must, toC_sel, toC_forceNat, toC_force, nC, dC, arg_c, fieldAddrA_c]; done) | (simp only [toC_ok, toC_no, toC_and, toC_ofOpt, toC_must, toC_sel, toC_forceNat, toC_force, nC, dC, arg_c, fieldAddrA_c]) | split | rfl
  all_goals (first | done | rfl | (simp_all; done) | (simp_all; rfl))
theorem fieldA_c (P : Program) (i : Nat) (d : TypeDesc) (a : AV) : toC (Ew.fieldA P i d a) = Ec.fieldA P i d a := by
  unfold Ew.fieldA Ec.fieldA
  repeat' first | (with_reducible rfl) | (with_reducible refine and_ext ?_ fun _ => ?_) | (with_reducible refine opt_ext fun _ => ?_) | (with_reducible refine must_ext ?_) | (with_reducible refine sel_ext ?_ ?_) | (with_reducible refine forceNat_ext fun _ => ?_) | (with_reducible refine force_ext fun _ => ?_) | (simp only [toC_ok, toC_no, toC_and, toC_ofOpt, toC_must, toC_sel, toC_forceNat, toC_force, nC, dC, sizeT_c, aggT_c, partA_c]; done) | (simp only [toC_ok, toC_no, toC_and, toC_ofOpt, toC_must, toC_sel, toC_forceNat, toC_force, nC, dC, sizeT_c, aggT_c, partA_c]) | split | rfl
  all_goals (first | done | rfl | (simp_all; done) | (simp_all; rfl))
theorem qField_c (P : Program) (env : Env) (t : TypeId) (x : Operand) (i : Nat) : toC (Ew.qField P env t x i) = Ec.qField P env t x i := by
  unfold Ew.qField Ec.qField
  repeat' first | (with_reducible rfl) | (with_reducible refine and_ext ?_ fun _ => ?_) | (with_reducible refine opt_ext fun _ => ?_) | (with_reducible refine must_ext ?_) | (with_reducible refine sel_ext ?_ ?_) | (with_reducible refine forceNat_ext fun _ => ?_) | (with_reducible refine force_ext fun _ => ?_) | (simp only [toC_ok, toC_no, toC_and, toC_ofOpt, toC_must, toC_sel, toC_forceNat, toC_force, nC, dC, arg_c, fieldA_c]; done) | (simp only [toC_ok, toC_no, toC_and, toC_ofOpt, toC_must, toC_sel, toC_forceNat, toC_force, nC, dC, arg_c, fieldA_c]) | split | rfl
  all_goals (first | done | rfl | (simp_all; done) | (simp_all; rfl))
theorem indexAddrA_c (P : Program) (n : Nat) (d : TypeDesc) (a : AV) : toC (Ew.indexAddrA P n d a) = Ec.indexAddrA P n d a := by
  unfold Ew.indexAddrA Ec.indexAddrA
  repeat' first | (with_reducible rfl) | (with_reducible refine and_ext ?_ fun _ => ?_) | (with_reducible refine opt_ext fun _ => ?_) | (with_reducible refine must_ext ?_) | (with_reducible refine sel_ext ?_ ?_) | (with_reducible refine forceNat_ext fun _ => ?_) | (with_reducible refine force_ext fun _ => ?_) | (simp only [toC_ok, toC_no, toC_and, toC_ofOpt, toC_must, toC_sel, toC_forceNat, toC_force, nC, dC, sizeT_c]; done) | (simp only [toC_ok, toC_no, toC_and, toC_ofOpt, toC_must, toC_sel, toC_forceNat, toC_force, nC, dC, sizeT_c]) | split | rfl
  all_goals (first | done | rfl | (simp_all; done) | (simp_all; rfl))
theorem qIndexAddr_c (P : Program) (env : Env) (t : TypeId) (x i : Operand) : toC (Ew.qIndexAddr P env t x i) = Ec.qIndexAddr P env t x i := by
  unfold Ew.qIndexAddr Ec.qIndexAddr
  repeat' first | (with_reducible rfl) | (with_reducible refine and_ext ?_ fun _ => ?_) | (with_reducible refine opt_ext fun _ => ?_) | (with_reducible refine must_ext ?_) | (with_reducible refine sel_ext ?_ ?_) | (with_reducible refine forceNat_ext fun _ => ?_) | (with_reducible refine force_ext fun _ => ?_) | (simp only [toC_ok, toC_no, toC_and, toC_ofOpt, toC_must, toC_sel, toC_forceNat, toC_force, nC, dC, arg_c, asNat_c, indexAddrA_c]; done) | (simp only [toC_ok, toC_no, toC_and, toC_ofOpt, toC_must, toC_sel, toC_forceNat, toC_force, nC, dC, arg_c, asNat_c, indexAddrA_c]) | split | rfl
  all_goals (first | done | rfl | (simp_all; done) | (simp_all; rfl))
theorem indexStr_c (s : ByteArray) (n : Nat) : toC (Ew.indexStr s n) = Ec.indexStr s n := by
  unfold Ew.indexStr Ec.indexStr
  repeat' first | (with_reducible rfl) | (with_reducible refine and_ext ?_ fun _ => ?_) | (with_reducible refine opt_ext fun _ => ?_) | (with_reducible refine must_ext ?_) | (with_reducible refine sel_ext ?_ ?_) | (with_reducible refine forceNat_ext fun _ => ?_) | (with_reducible refine force_ext fun _ => ?_) | (simp only [toC_ok, toC_no, toC_and, toC_ofOpt, toC_must, toC_sel, toC_forceNat, toC_force, nC, dC]; done) | (simp only [toC_ok, toC_no, toC_and, toC_ofOpt, toC_must, toC_sel, toC_forceNat, toC_force, nC, dC]) | split | rfl
  all_goals (first | done | rfl | (simp_all; done) | (simp_all; rfl))
theorem indexArr_c (P : Program) (len : Nat) (e : TypeId) (n : Nat) (a : AV) : toC (Ew.indexArr P len e n a) = Ec.indexArr P len e n a := by
  unfold Ew.indexArr Ec.indexArr
  repeat' first | (with_reducible rfl) | (with_reducible refine and_ext ?_ fun _ => ?_) | (with_reducible refine opt_ext fun _ => ?_) | (with_reducible refine must_ext ?_) | (with_reducible refine sel_ext ?_ ?_) | (with_reducible refine forceNat_ext fun _ => ?_) | (with_reducible refine force_ext fun _ => ?_) | (simp only [toC_ok, toC_no, toC_and, toC_ofOpt, toC_must, toC_sel, toC_forceNat, toC_force, nC, dC, sizeT_c, aggT_c, partA_c]; done) | (simp only [toC_ok, toC_no, toC_and, toC_ofOpt, toC_must, toC_sel, toC_forceNat, toC_force, nC, dC, sizeT_c, aggT_c, partA_c]) | split | rfl
  all_goals (first | done | rfl | (simp_all; done) | (simp_all; rfl))
theorem qIndex_c (P : Program) (env : Env) (t : TypeId) (x i : Operand) : toC (Ew.qIndex P env t x i) = Ec.qIndex P env t x i := by
  unfold Ew.qIndex Ec.qIndex
  repeat' first | (with_reducible rfl) | (with_reducible refine and_ext ?_ fun _ => ?_) | (with_reducible refine opt_ext fun _ => ?_) | (with_reducible refine must_ext ?_) | (with_reducible refine sel_ext ?_ ?_) | (with_reducible refine forceNat_ext fun _ => ?_) | (with_reducible refine force_ext fun _ => ?_) | (simp only [toC_ok, toC_no, toC_and, toC_ofOpt, toC_must, toC_sel, toC_forceNat, toC_force, nC, dC, arg_c, asNat_c, indexStr_c, indexArr_c]; done) | (simp only [toC_ok, toC_no, toC_and, toC_ofOpt, toC_must, toC_sel, toC_forceNat, toC_force, nC, dC, arg_c, asNat_c, indexStr_c, indexArr_c]) | split | rfl
  all_goals (first | done | rfl | (simp_all; done) | (simp_all; rfl))
theorem extractA_c (i : Nat) (a : AV) : toC (Ew.extractA i a) = Ec.extractA i a := by
  unfold Ew.extractA Ec.extractA
  cases a <;> first | rfl | (rename_i l; dsimp only; cases l[i]? <;> rfl)
theorem qExtract_c (env : Env) (x : Operand) (i : Nat) : toC (Ew.qExtract env x i) = Ec.qExtract env x i := by
  unfold Ew.qExtract Ec.qExtract
  repeat' first | (with_reducible rfl) | (with_reducible refine and_ext ?_ fun _ => ?_) | (with_reducible refine opt_ext fun _ => ?_) | (with_reducible refine must_ext ?_) | (with_reducible refine sel_ext ?_ ?_) | (with_reducible refine forceNat_ext fun _ => ?_) | (with_reducible refine force_ext fun _ => ?_) | (simp only [toC_ok, toC_no, toC_and, toC_ofOpt, toC_must, toC_sel, toC_forceNat, toC_force, nC, dC, arg_c, extractA_c]; done) | (simp only [toC_ok, toC_no, toC_and, toC_ofOpt, toC_must, toC_sel, toC_forceNat, toC_force, nC, dC, arg_c, extractA_c]) | split | rfl
  all_goals (first | done | rfl | (simp_all; done) | (simp_all; rfl))
theorem buildA_c (P : Program) (z : List AV) (l : List (Nat × AV)) (d : TypeDesc) : toC (Ew.buildA P z l d) = Ec.buildA P z l d := by
  unfold Ew.buildA Ec.buildA
  repeat' first | (with_reducible rfl) | (with_reducible refine and_ext ?_ fun _ => ?_) | (with_reducible refine opt_ext fun _ => ?_) | (with_reducible refine must_ext ?_) | (with_reducible refine sel_ext ?_ ?_) | (with_reducible refine forceNat_ext fun _ => ?_) | (with_reducible refine force_ext fun _ => ?_) | (simp only [toC_ok, toC_no, toC_and, toC_ofOpt, toC_must, toC_sel, toC_forceNat, toC_force, nC, dC, setCells_c, sizeT_c, fillK_c, places_c]; done) | (simp only [toC_ok, toC_no, toC_and, toC_ofOpt, toC_must, toC_sel, toC_forceNat, toC_force, nC, dC, setCells_c, sizeT_c, fillK_c, places_c]) | split | rfl
  all_goals (first | done | rfl | (simp_all; done) | (simp_all; rfl))
theorem qBuild_c (P : Program) (env : Env) (t : TypeId) (ps : Array (Nat × Operand)) : toC (Ew.qBuild P env t ps) = Ec.qBuild P env t ps := by
  unfold Ew.qBuild Ec.qBuild
  repeat' first | (with_reducible rfl) | (with_reducible refine and_ext ?_ fun _ => ?_) | (with_reducible refine opt_ext fun _ => ?_) | (with_reducible refine must_ext ?_) | (with_reducible refine sel_ext ?_ ?_) | (with_reducible refine forceNat_ext fun _ => ?_) | (with_reducible refine force_ext fun _ => ?_) | (simp only [toC_ok, toC_no, toC_and, toC_ofOpt, toC_must, toC_sel, toC_forceNat, toC_force, nC, dC, parts_c, zeroCells_c, buildA_c]; done) | (simp only [toC_ok, toC_no, toC_and, toC_ofOpt, toC_must, toC_sel, toC_forceNat, toC_force, nC, dC, parts_c, zeroCells_c, buildA_c]) | split | rfl
  all_goals (first | done | rfl | (simp_all; done) | (simp_all; rfl))
theorem qCall_c (P : Program) (env : Env) (c : Call) : toC (Ew.qCall P env c) = Ec.qCall P env c := by
  unfold Ew.qCall Ec.qCall
  repeat' first | (with_reducible rfl) | (with_reducible refine and_ext ?_ fun _ => ?_) | (with_reducible refine opt_ext fun _ => ?_) | (with_reducible refine must_ext ?_) | (with_reducible refine sel_ext ?_ ?_) | (with_reducible refine forceNat_ext fun _ => ?_) | (with_reducible refine force_ext fun _ => ?_) | (simp only [toC_ok, toC_no, toC_and, toC_ofOpt, toC_must, toC_sel, toC_forceNat, toC_force, nC, dC, args_c, tellA_c]; done) | (simp only [toC_ok, toC_no, toC_and, toC_ofOpt, toC_must, toC_sel, toC_forceNat, toC_force, nC, dC, args_c, tellA_c]) | split | rfl
  all_goals (first | done | rfl | (simp_all; done) | (simp_all; rfl))
theorem evQ_c (P : Program) (env : Env) (H : Heap) (op : Op) : toC (Ew.evQ P env H op) = Ec.evQ P env H op := by
  unfold Ew.evQ Ec.evQ
  repeat' first | (with_reducible rfl) | (with_reducible refine and_ext ?_ fun _ => ?_) | (with_reducible refine opt_ext fun _ => ?_) | (with_reducible refine must_ext ?_) | (with_reducible refine sel_ext ?_ ?_) | (with_reducible refine forceNat_ext fun _ => ?_) | (with_reducible refine force_ext fun _ => ?_) | (simp only [toC_ok, toC_no, toC_and, toC_ofOpt, toC_must, toC_sel, toC_forceNat, toC_force, nC, dC, arg_c, qPick_c, qLoad_c, qNil_c, qBin_c, qUn_c, qConv_c, qFunc_c, qSlice_c, qFieldAddr_c, qField_c, qIndexAddr_c, qIndex_c, qExtract_c, qBuild_c, qCall_c]; done) | (simp only [toC_ok, toC_no, toC_and, toC_ofOpt, toC_must, toC_sel, toC_forceNat, toC_force, nC, dC, arg_c, qPick_c, qLoad_c, qNil_c, qBin_c, qUn_c, qConv_c, qFunc_c, qSlice_c, qFieldAddr_c, qField_c, qIndexAddr_c, qIndex_c, qExtract_c, qBuild_c, qCall_c]) | split | rfl
  all_goals (first | done | rfl | (simp_all; done) | (simp_all; rfl))
theorem alAlloc_c (P : Program) (t : TypeId) : toC (Ew.alAlloc P t) = Ec.alAlloc P t := by
  unfold Ew.alAlloc Ec.alAlloc
  repeat' first | (with_reducible rfl) | (with_reducible refine and_ext ?_ fun _ => ?_) | (with_reducible refine opt_ext fun _ => ?_) | (with_reducible refine must_ext ?_) | (with_reducible refine sel_ext ?_ ?_) | (with_reducible refine forceNat_ext fun _ => ?_) | (with_reducible refine force_ext fun _ => ?_) | (simp only [toC_ok, toC_no, toC_and, toC_ofOpt, toC_must, toC_sel, toC_forceNat, toC_force, nC, dC, zeroCells_c]; done) | (simp only [toC_ok, toC_no, toC_and, toC_ofOpt, toC_must, toC_sel, toC_forceNat, toC_force, nC, dC, zeroCells_c]) | split | rfl
  all_goals (first | done | rfl | (simp_all; done) | (simp_all; rfl))
theorem alBox_c (env : Env) (x : Operand) : toC (Ew.alBox env x) = Ec.alBox env x := by
  unfold Ew.alBox Ec.alBox
  repeat' first | (with_reducible rfl) | (with_reducible refine and_ext ?_ fun _ => ?_) | (with_reducible refine opt_ext fun _ => ?_) | (with_reducible refine must_ext ?_) | (with_reducible refine sel_ext ?_ ?_) | (with_reducible refine forceNat_ext fun _ => ?_) | (with_reducible refine force_ext fun _ => ?_) | (simp only [toC_ok, toC_no, toC_and, toC_ofOpt, toC_must, toC_sel, toC_forceNat, toC_force, nC, dC, arg_c]; done) | (simp only [toC_ok, toC_no, toC_and, toC_ofOpt, toC_must, toC_sel, toC_forceNat, toC_force, nC, dC, arg_c]) | split | rfl
  all_goals (first | done | rfl | (simp_all; done) | (simp_all; rfl))
theorem aggCells_c (z0 : AV) : toC (Ew.aggCells z0) = Ec.aggCells z0 := by cases z0 <;> rfl
theorem alSlice_c (P : Program) (env : Env) (t : TypeId) (len : Nat) (ps : Array (Nat × Operand)) : toC (Ew.alSlice P env t len ps) = Ec.alSlice P env t len ps := by
  unfold Ew.alSlice Ec.alSlice
  repeat' first | (with_reducible rfl) | (with_reducible refine and_ext ?_ fun _ => ?_) | (with_reducible refine opt_ext fun _ => ?_) | (with_reducible refine must_ext ?_) | (with_reducible refine sel_ext ?_ ?_) | (with_reducible refine forceNat_ext fun _ => ?_) | (with_reducible refine force_ext fun _ => ?_) | (simp only [toC_ok, toC_no, toC_and, toC_ofOpt, toC_must, toC_sel, toC_forceNat, toC_force, nC, dC, parts_c, setCells_c, zeroCells_c, sizeT_c, elemT_c, fillK_c, aggCells_c]; done) | (simp only [toC_ok, toC_no, toC_and, toC_ofOpt, toC_must, toC_sel, toC_forceNat, toC_force, nC, dC, parts_c, setCells_c, zeroCells_c, sizeT_c, elemT_c, fillK_c, aggCells_c]) | split | rfl
  all_goals (first | done | rfl | (simp_all; done) | (simp_all; rfl))
theorem alMake_c (P : Program) (env : Env) (t : TypeId) (l c : Operand) : toC (Ew.alMake P env t l c) = Ec.alMake P env t l c := by
  unfold Ew.alMake Ec.alMake
  repeat' first | (with_reducible rfl) | (with_reducible refine and_ext ?_ fun _ => ?_) | (with_reducible refine opt_ext fun _ => ?_) | (with_reducible refine must_ext ?_) | (with_reducible refine sel_ext ?_ ?_) | (with_reducible refine forceNat_ext fun _ => ?_) | (with_reducible refine force_ext fun _ => ?_) | (simp only [toC_ok, toC_no, toC_and, toC_ofOpt, toC_must, toC_sel, toC_forceNat, toC_force, nC, dC, arg_c, zeroCells_c, elemT_c, asNat_c]; done) | (simp only [toC_ok, toC_no, toC_and, toC_ofOpt, toC_must, toC_sel, toC_forceNat, toC_force, nC, dC, arg_c, zeroCells_c, elemT_c, asNat_c]) | split | rfl
  all_goals (first | done | rfl | (simp_all; done) | (simp_all; rfl))
theorem evAl_c (P : Program) (env : Env) (op : Op) : toC (Ew.evAl P env op) = Ec.evAl P env op := by
  unfold Ew.evAl Ec.evAl
  repeat' first | (with_reducible rfl) | (with_reducible refine and_ext ?_ fun _ => ?_) | (with_reducible refine opt_ext fun _ => ?_) | (with_reducible refine must_ext ?_) | (with_reducible refine sel_ext ?_ ?_) | (with_reducible refine forceNat_ext fun _ => ?_) | (with_reducible refine force_ext fun _ => ?_) | (simp only [toC_ok, toC_no, toC_and, toC_ofOpt, toC_must, toC_sel, toC_forceNat, toC_force, nC, dC, alAlloc_c, alBox_c, alSlice_c, alMake_c]; done) | (simp only [toC_ok, toC_no, toC_and, toC_ofOpt, toC_must, toC_sel, toC_forceNat, toC_force, nC, dC, alAlloc_c, alBox_c, alSlice_c, alMake_c]) | split | rfl
  all_goals (first | done | rfl | (simp_all; done) | (simp_all; rfl))
theorem apNil_c (sz : Nat) (H : Heap) (nx n : Nat) (new : List AV) (k : AV → Heap → Nat → Ew.Res β) : toC (Ew.apNil sz H nx n new k) = Ec.apNil sz H nx n new (fun y0 y1 y2 => toC (k y0 y1 y2)) := by
  unfold Ew.apNil Ec.apNil
  repeat' first | (with_reducible rfl) | (with_reducible refine and_ext ?_ fun _ => ?_) | (with_reducible refine opt_ext fun _ => ?_) | (with_reducible refine must_ext ?_) | (with_reducible refine sel_ext ?_ ?_) | (with_reducible refine forceNat_ext fun _ => ?_) | (with_reducible refine force_ext fun _ => ?_) | (simp only [toC_ok, toC_no, toC_and, toC_ofOpt, toC_must, toC_sel, toC_forceNat, toC_force, nC, dC, newBlk_c]; done) | (simp only [toC_ok, toC_no, toC_and, toC_ofOpt, toC_must, toC_sel, toC_forceNat, toC_force, nC, dC, newBlk_c]) | split | rfl
  all_goals (first | done | rfl | (simp_all; done) | (simp_all; rfl))
theorem apKnown_c (sz : Nat) (H : Heap) (nx b v off len c n : Nat) (new : List AV) (k : AV → Heap → Nat → Ew.Res β) : toC (Ew.apKnown sz H nx b v off len c n new k) = Ec.apKnown sz H nx b v off len c n new (fun y0 y1 y2 => toC (k y0 y1 y2)) := by
  unfold Ew.apKnown Ec.apKnown
  repeat' first | (with_reducible rfl) | (with_reducible refine and_ext ?_ fun _ => ?_) | (with_reducible refine opt_ext fun _ => ?_) | (with_reducible refine must_ext ?_) | (with_reducible refine sel_ext ?_ ?_) | (with_reducible refine forceNat_ext fun _ => ?_) | (with_reducible refine force_ext fun _ => ?_) | (simp only [toC_ok, toC_no, toC_and, toC_ofOpt, toC_must, toC_sel, toC_forceNat, toC_force, nC, dC, readCells_c, writeCells_c, newBlk_c]; done) | (simp only [toC_ok, toC_no, toC_and, toC_ofOpt, toC_must, toC_sel, toC_forceNat, toC_force, nC, dC, readCells_c, writeCells_c, newBlk_c]) | split | rfl
  all_goals (first | done | rfl | (simp_all; done) | (simp_all; rfl))
theorem apGrow_c (sz : Nat) (H : Heap) (nx b len n : Nat) (new : List AV) (blk : Blk) (k : AV → Heap → Nat → Ew.Res β) : toC (Ew.apGrow sz H nx b len n new blk k) = Ec.apGrow sz H nx b len n new blk (fun y0 y1 y2 => toC (k y0 y1 y2)) := by
  unfold Ew.apGrow Ec.apGrow
  repeat' first | (with_reducible rfl) | (with_reducible refine and_ext ?_ fun _ => ?_) | (with_reducible refine opt_ext fun _ => ?_) | (with_reducible refine must_ext ?_) | (with_reducible refine sel_ext ?_ ?_) | (with_reducible refine forceNat_ext fun _ => ?_) | (with_reducible refine force_ext fun _ => ?_) | (simp only [toC_ok, toC_no, toC_and, toC_ofOpt, toC_must, toC_sel, toC_forceNat, toC_force, nC, dC, Tr_setK_c, setCells_c]; done) | (simp only [toC_ok, toC_no, toC_and, toC_ofOpt, toC_must, toC_sel, toC_forceNat, toC_force, nC, dC, Tr_setK_c, setCells_c]) | split | rfl
  all_goals (first | done | rfl | (simp_all; done) | (simp_all; rfl))
theorem apOpn_c (sz : Nat) (H : Heap) (nx b v off len n : Nat) (new : List AV) (k : AV → Heap → Nat → Ew.Res β) : toC (Ew.apOpn sz H nx b v off len n new k) = Ec.apOpn sz H nx b v off len n new (fun y0 y1 y2 => toC (k y0 y1 y2)) := by
  unfold Ew.apOpn Ec.apOpn
  repeat' first | (with_reducible rfl) | (with_reducible refine and_ext ?_ fun _ => ?_) | (with_reducible refine opt_ext fun _ => ?_) | (with_reducible refine must_ext ?_) | (with_reducible refine sel_ext ?_ ?_) | (with_reducible refine forceNat_ext fun _ => ?_) | (with_reducible refine force_ext fun _ => ?_) | (simp only [toC_ok, toC_no, toC_and, toC_ofOpt, toC_must, toC_sel, toC_forceNat, toC_force, nC, dC, writeCells_c, apGrow_c]; done) | (simp only [toC_ok, toC_no, toC_and, toC_ofOpt, toC_must, toC_sel, toC_forceNat, toC_force, nC, dC, writeCells_c, apGrow_c]) | split | rfl
  all_goals (first | done | rfl | (simp_all; done) | (simp_all; rfl))
theorem appendA_c (sz : Nat) (H : Heap) (nx : Nat) (s : AV) (n : Nat) (new : List AV) (k : AV → Heap → Nat → Ew.Res β) : toC (Ew.appendA sz H nx s n new k) = Ec.appendA sz H nx s n new (fun y0 y1 y2 => toC (k y0 y1 y2)) := by
  unfold Ew.appendA Ec.appendA
  repeat' first | (with_reducible rfl) | (with_reducible refine and_ext ?_ fun _ => ?_) | (with_reducible refine opt_ext fun _ => ?_) | (with_reducible refine must_ext ?_) | (with_reducible refine sel_ext ?_ ?_) | (with_reducible refine forceNat_ext fun _ => ?_) | (with_reducible refine force_ext fun _ => ?_) | (simp only [toC_ok, toC_no, toC_and, toC_ofOpt, toC_must, toC_sel, toC_forceNat, toC_force, nC, dC, apNil_c, apKnown_c, apOpn_c]; done) | (simp only [toC_ok, toC_no, toC_and, toC_ofOpt, toC_must, toC_sel, toC_forceNat, toC_force, nC, dC, apNil_c, apKnown_c, apOpn_c]) | split | rfl
  all_goals (first | done | rfl | (simp_all; done) | (simp_all; rfl))
theorem eAppendTo_c (P : Program) (H : Heap) (nx : Nat) (s x : AV) (e : TypeId) (sz : Nat) (d : TypeDesc) (k : AV → Heap → Nat → Ew.Res β) : toC (Ew.eAppendTo P H nx s x e sz d k) = Ec.eAppendTo P H nx s x e sz d (fun y0 y1 y2 => toC (k y0 y1 y2)) := by
  unfold Ew.eAppendTo Ec.eAppendTo
  repeat' first | (with_reducible rfl) | (with_reducible refine and_ext ?_ fun _ => ?_) | (with_reducible refine opt_ext fun _ => ?_) | (with_reducible refine must_ext ?_) | (with_reducible refine sel_ext ?_ ?_) | (with_reducible refine forceNat_ext fun _ => ?_) | (with_reducible refine force_ext fun _ => ?_) | (simp only [toC_ok, toC_no, toC_and, toC_ofOpt, toC_must, toC_sel, toC_forceNat, toC_force, nC, dC, zeroCells_c, asNat_c, lenA_c, firstCells_c, appendA_c]; done) | (simp only [toC_ok, toC_no, toC_and, toC_ofOpt, toC_must, toC_sel, toC_forceNat, toC_force, nC, dC, zeroCells_c, asNat_c, lenA_c, firstCells_c, appendA_c]) | split | rfl
  all_goals (first | done | rfl | (simp_all; done) | (simp_all; rfl))
theorem eAppend_c (P : Program) (H : Heap) (nx : Nat) (ts : List TypeId) (s x : AV) (k : AV → Heap → Nat → Ew.Res β) : toC (Ew.eAppend P H nx ts s x k) = Ec.eAppend P H nx ts s x (fun y0 y1 y2 => toC (k y0 y1 y2)) := by
  unfold Ew.eAppend Ec.eAppend
  repeat' first | (with_reducible rfl) | (with_reducible refine and_ext ?_ fun _ => ?_) | (with_reducible refine opt_ext fun _ => ?_) | (with_reducible refine must_ext ?_) | (with_reducible refine sel_ext ?_ ?_) | (with_reducible refine forceNat_ext fun _ => ?_) | (with_reducible refine force_ext fun _ => ?_) | (simp only [toC_ok, toC_no, toC_and, toC_ofOpt, toC_must, toC_sel, toC_forceNat, toC_force, nC, dC, sizeT_c, elemT_c, eAppendTo_c]; done) | (simp only [toC_ok, toC_no, toC_and, toC_ofOpt, toC_must, toC_sel, toC_forceNat, toC_force, nC, dC, sizeT_c, elemT_c, eAppendTo_c]) | split | rfl
  all_goals (first | done | rfl | (simp_all; done) | (simp_all; rfl))
theorem eClear_c (P : Program) (H : Heap) (nx : Nat) (ts : List TypeId) (x : AV) (k : AV → Heap → Nat → Ew.Res β) : toC (Ew.eClear P H nx ts x k) = Ec.eClear P H nx ts x (fun y0 y1 y2 => toC (k y0 y1 y2)) := by
  unfold Ew.eClear Ec.eClear
  repeat' first | (with_reducible rfl) | (with_reducible refine and_ext ?_ fun _ => ?_) | (with_reducible refine opt_ext fun _ => ?_) | (with_reducible refine must_ext ?_) | (with_reducible refine sel_ext ?_ ?_) | (with_reducible refine forceNat_ext fun _ => ?_) | (with_reducible refine force_ext fun _ => ?_) | (simp only [toC_ok, toC_no, toC_and, toC_ofOpt, toC_must, toC_sel, toC_forceNat, toC_force, nC, dC, writeCells_c, zeroCells_c, elemT_c]; done) | (simp only [toC_ok, toC_no, toC_and, toC_ofOpt, toC_must, toC_sel, toC_forceNat, toC_force, nC, dC, writeCells_c, zeroCells_c, elemT_c]) | split | rfl
  all_goals (first | done | rfl | (simp_all; done) | (simp_all; rfl))
theorem eCopy_c (P : Program) (H : Heap) (nx : Nat) (ts : List TypeId) (d s : AV) (k : AV → Heap → Nat → Ew.Res β) : toC (Ew.eCopy P H nx ts d s k) = Ec.eCopy P H nx ts d s (fun y0 y1 y2 => toC (k y0 y1 y2)) := by
  unfold Ew.eCopy Ec.eCopy
  repeat' first | (with_reducible rfl) | (with_reducible refine and_ext ?_ fun _ => ?_) | (with_reducible refine opt_ext fun _ => ?_) | (with_reducible refine must_ext ?_) | (with_reducible refine sel_ext ?_ ?_) | (with_reducible refine forceNat_ext fun _ => ?_) | (with_reducible refine force_ext fun _ => ?_) | (simp only [toC_ok, toC_no, toC_and, toC_ofOpt, toC_must, toC_sel, toC_forceNat, toC_force, nC, dC, writeCells_c, sizeT_c, elemT_c, lenA_c, firstCells_c]; done) | (simp only [toC_ok, toC_no, toC_and, toC_ofOpt, toC_must, toC_sel, toC_forceNat, toC_force, nC, dC, writeCells_c, sizeT_c, elemT_c, lenA_c, firstCells_c]) | split | rfl
  all_goals (first | done | rfl | (simp_all; done) | (simp_all; rfl))
theorem eBuiltin_c (P : Program) (H : Heap) (nx : Nat) (b : Builtin) (ts : List TypeId) (l : List AV) (k : AV → Heap → Nat → Ew.Res β) : toC (Ew.eBuiltin P H nx b ts l k) = Ec.eBuiltin P H nx b ts l (fun y0 y1 y2 => toC (k y0 y1 y2)) := by
  unfold Ew.eBuiltin Ec.eBuiltin
  repeat' first | (with_reducible rfl) | (with_reducible refine and_ext ?_ fun _ => ?_) | (with_reducible refine opt_ext fun _ => ?_) | (with_reducible refine must_ext ?_) | (with_reducible refine sel_ext ?_ ?_) | (with_reducible refine forceNat_ext fun _ => ?_) | (with_reducible refine force_ext fun _ => ?_) | (simp only [toC_ok, toC_no, toC_and, toC_ofOpt, toC_must, toC_sel, toC_forceNat, toC_force, nC, dC, eAppend_c, eClear_c, eCopy_c]; done) | (simp only [toC_ok, toC_no, toC_and, toC_ofOpt, toC_must, toC_sel, toC_forceNat, toC_force, nC, dC, eAppend_c, eClear_c, eCopy_c]) | split | rfl
  all_goals (first | done | rfl | (simp_all; done) | (simp_all; rfl))
theorem storeA_c (P : Program) (H : Heap) (nx : Nat) (t : TypeId) (a x : AV) (k : AV → Heap → Nat → Ew.Res β) : toC (Ew.storeA P H nx t a x k) = Ec.storeA P H nx t a x (fun y0 y1 y2 => toC (k y0 y1 y2)) := by
  unfold Ew.storeA Ec.storeA
  repeat' first | (with_reducible rfl) | (with_reducible refine and_ext ?_ fun _ => ?_) | (with_reducible refine opt_ext fun _ => ?_) | (with_reducible refine must_ext ?_) | (with_reducible refine sel_ext ?_ ?_) | (with_reducible refine forceNat_ext fun _ => ?_) | (with_reducible refine force_ext fun _ => ?_) | (simp only [toC_ok, toC_no, toC_and, toC_ofOpt, toC_must, toC_sel, toC_forceNat, toC_force, nC, dC, writeCells_c, sizeT_c]; done) | (simp only [toC_ok, toC_no, toC_and, toC_ofOpt, toC_must, toC_sel, toC_forceNat, toC_force, nC, dC, writeCells_c, sizeT_c]) | split | rfl
  all_goals (first | done | rfl | (simp_all; done) | (simp_all; rfl))
theorem evE_c (P : Program) (env : Env) (H : Heap) (nx : Nat) (op : Op) (k : AV → Heap → Nat → Ew.Res β) : toC (Ew.evE P env H nx op k) = Ec.evE P env H nx op (fun y0 y1 y2 => toC (k y0 y1 y2)) := by
  unfold Ew.evE Ec.evE
  repeat' first | (with_reducible rfl) | (with_reducible refine and_ext ?_ fun _ => ?_) | (with_reducible refine opt_ext fun _ => ?_) | (with_reducible refine must_ext ?_) | (with_reducible refine sel_ext ?_ ?_) | (with_reducible refine forceNat_ext fun _ => ?_) | (with_reducible refine force_ext fun _ => ?_) | (simp only [toC_ok, toC_no, toC_and, toC_ofOpt, toC_must, toC_sel, toC_forceNat, toC_force, nC, dC, arg_c, args_c, eBuiltin_c, storeA_c]; done) | (simp only [toC_ok, toC_no, toC_and, toC_ofOpt, toC_must, toC_sel, toC_forceNat, toC_force, nC, dC, arg_c, args_c, eBuiltin_c, storeA_c]) | split | rfl
  all_goals (first | done | rfl | (simp_all; done) | (simp_all; rfl))
theorem calleeA_c (env : Env) (l : List Operand) (f : AV) : toC (Ew.calleeA env l f) = Ec.calleeA env l f := by
  unfold Ew.calleeA Ec.calleeA
  repeat' first | (with_reducible rfl) | (with_reducible refine and_ext ?_ fun _ => ?_) | (with_reducible refine opt_ext fun _ => ?_) | (with_reducible refine must_ext ?_) | (with_reducible refine sel_ext ?_ ?_) | (with_reducible refine forceNat_ext fun _ => ?_) | (with_reducible refine force_ext fun _ => ?_) | (simp only [toC_ok, toC_no, toC_and, toC_ofOpt, toC_must, toC_sel, toC_forceNat, toC_force, nC, dC, args_c]; done) | (simp only [toC_ok, toC_no, toC_and, toC_ofOpt, toC_must, toC_sel, toC_forceNat, toC_force, nC, dC, args_c]) | split | rfl
  all_goals (first | done | rfl | (simp_all; done) | (simp_all; rfl))
theorem evCall_c (env : Env) (op : Op) : toC (Ew.evCall env op) = Ec.evCall env op := by
  unfold Ew.evCall Ec.evCall
  repeat' first | (with_reducible rfl) | (with_reducible refine and_ext ?_ fun _ => ?_) | (with_reducible refine opt_ext fun _ => ?_) | (with_reducible refine must_ext ?_) | (with_reducible refine sel_ext ?_ ?_) | (with_reducible refine forceNat_ext fun _ => ?_) | (with_reducible refine force_ext fun _ => ?_) | (simp only [toC_ok, toC_no, toC_and, toC_ofOpt, toC_must, toC_sel, toC_forceNat, toC_force, nC, dC, arg_c, calleeA_c]; done) | (simp only [toC_ok, toC_no, toC_and, toC_ofOpt, toC_must, toC_sel, toC_forceNat, toC_force, nC, dC, arg_c, calleeA_c]) | split | rfl
  all_goals (first | done | rfl | (simp_all; done) | (simp_all; rfl))
theorem putQ_c {β : Type} (n : Nat) (env : Env) (d : Option Tmp) (v : AV) (k : Env → Ew.Res β) : toC (Ew.putQ n env d v k) = Ec.putQ n env d v (fun y0 => toC (k y0)) := by
  unfold Ew.putQ Ec.putQ
  repeat' first | (with_reducible rfl) | (with_reducible refine and_ext ?_ fun _ => ?_) | (with_reducible refine opt_ext fun _ => ?_) | (with_reducible refine must_ext ?_) | (with_reducible refine sel_ext ?_ ?_) | (with_reducible refine forceNat_ext fun _ => ?_) | (with_reducible refine force_ext fun _ => ?_) | (simp only [toC_ok, toC_no, toC_and, toC_ofOpt, toC_must, toC_sel, toC_forceNat, toC_force, nC, dC, Tr_setK_c]; done) | (simp only [toC_ok, toC_no, toC_and, toC_ofOpt, toC_must, toC_sel, toC_forceNat, toC_force, nC, dC, Tr_setK_c]) | split | rfl
  all_goals (first | done | rfl | (simp_all; done) | (simp_all; rfl))
theorem putK_c {β : Type} (n : Nat) (env : Env) (d : Option Tmp) (v : AV) (k : Env → Ew.Res β) : toC (Ew.putK n env d v k) = Ec.putK n env d v (fun y0 => toC (k y0)) := by
  unfold Ew.putK Ec.putK
  repeat' first | (with_reducible rfl) | (with_reducible refine and_ext ?_ fun _ => ?_) | (with_reducible refine opt_ext fun _ => ?_) | (with_reducible refine must_ext ?_) | (with_reducible refine sel_ext ?_ ?_) | (with_reducible refine forceNat_ext fun _ => ?_) | (with_reducible refine force_ext fun _ => ?_) | (simp only [toC_ok, toC_no, toC_and, toC_ofOpt, toC_must, toC_sel, toC_forceNat, toC_force, nC, dC, putQ_c]; done) | (simp only [toC_ok, toC_no, toC_and, toC_ofOpt, toC_must, toC_sel, toC_forceNat, toC_force, nC, dC, putQ_c]) | split | rfl
  all_goals (first | done | rfl | (simp_all; done) | (simp_all; rfl))
theorem resultsA_c (P : Program) (env : Env) (H : Heap) (z0 : List ResultVar) : toC (Ew.resultsA P env H z0) = Ec.resultsA P env H z0 := by
  induction z0 with
  | nil => rfl
  | cons q r ih => cases q <;> simp only [Ew.resultsA, Ec.resultsA, toC_and, toC_ok, toC_ofOpt, loadA_c, ih]
theorem endK_c {β : Type} (P : Program) (rs : List ResultVar) (k : AV → Heap → Nat → Ew.Res β) (r : Fin) : toC (Ew.endK P rs k r) = Ec.endK P rs (fun y0 y1 y2 => toC (k y0 y1 y2)) r := by
  unfold Ew.endK Ec.endK
  repeat' first | (with_reducible rfl) | (with_reducible refine and_ext ?_ fun _ => ?_) | (with_reducible refine opt_ext fun _ => ?_) | (with_reducible refine must_ext ?_) | (with_reducible refine sel_ext ?_ ?_) | (with_reducible refine forceNat_ext fun _ => ?_) | (with_reducible refine force_ext fun _ => ?_) | (simp only [toC_ok, toC_no, toC_and, toC_ofOpt, toC_must, toC_sel, toC_forceNat, toC_force, nC, dC, resultsA_c]; done) | (simp only [toC_ok, toC_no, toC_and, toC_ofOpt, toC_must, toC_sel, toC_forceNat, toC_force, nC, dC, resultsA_c]) | split | rfl
  all_goals (first | done | rfl | (simp_all; done) | (simp_all; rfl))
theorem callK_c {β : Type} (P : Program) (ev : Ew.CodeFn) (f : FuncId) (l : List AV) (H : Heap) (nx : Nat) (k : AV → Heap → Nat → Ew.Res β) : toC (Ew.callK P ev f l H nx k) = Ec.callK P (cC ev) f l H nx (fun y0 y1 y2 => toC (k y0 y1 y2)) := by
  unfold Ew.callK Ec.callK
  repeat' first | (with_reducible rfl) | (with_reducible refine and_ext ?_ fun _ => ?_) | (with_reducible refine opt_ext fun _ => ?_) | (with_reducible refine must_ext ?_) | (with_reducible refine sel_ext ?_ ?_) | (with_reducible refine forceNat_ext fun _ => ?_) | (with_reducible refine force_ext fun _ => ?_) | (simp only [toC_ok, toC_no, toC_and, toC_ofOpt, toC_must, toC_sel, toC_forceNat, toC_force, nC, dC, setCells_c, endK_c]; done) | (simp only [toC_ok, toC_no, toC_and, toC_ofOpt, toC_must, toC_sel, toC_forceNat, toC_force, nC, dC, setCells_c, endK_c]) | split | rfl
  all_goals (first | done | rfl | (simp_all; done) | (simp_all; rfl))
theorem putPs_c {β : Type} (sz : Nat) (z0 : Env) (z1 : List Tmp) (z2 : List AV) (z3 : Env → Ew.Res β) : toC (Ew.putPs sz z0 z1 z2 z3) = Ec.putPs sz z0 z1 z2 (fun y0 => toC (z3 y0)) := by
  induction z1 generalizing z0 z2 with
  | nil => cases z2 <;> rfl
  | cons t r ih => cases z2 <;> simp only [Ew.putPs, Ec.putPs, toC_sel, toC_no, Tr_setK_c, ih]
theorem getLoop_c {β : Type} (H : Heap) (b : Nat) (k : LRec → Ew.Res β) : toC (Ew.getLoop H b k) = Ec.getLoop H b (fun y0 => toC (k y0)) := by
  unfold Ew.getLoop Ec.getLoop
  repeat' first | (with_reducible rfl) | (with_reducible refine and_ext ?_ fun _ => ?_) | (with_reducible refine opt_ext fun _ => ?_) | (with_reducible refine must_ext ?_) | (with_reducible refine sel_ext ?_ ?_) | (with_reducible refine forceNat_ext fun _ => ?_) | (with_reducible refine force_ext fun _ => ?_) | (simp only [toC_ok, toC_no, toC_and, toC_ofOpt, toC_must, toC_sel, toC_forceNat, toC_force, nC, dC]; done) | (simp only [toC_ok, toC_no, toC_and, toC_ofOpt, toC_must, toC_sel, toC_forceNat, toC_force, nC, dC]) | split | rfl
  all_goals (first | done | rfl | (simp_all; done) | (simp_all; rfl))
theorem newLoop_c {β : Type} (H : Heap) (nx : Nat) (r : LRec) (k : Heap → Nat → Ew.Res β) : toC (Ew.newLoop H nx r k) = Ec.newLoop H nx r (fun y0 y1 => toC (k y0 y1)) := by
  unfold Ew.newLoop Ec.newLoop
  repeat' first | (with_reducible rfl) | (with_reducible refine and_ext ?_ fun _ => ?_) | (with_reducible refine opt_ext fun _ => ?_) | (with_reducible refine must_ext ?_) | (with_reducible refine sel_ext ?_ ?_) | (with_reducible refine forceNat_ext fun _ => ?_) | (with_reducible refine force_ext fun _ => ?_) | (simp only [toC_ok, toC_no, toC_and, toC_ofOpt, toC_must, toC_sel, toC_forceNat, toC_force, nC, dC, Tr_setK_c]; done) | (simp only [toC_ok, toC_no, toC_and, toC_ofOpt, toC_must, toC_sel, toC_forceNat, toC_force, nC, dC, Tr_setK_c]) | split | rfl
  all_goals (first | done | rfl | (simp_all; done) | (simp_all; rfl))
theorem setLoop_c {β : Type} (H : Heap) (b : Nat) (st : Nat) (x : X) (k : Heap → Ew.Res β) : toC (Ew.setLoop H b st x k) = Ec.setLoop H b st x (fun y0 => toC (k y0)) := by
  unfold Ew.setLoop Ec.setLoop
  repeat' first | (with_reducible rfl) | (with_reducible refine and_ext ?_ fun _ => ?_) | (with_reducible refine opt_ext fun _ => ?_) | (with_reducible refine must_ext ?_) | (with_reducible refine sel_ext ?_ ?_) | (with_reducible refine forceNat_ext fun _ => ?_) | (with_reducible refine force_ext fun _ => ?_) | (simp only [toC_ok, toC_no, toC_and, toC_ofOpt, toC_must, toC_sel, toC_forceNat, toC_force, nC, dC, Tr_setK_c]; done) | (simp only [toC_ok, toC_no, toC_and, toC_ofOpt, toC_must, toC_sel, toC_forceNat, toC_force, nC, dC, Tr_setK_c]) | split | rfl
  all_goals (first | done | rfl | (simp_all; done) | (simp_all; rfl))
theorem roundEnd_c {β : Type} (b : Nat) (r : Fin) (k : AV → Heap → Nat → Ew.Res β) : toC (Ew.roundEnd b r k) = Ec.roundEnd b r (fun y0 y1 y2 => toC (k y0 y1 y2)) := by
  unfold Ew.roundEnd Ec.roundEnd
  repeat' first | (with_reducible rfl) | (with_reducible refine and_ext ?_ fun _ => ?_) | (with_reducible refine opt_ext fun _ => ?_) | (with_reducible refine must_ext ?_) | (with_reducible refine sel_ext ?_ ?_) | (with_reducible refine forceNat_ext fun _ => ?_) | (with_reducible refine force_ext fun _ => ?_) | (simp only [toC_ok, toC_no, toC_and, toC_ofOpt, toC_must, toC_sel, toC_forceNat, toC_force, nC, dC, setLoop_c]; done) | (simp only [toC_ok, toC_no, toC_and, toC_ofOpt, toC_must, toC_sel, toC_forceNat, toC_force, nC, dC, setLoop_c]) | split | rfl
  all_goals (first | done | rfl | (simp_all; done) | (simp_all; rfl))
theorem yieldK_c {β : Type} (ev : Ew.CodeFn) (b : Nat) (l : List AV) (H : Heap) (nx : Nat) (k : AV → Heap → Nat → Ew.Res β) : toC (Ew.yieldK ev b l H nx k) = Ec.yieldK (cC ev) b l H nx (fun y0 y1 y2 => toC (k y0 y1 y2)) := by
  unfold Ew.yieldK Ec.yieldK
  repeat' first | (with_reducible rfl) | (with_reducible refine and_ext ?_ fun _ => ?_) | (with_reducible refine opt_ext fun _ => ?_) | (with_reducible refine must_ext ?_) | (with_reducible refine sel_ext ?_ ?_) | (with_reducible refine forceNat_ext fun _ => ?_) | (with_reducible refine force_ext fun _ => ?_) | (simp only [toC_ok, toC_no, toC_and, toC_ofOpt, toC_must, toC_sel, toC_forceNat, toC_force, nC, dC, putPs_c, getLoop_c, setLoop_c, roundEnd_c]; done) | (simp only [toC_ok, toC_no, toC_and, toC_ofOpt, toC_must, toC_sel, toC_forceNat, toC_force, nC, dC, putPs_c, getLoop_c, setLoop_c, roundEnd_c]) | split | rfl
  all_goals (first | done | rfl | (simp_all; done) | (simp_all; rfl))
theorem callO_c {β : Type} (P : Program) (ev : Ew.Evr) (f : FuncId) (l : List AV) (H : Heap) (nx : Nat) (k : AV → Heap → Nat → Ew.Res β) : toC (Ew.callO P ev f l H nx k) = Ec.callO P (eC ev) f l H nx (fun y0 y1 y2 => toC (k y0 y1 y2)) := by
  obtain ⟨c, o⟩ := ev
  unfold Ew.callO Ec.callO eC
  dsimp only
  cases o f l H nx with
  | none => exact callK_c P c f l H nx k
  | some r => rfl
theorem anyK_c {β : Type} (P : Program) (ev : Ew.Evr) (c : Ew.Callee) (l : List AV) (H : Heap) (nx : Nat) (k : AV → Heap → Nat → Ew.Res β) : toC (Ew.anyK P ev c l H nx k) = Ec.anyK P (eC ev) c l H nx (fun y0 y1 y2 => toC (k y0 y1 y2)) := by
  unfold Ew.anyK Ec.anyK
  repeat' first | (with_reducible rfl) | (with_reducible refine and_ext ?_ fun _ => ?_) | (with_reducible refine opt_ext fun _ => ?_) | (with_reducible refine must_ext ?_) | (with_reducible refine sel_ext ?_ ?_) | (with_reducible refine forceNat_ext fun _ => ?_) | (with_reducible refine force_ext fun _ => ?_) | (simp only [toC_ok, toC_no, toC_and, toC_ofOpt, toC_must, toC_sel, toC_forceNat, toC_force, nC, dC, yieldK_c, callO_c]; done) | (simp only [toC_ok, toC_no, toC_and, toC_ofOpt, toC_must, toC_sel, toC_forceNat, toC_force, nC, dC, yieldK_c, callO_c]) | split | rfl
  all_goals (first | done | rfl | (simp_all; done) | (simp_all; rfl))
theorem rangeK_c (P : Program) (ev : Ew.Evr) (sz : Nat) (ps : List Tmp) (assign body : Code) (env : Env) (H : Heap) (nx : Nat) (f : AV) : toC (Ew.rangeK P ev sz ps assign body env H nx f) = Ec.rangeK P (eC ev) sz ps assign body env H nx f := by
  unfold Ew.rangeK Ec.rangeK
  repeat' first | (with_reducible rfl) | (with_reducible refine and_ext ?_ fun _ => ?_) | (with_reducible refine opt_ext fun _ => ?_) | (with_reducible refine must_ext ?_) | (with_reducible refine sel_ext ?_ ?_) | (with_reducible refine forceNat_ext fun _ => ?_) | (with_reducible refine force_ext fun _ => ?_) | (simp only [toC_ok, toC_no, toC_and, toC_ofOpt, toC_must, toC_sel, toC_forceNat, toC_force, nC, dC, getLoop_c, newLoop_c, setLoop_c, callO_c]; done) | (simp only [toC_ok, toC_no, toC_and, toC_ofOpt, toC_must, toC_sel, toC_forceNat, toC_force, nC, dC, getLoop_c, newLoop_c, setLoop_c, callO_c]) | split | rfl
  all_goals (first | done | rfl | (simp_all; done) | (simp_all; rfl))
theorem stRange_c (P : Program) (ev : Ew.Evr) (sz : Nat) (f : Operand) (ps : List Tmp) (assign body : Code) (env : Env) (H : Heap) (nx : Nat) : toC (Ew.stRange P ev sz f ps assign body env H nx) = Ec.stRange P (eC ev) sz f ps assign body env H nx := by
  unfold Ew.stRange Ec.stRange
  repeat' first | (with_reducible rfl) | (with_reducible refine and_ext ?_ fun _ => ?_) | (with_reducible refine opt_ext fun _ => ?_) | (with_reducible refine must_ext ?_) | (with_reducible refine sel_ext ?_ ?_) | (with_reducible refine forceNat_ext fun _ => ?_) | (with_reducible refine force_ext fun _ => ?_) | (simp only [toC_ok, toC_no, toC_and, toC_ofOpt, toC_must, toC_sel, toC_forceNat, toC_force, nC, dC, arg_c, rangeK_c]; done) | (simp only [toC_ok, toC_no, toC_and, toC_ofOpt, toC_must, toC_sel, toC_forceNat, toC_force, nC, dC, arg_c, rangeK_c]) | split | rfl
  all_goals (first | done | rfl | (simp_all; done) | (simp_all; rfl))
theorem guardJ_c (ops : Array Oper) (env : Env) (j : Nat) (w : Bool) : toC (Ew.guardJ ops env j w) = Ec.guardJ ops env j w := by
  unfold Ew.guardJ Ec.guardJ
  repeat' first | (with_reducible rfl) | (with_reducible refine and_ext ?_ fun _ => ?_) | (with_reducible refine opt_ext fun _ => ?_) | (with_reducible refine must_ext ?_) | (with_reducible refine sel_ext ?_ ?_) | (with_reducible refine forceNat_ext fun _ => ?_) | (with_reducible refine force_ext fun _ => ?_) | (simp only [toC_ok, toC_no, toC_and, toC_ofOpt, toC_must, toC_sel, toC_forceNat, toC_force, nC, dC]; done) | (simp only [toC_ok, toC_no, toC_and, toC_ofOpt, toC_must, toC_sel, toC_forceNat, toC_force, nC, dC]) | split | rfl
  all_goals (first | done | rfl | (simp_all; done) | (simp_all; rfl))
theorem guardA_c (ops : Array Oper) (env : Env) (o : Oper) : toC (Ew.guardA ops env o) = Ec.guardA ops env o := by
  unfold Ew.guardA Ec.guardA
  repeat' first | (with_reducible rfl) | (with_reducible refine and_ext ?_ fun _ => ?_) | (with_reducible refine opt_ext fun _ => ?_) | (with_reducible refine must_ext ?_) | (with_reducible refine sel_ext ?_ ?_) | (with_reducible refine forceNat_ext fun _ => ?_) | (with_reducible refine force_ext fun _ => ?_) | (simp only [toC_ok, toC_no, toC_and, toC_ofOpt, toC_must, toC_sel, toC_forceNat, toC_force, nC, dC, guardJ_c]; done) | (simp only [toC_ok, toC_no, toC_and, toC_ofOpt, toC_must, toC_sel, toC_forceNat, toC_force, nC, dC, guardJ_c]) | split | rfl
  all_goals (first | done | rfl | (simp_all; done) | (simp_all; rfl))
theorem seqMv_c (P : Program) (sz : Nat) (o : Oper) (env : Env) (H : Heap) (nx : Nat) (k : Ew.Next) : toC (Ew.seqMv P sz o env H nx k) = Ec.seqMv P sz o env H nx (nC k) := by
  unfold Ew.seqMv Ec.seqMv
  repeat' first | (with_reducible rfl) | (with_reducible refine and_ext ?_ fun _ => ?_) | (with_reducible refine opt_ext fun _ => ?_) | (with_reducible refine must_ext ?_) | (with_reducible refine sel_ext ?_ ?_) | (with_reducible refine forceNat_ext fun _ => ?_) | (with_reducible refine force_ext fun _ => ?_) | (simp only [toC_ok, toC_no, toC_and, toC_ofOpt, toC_must, toC_sel, toC_forceNat, toC_force, nC, dC, evQ_c, putQ_c]; done) | (simp only [toC_ok, toC_no, toC_and, toC_ofOpt, toC_must, toC_sel, toC_forceNat, toC_force, nC, dC, evQ_c, putQ_c]) | split | rfl
  all_goals (first | done | rfl | (simp_all; done) | (simp_all; rfl))
theorem seqQ_c (P : Program) (sz : Nat) (o : Oper) (env : Env) (H : Heap) (nx : Nat) (k : Ew.Next) : toC (Ew.seqQ P sz o env H nx k) = Ec.seqQ P sz o env H nx (nC k) := by
  unfold Ew.seqQ Ec.seqQ
  repeat' first | (with_reducible rfl) | (with_reducible refine and_ext ?_ fun _ => ?_) | (with_reducible refine opt_ext fun _ => ?_) | (with_reducible refine must_ext ?_) | (with_reducible refine sel_ext ?_ ?_) | (with_reducible refine forceNat_ext fun _ => ?_) | (with_reducible refine force_ext fun _ => ?_) | (simp only [toC_ok, toC_no, toC_and, toC_ofOpt, toC_must, toC_sel, toC_forceNat, toC_force, nC, dC, evQ_c, putK_c]; done) | (simp only [toC_ok, toC_no, toC_and, toC_ofOpt, toC_must, toC_sel, toC_forceNat, toC_force, nC, dC, evQ_c, putK_c]) | split | rfl
  all_goals (first | done | rfl | (simp_all; done) | (simp_all; rfl))
theorem seqAl_c (P : Program) (sz : Nat) (o : Oper) (env : Env) (H : Heap) (nx : Nat) (k : Ew.Next) : toC (Ew.seqAl P sz o env H nx k) = Ec.seqAl P sz o env H nx (nC k) := by
  unfold Ew.seqAl Ec.seqAl
  repeat' first | (with_reducible rfl) | (with_reducible refine and_ext ?_ fun _ => ?_) | (with_reducible refine opt_ext fun _ => ?_) | (with_reducible refine must_ext ?_) | (with_reducible refine sel_ext ?_ ?_) | (with_reducible refine forceNat_ext fun _ => ?_) | (with_reducible refine force_ext fun _ => ?_) | (simp only [toC_ok, toC_no, toC_and, toC_ofOpt, toC_must, toC_sel, toC_forceNat, toC_force, nC, dC, newBlk_c, evAl_c, putK_c]; done) | (simp only [toC_ok, toC_no, toC_and, toC_ofOpt, toC_must, toC_sel, toC_forceNat, toC_force, nC, dC, newBlk_c, evAl_c, putK_c]) | split | rfl
  all_goals (first | done | rfl | (simp_all; done) | (simp_all; rfl))
theorem seqE_c (P : Program) (sz : Nat) (o : Oper) (env : Env) (H : Heap) (nx : Nat) (k : Ew.Next) : toC (Ew.seqE P sz o env H nx k) = Ec.seqE P sz o env H nx (nC k) := by
  unfold Ew.seqE Ec.seqE
  repeat' first | (with_reducible rfl) | (with_reducible refine and_ext ?_ fun _ => ?_) | (with_reducible refine opt_ext fun _ => ?_) | (with_reducible refine must_ext ?_) | (with_reducible refine sel_ext ?_ ?_) | (with_reducible refine forceNat_ext fun _ => ?_) | (with_reducible refine force_ext fun _ => ?_) | (simp only [toC_ok, toC_no, toC_and, toC_ofOpt, toC_must, toC_sel, toC_forceNat, toC_force, nC, dC, evE_c, putK_c]; done) | (simp only [toC_ok, toC_no, toC_and, toC_ofOpt, toC_must, toC_sel, toC_forceNat, toC_force, nC, dC, evE_c, putK_c]) | split | rfl
  all_goals (first | done | rfl | (simp_all; done) | (simp_all; rfl))
theorem seqCall_c (P : Program) (ev : Ew.Evr) (sz : Nat) (o : Oper) (env : Env) (H : Heap) (nx : Nat) (k : Ew.Next) : toC (Ew.seqCall P ev sz o env H nx k) = Ec.seqCall P (eC ev) sz o env H nx (nC k) := by
  unfold Ew.seqCall Ec.seqCall
  repeat' first | (with_reducible rfl) | (with_reducible refine and_ext ?_ fun _ => ?_) | (with_reducible refine opt_ext fun _ => ?_) | (with_reducible refine must_ext ?_) | (with_reducible refine sel_ext ?_ ?_) | (with_reducible refine forceNat_ext fun _ => ?_) | (with_reducible refine force_ext fun _ => ?_) | (simp only [toC_ok, toC_no, toC_and, toC_ofOpt, toC_must, toC_sel, toC_forceNat, toC_force, nC, dC, evCall_c, putQ_c, anyK_c]; done) | (simp only [toC_ok, toC_no, toC_and, toC_ofOpt, toC_must, toC_sel, toC_forceNat, toC_force, nC, dC, evCall_c, putQ_c, anyK_c]) | split | rfl
  all_goals (first | done | rfl | (simp_all; done) | (simp_all; rfl))
theorem seqDo_c (P : Program) (ev : Ew.Evr) (sz : Nat) (o : Oper) (env : Env) (H : Heap) (nx : Nat) (k : Ew.Next) (c : Cls) : toC (Ew.seqDo P ev sz o env H nx k c) = Ec.seqDo P (eC ev) sz o env H nx (nC k) c := by
  unfold Ew.seqDo Ec.seqDo
  repeat' first | (with_reducible rfl) | (with_reducible refine and_ext ?_ fun _ => ?_) | (with_reducible refine opt_ext fun _ => ?_) | (with_reducible refine must_ext ?_) | (with_reducible refine sel_ext ?_ ?_) | (with_reducible refine forceNat_ext fun _ => ?_) | (with_reducible refine force_ext fun _ => ?_) | (simp only [toC_ok, toC_no, toC_and, toC_ofOpt, toC_must, toC_sel, toC_forceNat, toC_force, nC, dC, seqMv_c, seqQ_c, seqAl_c, seqE_c, seqCall_c]; done) | (simp only [toC_ok, toC_no, toC_and, toC_ofOpt, toC_must, toC_sel, toC_forceNat, toC_force, nC, dC, seqMv_c, seqQ_c, seqAl_c, seqE_c, seqCall_c]) | split | rfl
  all_goals (first | done | rfl | (simp_all; done) | (simp_all; rfl))
theorem seqStep_c (P : Program) (ev : Ew.Evr) (sz : Nat) (ops : Array Oper) (o : Oper) (k : Ew.Next) (env : Env) (H : Heap) (nx : Nat) : toC (Ew.seqStep P ev sz ops o k env H nx) = Ec.seqStep P (eC ev) sz ops o (nC k) env H nx := by
  unfold Ew.seqStep Ec.seqStep
  repeat' first | (with_reducible rfl) | (with_reducible refine and_ext ?_ fun _ => ?_) | (with_reducible refine opt_ext fun _ => ?_) | (with_reducible refine must_ext ?_) | (with_reducible refine sel_ext ?_ ?_) | (with_reducible refine forceNat_ext fun _ => ?_) | (with_reducible refine force_ext fun _ => ?_) | (simp only [toC_ok, toC_no, toC_and, toC_ofOpt, toC_must, toC_sel, toC_forceNat, toC_force, nC, dC, putQ_c, guardA_c, seqDo_c]; done) | (simp only [toC_ok, toC_no, toC_and, toC_ofOpt, toC_must, toC_sel, toC_forceNat, toC_force, nC, dC, putQ_c, guardA_c, seqDo_c]) | split | rfl
  all_goals (first | done | rfl | (simp_all; done) | (simp_all; rfl))
theorem evSeq_c (P : Program) (ev : Ew.Evr) (sz : Nat) (ops : Array Oper) (l : List Oper) (env : Env) (H : Heap) (nx : Nat) : toC (Ew.evSeq P ev sz ops l env H nx) = Ec.evSeq P (eC ev) sz ops l env H nx := by
  unfold Ew.evSeq Ec.evSeq
  induction l generalizing env H nx with
  | nil => rfl
  | cons o r ih =>
    simp only
    rw [seqStep_c]
    congr 1
    funext env H nx
    exact ih env H nx
theorem againReads_c (P : Program) (bi : Nat) (H : Heap) (z0 : List (Nat × Env × Op × AV)) : Ew.againReads P bi H z0 = Ec.againReads P bi H z0 := by
  induction z0 with
  | nil => rfl
  | cons q r ih => obtain ⟨j, env, op, v⟩ := q; simp only [Ew.againReads, Ec.againReads, isOk_c, evQ_c, ih]
theorem againEffs_c (P : Program) (bi : Nat) (env : Env) (op : Op) (v : AV) (z0 : List (Nat × Heap)) : Ew.againEffs P bi env op v z0 = Ec.againEffs P bi env op v z0 := by
  induction z0 with
  | nil => rfl
  | cons q r ih => obtain ⟨j, H⟩ := q; simp only [Ew.againEffs, Ec.againEffs, isOk_c, evQ_c, ih]
theorem drwMv_c (P : Program) (sz : Nat) (o : Oper) (bs : List Nat) (i : Nat) (m : Mem) (env : Env) (H : Heap) (nx : Nat) (k : Ew.NextD) : toC (Ew.drwMv P sz o bs i m env H nx k) = Ec.drwMv P sz o bs i m env H nx (dC k) := by
  unfold Ew.drwMv Ec.drwMv
  repeat' first | (with_reducible rfl) | (with_reducible refine and_ext ?_ fun _ => ?_) | (with_reducible refine opt_ext fun _ => ?_) | (with_reducible refine must_ext ?_) | (with_reducible refine sel_ext ?_ ?_) | (with_reducible refine forceNat_ext fun _ => ?_) | (with_reducible refine force_ext fun _ => ?_) | (simp only [toC_ok, toC_no, toC_and, toC_ofOpt, toC_must, toC_sel, toC_forceNat, toC_force, nC, dC, evQ_c, putQ_c]; done) | (simp only [toC_ok, toC_no, toC_and, toC_ofOpt, toC_must, toC_sel, toC_forceNat, toC_force, nC, dC, evQ_c, putQ_c]) | split | rfl
  all_goals (first | done | rfl | (simp_all; done) | (simp_all; rfl))
theorem drwQ_c (P : Program) (sz : Nat) (o : Oper) (bs : List Nat) (i : Nat) (m : Mem) (env : Env) (H : Heap) (nx : Nat) (k : Ew.NextD) : toC (Ew.drwQ P sz o bs i m env H nx k) = Ec.drwQ P sz o bs i m env H nx (dC k) := by
  unfold Ew.drwQ Ec.drwQ
  repeat' first | (with_reducible rfl) | (with_reducible refine and_ext ?_ fun _ => ?_) | (with_reducible refine opt_ext fun _ => ?_) | (with_reducible refine must_ext ?_) | (with_reducible refine sel_ext ?_ ?_) | (with_reducible refine forceNat_ext fun _ => ?_) | (with_reducible refine force_ext fun _ => ?_) | (simp only [toC_ok, toC_no, toC_and, toC_ofOpt, toC_must, toC_sel, toC_forceNat, toC_force, nC, dC, evQ_c, putK_c]; done) | (simp only [toC_ok, toC_no, toC_and, toC_ofOpt, toC_must, toC_sel, toC_forceNat, toC_force, nC, dC, evQ_c, putK_c]) | split | rfl
  all_goals (first | done | rfl | (simp_all; done) | (simp_all; rfl))
theorem drwRd_c (P : Program) (sz : Nat) (o : Oper) (b : Nat) (bs : List Nat) (i : Nat) (m : Mem) (env : Env) (H : Heap) (nx : Nat) (k : Ew.NextD) : toC (Ew.drwRd P sz o b bs i m env H nx k) = Ec.drwRd P sz o b bs i m env H nx (dC k) := by
  unfold Ew.drwRd Ec.drwRd
  repeat' first | (with_reducible rfl) | (with_reducible refine and_ext ?_ fun _ => ?_) | (with_reducible refine opt_ext fun _ => ?_) | (with_reducible refine must_ext ?_) | (with_reducible refine sel_ext ?_ ?_) | (with_reducible refine forceNat_ext fun _ => ?_) | (with_reducible refine force_ext fun _ => ?_) | (simp only [toC_ok, toC_no, toC_and, toC_ofOpt, toC_must, toC_sel, toC_forceNat, toC_force, nC, dC, evQ_c, putK_c, againEffs_c]; done) | (simp only [toC_ok, toC_no, toC_and, toC_ofOpt, toC_must, toC_sel, toC_forceNat, toC_force, nC, dC, evQ_c, putK_c, againEffs_c]) | split | rfl
  all_goals (first | done | rfl | (simp_all; done) | (simp_all; rfl))
theorem drwAl_c (P : Program) (sz : Nat) (o : Oper) (bs : List Nat) (i : Nat) (m : Mem) (env : Env) (H : Heap) (nx : Nat) (k : Ew.NextD) : toC (Ew.drwAl P sz o bs i m env H nx k) = Ec.drwAl P sz o bs i m env H nx (dC k) := by
  unfold Ew.drwAl Ec.drwAl
  repeat' first | (with_reducible rfl) | (with_reducible refine and_ext ?_ fun _ => ?_) | (with_reducible refine opt_ext fun _ => ?_) | (with_reducible refine must_ext ?_) | (with_reducible refine sel_ext ?_ ?_) | (with_reducible refine forceNat_ext fun _ => ?_) | (with_reducible refine force_ext fun _ => ?_) | (simp only [toC_ok, toC_no, toC_and, toC_ofOpt, toC_must, toC_sel, toC_forceNat, toC_force, nC, dC, newBlk_c, evAl_c, putK_c]; done) | (simp only [toC_ok, toC_no, toC_and, toC_ofOpt, toC_must, toC_sel, toC_forceNat, toC_force, nC, dC, newBlk_c, evAl_c, putK_c]) | split | rfl
  all_goals (first | done | rfl | (simp_all; done) | (simp_all; rfl))
theorem drwPut_c (P : Program) (sz : Nat) (o : Oper) (b : Nat) (bs : List Nat) (i : Nat) (m : Mem) (env : Env) (H : Heap) (k : Ew.NextD) (v : AV) (H' : Heap) (nx' : Nat) : toC (Ew.drwPut P sz o b bs i m env H k v H' nx') = Ec.drwPut P sz o b bs i m env H (dC k) v H' nx' := by
  unfold Ew.drwPut Ec.drwPut
  repeat' first | (with_reducible rfl) | (with_reducible refine and_ext ?_ fun _ => ?_) | (with_reducible refine opt_ext fun _ => ?_) | (with_reducible refine must_ext ?_) | (with_reducible refine sel_ext ?_ ?_) | (with_reducible refine forceNat_ext fun _ => ?_) | (with_reducible refine force_ext fun _ => ?_) | (simp only [toC_ok, toC_no, toC_and, toC_ofOpt, toC_must, toC_sel, toC_forceNat, toC_force, nC, dC, putK_c, againReads_c]; done) | (simp only [toC_ok, toC_no, toC_and, toC_ofOpt, toC_must, toC_sel, toC_forceNat, toC_force, nC, dC, putK_c, againReads_c]) | split | rfl
  all_goals (first | done | rfl | (simp_all; done) | (simp_all; rfl))
theorem drwE_c (P : Program) (sz : Nat) (o : Oper) (b : Nat) (bs : List Nat) (i : Nat) (m : Mem) (env : Env) (H : Heap) (nx : Nat) (k : Ew.NextD) : toC (Ew.drwE P sz o b bs i m env H nx k) = Ec.drwE P sz o b bs i m env H nx (dC k) := by
  unfold Ew.drwE Ec.drwE
  repeat' first | (with_reducible rfl) | (with_reducible refine and_ext ?_ fun _ => ?_) | (with_reducible refine opt_ext fun _ => ?_) | (with_reducible refine must_ext ?_) | (with_reducible refine sel_ext ?_ ?_) | (with_reducible refine forceNat_ext fun _ => ?_) | (with_reducible refine force_ext fun _ => ?_) | (simp only [toC_ok, toC_no, toC_and, toC_ofOpt, toC_must, toC_sel, toC_forceNat, toC_force, nC, dC, evE_c, drwPut_c]; done) | (simp only [toC_ok, toC_no, toC_and, toC_ofOpt, toC_must, toC_sel, toC_forceNat, toC_force, nC, dC, evE_c, drwPut_c]) | split | rfl
  all_goals (first | done | rfl | (simp_all; done) | (simp_all; rfl))
theorem drwCall_c (P : Program) (ev : Ew.Evr) (sz : Nat) (o : Oper) (b : Nat) (bs : List Nat) (i : Nat) (m : Mem) (env : Env) (H : Heap) (nx : Nat) (k : Ew.NextD) : toC (Ew.drwCall P ev sz o b bs i m env H nx k) = Ec.drwCall P (eC ev) sz o b bs i m env H nx (dC k) := by
  unfold Ew.drwCall Ec.drwCall
  repeat' first | (with_reducible rfl) | (with_reducible refine and_ext ?_ fun _ => ?_) | (with_reducible refine opt_ext fun _ => ?_) | (with_reducible refine must_ext ?_) | (with_reducible refine sel_ext ?_ ?_) | (with_reducible refine forceNat_ext fun _ => ?_) | (with_reducible refine force_ext fun _ => ?_) | (simp only [toC_ok, toC_no, toC_and, toC_ofOpt, toC_must, toC_sel, toC_forceNat, toC_force, nC, dC, evCall_c, anyK_c, drwPut_c]; done) | (simp only [toC_ok, toC_no, toC_and, toC_ofOpt, toC_must, toC_sel, toC_forceNat, toC_force, nC, dC, evCall_c, anyK_c, drwPut_c]) | split | rfl
  all_goals (first | done | rfl | (simp_all; done) | (simp_all; rfl))
theorem drwDo_c (P : Program) (ev : Ew.Evr) (sz : Nat) (o : Oper) (b : Nat) (bs : List Nat) (i : Nat) (m : Mem) (env : Env) (H : Heap) (nx : Nat) (k : Ew.NextD) (c : Cls) : toC (Ew.drwDo P ev sz o b bs i m env H nx k c) = Ec.drwDo P (eC ev) sz o b bs i m env H nx (dC k) c := by
  unfold Ew.drwDo Ec.drwDo
  repeat' first | (with_reducible rfl) | (with_reducible refine and_ext ?_ fun _ => ?_) | (with_reducible refine opt_ext fun _ => ?_) | (with_reducible refine must_ext ?_) | (with_reducible refine sel_ext ?_ ?_) | (with_reducible refine forceNat_ext fun _ => ?_) | (with_reducible refine force_ext fun _ => ?_) | (simp only [toC_ok, toC_no, toC_and, toC_ofOpt, toC_must, toC_sel, toC_forceNat, toC_force, nC, dC, drwMv_c, drwQ_c, drwRd_c, drwAl_c, drwE_c, drwCall_c]; done) | (simp only [toC_ok, toC_no, toC_and, toC_ofOpt, toC_must, toC_sel, toC_forceNat, toC_force, nC, dC, drwMv_c, drwQ_c, drwRd_c, drwAl_c, drwE_c, drwCall_c]) | split | rfl
  all_goals (first | done | rfl | (simp_all; done) | (simp_all; rfl))
theorem drwStep_c (P : Program) (ev : Ew.Evr) (sz : Nat) (ops : Array Oper) (o : Oper) (k : Ew.NextD) (bs : List Nat) (i : Nat) (m : Mem) (env : Env) (H : Heap) (nx : Nat) : toC (Ew.drwStep P ev sz ops o k bs i m env H nx) = Ec.drwStep P (eC ev) sz ops o (dC k) bs i m env H nx := by
  unfold Ew.drwStep Ec.drwStep
  repeat' first | (with_reducible rfl) | (with_reducible refine and_ext ?_ fun _ => ?_) | (with_reducible refine opt_ext fun _ => ?_) | (with_reducible refine must_ext ?_) | (with_reducible refine sel_ext ?_ ?_) | (with_reducible refine forceNat_ext fun _ => ?_) | (with_reducible refine force_ext fun _ => ?_) | (simp only [toC_ok, toC_no, toC_and, toC_ofOpt, toC_must, toC_sel, toC_forceNat, toC_force, nC, dC, putQ_c, guardA_c, drwDo_c]; done) | (simp only [toC_ok, toC_no, toC_and, toC_ofOpt, toC_must, toC_sel, toC_forceNat, toC_force, nC, dC, putQ_c, guardA_c, drwDo_c]) | split | rfl
  all_goals (first | done | rfl | (simp_all; done) | (simp_all; rfl))
theorem evDrw_c (P : Program) (ev : Ew.Evr) (sz : Nat) (ops : Array Oper) (l : List Oper) (bs : List Nat) (i : Nat) (m : Mem) (env : Env) (H : Heap) (nx : Nat) : toC (Ew.evDrw P ev sz ops l bs i m env H nx) = Ec.evDrw P (eC ev) sz ops l bs i m env H nx := by
  unfold Ew.evDrw Ec.evDrw
  induction l generalizing bs i m env H nx with
  | nil => rfl
  | cons o r ih =>
    simp only
    rw [drwStep_c]
    congr 1
    funext bs i m env H nx
    exact ih bs i m env H nx
theorem stRegion_c (P : Program) (ev : Ew.Evr) (sz : Nat) (ops : Array Oper) (draw : Bool) (env : Env) (H : Heap) (nx : Nat) : toC (Ew.stRegion P ev sz ops draw env H nx) = Ec.stRegion P (eC ev) sz ops draw env H nx := by
  unfold Ew.stRegion Ec.stRegion
  repeat' first | (with_reducible rfl) | (with_reducible refine and_ext ?_ fun _ => ?_) | (with_reducible refine opt_ext fun _ => ?_) | (with_reducible refine must_ext ?_) | (with_reducible refine sel_ext ?_ ?_) | (with_reducible refine forceNat_ext fun _ => ?_) | (with_reducible refine force_ext fun _ => ?_) | (simp only [toC_ok, toC_no, toC_and, toC_ofOpt, toC_must, toC_sel, toC_forceNat, toC_force, nC, dC, evSeq_c, evDrw_c]; done) | (simp only [toC_ok, toC_no, toC_and, toC_ofOpt, toC_must, toC_sel, toC_forceNat, toC_force, nC, dC, evSeq_c, evDrw_c]) | split | rfl
  all_goals (first | done | rfl | (simp_all; done) | (simp_all; rfl))
theorem thenK_c (r : Fin) (k : Ew.Next) : toC (Ew.thenK r k) = Ec.thenK r (nC k) := by
  unfold Ew.thenK Ec.thenK
  repeat' first | (with_reducible rfl) | (with_reducible refine and_ext ?_ fun _ => ?_) | (with_reducible refine opt_ext fun _ => ?_) | (with_reducible refine must_ext ?_) | (with_reducible refine sel_ext ?_ ?_) | (with_reducible refine forceNat_ext fun _ => ?_) | (with_reducible refine force_ext fun _ => ?_) | (simp only [toC_ok, toC_no, toC_and, toC_ofOpt, toC_must, toC_sel, toC_forceNat, toC_force, nC, dC]; done) | (simp only [toC_ok, toC_no, toC_and, toC_ofOpt, toC_must, toC_sel, toC_forceNat, toC_force, nC, dC]) | split | rfl
  all_goals (first | done | rfl | (simp_all; done) | (simp_all; rfl))
theorem stSeq_c (ev : Ew.CodeFn) (sz : Nat) (a b : Code) (env : Env) (H : Heap) (nx : Nat) : toC (Ew.stSeq ev sz a b env H nx) = Ec.stSeq (cC ev) sz a b env H nx := by
  unfold Ew.stSeq Ec.stSeq
  repeat' first | (with_reducible rfl) | (with_reducible refine and_ext ?_ fun _ => ?_) | (with_reducible refine opt_ext fun _ => ?_) | (with_reducible refine must_ext ?_) | (with_reducible refine sel_ext ?_ ?_) | (with_reducible refine forceNat_ext fun _ => ?_) | (with_reducible refine force_ext fun _ => ?_) | (simp only [toC_ok, toC_no, toC_and, toC_ofOpt, toC_must, toC_sel, toC_forceNat, toC_force, nC, dC, thenK_c]; done) | (simp only [toC_ok, toC_no, toC_and, toC_ofOpt, toC_must, toC_sel, toC_forceNat, toC_force, nC, dC, thenK_c]) | split | rfl
  all_goals (first | done | rfl | (simp_all; done) | (simp_all; rfl))
theorem asBool_c (z0 : AV) : toC (Ew.asBool z0) = Ec.asBool z0 := by cases z0 <;> rfl
theorem stCond_c (ev : Ew.CodeFn) (sz : Nat) (c : Operand) (a b : Code) (env : Env) (H : Heap) (nx : Nat) : toC (Ew.stCond ev sz c a b env H nx) = Ec.stCond (cC ev) sz c a b env H nx := by
  unfold Ew.stCond Ec.stCond
  repeat' first | (with_reducible rfl) | (with_reducible refine and_ext ?_ fun _ => ?_) | (with_reducible refine opt_ext fun _ => ?_) | (with_reducible refine must_ext ?_) | (with_reducible refine sel_ext ?_ ?_) | (with_reducible refine forceNat_ext fun _ => ?_) | (with_reducible refine force_ext fun _ => ?_) | (simp only [toC_ok, toC_no, toC_and, toC_ofOpt, toC_must, toC_sel, toC_forceNat, toC_force, nC, dC, arg_c, asBool_c]; done) | (simp only [toC_ok, toC_no, toC_and, toC_ofOpt, toC_must, toC_sel, toC_forceNat, toC_force, nC, dC, arg_c, asBool_c]) | split | rfl
  all_goals (first | done | rfl | (simp_all; done) | (simp_all; rfl))
theorem stBlock_c (ev : Ew.CodeFn) (sz : Nat) (id : Nat) (a : Code) (env : Env) (H : Heap) (nx : Nat) : toC (Ew.stBlock ev sz id a env H nx) = Ec.stBlock (cC ev) sz id a env H nx := by
  unfold Ew.stBlock Ec.stBlock
  repeat' first | (with_reducible rfl) | (with_reducible refine and_ext ?_ fun _ => ?_) | (with_reducible refine opt_ext fun _ => ?_) | (with_reducible refine must_ext ?_) | (with_reducible refine sel_ext ?_ ?_) | (with_reducible refine forceNat_ext fun _ => ?_) | (with_reducible refine force_ext fun _ => ?_) | (simp only [toC_ok, toC_no, toC_and, toC_ofOpt, toC_must, toC_sel, toC_forceNat, toC_force, nC, dC]; done) | (simp only [toC_ok, toC_no, toC_and, toC_ofOpt, toC_must, toC_sel, toC_forceNat, toC_force, nC, dC]) | split | rfl
  all_goals (first | done | rfl | (simp_all; done) | (simp_all; rfl))
theorem stepC_c (P : Program) (ev : Ew.Evr) (sz : Nat) (c : Code) (env : Env) (H : Heap) (nx : Nat) : toC (Ew.stepC P ev sz c env H nx) = Ec.stepC P (eC ev) sz c env H nx := by
  unfold Ew.stepC Ec.stepC
  repeat' first | (with_reducible rfl) | (with_reducible refine and_ext ?_ fun _ => ?_) | (with_reducible refine opt_ext fun _ => ?_) | (with_reducible refine must_ext ?_) | (with_reducible refine sel_ext ?_ ?_) | (with_reducible refine forceNat_ext fun _ => ?_) | (with_reducible refine force_ext fun _ => ?_) | (simp only [toC_ok, toC_no, toC_and, toC_ofOpt, toC_must, toC_sel, toC_forceNat, toC_force, nC, dC, stRange_c, stRegion_c, stSeq_c, stCond_c, stBlock_c]; done) | (simp only [toC_ok, toC_no, toC_and, toC_ofOpt, toC_must, toC_sel, toC_forceNat, toC_force, nC, dC, stRange_c, stRegion_c, stSeq_c, stCond_c, stBlock_c]) | split | rfl
  all_goals (first | done | rfl | (simp_all; done) | (simp_all; rfl))
theorem evC_c (P : Program) (O : Ora) (n : Nat) (sz : Nat) (c : Code) (env : Env) (H : Heap) (nx : Nat) : toC (Ew.evC P O n sz c env H nx) = Ec.evC P O n sz c env H nx := by
  unfold Ew.evC Ec.evC
  induction n generalizing sz c env H nx with
  | zero => rfl
  | succ n ih =>
    simp only
    rw [stepC_c]
    congr 1
    unfold eC cC
    congr 1
    funext sz c env H nx
    exact ih sz c env H nx
end Go.Ec
