/- LOOPS OVER FUNCTIONS: their records in memory; the marks that they leave among an activation's deferred calls. -/
import Derived.Test.YtmoojbahmkmfiaaGreatEwE4
import Derived.RangeFuncRecord
import Derived.Below
import Derived.RangeFuncCalls
import Derived.ControlIn
import Derived.LoopNIn
import Derived.OrdersIn
namespace Go.Ew
open Go.RowKit

/-- a fence that lets everything in -/
structure Wide (F : Fence) : Prop where
  fn : ∀ f, F.fn f
  depth : F.depth = none
theorem wide_wide : Wide Fence.wide := ⟨fun _ => trivial, rfl⟩
theorem Wide.inRound {F : Fence} (h : Wide F) (l : Nat) : Wide (F.inRound l) := ⟨h.fn, h.depth⟩
theorem Wide.plain {F : Fence} (h : Wide F) : Wide F.plain := ⟨h.fn, h.depth⟩
theorem Wide.room {F : Fence} (h : Wide F) : F.depth.isSome = true → 1 ≤ 0 := fun hh => by rw [h.depth] at hh; cases hh

def mark (D : Nat) : Deferred := { target := .collected D, args := #[] }
/-- an activation's deferred calls: marks alone, of blocks from m on that nothing turns -/
def Marks (m : Nat) (ι : Ix) (w : World) (ds : List Deferred) : Prop :=
  ∃ Ds : List Nat, ds = Ds.map mark ∧ Ds.Nodup ∧ ∀ D ∈ Ds, m ≤ D ∧ w.heap[D]? = some (.deferred (some [])) ∧ ∀ b v p, ι b v = some p → p.blk ≠ D
theorem Marks.nil {m : Nat} {ι : Ix} {w : World} : Marks m ι w [] := ⟨[], rfl, List.nodup_nil, by simp⟩
theorem lt_of_get {w : World} {c : Nat} {o : Obj} (h : w.heap[c]? = some o) : c < w.heap.size := (Array.getElem?_eq_some_iff.1 h).1

section
variable {P : Program} {w : World} {ι : Ix} {H H' : Heap}

theorem Marks.step {m : Nat} {ds : List Deferred} {ι' : Ix} {nx nx' : Nat} {w' : World} (h : Marks m ι w ds) (s : Stp ι H nx w ι' H' nx' w') : Marks m ι' w' ds := by
  obtain ⟨Ds, rfl, hn, hd⟩ := h
  refine ⟨Ds, rfl, hn, fun D hD => ?_⟩
  obtain ⟨h1, h2, h3⟩ := hd D hD
  have hlt := lt_of_get h2
  refine ⟨h1, by rw [s.frame D hlt fun b v p hp hpc => absurd hpc (h3 b v p hp)]; exact h2, fun b v p hp hpc => ?_⟩
  rcases s.new b v p hp with g | ⟨_, g⟩ | ⟨_, v0, p0, g1, g2⟩
  · exact h3 b v p g hpc
  · omega
  · rcases g2 with g2 | g2
    · exact h3 b v0 p0 g1 (by rw [g2]; exact hpc)
    · omega

/-- an unplaced block of the world, from the start's size on, turned -/
theorem Stp.turn {nx nx' : Nat} {ι' : Ix} {w1 w2 : World} (s : Stp ι H nx w ι' H' nx' w1) (hs : w2.heap.size = w1.heap.size) (hh : ∀ c, c < w.heap.size → w2.heap[c]? = w1.heap[c]?) (ho : w2.os = w1.os) (hu : w2.output = w1.output) (ht : w2.tape = w1.tape) :
    Stp ι H nx w ι' H' nx' w2 :=
  ⟨s.le, s.new, s.dom, s.nxle, s.same, fun c hc hf => (hh c hc).trans (s.frame c hc hf), by rw [hs]; exact s.size, ho.trans s.os, hu.trans s.output, ht.trans s.tape⟩

/-- leaving with marks -/
theorem leaves_marks {F : Fence} {fn : Func} {tmps : Array Value} {R : Ending → World → Prop} : ∀ (Ds : List Nat) {w1 : World}, Ds.Nodup → (∀ D ∈ Ds, w1.heap[D]? = some (.deferred (some []))) →
    (∀ w2 : World, w2.heap.size = w1.heap.size → (∀ c, c ∉ Ds → w2.heap[c]? = w1.heap[c]?) → w2.os = w1.os → w2.output = w1.output → w2.tape = w1.tape → ∃ v, (results fn tmps).run P w2 = .ok v w2 ∧ R (.returned v) w2) →
    LeavesInM F 0 P fn tmps R (Ds.map mark) .returning w1
  | [], w1, _, _, h => by
    show LeavesIn F 0 P fn tmps R [] .returning w1
    exact h w1 rfl (fun _ _ => rfl) rfl rfl rfl
  | D :: Ds, w1, hn, hd, h => by
    have hD := hd D (List.mem_cons_self ..)
    have hlt := lt_of_get hD
    rw [List.nodup_cons] at hn
    refine ⟨by simp, .inl ⟨D, _, rfl, run_takeDeferred hD, leaves_marks Ds hn.2 (fun E hE => ?_) fun w2 h1 h2 h3 h4 h5 => h w2 ?_ (fun c hc => ?_) h3 h4 h5⟩⟩
    · rw [World.putObj_heap_other (by rintro rfl; exact hn.1 hE)]; exact hd E (List.mem_cons_of_mem _ hE)
    · rw [h1, World.putObj_size]
    · rw [List.mem_cons, not_or] at hc
      rw [h2 c hc.2, World.putObj_heap_other hc.1]

theorem getLoop_ok {β : Type} {b : Nat} {k : LRec → Res β} {r : β} (h : getLoop H b k = .ok r) : ∃ blk l, H.get b = some blk ∧ blk.loop = some l ∧ k l = .ok r := by
  unfold getLoop at h
  obtain ⟨blk, hb, h⟩ := ofOpt_ok h
  obtain ⟨l, hl, h⟩ := ofOpt_ok h
  exact ⟨blk, l, hb, hl, h⟩
theorem setLoop_ok {β : Type} {b st : Nat} {x : X} {k : Heap → Res β} {r : β} (h : setLoop H b st x k = .ok r) :
    ∃ blk l H', H.get b = some blk ∧ blk.loop = some l ∧ k H' = .ok r ∧ ∀ j, H'.get j = if j = b then some { blk with loop := some { l with st := st, jump := x } } else H.get j := by
  unfold setLoop at h
  obtain ⟨blk, hb, h⟩ := ofOpt_ok h
  obtain ⟨l, hl, h⟩ := ofOpt_ok h
  obtain ⟨H', h, hH⟩ := setK_ok _ _ _ _ h
  exact ⟨blk, l, H', hb, hl, h, hH⟩

/-- a loop's record turned -/
theorem loop_turn (hr : HR ι H w) {nx b st : Nat} {x : X} {blk : Blk} {l : LRec} {p : Pl} {r' r2 : Loop} (hb : H.get b = some blk) (hp : ι b 0 = some p) (hw : w.heap[p.blk]? = some (.loop r'))
    (hH : ∀ j, H'.get j = if j = b then some { blk with loop := some { l with st := st, jump := x } } else H.get j) (h2 : LR ι { l with st := st, jump := x } r2) :
    HR ι H' (w.putObj p.blk (.loop r2)) ∧ Stp ι H nx w ι H' nx (w.putObj p.blk (.loop r2)) := by
  have hlt := lt_of_get hw
  refine ⟨⟨fun b1 bk v e q h1 h2 h3 => ?_, fun b1 bk v q h1 h3 => ?_, fun b1 bk v h1 h2 => ?_, fun b1 bk h1 => ?_, hr.inj, fun b1 v q h => by rw [World.putObj_size]; exact hr.bound _ _ _ h, fun b1 bk l1 q h1 h2 h3 => ?_⟩,
    ⟨fun _ _ _ h => h, fun _ _ _ h => .inl h, fun c h => ?_, Nat.le_refl _, fun c bk hc hn => ?_, fun c hc hh => ?_, by rw [World.putObj_size]; exact Nat.le_refl _, rfl, rfl, rfl⟩⟩
  · have key : ∃ bk0, H.get b1 = some bk0 ∧ bk.cells = bk0.cells ∧ bk0.ext v = some e := by
      rw [hH] at h1
      split at h1
      · rename_i hb1; subst hb1; injection h1 with h1; subst h1; exact ⟨_, hb, rfl, h2⟩
      · exact ⟨_, h1, rfl, h2⟩
    obtain ⟨bk0, k1, k2, k3⟩ := key
    obtain ⟨cs, el, g1, g2, g3, g4⟩ := hr.cells _ _ _ _ _ k1 k3 h3
    refine ⟨cs, el, ?_, g2, g3, by rw [k2]; exact g4⟩
    rw [World.putObj_heap_other]
    · exact g1
    · intro hh; rw [hh, hw] at g1; cases g1
  · rw [hH] at h1
    split at h1
    · rename_i hb1; subst hb1; injection h1 with h1; subst h1; have := hr.esz _ _ _ _ hb h3; exact this
    · exact hr.esz _ _ _ _ h1 h3
  · rw [hH] at h1
    split at h1
    · rename_i hb1; subst hb1; injection h1 with h1; subst h1; have := hr.future _ _ v hb h2; exact this
    · exact hr.future _ _ _ h1 h2
  · rw [hH] at h1
    split at h1
    · rename_i hb1; subst hb1; injection h1 with h1; subst h1; have := hr.desc _ _ hb; exact this
    · exact hr.desc _ _ h1
  · rw [hH] at h1
    split at h1
    · rename_i hb1; subst hb1; injection h1 with h1; subst h1
      injection h2 with h2; subst h2
      rw [hp] at h3; injection h3 with h3; subst h3
      exact ⟨r2, World.putObj_heap_same hlt, by assumption⟩
    · rename_i hb1
      obtain ⟨r3, g1, g2⟩ := hr.loop _ _ _ _ h1 h2 h3
      have hq : q.blk ≠ p.blk := fun hh => hb1 (hr.inj _ _ _ _ _ _ h3 hp hh)
      exact ⟨r3, by rw [World.putObj_heap_other hq]; exact g1, g2⟩
  · rw [hH] at h
    split at h
    · rename_i he; subst he; exact .inl (by simp [hb])
    · exact .inl h
  · rw [hH, if_neg]
    · exact hc
    · rintro rfl; rw [hn 0] at hp; cases hp
  · refine World.putObj_heap_other ?_
    rintro rfl
    have := hh b 0 p hp rfl
    rw [hb] at this; cases this

/-- a loop's record laid: two blocks of the world more -/
theorem newLoop_ok {β : Type} {nx : Nat} {l : LRec} {k : Heap → Nat → Res β} {r : β} (h : newLoop H nx l k = .ok r) :
    ∃ H', k H' (nx + 1) = .ok r ∧ ∀ j, H'.get j = if j = nx then some { cells := .lf, size := 0, ver := 1, exts := [], esz := 0, loop := some l } else H.get j := by
  unfold newLoop at h
  obtain ⟨H', h, hH⟩ := setK_ok _ _ _ _ h
  rw [forceNat_eq] at h
  exact ⟨H', h, hH⟩

theorem loop_new (hr : HR ι H w) {nx N : Nat} (hw : Wf H nx) (hf : Fresh ι nx N) (hN : nx + 1 ≤ N) {l : LRec} {r' : Loop} (hl : LR ι l r')
    (hH : ∀ j, H'.get j = if j = nx then some { cells := .lf, size := 0, ver := 1, exts := [], esz := 0, loop := some l } else H.get j) :
    HR (ι.set nx 0 ⟨w.heap.size + 1, 0, 0⟩) H' ((w.alloc (.deferred (some []))).alloc (.loop r')) ∧ Stp ι H nx w (ι.set nx 0 ⟨w.heap.size + 1, 0, 0⟩) H' (nx + 1) ((w.alloc (.deferred (some []))).alloc (.loop r')) := by
  have hn : ∀ v, ι nx v = none := fun v => hf nx v (Nat.le_refl _) (by omega)
  have hle := Ix.set_le (p := ⟨w.heap.size + 1, 0, 0⟩) (hn 0)
  have hsz : ((w.alloc (.deferred (some []))).alloc (.loop r')).heap.size = w.heap.size + 2 := by simp [World.size_alloc]
  have hold : ∀ c, c < w.heap.size → ((w.alloc (.deferred (some []))).alloc (.loop r')).heap[c]? = w.heap[c]? := by
    intro c hc
    rw [Below.heap_alloc _ _ _ (by simp [World.size_alloc]; omega), Below.heap_alloc _ _ _ hc]
  have hnew : ((w.alloc (.deferred (some []))).alloc (.loop r')).heap[w.heap.size + 1]? = some (.loop r') := by
    have := World.alloc_heap_new (w.alloc (.deferred (some []))) (.loop r')
    rwa [World.size_alloc] at this
  refine ⟨⟨fun b blk v e p h1 h2 h3 => ?_, fun b blk v p h1 h3 => ?_, fun b blk v h1 h2 => ?_, fun b blk h1 => ?_, fun b v p b' v' p' h1 h2 h3 => ?_, fun b v p h => ?_, fun b blk r p h1 h2 h3 => ?_⟩,
    ⟨hle, fun b v p h => ?_, fun b h => ?_, by omega, fun b bk hb _ => ?_, fun c hc _ => hold c hc, by omega, rfl, rfl, rfl⟩⟩
  · rcases Ix.set_cases h3 with ⟨e1, e2, e3⟩ | h3
    · subst e1 e2
      rw [hH, if_pos rfl] at h1
      injection h1 with h1; subst h1
      cases h2
    · rw [hH] at h1
      split at h1
      · rename_i hb; rw [hb, hn] at h3; cases h3
      · obtain ⟨cs, el, g1, g2, g3, g4⟩ := hr.cells _ _ _ _ _ h1 h2 h3
        refine ⟨cs, el, by rw [hold _ (hr.bound _ _ _ h3)]; exact g1, g2, g3, fun i hi => ?_⟩
        obtain ⟨a, x, k1, k2, k3, k4⟩ := g4 i hi
        exact ⟨a, x, k1, k2, k3.mono hle, k4⟩
  · rcases Ix.set_cases h3 with ⟨e1, e2, e3⟩ | h3
    · subst e1 e2 e3
      rw [hH, if_pos rfl] at h1
      injection h1 with h1; subst h1; rfl
    · rw [hH] at h1
      split at h1
      · rename_i hb; rw [hb, hn] at h3; cases h3
      · exact hr.esz _ _ _ _ h1 h3
  · unfold Ix.set
    rw [hH] at h1
    split at h1
    · rename_i hb; injection h1 with h1; subst h1
      simp only at h2
      rw [if_neg (by omega), hb]; exact hn v
    · rename_i hb
      rw [if_neg (fun hh => hb hh.1)]; exact hr.future _ _ _ h1 h2
  · rw [hH] at h1
    split at h1
    · injection h1 with h1; subst h1; trivial
    · exact hr.desc _ _ h1
  · rcases Ix.set_cases h1 with ⟨e1, e2, e3⟩ | g1 <;> rcases Ix.set_cases h2 with ⟨e4, e5, e6⟩ | g2
    · rw [e1, e4]
    · have := hr.bound _ _ _ g2; rw [e3] at h3; simp only at h3; omega
    · have := hr.bound _ _ _ g1; rw [e6] at h3; simp only at h3; omega
    · exact hr.inj _ _ _ _ _ _ g1 g2 h3
  · rw [hsz]
    rcases Ix.set_cases h with ⟨_, _, e3⟩ | h
    · rw [e3]; simp only; omega
    · have := hr.bound _ _ _ h; omega
  · rcases Ix.set_cases h3 with ⟨e1, e2, e3⟩ | h3
    · subst e1 e3
      rw [hH, if_pos rfl] at h1
      injection h1 with h1; subst h1
      injection h2 with h2; subst h2
      exact ⟨r', hnew, hl.mono hle⟩
    · rw [hH] at h1
      split at h1
      · rename_i hb; rw [hb, hn] at h3; cases h3
      · obtain ⟨r3, g1, g2⟩ := hr.loop _ _ _ _ h1 h2 h3
        exact ⟨r3, by rw [hold _ (hr.bound _ _ _ h3)]; exact g1, g2.mono hle⟩
  · rcases Ix.set_cases h with ⟨e1, e2, e3⟩ | h
    · subst e1 e3; exact .inr (.inl ⟨⟨Nat.le_refl _, by omega⟩, by simp only; omega⟩)
    · exact .inl h
  · rw [hH] at h
    split at h
    · rename_i hb; exact .inr ⟨by omega, by omega⟩
    · exact .inl h
  · rw [hH, if_neg]
    · exact hb
    · rintro rfl
      rw [hw _ (Nat.le_refl _)] at hb; cases hb

/-- yield's arguments in a round's slots -/
theorem putPs_ok {β : Type} {sz : Nat} : ∀ {ps : List Tmp} {l : List AV} {env : Env} {k : Env → Res β} {r : β}, putPs sz env ps l k = .ok r →
    ∃ env', k env' = .ok r ∧ ps.length = l.length ∧ ∀ (ι : Ix) (tmps : Array Value) (xs : List Value), ER ι env tmps → tmps.size = sz → VRL ι l xs →
      ER ι env' ((ps.zip xs).foldl (fun tmps (t, a) => tmps.setIfInBounds t a) tmps) ∧ ((ps.zip xs).foldl (fun tmps (t, a) => tmps.setIfInBounds t a) tmps).size = sz
  | [], [], env, k, r, h => ⟨env, h, rfl, fun ι tmps xs he hs _ => ⟨he, hs⟩⟩
  | [], _ :: _, env, k, r, h => by cases h
  | _ :: _, [], env, k, r, h => by cases h
  | t :: ps, v :: l, env, k, r, h => by
    unfold putPs at h
    rw [sel_eq] at h
    split at h
    · rename_i ht
      have ht := blt_iff.1 ht
      obtain ⟨env1, h, hg⟩ := setK_ok _ _ _ _ h
      obtain ⟨env', k1, k2, k3⟩ := putPs_ok h
      refine ⟨env', k1, by simp [k2], fun ι tmps xs he hs hl => ?_⟩
      cases hl with
      | cons hv hl =>
        rename_i x xs
        have e1 : ER ι env1 (tmps.setIfInBounds t x) := by
          intro j u hu
          rw [hg] at hu
          split at hu
          · rename_i hj; subst hj; injection hu with hu; subst hu
            exact ⟨x, by rw [Array.getElem?_setIfInBounds, if_pos rfl, if_pos (by rw [hs]; exact ht)], hv⟩
          · rename_i hj
            obtain ⟨y, hy, hvy⟩ := he j u hu
            exact ⟨y, by rw [Array.getElem?_setIfInBounds_ne (Ne.symm hj)]; exact hy, hvy⟩
        have := k3 ι _ xs e1 (by simp [hs]) hl
        simpa using this
    · cases h
end
end Go.Ew
