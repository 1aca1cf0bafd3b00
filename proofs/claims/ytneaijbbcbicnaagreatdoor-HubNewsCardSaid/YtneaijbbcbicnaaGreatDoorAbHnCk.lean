import Derived.RangeFuncNested
import Derived.RangeFuncBound
import Derived.RangeFuncCalls
import Derived.RangeFuncLeaves
import Derived.Shelf.Abstract
import Derived.Shelf.RegionOpen
import Derived.WalkKit
import Derived.OwnWalkIn
import Derived.TacticsInMore
import Derived.LoopNIn
import Derived.LoopIn
import Derived.Test.YtneaijbbcbicnaaGreatDoorChecked
import Derived.Test.YtneaijbbcbicnaaGreatDoorCIndexByte
import Derived.Test.YtneaijbbcbicnaaGreatDoorCCount
namespace Go.Proofs.Ck
open Go.RowKit Go.Shelf

theorem splitSeq_x (w : World) (s sep : ByteArray) (z : Int) : Calls Tryz.prog 143 #[.string s, .string sep, .int .i64 z] w fun e w' =>
    e = .returned (.func (.func 148) #[] #[.pointer (some ⟨w.heap.size + 1, 0, none⟩), .pointer (some ⟨w.heap.size, 0, none⟩), .pointer (some ⟨w.heap.size + 2, 0, none⟩)]) ∧
    w' = ((w.alloc (.cells #[.string s] 9)).alloc (.cells #[.string sep] 9)).alloc (.cells #[.int .i64 z] 3) := by
  go_enter Tryz.func143, Tryz.ntmps143
  go_wp2
  go_ret
  exact ⟨rfl, rfl⟩

theorem splitSeq137 (w : World) (s sep : ByteArray) : Calls Tryz.prog 137 #[.string s, .string sep] w fun e w' =>
    e = .returned (.func (.func 148) #[] #[.pointer (some ⟨w.heap.size + 1, 0, none⟩), .pointer (some ⟨w.heap.size, 0, none⟩), .pointer (some ⟨w.heap.size + 2, 0, none⟩)]) ∧
    w' = ((w.alloc (.cells #[.string s] 9)).alloc (.cells #[.string sep] 9)).alloc (.cells #[.int .i64 0] 3) := by
  go_enter Tryz.func137, Tryz.ntmps137
  go_wp2_with (go_at_call 143; refine (splitSeq_x _ _ _ _).mono ?_; rintro e w' ⟨rfl, rfl⟩)
  go_ret
  exact ⟨rfl, rfl⟩

abbrev X : ByteArray := ⟨#[120]⟩
abbrev Sl : ByteArray := ⟨#[47]⟩

theorem cell_new_l0 (W : World) (v : Value) (t : TypeId) : (W.alloc (.cells #[v] t)).cell? ⟨W.heap.size, 0, none⟩ = some v := by simp
theorem frozen_new_l0 (W : World) (v : Value) (t : TypeId) : (W.alloc (.cells #[v] t)).frozen? ⟨W.heap.size, 0, none⟩ = false := by simp
theorem kept1 {w : World} {a : Addr} {v : Value} (h : w.cell? a = some v) (o : Obj) : (w.alloc o).cell? a = some v := cell_kept h (World.grownBy_alloc w _ none) (fun r e => by cases e)
theorem frz1 {w : World} {a : Addr} {v : Value} (h : w.cell? a = some v) (hf : w.frozen? a = false) (o : Obj) : (w.alloc o).frozen? a = false := (frozen_kept h (World.grownBy_alloc w _ none) (fun r e => by cases e)).trans hf

abbrev XT := { s : ByteArray // s = X }
abbrev x0 : XT := ⟨X, rfl⟩

set_option maxHeartbeats 1000000 in
theorem cl_stops (hI : ∀ W, Calls Tryz.prog 147 #[.string X, .string Sl] W fun e W' => e = .returned (.int .i64 (-1)) ∧ W.grownBy W' none) (n : Nat) (hn : 1 ≤ n) (w : World) (b1 b2 b3 : Nat)
    (h1 : w.cell? ⟨b1, 0, none⟩ = some (.string Sl)) (h2 : w.cell? ⟨b2, 0, none⟩ = some (.string X)) (l1 : b1 < w.heap.size) (l2 : b2 < w.heap.size) :
    SeqStops Fence.wide n Tryz.prog 148 #[.pointer (some ⟨b1, 0, none⟩), .pointer (some ⟨b2, 0, none⟩), .pointer (some ⟨b3, 0, none⟩)] (fun s : XT => Value.string s.1) (fun xs => xs = [x0]) (fun pre => pre = [x0]) 1 w := fun l J Jx W hW hJ hJx hY h0 => by
  refine callsIn_of_wp Tryz.func148 rfl trivial ?_ rfl
  simp only [Tryz.ntmps148, List.size_toArray, List.length_cons, List.length_nil, Nat.reduceAdd, Nat.reduceSub, Array.replicate_succ, Array.replicate_zero, List.push_toArray, List.append_toArray, List.nil_append, List.cons_append]
  have g1 : W.cell? ⟨b1, 0, none⟩ = some (.string Sl) := (hW.cell (p := ⟨b1, 0, none⟩) l1).trans h1
  have g2 : W.cell? ⟨b2, 0, none⟩ = some (.string X) := (hW.cell (p := ⟨b2, 0, none⟩) l2).trans h2
  gi_wp2
  refine wpIn_loop_rounds 1 ?_
  simp only [roundsIn_succ]
  gi_wp2_with (skip; fail)
  refine ⟨trivial, ?_⟩
  refine (callsIn_wide.2 (hI _)).mono ?_
  rintro e W' ⟨rfl, hg⟩
  have k2 : W'.cell? ⟨b2, 0, none⟩ = some (.string X) := cell_kept g2 hg (fun r e => by cases e)
  have hJ' := hJ [] W W' none h0 hg (fun r e => by cases e)
  obtain ⟨fn, tmps, assign, body, hy, hR⟩ := hY [] x0 W' hJ' (by simp)
  gi_wp2
  refine hR.mono ?_
  rintro e W2 (⟨rfl, hJ1, _⟩ | ⟨rfl, hx1⟩)
  · gi_wp2
    go_end0
    exact ⟨⟨_, rfl⟩, .inl ⟨[x0], rfl, hJ1⟩⟩
  · gi_wp2
    go_end0
    exact ⟨⟨_, rfl⟩, .inr ⟨[x0], rfl, hx1⟩⟩

set_option maxHeartbeats 1000000 in
theorem check_x (hN : ∀ W, Calls Tryz.prog 27 #[.string X] W fun e W' => e = .returned (.bool true) ∧ W.grownBy W' none) (hG : ∀ W, Calls Tryz.prog 134 #[.string X] W fun e W' => e = .returned (.bool false) ∧ W.grownBy W' none)
    (hI : ∀ W, Calls Tryz.prog 147 #[.string X, .string Sl] W fun e W' => e = .returned (.int .i64 (-1)) ∧ W.grownBy W' none) (w : World) (b off cap : Nat) (hc : w.cell? ⟨b, off, none⟩ = some (.string X)) :
    Calls Tryz.prog 126 #[.slice (some ⟨b, off, none⟩) 1 cap] w fun e w' => e = .returned (.int .i64 0) ∧ w.grownBy w' none := by
  refine (callsIn_wide (n := 9)).1 ?_
  refine callsIn_of_wp_marks Tryz.func126 rfl trivial ?_ rfl
  simp only [Tryz.ntmps126, List.size_toArray, List.length_cons, List.length_nil, Nat.reduceAdd, Nat.reduceSub, Array.replicate_succ, Array.replicate_zero, List.push_toArray, List.append_toArray, List.nil_append, List.cons_append]
  have hc1 : (w.alloc (Obj.cells #[.int .i64 0] 29)).cell? ⟨b, off, none⟩ = some (.string X) := cell_kept hc (World.grownBy_alloc w _ none) (fun r e => by cases e)
  gi_wp2
  refine wpIn_loop_rounds 2 ?_
  simp only [roundsIn_succ]
  gi_wp2_with (refine ⟨trivial, ?_⟩; gi_at_call 137; refine (callsIn_wide.2 (splitSeq137 _ _ _)).mono ?_; rintro e w' ⟨rfl, rfl⟩)
  have hs1 := cell_new_l0 (w.alloc (Obj.cells #[.int .i64 0] 29)) (.string X) 9
  have hs2 := cell_new_l0 ((w.alloc (Obj.cells #[.int .i64 0] 29)).alloc (.cells #[.string X] 9)) (.string Sl) 9
  have hr0 := cell_new_l0 w (.int .i64 0) 29
  have hf0 := frozen_new_l0 w (.int .i64 0) 29
  simp only [World.size_alloc] at hs1 hs2
  refine wpIn_rangeFunc_ownF (w0 := _) rfl (by omega) (gf := 148) rfl trivial (enters_of Tryz.func148 (by kernel_rfl) rfl)
    (cl_stops hI 8 (by omega) _ (w.heap.size + 1 + 1) (w.heap.size + 1) (w.heap.size + 1 + 2) (kept1 hs2 _) (kept1 (kept1 hs1 _) _) (by simp) (by simp)) walksK_t walksK_b (Below.refl _ _) (fun _ => rfl)
    (fun _ W => (W.cell? ⟨w.heap.size, 0, none⟩ = some (.int .i64 0) ∧ W.frozen? ⟨w.heap.size, 0, none⟩ = false) ∧ Below w.heap.size w W)
    (fun _ _ _ => False)
    (OwnFrom.and (Own.from (fun s A B row hs hg hr => ⟨cell_kept hs.1 hg hr, (frozen_kept hs.1 hg hr).trans hs.2⟩) _) (ownFrom_below (Nat.le_refl _) (by simp; omega)))
    (fun _ _ _ _ _ hs _ _ => hs)
    ⟨⟨kept1 (kept1 (kept1 hr0 _) _) _, frz1 (kept1 (kept1 hr0 _) _) (frz1 (kept1 hr0 _) (frz1 hr0 hf0 _) _) _⟩, ((((Below.refl _ w).alloc (Nat.le_refl _) _).alloc (by simp) _).alloc (by simp; omega) _).alloc (by simp; omega) _⟩
    (fun x => { tmps := #[.slice (some ⟨b, off, none⟩) 1 cap, undef, .pointer (some ⟨w.heap.size, 0, none⟩), undef, .string X, .string x.1, .slice (some ⟨b, off, none⟩) 1 cap, .int .i64 1, .int .i64 0, .bool true, .pointer (some ⟨b, off, none⟩), .string X, .string X, .func (.func 148) #[] #[.pointer (some ⟨w.heap.size + 1 + 1, 0, none⟩), .pointer (some ⟨w.heap.size + 1, 0, none⟩), .pointer (some ⟨w.heap.size + 1 + 2, 0, none⟩)], .string x.1, undef, undef, undef, undef, undef, undef], defers := [] }) ?assign ?body ?done ?stop
  case assign =>
    intro l x W K hK
    have hsem := @Oper.semAt_some
    gi_wp2
    exact hK
  case body =>
    rintro l pre ⟨_, rfl⟩ W ⟨⟨hr, hf⟩, hB⟩ _
    have hsem := @Oper.semAt_some
    gi_wp2
    refine ⟨trivial, ?_⟩
    refine (CallsIn.inRound l (callsIn_wide.2 (hN _))).mono ?_
    rintro e W' ⟨rfl, hg⟩
    gi_wp2
    have hko : KeepsOthers W W' := KeepsOthers.of_grownBy hg (fun j o e => by cases e)
    exact ⟨hko, hko.walks, ⟨cell_kept hr hg (fun r e => by cases e), (frozen_kept hr hg (fun r e => by cases e)).trans hf⟩, hB.grown hg hB.size (fun k e => by cases e)⟩
  case done =>
    rintro D xs W hD _ ⟨⟨hr, hf⟩, hB⟩ hK
    gi_wp2
    refine ⟨trivial, ?_⟩
    refine (callsIn_wide.2 (hG _)).mono ?_
    rintro e W' ⟨rfl, hg⟩
    have hr' : W'.cell? ⟨w.heap.size, 0, none⟩ = some (.int .i64 0) := cell_kept hr hg (fun r e => by cases e)
    have hf' : W'.frozen? ⟨w.heap.size, 0, none⟩ = false := (frozen_kept hr hg (fun r e => by cases e)).trans hf
    have hB' := hB.grown hg hB.size (fun k e => by cases e)
    have hK' : W'.heap[D]? = some (.deferred (some [])) := (hg.block D (Array.getElem?_eq_some_iff.1 hK).1 (by simp)).trans hK
    gi_wp2
    rw [roundsIn_succ (m := 0)]
    gi_wp2
    have hK2 : (W'.setCell ⟨w.heap.size, 0, none⟩ (.int .i64 0)).heap[D]? = some (.deferred (some [])) := (KeepsOthers.setCell _ _ _).same D _ hK' rfl
    refine ⟨by simp, .inl ⟨_, _, rfl, run_takeDeferred hK2, ?_⟩⟩
    have hfin : ((W'.setCell ⟨w.heap.size, 0, none⟩ (.int .i64 0)).putObj D (.deferred none)).cell? ⟨w.heap.size, 0, none⟩ = some (.int .i64 0) :=
      cell_kept (World.cell?_setCell_same' _ _ _ (by rw [hr']; rfl)) (grownBy_putObj' _ D (.deferred none)) (fun r e => by cases e; exact ⟨_, hK2, rfl⟩)
    have hB2 := hB'.setCell (p := ⟨w.heap.size, 0, none⟩) (Nat.le_refl _) (.int .i64 0)
    have hB3 : Below w.heap.size w ((W'.setCell ⟨w.heap.size, 0, none⟩ (.int .i64 0)).putObj D (.deferred none)) := hB2.grown (grownBy_putObj' _ D (.deferred none)) hB2.size (fun k e => by cases e; simp at hD; omega)
    refine ⟨.int .i64 0, ?_, rfl, ⟨hB3.os, hB3.tape, hB3.output, hB3.size, fun k hk _ => hB3.block k hk⟩⟩
    simp [results, Tryz.f126, asAddr, go_sem, hfin]
  case stop =>
    rintro D c pre W _ _ h _
    exact h.elim
end Go.Proofs.Ck
