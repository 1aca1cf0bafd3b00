/- slices.Insert of one entry, walked: at the end, and where there is no room. -/
import Derived.Test.YtnmlmmakheckpaaGreatDoorAb17
import Derived.Lib.AppendZerosOnto
namespace Go.Ab.Seat
open Go Go.Proofs Go.RowKit Go.Shelf
set_option linter.unusedSimpArgs false
set_option linter.unusedVariables false

set_option maxHeartbeats 4000000 in
set_option maxRecDepth 100000 in
theorem insE_end (w : World) (ad : Option Addr) (n K b2 o2 cap2 : Nat) (v' : Value) (w' : World) (hnK : n ≤ K) (hK : K ≤ 9223372036854775807)
    (hrun : ∀ ty, (Builtin.append_ #[35, 35] ty #[.slice ad n K, .slice (some ⟨b2, o2, none⟩) 1 cap2]).run Tryz.prog w = .ok v' w') :
    Calls Tryz.prog 145 #[.slice ad n K, .int .i64 n, .slice (some ⟨b2, o2, none⟩) 1 cap2] w fun e w1 => e = .returned v' ∧ w1 = w' := by
  have hu : Tryz.prog.underlying 35 = some (.slice 107) := by kernel_rfl
  go_enter Tryz.func145, Tryz.ntmps145
  cases ad with
  | none =>
    go_wp2_with (at_builtin; refine Lib.wpList_append_run _ rfl _ _ _ _ rfl _ _ rfl rfl _ _ (hrun _) ?_)
    go_ret
    exact ⟨rfl, rfl⟩
  | some a =>
    obtain ⟨ab, ao, asp⟩ := a
    go_wp2_with (at_builtin; refine Lib.wpList_append_run _ rfl _ _ _ _ rfl _ _ rfl rfl _ _ (hrun _) ?_)
    all_goals (go_ret; exact ⟨rfl, rfl⟩)

set_option maxHeartbeats 4000000 in
set_option maxRecDepth 100000 in
theorem insE_grow (w : World) (i0 : TypeInfo) (z : Value) (hi0 : Tryz.prog.info? 107 = some i0) (hs0 : i0.size = 4) (hz0 : i0.zero = some z) (hzl : z.cells.size = 4) (hby : i0.bytes = 48) (b d n i b2 o2 cap2 : Nat) (arr arr2 : Array Value) (ty ty2 : TypeId) (cs xs : List Value) (hrow : w.heap[b]? = some (.cells arr ty (0, 0))) (hrow2 : w.heap[b2]? = some (.cells arr2 ty2 (0, 0)))
    (hfit : d + n * 4 ≤ arr.size) (hcs : (arr.toList.drop d).take (n * 4) = cs) (hxs : (arr2.toList.drop o2).take 4 = xs) (hxl : xs.length = 4) (h1c : ∀ v ∈ cs, v.oneCell' = true) (h1x : ∀ v ∈ xs, v.oneCell' = true) (hi : i < n) (hbig : (n + 1) * 48 ≤ 140737488355328) :
    Calls Tryz.prog 145 #[.slice (some ⟨b, d, none⟩) n n, .int .i64 i, .slice (some ⟨b2, o2, none⟩) 1 cap2] w fun e w' =>
      ∃ (zs : Array Value) (W : World) (arr' : Array Value), e = .returned (.slice (some ⟨w.heap.size, 0, none⟩) (n + 1) (grownCap w (n + 1) n 107)) ∧ zs.size = (grownCap w (n + 1) n 107 - (n + 1)) * 4 ∧
        SameMem w W ∧ w' = W.alloc (.cells arr' 107) ∧ arr'.toList = cs.take (i * 4) ++ xs ++ cs.drop (i * 4) ++ zs.toList := by
  have hz2 : ¬ ((i : Int) = (n : Int)) := by omega
  have hz3 : (n : Int) < (n : Int) + 1 := by omega
  have hu : Tryz.prog.underlying 35 = some (.slice 107) := by kernel_rfl
  have hui : Tryz.prog.underlying 3 = some (.int .i64) := by kernel_rfl
  have hcl : cs.length = n * 4 := by rw [← hcs]; simp; omega
  have hdl : (cs.drop (i * 4)).length = (n - i) * 4 := by rw [List.length_drop, hcl, Nat.sub_mul]
  have htl : (cs.take (i * 4)).length = i * 4 := by rw [List.length_take, hcl]; omega
  have hbw : b < w.heap.size := (Array.getElem?_eq_some_iff.1 hrow).1
  have hvw : b2 < w.heap.size := (Array.getElem?_eq_some_iff.1 hrow2).1
  have hkk : (n : Int) + 1 - (i : Int) = ((n + 1 - i : Nat) : Int) := by omega
  have hik : i + (n + 1 - i) = n + 1 := by omega
  have hcell : ∀ (W : World), (∀ x, W.cell? x = w.cell? x) → ∀ j v, cs[j]? = some v → W.cell? ⟨b, d + j, none⟩ = some v := fun W hW j v hj => by
    rw [hW, cell_of_row w b _ arr ty _ hrow]
    rw [← hcs, List.getElem?_take] at hj
    split at hj
    · rw [List.getElem?_drop] at hj
      rw [← Array.getElem?_toList]; exact hj
    · cases hj
  have hold : (Builtin.firstCells i0.size i (.slice (some ⟨b, d, none⟩) i n)).run Tryz.prog w.drew = .ok (cs.take (i * 4)).toArray w.drew :=
    run_firstCells_some w.drew i0.size i ⟨b, d, none⟩ i n (cs.take (i * 4)) (by rw [htl, hs0]) (fun j v hj => by
      rw [Addr.add_lit]
      rw [List.getElem?_take] at hj
      split at hj
      · exact hcell w.drew (fun _ => World.cell?_drew _ _) j v hj
      · cases hj)
  obtain ⟨G, hG⟩ : ∃ G, G = grownCap w (n + 1) n 107 := ⟨_, rfl⟩
  obtain ⟨ROW, hROW⟩ : ∃ ROW : Array Value, ROW = (cs.take (i * 4)).toArray ++ Builtin.zeroCells z.cells (n + 1 - i) ++ Builtin.zeroCells z.cells (G - (n + 1)) := ⟨_, rfl⟩
  have hrz : ∀ tyr, (Builtin.append_ #[35, 3] tyr #[.slice (some ⟨b, d, none⟩) i n, .int .i64 ((n + 1 - i : Nat) : Int)]).run Tryz.prog w = .ok (.slice (some ⟨w.heap.size, 0, none⟩) (n + 1) G) (w.drew.alloc (.cells ROW 107)) := fun tyr => by
    have h := Lib.run_append_grow_zeros (P := Tryz.prog) w 35 3 tyr 107 i0 z .i64 .i64 hu hui hi0 hz0 (some ⟨b, d, none⟩) i n (cs.take (i * 4)) hold (n + 1 - i) (by omega) (by omega) (by omega) (by omega) (by rw [hby]; omega) (by rw [hby, hik]; exact growslice_fits (by omega) hbig)
    rw [hik, ← hG, ← hROW] at h
    exact h
  rw [← hG]
  have hzc : ∀ k, (Builtin.zeroCells z.cells k).size = k * 4 := fun k => by
    letI : Inhabited Val := ⟨⟨fun _ => 0⟩⟩
    have := congrArg List.length (zeroCells_eq z.cells k)
    simp only [Array.length_toList, List.length_flatten, List.map_replicate, List.sum_replicate_nat, hzl] at this
    exact this
  have hRl : ROW.size = i * 4 + (n + 1 - i) * 4 + (G - (n + 1)) * 4 := by
    rw [hROW]
    simp only [Array.size_append, List.size_toArray, htl, hzc]
  have hG1 : n + 1 ≤ G := by rw [hG]; exact grownCap_ge _ _ _ _
  have hWW : ∀ (W : World) (a r : Array Value), (W.alloc (.cells a 107)).setRow W.heap.size r = W.alloc (.cells r 107) := fun W a r => by
    unfold World.setRow World.alloc
    congr 1
    apply Array.ext'
    simp only [Array.toList_modify, Array.toList_push]
    apply List.ext_getElem?
    intro k
    rw [List.getElem?_modify]
    rcases Nat.lt_trichotomy k W.heap.size with h | h | h
    · rw [List.getElem?_append_left (by simpa using h), List.getElem?_append_left (by simpa using h)]
      simp [Nat.ne_of_gt h]
    · subst h
      simp [List.getElem?_append_right]
    · rw [List.getElem?_eq_none (by simp; omega), List.getElem?_eq_none (by simp; omega)]
      rfl
  have hcp1 : (Builtin.copy_ #[35, 35] 3 #[.slice (some ⟨w.heap.size, i * 4, none⟩) (n + 1 - i) (G - i), .slice (some ⟨b2, o2, none⟩) 1 cap2]).run Tryz.prog (w.alloc (.cells ROW 107)).drew = .ok (goInt 1) (w.alloc (.cells (ROW.toList.take (i * 4) ++ xs ++ ROW.toList.drop (i * 4 + xs.length)).toArray 107)).drew := by
    have := run_copy_at (P := Tryz.prog) (ty := 3) (w.drew.alloc (.cells ROW 107)) 35 35 107 hu hi0 w.heap.size (i * 4) (n + 1 - i) (G - i) ⟨b2, o2, none⟩ 1 cap2 1 xs (by simp only [Nat.min_def]; split <;> omega) (by rw [hxl, hs0]) (fun j v hj => by
      rw [Addr.add_lit, cell_of_row _ b2 _ arr2 ty2 _ ((heap_alloc_old w.drew _ hvw).trans hrow2)]
      rw [← hxs, List.getElem?_take] at hj
      split at hj
      · rw [List.getElem?_drop] at hj
        rw [← Array.getElem?_toList]
        exact hj
      · cases hj) (arr := ROW) (tyb := 107) (heap_alloc_new w.drew _) (by rw [hxl, hRl]; omega) h1x
    refine this.trans ?_
    exact congrArg _ (hWW w.drew _ _)
  obtain ⟨R2, hR2⟩ : ∃ R2 : List Value, R2 = ROW.toList.take (i * 4) ++ xs ++ ROW.toList.drop (i * 4 + xs.length) := ⟨_, rfl⟩
  rw [← hR2] at hcp1
  have hR2l : R2.length = ROW.size := by rw [hR2]; simp [hxl]; omega
  have hcp2 : (Builtin.copy_ #[35, 35] 3 #[.slice (some ⟨w.heap.size, (i + 1) * 4, none⟩) (n - i) (G - (i + 1)), .slice (some ⟨b, d + i * 4, none⟩) (n - i) (n - i)]).run Tryz.prog (w.alloc (.cells R2.toArray 107)).drew.drew = .ok (goInt ((n - i : Nat) : Int)) (w.drew.drew.alloc (.cells (R2.take ((i + 1) * 4) ++ cs.drop (i * 4) ++ R2.drop ((i + 1) * 4 + (cs.drop (i * 4)).length)).toArray 107)) := by
    have := run_copy_at (P := Tryz.prog) (ty := 3) (w.drew.drew.alloc (.cells R2.toArray 107)) 35 35 107 hu hi0 w.heap.size ((i + 1) * 4) (n - i) (G - (i + 1)) ⟨b, d + i * 4, none⟩ (n - i) (n - i) (n - i) (cs.drop (i * 4)) (by simp only [Nat.min_def]; split <;> omega) (by rw [hdl, hs0]) (fun j v hj => by
      rw [Addr.add_lit, cell_of_row _ b _ arr ty _ ((heap_alloc_old w.drew.drew _ hbw).trans hrow)]
      rw [List.getElem?_drop, ← hcs, List.getElem?_take] at hj
      split at hj
      · rw [List.getElem?_drop] at hj
        rw [← Array.getElem?_toList, ← hj]
        congr 1
        omega
      · cases hj) (arr := R2.toArray) (tyb := 107) (heap_alloc_new w.drew.drew _) (by rw [hdl]; simp only [List.size_toArray, hR2l, hRl]; omega) (fun v hv => h1c v (List.mem_of_mem_drop hv))
    refine this.trans ?_
    exact congrArg _ (hWW w.drew.drew _ _)
  have hfin : R2.take ((i + 1) * 4) ++ cs.drop (i * 4) ++ R2.drop ((i + 1) * 4 + (cs.drop (i * 4)).length) = cs.take (i * 4) ++ xs ++ cs.drop (i * 4) ++ (Builtin.zeroCells z.cells (G - (n + 1))).toList := by
    have hRT : ROW.toList = cs.take (i * 4) ++ ((Builtin.zeroCells z.cells (n + 1 - i)).toList ++ (Builtin.zeroCells z.cells (G - (n + 1))).toList) := by rw [hROW]; simp
    have e1 : R2 = (cs.take (i * 4) ++ xs) ++ ((Builtin.zeroCells z.cells (n + 1 - i)).toList ++ (Builtin.zeroCells z.cells (G - (n + 1))).toList).drop xs.length := by
      rw [hR2, hRT, List.take_left' htl, List.drop_append, List.drop_eq_nil_of_le (by omega), htl, List.nil_append, show i * 4 + xs.length - i * 4 = xs.length by omega]
    have e2 : (cs.take (i * 4) ++ xs).length = (i + 1) * 4 := by rw [List.length_append, htl, hxl]; omega
    rw [e1, List.take_left' e2, ← List.drop_drop, List.drop_left' e2, List.drop_drop, hdl, hxl, List.drop_left' (by rw [Array.length_toList, hzc]; omega)]
  have hsh := fun (a : Array Value) => heap_alloc_new w.drew (.cells a 107)
  have mixed : Tryz.prog.follows .mixedOrders = true := by kernel_rfl
  have hw1 : IntKind.i64.wrap ((i : Int) + 1) = (i : Int) + 1 := by rw [IntKind.wrap_i64]; omega
  have hb1 : (0 : Int) ≤ (i : Int) + 1 := by omega
  have hb2 : (i : Int) ≤ (n : Int) := by omega
  have hb3 : ((i : Int) + 1).toNat = i + 1 := by omega
  have hb4 : ¬ (G = i + 1) := by omega
  have hb5 : (i : Int) + 1 ≤ (n : Int) + 1 := by omega
  have hb6 : (i : Int) ≤ (n : Int) + 1 := by omega
  have hb7 : ¬ (G = i) := by omega
  have hb8 : n + 1 - (i + 1) = n - i := by omega
  have hb9 : ¬ (n = i) := by omega
  clear hR2 hROW hRl hR2l hG
  go_enter Tryz.func145, Tryz.ntmps145
  go_wp2_with (at_builtin; refine Lib.wpList_append_run _ rfl _ _ _ _ rfl _ _ rfl rfl _ _ (hrz _) ?_)
  go_wp2_with (simp only [hcp1])
  go_region_law_o (refine Go.Proofs.step_copy_runI rfl _ _ 35 35 rfl _ _ (by simp [Act.eval, Act.put]) (by simp [Act.eval, Act.put]) hcp2 ?_)
  go_wp2
  rw [hdl, List.append_assoc] at hfin
  go_ret
  exact ⟨_, w.drew.drew, _, rfl, hzc _, ⟨rfl, rfl, rfl, rfl⟩, rfl, hfin⟩
end Go.Ab.Seat
