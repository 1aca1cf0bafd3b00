/- slices.Insert of one entry, walked: in place, where there is room. -/
import Derived.Test.YtnmlmmakheckpaaGreatDoorAb09
import Derived.Test.YtnmlmmakheckpaaGreatDoorChecked
import Derived.Shelf.Spec.SlicesInsert
namespace Go.Ab.Seat
open Go Go.Proofs Go.RowKit Go.Shelf
set_option linter.unusedSimpArgs false
set_option linter.unusedVariables false

set_option maxHeartbeats 4000000 in
set_option maxRecDepth 100000 in
theorem insE_shift (w : World) (i0 : TypeInfo) (hi0 : Tryz.prog.info? 107 = some i0) (hs0 : i0.size = 4) (b d n K i b2 o2 cap2 : Nat) (arr arr2 : Array Value) (ty ty2 : TypeId) (cs xs : List Value) (hrow : w.heap[b]? = some (.cells arr ty (0, 0))) (hrow2 : w.heap[b2]? = some (.cells arr2 ty2 (0, 0))) (hne : b2 ≠ b)
    (hfit : d + K * 4 ≤ arr.size) (hcs : (arr.toList.drop d).take (n * 4) = cs) (hxs : (arr2.toList.drop o2).take 4 = xs) (hxl : xs.length = 4) (h1c : ∀ v ∈ cs, v.oneCell' = true) (h1x : ∀ v ∈ xs, v.oneCell' = true) (hi : i < n) (hroom : n + 1 ≤ K) (hK : K ≤ 9223372036854775807) :
    Calls Tryz.prog 145 #[.slice (some ⟨b, d, none⟩) n K, .int .i64 i, .slice (some ⟨b2, o2, none⟩) 1 cap2] w fun e w' => e = .returned (.slice (some ⟨b, d, none⟩) (n + 1) K) ∧
      ∃ arr', w' = (w.drew.setRow b (arr.toList.take (d + (i + 1) * 4) ++ cs.drop (i * 4) ++ arr.toList.drop (d + (i + 1) * 4 + (cs.drop (i * 4)).length)).toArray).setRow b arr' ∧
        arr'.toList = (arr.toList.take (d + (i + 1) * 4) ++ cs.drop (i * 4) ++ arr.toList.drop (d + (i + 1) * 4 + (cs.drop (i * 4)).length)).take (d + i * 4) ++ xs ++ (arr.toList.take (d + (i + 1) * 4) ++ cs.drop (i * 4) ++ arr.toList.drop (d + (i + 1) * 4 + (cs.drop (i * 4)).length)).drop (d + i * 4 + 4) := by
  have hz2 : ¬ ((i : Int) = (n : Int)) := by omega
  have hz3 : ¬ ((K : Int) < (n : Int) + 1) := by omega
  have hu : Tryz.prog.underlying 35 = some (.slice 107) := by kernel_rfl
  have hcl : cs.length = n * 4 := by rw [← hcs]; simp; omega
  have hdl : (cs.drop (i * 4)).length = (n - i) * 4 := by rw [List.length_drop, hcl, Nat.sub_mul]
  have hov : ∀ lb cb, (callFunc 153 #[.slice (some ⟨b2, o2, none⟩) 1 cap2, .slice (some ⟨b, d + (i + 1) * 4, none⟩) lb cb]).run Tryz.prog w = .ok (.value (.bool false)) w := fun lb cb => by
    rw [run_callFunc_extern Tryz.func153 (by kernel_rfl) (by kernel_rfl) (by kernel_rfl) (e := Extern.SlicesOverlaps.overlaps #[35, 35] #[4]) (by kernel_rfl),
      Lib.run_overlaps_apart w 35 4 107 hu 4 (fun w => by rw [← hs0]; exact run_sizeOf' hi0 w) ⟨b2, o2, none⟩ ⟨b, d + (i + 1) * 4, none⟩ 1 cap2 lb cb hne ty2 ty arr2.size arr.size (by simp [World.shape?, hrow2]) (by simp [World.shape?, hrow]) (by omega) (by simp [World.frozen?, hrow2]) (by simp [World.frozen?, hrow2])]
    rfl
  have hcp1 : ∀ ty dc sc, (Builtin.copy_ #[35, 35] ty #[.slice (some ⟨b, d + (i + 1) * 4, none⟩) (n - i) dc, .slice (some ⟨b, d + i * 4, none⟩) (n + 1 - i) sc]).run Tryz.prog w.drew = .ok (goInt ((n - i : Nat) : Int)) (w.drew.setRow b (arr.toList.take (d + (i + 1) * 4) ++ cs.drop (i * 4) ++ arr.toList.drop (d + (i + 1) * 4 + (cs.drop (i * 4)).length)).toArray) := fun tyr dc sc => by
    refine run_copy_at w.drew 35 35 tyr 107 hu hi0 b (d + (i + 1) * 4) (n - i) dc ⟨b, d + i * 4, none⟩ (n + 1 - i) sc (n - i) (cs.drop (i * 4)) ?_ ?_ ?_ (arr := arr) (tyb := ty) hrow ?_ ?_
    · simp only [Nat.min_def]; split <;> omega
    · rw [hdl, hs0]
    · intro j v hj
      rw [Addr.add_lit, World.cell?_drew, cell_of_row w b _ arr ty _ hrow]
      rw [← hcs, List.getElem?_drop, List.getElem?_take] at hj
      split at hj
      · rw [List.getElem?_drop] at hj
        rw [← Array.getElem?_toList, ← hj]
        congr 1
        omega
      · cases hj
    · rw [hdl]; omega
    · exact fun v hv => h1c v (List.mem_of_mem_drop hv)
  obtain ⟨L1, hL1⟩ : ∃ L1, L1 = arr.toList.take (d + (i + 1) * 4) ++ cs.drop (i * 4) ++ arr.toList.drop (d + (i + 1) * 4 + (cs.drop (i * 4)).length) := ⟨_, rfl⟩
  rw [← hL1] at hcp1 ⊢
  have hl1 : L1.length = arr.size := by rw [hL1]; simp [hdl]; omega
  obtain ⟨W1, hW1⟩ : ∃ W1, W1 = w.drew.setRow b L1.toArray := ⟨_, rfl⟩
  rw [← hW1] at hcp1 ⊢
  have hrow1 : W1.heap[b]? = some (.cells L1.toArray ty (0, 0)) := by rw [hW1]; exact setRow_heap w.drew b arr L1.toArray ty (0, 0) hrow
  have hrow21 : W1.heap[b2]? = some (.cells arr2 ty2 (0, 0)) := by rw [hW1, setRow_other w.drew b _ _ hne]; exact hrow2
  have hcp2 : ∀ ty dl dc, 1 ≤ dl → (Builtin.copy_ #[35, 35] ty #[.slice (some ⟨b, d + i * 4, none⟩) dl dc, .slice (some ⟨b2, o2, none⟩) 1 cap2]).run Tryz.prog W1 = .ok (goInt 1) (W1.setRow b (L1.take (d + i * 4) ++ xs ++ L1.drop (d + i * 4 + 4)).toArray) := fun tyr dl dc hdl1 => by
    have := run_copy_at W1 35 35 tyr 107 hu hi0 b (d + i * 4) dl dc ⟨b2, o2, none⟩ 1 cap2 1 xs (by simp only [Nat.min_def]; split <;> omega) (by rw [hxl, hs0]) (fun j v hj => by
      rw [Addr.add_lit, cell_of_row W1 b2 _ arr2 ty2 _ hrow21]
      rw [← hxs, List.getElem?_take] at hj
      split at hj
      · rw [List.getElem?_drop] at hj
        rw [← Array.getElem?_toList]
        exact hj
      · cases hj) (arr := L1.toArray) (tyb := ty) hrow1 (by rw [hxl]; simp [hl1]; omega) h1x
    rw [hxl] at this
    exact this
  have mixed : Tryz.prog.follows .mixedOrders = true := by kernel_rfl
  have hw1 : IntKind.i64.wrap ((i : Int) + 1) = (i : Int) + 1 := by rw [IntKind.wrap_i64]; omega
  have hb1 : (0 : Int) ≤ (i : Int) + 1 := by omega
  have hb2 : (i : Int) ≤ (n : Int) := by omega
  have hb3 : ((i : Int) + 1).toNat = i + 1 := by omega
  have hb4 : ¬ (K = i + 1) := by omega
  have hb5 : (i : Int) + 1 ≤ (n : Int) + 1 := by omega
  have hb6 : (i : Int) ≤ (n : Int) + 1 := by omega
  have hb7 : ¬ (K = i) := by omega
  have hb8 : n + 1 - (i + 1) = n - i := by omega
  clear hW1 hL1 hrow1 hrow21
  go_enter Tryz.func145, Tryz.ntmps145
  go_wp2_with (simp only [hov])
  go_region_law_o (refine Go.Proofs.step_copy_runI rfl _ _ 35 35 rfl _ _ (by simp [Act.eval, Act.put]) (by simp [Act.eval, Act.put]) (hcp1 _ _ _) ?_)
  have hcp3 := hcp2 3 (n + 1 - i) (K - i) (by omega)
  go_wp2_with (simp only [hcp3])
  go_ret
  exact ⟨rfl, _, rfl, by simp⟩
end Go.Ab.Seat
