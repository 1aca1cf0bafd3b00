/- The closed run of hubBegun; the law's configuration. -/
import Derived.Test.YtnmlmmakheckpaaGreatDoorAb25
import Derived.Test.YtnmlmmakheckpaaGreatDoorAb28
import Derived.Test.YtnmlmmakheckpaaGreatDoorAb27
namespace Go.Ab.Seat
open Go Go.Proofs
noncomputable def CB_hooks : List (Nat × (Heap → Nat → Nat → List AV → Option (AV × List (Nat × AObj)))) := [(38, cloneH CT 22), (39, cloneH CT 23), (40, cloneH CT 24), (55, cloneH CT 35), (56, idxF), (67, cloneH CT 36), (68, cloneH CT 43), (140, checkF), (155, cntF)]
def CB_modes : List (Nat × Nat) := [(21, 1), (22, 2), (27, 1), (42, 2), (43, 2), (44, 2), (45, 2), (50, 2), (51, 2), (70, 2), (73, 1), (74, 1), (99, 1), (100, 1), (103, 2), (110, 2), (120, 2), (121, 2), (123, 2), (132, 2), (133, 2), (145, 2), (146, 2)]
noncomputable def CB : Cfg := { ty := tyBy tyTab, fn := fnBy Tryz.prog, mode := fun f => (look1 CB_modes f).getD 0, hook := fun f => look1 CB_hooks f }
theorem CB_ty : CB.ty = tyBy tyTab := rfl
theorem hk_CB_38 : CB.hook 38 = some (cloneH CT 22) := rfl
theorem hk_CB_39 : CB.hook 39 = some (cloneH CT 23) := rfl
theorem hk_CB_40 : CB.hook 40 = some (cloneH CT 24) := rfl
theorem hk_CB_55 : CB.hook 55 = some (cloneH CT 35) := rfl
theorem hk_CB_56 : CB.hook 56 = some (idxF) := rfl
theorem hk_CB_67 : CB.hook 67 = some (cloneH CT 36) := rfl
theorem hk_CB_68 : CB.hook 68 = some (cloneH CT 43) := rfl
theorem hk_CB_140 : CB.hook 140 = some (checkF) := rfl
theorem hk_CB_155 : CB.hook 155 = some (cntF) := rfl
set_option maxRecDepth 100000 in
theorem cloneSh_ok [Inhabited Val] : HookOk Tryz.prog 38 (cloneH CT 22) := clone_hook tokT fokT Tryz.func38 (b := 4) (by rfl) rfl rfl (by rfl) rfl
set_option maxRecDepth 100000 in
theorem cloneCo_ok [Inhabited Val] : HookOk Tryz.prog 67 (cloneH CT 36) := clone_hook tokT fokT Tryz.func67 (b := 4) (by rfl) rfl rfl (by rfl) rfl
set_option maxRecDepth 100000 in
theorem cloneCh_ok [Inhabited Val] : HookOk Tryz.prog 68 (cloneH CT 43) := clone_hook tokT fokT Tryz.func68 (b := 4) (by rfl) rfl rfl (by rfl) rfl
set_option maxRecDepth 100000 in
set_option maxHeartbeats 4000000 in
theorem okB [Inhabited Val] : CfgOk Tryz.prog CB := ⟨tok_of rfl tys, fun _ _ _ _ h => (by cases h), fun g fn h => fnBy_ok fnames h, hooks_ok (by
  intro p hp
  simp only [CB_hooks, List.mem_cons, List.not_mem_nil, or_false] at hp
  rcases hp with rfl | rfl | rfl | rfl | rfl | rfl | rfl | rfl | rfl
  · exact ⟨cloneSh_ok, enters_by (by kernel_rfl)⟩
  · exact ⟨cloneG_ok, enters_by (by kernel_rfl)⟩
  · exact ⟨cloneS_ok, enters_by (by kernel_rfl)⟩
  · exact ⟨cloneE_ok, enters_by (by kernel_rfl)⟩
  · exact ⟨idx_ok, enters_by (by kernel_rfl)⟩
  · exact ⟨cloneCo_ok, enters_by (by kernel_rfl)⟩
  · exact ⟨cloneCh_ok, enters_by (by kernel_rfl)⟩
  · exact ⟨check_ok, enters_by (by kernel_rfl)⟩
  · exact ⟨cnt_ok, enters_by (by kernel_rfl)⟩)⟩

def isB : Option (AV × St) → Option Bool | some (.bool b, _) => some b | _ => none
theorem isB_some {r : Option (AV × St)} {b : Bool} (h : isB r = some b) : ∃ st, r = some (.bool b, st) := by
  unfold isB at h
  split at h
  · simp only [Option.some.injEq] at h; subst h; exact ⟨_, rfl⟩
  · cases h
set_option maxRecDepth 100000 in
theorem begun : isB (callN CB 300 4 [] ⟨[], 0, 0⟩) = some true := by kernel_rfl
end Go.Ab.Seat
