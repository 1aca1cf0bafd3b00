/- The configuration of the program's trees: what the first has told is a rule here. -/
import Derived.Test.YtnmlmmakheckpaaGreatDoorAb13
import Derived.Test.YtnmlmmakheckpaaGreatDoorAb09
import Derived.Test.YtnmlmmakheckpaaGreatDoorAb11
import Derived.Test.YtnmlmmakheckpaaGreatDoorAb19
namespace Go.Ab.Seat
open Go Go.Proofs
theorem CT_ty : CT.ty = tyBy tyTab := rfl
noncomputable def C3_hooks : List (Nat × (Heap → Nat → Nat → List AV → Option (AV × List (Nat × AObj)))) := [(10, pureF (G3 C1 Tryz.f10)), (12, pureF (G3 C1 Tryz.f12)), (14, pureF (G3 C1 Tryz.f14)), (15, pureF (G3 C1 Tryz.f15)), (17, pureF (G3 C1 Tryz.f17)), (18, pureF (G3 C1 Tryz.f18)), (19, pureF (G3 C1 Tryz.f19)), (20, pureF (G3 C1 Tryz.f20)), (25, pureF (G3 C1 Tryz.f25)), (26, pureF (G3 C1 Tryz.f26)), (28, pureF (G3 C1 Tryz.f28)), (29, pureF (G3 C1 Tryz.f29)), (30, pureF (G3 C1 Tryz.f30)), (31, pureF (G3 C1 Tryz.f31)), (32, pureF (G3 C1 Tryz.f32)), (33, pureF (G3 C1 Tryz.f33)), (35, pureF (G3 C1 Tryz.f35)), (36, pureF (G3 C1 Tryz.f36)), (37, pureF (G3 C1 Tryz.f37)), (39, cloneH CT 23), (40, cloneH CT 24), (54, pureF (G3 C1 Tryz.f54)), (55, cloneH CT 35), (56, idxF), (57, pureF (G3 C1 Tryz.f57)), (60, pureF (G3 C1 Tryz.f60)), (61, pureF (G3 C1 Tryz.f61)), (62, pureF (G3 C1 Tryz.f62)), (63, pureF (G3 C1 Tryz.f63)), (64, pureF (G3 C1 Tryz.f64)), (65, pureF (G3 C1 Tryz.f65)), (78, pureF (G3 C1 Tryz.f78)), (80, pureF (G3 C1 Tryz.f80)), (84, pureF (G3 C1 Tryz.f84)), (86, pureF (G3 C1 Tryz.f86)), (87, pureF (G3 C1 Tryz.f87)), (88, pureF (G3 C1 Tryz.f88)), (89, pureF (G3 C1 Tryz.f89)), (106, pureF (G3 C1 Tryz.f106)), (108, pureF (G3 C1 Tryz.f108)), (111, pureF (G3 C1 Tryz.f111)), (112, pureF (G3 C1 Tryz.f112)), (113, pureF (G3 C1 Tryz.f113)), (114, pureF (G3 C1 Tryz.f114)), (115, pureF (G3 C1 Tryz.f115)), (116, pureF (G3 C1 Tryz.f116)), (117, pureF (G3 C1 Tryz.f117)), (125, pureF (G3 C1 Tryz.f125)), (126, pureF (G3 C1 Tryz.f126)), (127, pureF (G3 C1 Tryz.f127)), (128, pureF (G3 C1 Tryz.f128)), (129, pureF (G3 C1 Tryz.f129)), (134, pureF (G3 C1 Tryz.f134)), (139, pureF (G3 C1 Tryz.f139)), (140, checkF), (141, pureF (G3 C1 Tryz.f141)), (142, pureF (G3 C1 Tryz.f142)), (143, pureF (G3 C1 Tryz.f143)), (145, insH CT 107), (148, pureF (G3 C1 Tryz.f148)), (150, pureF (G3 C1 Tryz.f150)), (152, pureF (G3 C1 Tryz.f152)), (155, cntF), (157, pureF (G3 C1 Tryz.f157))]
def C3_modes : List (Nat × Nat) := [(110, 2), (130, 0), (131, 0), (132, 2), (133, 2), (144, 0), (146, 2), (147, 0)]
noncomputable def C3 : Cfg := { ty := tyBy tyTab, fn := fnBy Tryz.prog, mode := fun f => (look1 C3_modes f).getD 3, hook := fun f => look1 C3_hooks f }
theorem C3_ty : C3.ty = tyBy tyTab := rfl
theorem hk_C3_10 : C3.hook 10 = some (pureF (G3 C1 Tryz.f10)) := rfl
theorem hk_C3_12 : C3.hook 12 = some (pureF (G3 C1 Tryz.f12)) := rfl
theorem hk_C3_14 : C3.hook 14 = some (pureF (G3 C1 Tryz.f14)) := rfl
theorem hk_C3_15 : C3.hook 15 = some (pureF (G3 C1 Tryz.f15)) := rfl
theorem hk_C3_17 : C3.hook 17 = some (pureF (G3 C1 Tryz.f17)) := rfl
theorem hk_C3_18 : C3.hook 18 = some (pureF (G3 C1 Tryz.f18)) := rfl
theorem hk_C3_19 : C3.hook 19 = some (pureF (G3 C1 Tryz.f19)) := rfl
theorem hk_C3_20 : C3.hook 20 = some (pureF (G3 C1 Tryz.f20)) := rfl
theorem hk_C3_25 : C3.hook 25 = some (pureF (G3 C1 Tryz.f25)) := rfl
theorem hk_C3_26 : C3.hook 26 = some (pureF (G3 C1 Tryz.f26)) := rfl
theorem hk_C3_28 : C3.hook 28 = some (pureF (G3 C1 Tryz.f28)) := rfl
theorem hk_C3_29 : C3.hook 29 = some (pureF (G3 C1 Tryz.f29)) := rfl
theorem hk_C3_30 : C3.hook 30 = some (pureF (G3 C1 Tryz.f30)) := rfl
theorem hk_C3_31 : C3.hook 31 = some (pureF (G3 C1 Tryz.f31)) := rfl
theorem hk_C3_32 : C3.hook 32 = some (pureF (G3 C1 Tryz.f32)) := rfl
theorem hk_C3_33 : C3.hook 33 = some (pureF (G3 C1 Tryz.f33)) := rfl
theorem hk_C3_35 : C3.hook 35 = some (pureF (G3 C1 Tryz.f35)) := rfl
theorem hk_C3_36 : C3.hook 36 = some (pureF (G3 C1 Tryz.f36)) := rfl
theorem hk_C3_37 : C3.hook 37 = some (pureF (G3 C1 Tryz.f37)) := rfl
theorem hk_C3_39 : C3.hook 39 = some (cloneH CT 23) := rfl
theorem hk_C3_40 : C3.hook 40 = some (cloneH CT 24) := rfl
theorem hk_C3_54 : C3.hook 54 = some (pureF (G3 C1 Tryz.f54)) := rfl
theorem hk_C3_55 : C3.hook 55 = some (cloneH CT 35) := rfl
theorem hk_C3_56 : C3.hook 56 = some (idxF) := rfl
theorem hk_C3_57 : C3.hook 57 = some (pureF (G3 C1 Tryz.f57)) := rfl
theorem hk_C3_60 : C3.hook 60 = some (pureF (G3 C1 Tryz.f60)) := rfl
theorem hk_C3_61 : C3.hook 61 = some (pureF (G3 C1 Tryz.f61)) := rfl
theorem hk_C3_62 : C3.hook 62 = some (pureF (G3 C1 Tryz.f62)) := rfl
theorem hk_C3_63 : C3.hook 63 = some (pureF (G3 C1 Tryz.f63)) := rfl
theorem hk_C3_64 : C3.hook 64 = some (pureF (G3 C1 Tryz.f64)) := rfl
theorem hk_C3_65 : C3.hook 65 = some (pureF (G3 C1 Tryz.f65)) := rfl
theorem hk_C3_78 : C3.hook 78 = some (pureF (G3 C1 Tryz.f78)) := rfl
theorem hk_C3_80 : C3.hook 80 = some (pureF (G3 C1 Tryz.f80)) := rfl
theorem hk_C3_84 : C3.hook 84 = some (pureF (G3 C1 Tryz.f84)) := rfl
theorem hk_C3_86 : C3.hook 86 = some (pureF (G3 C1 Tryz.f86)) := rfl
theorem hk_C3_87 : C3.hook 87 = some (pureF (G3 C1 Tryz.f87)) := rfl
theorem hk_C3_88 : C3.hook 88 = some (pureF (G3 C1 Tryz.f88)) := rfl
theorem hk_C3_89 : C3.hook 89 = some (pureF (G3 C1 Tryz.f89)) := rfl
theorem hk_C3_106 : C3.hook 106 = some (pureF (G3 C1 Tryz.f106)) := rfl
theorem hk_C3_108 : C3.hook 108 = some (pureF (G3 C1 Tryz.f108)) := rfl
theorem hk_C3_111 : C3.hook 111 = some (pureF (G3 C1 Tryz.f111)) := rfl
theorem hk_C3_112 : C3.hook 112 = some (pureF (G3 C1 Tryz.f112)) := rfl
theorem hk_C3_113 : C3.hook 113 = some (pureF (G3 C1 Tryz.f113)) := rfl
theorem hk_C3_114 : C3.hook 114 = some (pureF (G3 C1 Tryz.f114)) := rfl
theorem hk_C3_115 : C3.hook 115 = some (pureF (G3 C1 Tryz.f115)) := rfl
theorem hk_C3_116 : C3.hook 116 = some (pureF (G3 C1 Tryz.f116)) := rfl
theorem hk_C3_117 : C3.hook 117 = some (pureF (G3 C1 Tryz.f117)) := rfl
theorem hk_C3_125 : C3.hook 125 = some (pureF (G3 C1 Tryz.f125)) := rfl
theorem hk_C3_126 : C3.hook 126 = some (pureF (G3 C1 Tryz.f126)) := rfl
theorem hk_C3_127 : C3.hook 127 = some (pureF (G3 C1 Tryz.f127)) := rfl
theorem hk_C3_128 : C3.hook 128 = some (pureF (G3 C1 Tryz.f128)) := rfl
theorem hk_C3_129 : C3.hook 129 = some (pureF (G3 C1 Tryz.f129)) := rfl
theorem hk_C3_134 : C3.hook 134 = some (pureF (G3 C1 Tryz.f134)) := rfl
theorem hk_C3_139 : C3.hook 139 = some (pureF (G3 C1 Tryz.f139)) := rfl
theorem hk_C3_140 : C3.hook 140 = some (checkF) := rfl
theorem hk_C3_141 : C3.hook 141 = some (pureF (G3 C1 Tryz.f141)) := rfl
theorem hk_C3_142 : C3.hook 142 = some (pureF (G3 C1 Tryz.f142)) := rfl
theorem hk_C3_143 : C3.hook 143 = some (pureF (G3 C1 Tryz.f143)) := rfl
theorem hk_C3_145 : C3.hook 145 = some (insH CT 107) := rfl
theorem hk_C3_148 : C3.hook 148 = some (pureF (G3 C1 Tryz.f148)) := rfl
theorem hk_C3_150 : C3.hook 150 = some (pureF (G3 C1 Tryz.f150)) := rfl
theorem hk_C3_152 : C3.hook 152 = some (pureF (G3 C1 Tryz.f152)) := rfl
theorem hk_C3_155 : C3.hook 155 = some (cntF) := rfl
theorem hk_C3_157 : C3.hook 157 = some (pureF (G3 C1 Tryz.f157)) := rfl
end Go.Ab.Seat
/- The configuration of the program's journals: what has been told of trees is a rule here; slices.Clone hands out plain lists. -/
namespace Go.Ab
open Go
def entryOf : List AV → Option Entry
  | [.str p, .bool f, .str x, .int .i64 v] => some ⟨p, f, x, v⟩
  | _ => none
theorem entryOf_map (t : List Entry) : (t.map Entry.cells).mapM entryOf = some t := by
  induction t with
  | nil => rfl
  | cons a t ih => rw [List.map_cons, List.mapM_cons, ih]; rfl
theorem entryOf_inv : ∀ (l : List (List AV)) (t : List Entry), l.mapM entryOf = some t → l = t.map Entry.cells
  | [], t, h => by simp at h; subst h; rfl
  | r :: l, t, h => by
    rw [List.mapM_cons] at h
    simp only [Option.pure_def, Option.bind_eq_bind, Option.bind_eq_some_iff, Option.some.injEq] at h
    obtain ⟨e, h1, t', h2, rfl⟩ := h
    have h3 := entryOf_inv l t' h2
    have h4 : r = e.cells := by
      unfold entryOf at h1
      split at h1
      · simp only [Option.some.injEq] at h1; subst h1; rfl
      · cases h1
    rw [h3, h4, List.map_cons]
/-- slices.Clone of entries that are only looked at. -/
def cloneP : Heap → Nat → Nat → List AV → Option (AV × List (Nat × AObj))
  | _, _, _, [.rows _ l] => (l.mapM entryOf).bind fun t => if t.length ≤ 549755813888 then some (.rows false l, []) else none
  | _, _, _, _ => none
end Go.Ab
namespace Go.Ab.Seat
open Go Go.Proofs
noncomputable def C4_hooks : List (Nat × (Heap → Nat → Nat → List AV → Option (AV × List (Nat × AObj)))) := [(10, pureF (G3 C1 Tryz.f10)), (12, pureF (G3 C1 Tryz.f12)), (14, pureF (G3 C1 Tryz.f14)), (15, pureF (G3 C1 Tryz.f15)), (17, pureF (G3 C1 Tryz.f17)), (18, pureF (G3 C1 Tryz.f18)), (19, pureF (G3 C1 Tryz.f19)), (20, pureF (G3 C1 Tryz.f20)), (25, pureF (G3 C1 Tryz.f25)), (26, pureF (G3 C1 Tryz.f26)), (28, pureF (G3 C1 Tryz.f28)), (29, pureF (G3 C1 Tryz.f29)), (30, pureF (G3 C1 Tryz.f30)), (31, pureF (G3 C1 Tryz.f31)), (32, pureF (G3 C1 Tryz.f32)), (33, pureF (G3 C1 Tryz.f33)), (35, pureF (G3 C1 Tryz.f35)), (36, pureF (G3 C1 Tryz.f36)), (37, pureF (G3 C1 Tryz.f37)), (39, cloneH CT 23), (40, cloneH CT 24), (54, pureF (G3 C1 Tryz.f54)), (55, cloneP), (56, idxF), (57, pureF (G3 C1 Tryz.f57)), (60, pureF (G3 C1 Tryz.f60)), (61, pureF (G3 C1 Tryz.f61)), (62, pureF (G3 C1 Tryz.f62)), (63, pureF (G3 C1 Tryz.f63)), (64, pureF (G3 C1 Tryz.f64)), (65, pureF (G3 C1 Tryz.f65)), (78, pureF (G3 C1 Tryz.f78)), (80, pureF (G3 C1 Tryz.f80)), (84, pureF (G3 C1 Tryz.f84)), (85, pureF (G3 C3 Tryz.f85)), (86, pureF (G3 C1 Tryz.f86)), (87, pureF (G3 C1 Tryz.f87)), (88, pureF (G3 C1 Tryz.f88)), (89, pureF (G3 C1 Tryz.f89)), (106, pureF (G3 C1 Tryz.f106)), (108, pureF (G3 C1 Tryz.f108)), (109, pureF (G3 C3 Tryz.f109)), (111, pureF (G3 C1 Tryz.f111)), (112, pureF (G3 C1 Tryz.f112)), (113, pureF (G3 C1 Tryz.f113)), (114, pureF (G3 C1 Tryz.f114)), (115, pureF (G3 C1 Tryz.f115)), (116, pureF (G3 C1 Tryz.f116)), (117, pureF (G3 C1 Tryz.f117)), (125, pureF (G3 C1 Tryz.f125)), (126, pureF (G3 C1 Tryz.f126)), (127, pureF (G3 C1 Tryz.f127)), (128, pureF (G3 C1 Tryz.f128)), (129, pureF (G3 C1 Tryz.f129)), (134, pureF (G3 C1 Tryz.f134)), (139, pureF (G3 C1 Tryz.f139)), (140, checkF), (141, pureF (G3 C1 Tryz.f141)), (142, pureF (G3 C1 Tryz.f142)), (143, pureF (G3 C1 Tryz.f143)), (145, insH CT 107), (148, pureF (G3 C1 Tryz.f148)), (150, pureF (G3 C1 Tryz.f150)), (152, pureF (G3 C1 Tryz.f152)), (155, cntF), (157, pureF (G3 C1 Tryz.f157))]
def C4_modes : List (Nat × Nat) := [(27, 2), (82, 0), (83, 0), (107, 0)]
noncomputable def C4 : Cfg := { ty := tyBy tyTab, fn := fnBy Tryz.prog, mode := fun f => (look1 C4_modes f).getD 3, hook := fun f => look1 C4_hooks f }
theorem C4_ty : C4.ty = tyBy tyTab := rfl
theorem hk_C4_10 : C4.hook 10 = some (pureF (G3 C1 Tryz.f10)) := rfl
theorem hk_C4_12 : C4.hook 12 = some (pureF (G3 C1 Tryz.f12)) := rfl
theorem hk_C4_14 : C4.hook 14 = some (pureF (G3 C1 Tryz.f14)) := rfl
theorem hk_C4_15 : C4.hook 15 = some (pureF (G3 C1 Tryz.f15)) := rfl
theorem hk_C4_17 : C4.hook 17 = some (pureF (G3 C1 Tryz.f17)) := rfl
theorem hk_C4_18 : C4.hook 18 = some (pureF (G3 C1 Tryz.f18)) := rfl
theorem hk_C4_19 : C4.hook 19 = some (pureF (G3 C1 Tryz.f19)) := rfl
theorem hk_C4_20 : C4.hook 20 = some (pureF (G3 C1 Tryz.f20)) := rfl
theorem hk_C4_25 : C4.hook 25 = some (pureF (G3 C1 Tryz.f25)) := rfl
theorem hk_C4_26 : C4.hook 26 = some (pureF (G3 C1 Tryz.f26)) := rfl
theorem hk_C4_28 : C4.hook 28 = some (pureF (G3 C1 Tryz.f28)) := rfl
theorem hk_C4_29 : C4.hook 29 = some (pureF (G3 C1 Tryz.f29)) := rfl
theorem hk_C4_30 : C4.hook 30 = some (pureF (G3 C1 Tryz.f30)) := rfl
theorem hk_C4_31 : C4.hook 31 = some (pureF (G3 C1 Tryz.f31)) := rfl
theorem hk_C4_32 : C4.hook 32 = some (pureF (G3 C1 Tryz.f32)) := rfl
theorem hk_C4_33 : C4.hook 33 = some (pureF (G3 C1 Tryz.f33)) := rfl
theorem hk_C4_35 : C4.hook 35 = some (pureF (G3 C1 Tryz.f35)) := rfl
theorem hk_C4_36 : C4.hook 36 = some (pureF (G3 C1 Tryz.f36)) := rfl
theorem hk_C4_37 : C4.hook 37 = some (pureF (G3 C1 Tryz.f37)) := rfl
theorem hk_C4_39 : C4.hook 39 = some (cloneH CT 23) := rfl
theorem hk_C4_40 : C4.hook 40 = some (cloneH CT 24) := rfl
theorem hk_C4_54 : C4.hook 54 = some (pureF (G3 C1 Tryz.f54)) := rfl
theorem hk_C4_55 : C4.hook 55 = some (cloneP) := rfl
theorem hk_C4_56 : C4.hook 56 = some (idxF) := rfl
theorem hk_C4_57 : C4.hook 57 = some (pureF (G3 C1 Tryz.f57)) := rfl
theorem hk_C4_60 : C4.hook 60 = some (pureF (G3 C1 Tryz.f60)) := rfl
theorem hk_C4_61 : C4.hook 61 = some (pureF (G3 C1 Tryz.f61)) := rfl
theorem hk_C4_62 : C4.hook 62 = some (pureF (G3 C1 Tryz.f62)) := rfl
theorem hk_C4_63 : C4.hook 63 = some (pureF (G3 C1 Tryz.f63)) := rfl
theorem hk_C4_64 : C4.hook 64 = some (pureF (G3 C1 Tryz.f64)) := rfl
theorem hk_C4_65 : C4.hook 65 = some (pureF (G3 C1 Tryz.f65)) := rfl
theorem hk_C4_78 : C4.hook 78 = some (pureF (G3 C1 Tryz.f78)) := rfl
theorem hk_C4_80 : C4.hook 80 = some (pureF (G3 C1 Tryz.f80)) := rfl
theorem hk_C4_84 : C4.hook 84 = some (pureF (G3 C1 Tryz.f84)) := rfl
theorem hk_C4_85 : C4.hook 85 = some (pureF (G3 C3 Tryz.f85)) := rfl
theorem hk_C4_86 : C4.hook 86 = some (pureF (G3 C1 Tryz.f86)) := rfl
theorem hk_C4_87 : C4.hook 87 = some (pureF (G3 C1 Tryz.f87)) := rfl
theorem hk_C4_88 : C4.hook 88 = some (pureF (G3 C1 Tryz.f88)) := rfl
theorem hk_C4_89 : C4.hook 89 = some (pureF (G3 C1 Tryz.f89)) := rfl
theorem hk_C4_106 : C4.hook 106 = some (pureF (G3 C1 Tryz.f106)) := rfl
theorem hk_C4_108 : C4.hook 108 = some (pureF (G3 C1 Tryz.f108)) := rfl
theorem hk_C4_109 : C4.hook 109 = some (pureF (G3 C3 Tryz.f109)) := rfl
theorem hk_C4_111 : C4.hook 111 = some (pureF (G3 C1 Tryz.f111)) := rfl
theorem hk_C4_112 : C4.hook 112 = some (pureF (G3 C1 Tryz.f112)) := rfl
theorem hk_C4_113 : C4.hook 113 = some (pureF (G3 C1 Tryz.f113)) := rfl
theorem hk_C4_114 : C4.hook 114 = some (pureF (G3 C1 Tryz.f114)) := rfl
theorem hk_C4_115 : C4.hook 115 = some (pureF (G3 C1 Tryz.f115)) := rfl
theorem hk_C4_116 : C4.hook 116 = some (pureF (G3 C1 Tryz.f116)) := rfl
theorem hk_C4_117 : C4.hook 117 = some (pureF (G3 C1 Tryz.f117)) := rfl
theorem hk_C4_125 : C4.hook 125 = some (pureF (G3 C1 Tryz.f125)) := rfl
theorem hk_C4_126 : C4.hook 126 = some (pureF (G3 C1 Tryz.f126)) := rfl
theorem hk_C4_127 : C4.hook 127 = some (pureF (G3 C1 Tryz.f127)) := rfl
theorem hk_C4_128 : C4.hook 128 = some (pureF (G3 C1 Tryz.f128)) := rfl
theorem hk_C4_129 : C4.hook 129 = some (pureF (G3 C1 Tryz.f129)) := rfl
theorem hk_C4_134 : C4.hook 134 = some (pureF (G3 C1 Tryz.f134)) := rfl
theorem hk_C4_139 : C4.hook 139 = some (pureF (G3 C1 Tryz.f139)) := rfl
theorem hk_C4_140 : C4.hook 140 = some (checkF) := rfl
theorem hk_C4_141 : C4.hook 141 = some (pureF (G3 C1 Tryz.f141)) := rfl
theorem hk_C4_142 : C4.hook 142 = some (pureF (G3 C1 Tryz.f142)) := rfl
theorem hk_C4_143 : C4.hook 143 = some (pureF (G3 C1 Tryz.f143)) := rfl
theorem hk_C4_145 : C4.hook 145 = some (insH CT 107) := rfl
theorem hk_C4_148 : C4.hook 148 = some (pureF (G3 C1 Tryz.f148)) := rfl
theorem hk_C4_150 : C4.hook 150 = some (pureF (G3 C1 Tryz.f150)) := rfl
theorem hk_C4_152 : C4.hook 152 = some (pureF (G3 C1 Tryz.f152)) := rfl
theorem hk_C4_155 : C4.hook 155 = some (cntF) := rfl
theorem hk_C4_157 : C4.hook 157 = some (pureF (G3 C1 Tryz.f157)) := rfl
end Go.Ab.Seat
