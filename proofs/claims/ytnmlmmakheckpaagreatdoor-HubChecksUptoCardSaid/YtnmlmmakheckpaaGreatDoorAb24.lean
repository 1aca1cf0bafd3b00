/- tree.done: the change of a tree of its own. -/
import Derived.Test.YtnmlmmakheckpaaGreatDoorAb11
import Derived.Test.YtnmlmmakheckpaaGreatDoorAb22
import Derived.Test.YtnmlmmakheckpaaGreatDoorAb21
import Derived.Test.YtnmlmmakheckpaaGreatDoorAb23
import Derived.Test.YtnmlmmakheckpaaGreatDoorAb13
import Derived.Test.YtnmlmmakheckpaaGreatDoorAb20
namespace Go.Ab.Seat
open Go Go.Proofs
-- CFG C3
set_option linter.unusedSimpArgs false
set_option linter.unusedVariables false
set_option maxHeartbeats 4000000
set_option maxRecDepth 100000

/-- All that is moved, at its new place; none: a path is too great. -/
def goesOf (c : Change) (n : Int) : List Entry → Option (List Entry)
  | [] => some []
  | x :: r => if within x.path c.path then (if great (movedE c n x).path then none else (goesOf c n r).map (movedE c n x :: ·)) else goesOf c n r
theorem moveAll_goes (c : Change) (n : Int) : ∀ (t out : List Entry), moveAll c n t out = (goesOf c n t).map fun g => g.foldl (fun o e => putE e o) out
  | [], out => rfl
  | x :: r, out => by
    unfold moveAll goesOf
    split
    · split
      · rfl
      · rw [moveAll_goes c n r, Option.map_map]
        rfl
    · exact moveAll_goes c n r out
def chP : Option (List Entry) → List Entry × Int
  | none => ([], 2)
  | some o => if 60 < o.length then ([], 2) else (o, 0)
theorem fin_ownS {h : Heap} {s : Nat} {v : AV} {o : List Entry} (ho : OwnS 4 Entry.cells s h v o) (n : Nat) : fin h 0 false (n + 2) v = some (.rows false (o.map Entry.cells)) := by
  obtain ⟨cp, junk, rfl, _, hg⟩ := ho
  have hfle := flat_le len_entry o junk
  simp only [fin, Nat.not_lt_zero, if_false, hg, Nat.zero_add, List.drop_zero, hfle, if_true]
  rw [chunks_junk len_entry, fin_E]
/-- What comes of it. -/
def dnR (w : Option (List Entry)) (r : AV) (st' : St) : Prop := ∃ v', r = .tuple [v', .int .i64 (chP w).2] ∧ fin st'.h 0 false 7 v' = some (.rows false ((chP w).1.map Entry.cells))
def dnQ (w : Option (List Entry)) (bar : Nat) : KE := endW C3 Tryz.f110.results.toList fun r st' => dnR w r ⟨st'.h, st'.c, bar⟩

theorem dn_fin (T : List AV) (st : St) (s : Nat) (v : AV) (o : List Entry) (bar : Nat) (h0 : getT T 0 = v) (ho : OwnS 4 Entry.cells s st.h v o) : X C3 Tryz.f110.ntmps (restC 2 (bodyC Tryz.f110)) T st (Q := ⟨dnQ (some o) bar⟩) := by
  have hf := fin_ownS ho 5
  obtain ⟨cp, junk, rfl, hcp, hg⟩ := ho
  refine (?_ : X C3 Tryz.f110.ntmps (.seq _ (.seq _ .ret)) T st (Q := ⟨dnQ (some o) bar⟩))
  by_cases hl : 60 < o.length
  · have hl2 : (60 : Int) < (o.length : Int) := by omega
    have he : chP (some o) = ([], 2) := if_pos hl
    simp only [↓bD, bL, stps, stpOf, ev, ofConst, binP, binA, symA, intOp, lenA, resA, Option.or, ↓reduceIte, Nat.reduceEqDiff, Nat.reduceLT, Nat.reduceAdd, C3_ty, ty35, Tryz.ntmps110, Tryz.results110, Nat.add_assoc, h0, dnQ, hl2]
    exact ⟨.rows true [], by rw [he], by rw [he]; rfl⟩
  · have hl2 : ¬ (60 : Int) < (o.length : Int) := by omega
    have he : chP (some o) = (o, 0) := if_neg hl
    simp only [↓bD, bL, stps, stpOf, ev, ofConst, binP, binA, symA, intOp, lenA, resA, Option.or, ↓reduceIte, reduceCtorEq, Nat.reduceEqDiff, Nat.reduceLT, Nat.reduceAdd, C3_ty, ty35, Tryz.ntmps110, Tryz.results110, Nat.add_assoc, h0, dnQ, hl2]
    exact ⟨_, by rw [he], by rw [he]; exact hf⟩

/-- What is asked of a tree that is changed. -/
structure Fit3 (t : List Entry) (c : Change) : Prop where
  len : t.length ≤ 274877906944
  path : ∀ x ∈ t, x.path.length ≤ 1099511627776
  cp : c.path.length ≤ 1099511627776
  ct : c.to.length ≤ 1099511627776

theorem C_done (t : List Entry) (c : Change) (n : Int) (s : Nat) (v : AV) (st : St) (hfit : Fit3 t c) (ha : Asc t) (hok : ∀ x ∈ t, checkPath x.path = 0) (hf : changeForm c = 0) (ho : OwnS 4 Entry.cells s st.h v t) (hs : s < st.c) (hb : st.bar ≤ s) :
    Ca C3 110 [v, .agg [.int .i64 c.kind, .str c.path, .str c.to, .str c.text, .int .i64 c.base], .int .i64 n] st fun r st' => dnR (changeTo t c n) r st' := by
  have hf1 := form_ok hf
  have hk := form_ok hf
  have hk1 := hk.k1
  have hk4 := hk.k4
  have htl := hfit.len
  have ht5 : t.length ≤ 549755813888 := by omega
  have ho1 := ho
  obtain ⟨cp, junk, rfl, hcp, hg⟩ := ho
  have hss : ∀ j, (st.c + j = s) = False := fun j => eq_false (by omega)
  have hss' : (st.c = s) = False := eq_false (by omega)
  have ho2 : OwnS 4 Entry.cells s (hput st.h st.c (.cells [.int .i64 c.kind, .str c.path, .str c.to, .str c.text, .int .i64 c.base])) (.osl 4 s 0 t.length cp) t := ⟨cp, junk, rfl, hcp, by rw [hget_hput, if_neg (by omega)]; exact hg⟩
  refine (Ca_mode2 (fn := Tryz.f110) (fnBy_of Tryz.func110 rfl) rfl rfl).2 ?_
  refine (?_ : X C3 Tryz.f110.ntmps (.seq _ (.seq _ (restC 2 (bodyC Tryz.f110)))) _ _ (Q := ⟨dnQ (changeTo t c n) st.bar⟩))
  rw [X_assoc]
  refine X_cut (fun T st' => ∃ s' v' o, changeTo t c n = some o ∧ getT T 0 = v' ∧ OwnS 4 Entry.cells s' st'.h v' o) ?_ ?_
  rotate_left
  · rintro T st' _ _ _ ⟨s', v', o, e, h0, ho'⟩
    rw [e]
    exact dn_fin T st' s' v' o st.bar h0 ho'
  unfold changeTo
  by_cases k1 : c.kind = 1
  · rw [if_pos k1]
    simp only [↓bD, bL, stps, stpOf, ev, getT, setT, ofConst, AV.cells, notBad, loadObj, TI.agg, fieldAddrA, binP, binA, symA, intOp, putCells, padT, List.replicate, Option.or, ↓reduceIte, Nat.reduceLT, Nat.reduceLeDiff, Nat.reduceAdd, Nat.reduceSub, fillA, buildA, C3_ty, ty3, ty9, ty47, ty107, Tryz.ntmps110, Cl_2c (C := C3) (g := 132) rfl rfl, beqD, Nat.add_assoc, eq_true k1]
    refine (C_put t ⟨c.path, true, [], n⟩ s _ ⟨_, _, _⟩ ht5 ha ho2 (Nat.lt_of_lt_of_le hs (Nat.le_add_right _ _)) hb).mono' ?_
    rintro r st' ⟨s', ho', _, _, _⟩
    exact ⟨s', r, _, rfl, rfl, ho'⟩
  by_cases k2 : c.kind = 2
  · rw [if_neg k1, if_pos k2]
    simp only [↓bD, bL, stps, stpOf, ev, getT, setT, ofConst, AV.cells, notBad, loadObj, TI.agg, fieldAddrA, binP, binA, symA, intOp, putCells, padT, List.replicate, Option.or, ↓reduceIte, Nat.reduceLT, Nat.reduceLeDiff, Nat.reduceAdd, Nat.reduceSub, fillA, buildA, C3_ty, ty3, ty9, ty47, ty107, Tryz.ntmps110, Cl_2c (C := C3) (g := 132) rfl rfl, beqD, Nat.add_assoc, eq_false k1, eq_true k2]
    refine (C_put t ⟨c.path, false, c.text, n⟩ s _ ⟨_, _, _⟩ ht5 ha ho2 (Nat.lt_of_lt_of_le hs (Nat.le_add_right _ _)) hb).mono' ?_
    rintro r st' ⟨s', ho', _, _, _⟩
    exact ⟨s', r, _, rfl, rfl, ho'⟩
  rw [if_neg k1, if_neg k2]
  by_cases k4 : c.kind = 4
  · have k3 : ¬ c.kind = 3 := by omega
    rw [if_neg k3]
    simp only [↓bD, bL, stps, stpOf, ev, getT, setT, ofConst, AV.cells, notBad, loadObj, TI.agg, fieldAddrA, binP, binA, symA, intOp, padT, List.replicate, Option.or, ↓reduceIte, Nat.reduceLT, Nat.reduceAdd, Nat.reduceSub, C3_ty, ty3, ty9, ty47, Tryz.ntmps110, Cl_2c (C := C3) (g := 133) rfl rfl, beqD, Nat.add_assoc, eq_false k1, eq_false k2, eq_true k4]
    refine (C_without t c.path s _ ⟨_, _, _⟩ ht5 hfit.path hfit.cp ho2 (Nat.lt_of_lt_of_le hs (Nat.le_add_right _ _)) hb).mono' ?_
    rintro r st' ⟨ho', _⟩
    exact ⟨s, r, _, rfl, rfl, ho'⟩
  have k3 : c.kind = 3 := by omega
  rw [if_pos k3]
  simp only [↓bD, bL, stps, stpOf, ev, getT, setT, ofConst, AV.cells, notBad, loadObj, TI.agg, fieldAddrA, binP, binA, symA, intOp, lenA, padT, List.replicate, Option.or, ↓reduceIte, Nat.reduceLT, Nat.reduceAdd, Nat.reduceSub, C3_ty, ty3, ty35, ty47, Tryz.ntmps110, beqD, Nat.add_assoc, eq_false k1, eq_false k2, eq_true k3, eq_false k4]
  have hto0 := checkPath_zero.1 (hf1.to k3)
  refine X_loop (fun (rem : List Entry) T st1 => ∃ (k : Nat) (v : AV) (g : List Entry), getT T 45 = .int .i64 (k : Nat) ∧ t.drop k = rem ∧ k ≤ t.length ∧ getT T 8 = v ∧ OwnR 4 Entry.cells (st.c + 1) st1.h st1.c v g ∧ g.length ≤ k ∧ goesOf c n t = (goesOf c n rem).map (g ++ ·) ∧
      hget st1.h s = some (.cells (List.flatMap Entry.cells t ++ junk)) ∧ hget st1.h st.c = some (.cells [.int .i64 c.kind, .str c.path, .str c.to, .str c.text, .int .i64 c.base])) List.length
    (fun e T st1 => (e = .ret ∧ goesOf c n t = none ∧ getT T 6 = .rows true [] ∧ getT T 7 = .int .i64 2) ∨
      (e = .exit 1 ∧ ∃ (v : AV) (g : List Entry), goesOf c n t = some g ∧ g.length ≤ t.length ∧ getT T 8 = v ∧ OwnR 4 Entry.cells (st.c + 1) st1.h st1.c v g ∧ hget st1.h s = some (.cells (List.flatMap Entry.cells t ++ junk)) ∧ hget st1.h st.c = some (.cells [.int .i64 c.kind, .str c.path, .str c.to, .str c.text, .int .i64 c.base]))) t
    ⟨0, _, [], rfl, rfl, Nat.zero_le _, rfl, .inl ⟨rfl, rfl⟩, Nat.le_refl _, by cases goesOf c n t <;> rfl, by simp [hget_hput, hss', hg], by simp [hget_hput]⟩ ?_ ?_
  · rintro rem T1 st1 hF hc hb1 ⟨k, v, g, h45, hd, hkl, h8, hog, hgl, hgo, hh, hbx⟩
    have h0 := hF 0 rfl
    have h2 := hF 2 rfl
    have h4 := hF 4 rfl
    have h43 := hF 43 rfl
    have h44 := hF 44 rfl
    simp only [getT] at h0 h2 h4 h43 h44
    clear hF
    have hc1 : st.c < st1.c := by simp only at hc; omega
    have hcc : ∀ j, (st1.c + j = st.c) = False := fun j => eq_false (by omega)
    have hcc' : (st1.c = st.c) = False := eq_false (by omega)
    have hcs : ∀ j, (st1.c + j = s) = False := fun j => eq_false (by omega)
    have hcs' : (st1.c = s) = False := eq_false (by omega)
    have hbar : st1.bar = st.bar := hb1
    have hbj : ∀ j, st.bar ≤ st1.c + j := fun j => by omega
    have hbj' : st.bar ≤ st1.c := by omega
    cases rem with
    | nil =>
      have hn := drop_nil_len hd
      have hlt : ¬ (k : Int) < (t.length : Int) := by omega
      simp only [goesOf, Option.map_some, List.append_nil] at hgo
      simp only [↓bD, bL, stps, stpOf, ev, binP, binA, symA, intOp, Option.or, ↓reduceIte, reduceCtorEq, Nat.reduceEqDiff, Nat.reduceLT, h45, h44, hlt, hgo]
      exact ⟨v, g, rfl, by omega, h8, hog.up (Nat.le_add_right _ _), hh, hbx⟩
    | cons x rem =>
      obtain ⟨hx, hlt0, hd', ht'⟩ := drop_cons_get hd
      have hlt : (k : Int) < (t.length : Int) := by omega
      have hk0 : (0 : Int) ≤ (k : Int) := by omega
      have hw : IntKind.i64.wrap ((k : Int) + 1) = ((k + 1 : Nat) : Int) := by rw [Int.natCast_add]; exact wrap_i64 (by omega) (by omega)
      obtain ⟨hge, hgel⟩ := getE_flat len_entry t junk hx
      rw [List.length_append] at hgel
      have hxp := hfit.path x (List.mem_of_getElem? hx)
      have hcp2 := hfit.cp
      have hct2 := hfit.ct
      have hxok := hok x (List.mem_of_getElem? hx)
      cases q1 : within x.path c.path with
      | false =>
        rw [goesOf, if_neg (by simp [q1])] at hgo
        simp only [↓bD, bL, stps, stpOf, ev, ofConst, AV.cells, AV.one, loadObj, TI.agg, fieldAddrA, indexAddrA, binP, binA, symA, intOp, unA, storeOk, putCells, elemTI, Option.or, hputs, ↓reduceIte, Nat.reduceEqDiff, Nat.reduceLT, Nat.reduceAdd, fin, List.mapM_cons, List.mapM_nil, scalarN, plainN, hookLooks, looks1, C3_ty, ty9, ty35, ty47, ty107, Cl_hook (hk_C3_129), pureF, G_in, Nat.add_assoc, h45, h44, h43, h4, hlt, hh, hbx, hge, hgel, hw, hxp, hcp2, q1, hcc, hcs, hbar, hbj]
        exact ⟨rem, by simp, k + 1, v, g, rfl, hd', by omega, h8, (hog.put (Nat.le_add_right _ _) (Nat.le_refl _)).put (Nat.le_add_right _ _) (Nat.le_add_right _ _), by omega, hgo⟩
      | true =>
        have hmp := moved_path (n := n) q1
        have hck : checkPaths [x.path, c.path, c.to] = 0 := by simp [checkPaths, hxok, hf1.path, hf1.to k3]
        by_cases q2 : great (movedE c n x).path = true
        · rw [goesOf, if_pos q1, if_pos q2] at hgo
          have hmv : moved x.path c.path c.to = ([], 2) := by unfold moved; rw [if_neg (fun q => q hck), if_neg (by simp [q1]), if_pos (by rw [← hmp]; exact q2)]
          by_cases q3 : x.path = c.path
          · simp only [↓bD, bL, stps, stpOf, ev, ofConst, AV.cells, AV.one, loadObj, TI.agg, fieldAddrA, indexAddrA, binP, binA, symA, intOp, strOp, unA, storeOk, putCells, elemTI, Option.or, hputs, ↓reduceIte, reduceCtorEq, Nat.reduceEqDiff, Nat.reduceLT, Nat.reduceAdd, fin, List.mapM_cons, List.mapM_nil, scalarN, plainN, hookLooks, looks1, C3_ty, ty3, ty9, ty35, ty47, ty107, Cl_hook (hk_C3_129), pureF, G_in, Cl_hook (hk_C3_134), G_moved, beqD, bneD, Int.reduceEq, Nat.add_assoc, h45, h44, h43, h4, h2, hlt, hh, hbx, hge, hgel, hxp, hcp2, hct2, q1, hmv, eq_true q3, hcc, hcs, hbar, hbj, hgo]
          · simp only [↓bD, bL, stps, stpOf, ev, ofConst, AV.cells, AV.one, loadObj, TI.agg, fieldAddrA, indexAddrA, binP, binA, symA, intOp, strOp, unA, storeOk, putCells, elemTI, Option.or, hputs, ↓reduceIte, reduceCtorEq, Nat.reduceEqDiff, Nat.reduceLT, Nat.reduceAdd, fin, List.mapM_cons, List.mapM_nil, scalarN, plainN, hookLooks, looks1, C3_ty, ty9, ty35, ty47, ty107, Cl_hook (hk_C3_129), pureF, G_in, Cl_hook (hk_C3_134), G_moved, beqD, bneD, Int.reduceEq, Nat.add_assoc, h45, h44, h43, h4, hlt, hh, hbx, hge, hgel, hxp, hcp2, hct2, q1, hmv, eq_false q3, hcc, hcs, hbar, hbj, hgo]
        · rw [goesOf, if_pos q1, if_neg q2] at hgo
          have hmv : moved x.path c.path c.to = ((movedE c n x).path, 0) := by unfold moved; rw [if_neg (fun q => q hck), if_neg (by simp [q1]), if_neg (by rw [← hmp]; exact q2), hmp]
          have hgo2 : ∀ y, y = movedE c n x → goesOf c n t = (goesOf c n rem).map ((g ++ [y]) ++ ·) := fun y e => by rw [hgo, e, Option.map_map]; congr 1; funext l; simp
          have hcells : (movedE c n x).path = (movedE c n x).path := rfl
          generalize hP : (movedE c n x).path = P at hmv
          rcases hog with ⟨rfl, rfl⟩ | ⟨hne, q, rfl, hqb, hqc, hqg⟩
          · by_cases q3 : x.path = c.path
            · have hy : (⟨P, x.folder, x.text, n⟩ : Entry) = movedE c n x := by rw [← hP]; unfold movedE; rw [if_pos q3]
              simp only [↓bD, bL, stps, stpOf, ev, ofConst, AV.cells, AV.one, loadObj, TI.agg, fieldAddrA, indexAddrA, binP, binA, symA, intOp, strOp, unA, storeOk, putCells, elemTI, List.replicate, Option.or, hputs, ↓reduceIte, reduceCtorEq, Nat.reduceEqDiff, Nat.reduceLT, Nat.reduceLeDiff, Nat.reduceAdd, Nat.reduceMul, fin, List.mapM_cons, List.mapM_nil, scalarN, plainN, hookLooks, looks1, buildSliceA, fillA, appendA, elemsOf, C3_ty, ty3, ty9, ty35, ty47, ty107, Cl_hook (hk_C3_129), pureF, G_in, Cl_hook (hk_C3_134), G_moved, beqD, Nat.add_assoc, h45, h44, h43, h4, h2, h8, hlt, hh, hbx, hge, hgel, hw, hxp, hcp2, hct2, q1, hmv, eq_true q3, hcc, hcs, hbar, hbj]
              refine ⟨rem, by simp, k + 1, _, [] ++ [⟨P, x.folder, x.text, n⟩], rfl, hd', by omega, rfl, OwnR.mk' (by simp) (by omega) (by omega) (by simp) ?_, by simp, hgo2 _ hy⟩
              rw [hget_hput, if_pos rfl]; simp [Entry.cells_eq]
            · have hy : (⟨P, x.folder, x.text, x.version⟩ : Entry) = movedE c n x := by rw [← hP]; unfold movedE; rw [if_neg q3]
              simp only [↓bD, bL, stps, stpOf, ev, ofConst, AV.cells, AV.one, loadObj, TI.agg, fieldAddrA, indexAddrA, binP, binA, symA, intOp, strOp, unA, storeOk, putCells, elemTI, List.replicate, Option.or, hputs, ↓reduceIte, reduceCtorEq, Nat.reduceEqDiff, Nat.reduceLT, Nat.reduceLeDiff, Nat.reduceAdd, Nat.reduceMul, fin, List.mapM_cons, List.mapM_nil, scalarN, plainN, hookLooks, looks1, buildSliceA, fillA, appendA, elemsOf, C3_ty, ty9, ty35, ty47, ty107, Cl_hook (hk_C3_129), pureF, G_in, Cl_hook (hk_C3_134), G_moved, beqD, Nat.add_assoc, h45, h44, h43, h4, h8, hlt, hh, hbx, hge, hgel, hw, hxp, hcp2, hct2, q1, hmv, eq_false q3, hcc, hcs, hbar, hbj]
              refine ⟨rem, by simp, k + 1, _, [] ++ [⟨P, x.folder, x.text, x.version⟩], rfl, hd', by omega, rfl, OwnR.mk' (by simp) (by omega) (by omega) (by simp) ?_, by simp, hgo2 _ hy⟩
              rw [hget_hput, if_pos rfl]; simp [Entry.cells_eq]
          · have hqn : ∀ j, (st1.c + j = q) = False := fun j => eq_false (by omega)
            have hqs : (q = s) = False := eq_false (by omega)
            have hqs2 : (q = st.c) = False := eq_false (by omega)
            have hbq : st.bar ≤ q := by omega
            have hb1 : (g.length + 1) * 48 ≤ 140737488355328 := by omega
            have hb2 : g.length ≤ 9223372036854775806 := by omega
            have hgfl : g.length * 4 = (List.flatMap Entry.cells g).length := (flat_len (f := Entry.cells) (w := 4) len_entry g).symm
            by_cases q3 : x.path = c.path
            · have hy : (⟨P, x.folder, x.text, n⟩ : Entry) = movedE c n x := by rw [← hP]; unfold movedE; rw [if_pos q3]
              simp only [↓bD, bL, stps, stpOf, ev, ofConst, AV.cells, AV.one, loadObj, TI.agg, fieldAddrA, indexAddrA, binP, binA, symA, intOp, strOp, unA, storeOk, putCells, elemTI, List.replicate, Option.or, hputs, ↓reduceIte, reduceCtorEq, Nat.reduceEqDiff, Nat.reduceLT, Nat.reduceLeDiff, Nat.reduceAdd, Nat.reduceMul, fin, List.mapM_cons, List.mapM_nil, scalarN, plainN, hookLooks, looks1, buildSliceA, fillA, appendA, elemsOf, C3_ty, ty3, ty9, ty35, ty47, ty107, Cl_hook (hk_C3_129), pureF, G_in, Cl_hook (hk_C3_134), G_moved, beqD, Nat.add_assoc, h45, h44, h43, h4, h2, h8, hlt, hh, hbx, hge, hgel, hw, hxp, hcp2, hct2, q1, hmv, eq_true q3, hcc, hcs, hbar, hbj, hqn, hqs, hqs2, hbq, hqg, hb1, hb2, eq_true hgfl]
              refine ⟨rem, by simp, k + 1, _, g ++ [⟨P, x.folder, x.text, n⟩], rfl, hd', by omega, rfl, OwnR.mk' (by simp) (by omega) (by omega) (by simp) ?_, by simp; omega, hgo2 _ hy⟩
              rw [hget_hput, if_pos rfl]; simp [Entry.cells_eq]
            · have hy : (⟨P, x.folder, x.text, x.version⟩ : Entry) = movedE c n x := by rw [← hP]; unfold movedE; rw [if_neg q3]
              simp only [↓bD, bL, stps, stpOf, ev, ofConst, AV.cells, AV.one, loadObj, TI.agg, fieldAddrA, indexAddrA, binP, binA, symA, intOp, strOp, unA, storeOk, putCells, elemTI, List.replicate, Option.or, hputs, ↓reduceIte, reduceCtorEq, Nat.reduceEqDiff, Nat.reduceLT, Nat.reduceLeDiff, Nat.reduceAdd, Nat.reduceMul, fin, List.mapM_cons, List.mapM_nil, scalarN, plainN, hookLooks, looks1, buildSliceA, fillA, appendA, elemsOf, C3_ty, ty9, ty35, ty47, ty107, Cl_hook (hk_C3_129), pureF, G_in, Cl_hook (hk_C3_134), G_moved, beqD, Nat.add_assoc, h45, h44, h43, h4, h8, hlt, hh, hbx, hge, hgel, hw, hxp, hcp2, hct2, q1, hmv, eq_false q3, hcc, hcs, hbar, hbj, hqn, hqs, hqs2, hbq, hqg, hb1, hb2, eq_true hgfl]
              refine ⟨rem, by simp, k + 1, _, g ++ [⟨P, x.folder, x.text, x.version⟩], rfl, hd', by omega, rfl, OwnR.mk' (by simp) (by omega) (by omega) (by simp) ?_, by simp; omega, hgo2 _ hy⟩
              rw [hget_hput, if_pos rfl]; simp [Entry.cells_eq]
  · rw [moveAll_goes]
    rintro e T1 st1 he hF hc hb1 (⟨rfl, hgn, h6, h7⟩ | ⟨rfl, v, g, hgo, hgl, h8, hog, hh, hbx⟩)
    · rw [hgn]
      simp only [↓bD, bL, resA, Tryz.results110, h6, h7, dnQ]
      exact ⟨.rows true [], rfl, rfl⟩
    · rw [hgo]
      have h0 := hF 0 rfl
      have h2 := hF 2 rfl
      have h4 := hF 4 rfl
      simp only [getT] at h0 h2 h4
      clear hF
      have hc1 : st.c < st1.c := by simp only at hc; omega
      have hbar : st1.bar = st.bar := hb1
      have hcp2 := hfit.cp
      have ho3 : OwnS 4 Entry.cells s st1.h (.osl 4 s 0 t.length cp) t := ⟨cp, junk, rfl, hcp, hh⟩
      have hafl : Asc (t.filter fun x => !within x.path c.path) := asc_filter ha _
      have hfl0 : (t.filter fun x => !within x.path c.path).length ≤ t.length := List.length_filter_le _ _
      rcases hog with ⟨rfl, rfl⟩ | ⟨hne, q, rfl, hqb, hqc, hqg⟩
      · simp only [↓bD, bL, stps, stpOf, ev, ofConst, loadObj, TI.agg, fieldAddrA, lenA, ↓reduceIte, reduceCtorEq, Nat.reduceEqDiff, Nat.reduceLT, Nat.reduceAdd, C3_ty, ty9, ty35, ty47, Tryz.ntmps110, Cl_2c (C := C3) (g := 133) rfl rfl, Int.cast_ofNat_Int, Nat.add_assoc, h0, h4, h8, hbx]
        refine (C_without t c.path s _ ⟨st1.h, st1.c + 5, st1.bar⟩ ht5 hfit.path hcp2 ho3 (by simp only; omega) (by simp only; omega)).mono' ?_
        rintro r st2 ⟨ho4, hkeep⟩
        refine (Ex_loop.2 (?_ : X _ _ _ _ _ (Q := ⟨_⟩)))
        simp only [↓bD, bL, stps, stpOf, ev, binP, binA, symA, intOp, Option.or, ↓reduceIte, reduceCtorEq, Nat.reduceEqDiff, Nat.reduceLT, Nat.reduceAdd, Int.lt_irrefl, Nat.add_assoc]
        exact ⟨s, r, _, rfl, rfl, ho4⟩
      · simp only [↓bD, bL, stps, stpOf, ev, ofConst, loadObj, TI.agg, fieldAddrA, lenA, ↓reduceIte, reduceCtorEq, Nat.reduceEqDiff, Nat.reduceLT, Nat.reduceAdd, C3_ty, ty9, ty35, ty47, Tryz.ntmps110, Cl_2c (C := C3) (g := 133) rfl rfl, Nat.add_assoc, h0, h4, h8, hbx]
        refine (C_without t c.path s _ ⟨st1.h, st1.c + 5, st1.bar⟩ ht5 hfit.path hcp2 ho3 (by simp only; omega) (by simp only; omega)).mono' ?_
        rintro r st2 ⟨ho4, hkeep⟩
        have hkc := hkeep.c
        have hkb := hkeep.bar
        have hqg2 : hget st2.h q = some (.cells (List.flatMap Entry.cells g)) := (hkeep.k q (by simp only; omega) (by omega)).trans hqg
        simp only at hkc hkb
        refine X_loop (fun (rem : List Entry) T st3 => ∃ (k : Nat) (v : AV) (s' : Nat) (o : List Entry), getT T 88 = .int .i64 (k : Nat) ∧ g.drop k = rem ∧ k ≤ g.length ∧ getT T 0 = v ∧ OwnS 4 Entry.cells s' st3.h v o ∧ s' < st3.c ∧ st.bar ≤ s' ∧ s' ≠ q ∧ Asc o ∧ o.length ≤ t.length + k ∧
            hget st3.h q = some (.cells (List.flatMap Entry.cells g)) ∧ rem.foldl (fun o e => putE e o) o = g.foldl (fun o e => putE e o) (t.filter fun x => !within x.path c.path)) List.length
          (fun e T st3 => e = .exit 3 ∧ ∃ (v : AV) (s' : Nat), getT T 0 = v ∧ OwnS 4 Entry.cells s' st3.h v (g.foldl (fun o e => putE e o) (t.filter fun x => !within x.path c.path))) g
          ⟨0, r, s, _, by simp [getT_setT], rfl, Nat.zero_le _, by simp [getT_setT], ho4, by simp only; omega, hb, by omega, hafl, by omega, hqg2, rfl⟩ ?_ ?_
        · rintro rem T3 st3 hF hc3 hb3 ⟨k, v, s', o, h88, hd, hkl, h0', ho5, hsc5, hsb5, hsq5, has5, hol5, hqg5, hfold⟩
          have h86 := hF 86 rfl
          have h87 := hF 87 rfl
          simp only [getT_setT, Nat.reduceEqDiff, if_false, if_true] at h86 h87
          clear hF
          have hc4 : st.c < st3.c := by simp only at hc3; omega
          have hqc3 : q < st3.c := by simp only at hc3; omega
          have hbar3 : st3.bar = st.bar := by rw [hb3]; exact hkb.trans hbar
          cases rem with
          | nil =>
            have hn := drop_nil_len hd
            have hlt : ¬ (k : Int) < (g.length : Int) := by omega
            simp only [↓bD, bL, stps, stpOf, ev, binP, binA, symA, intOp, Option.or, ↓reduceIte, reduceCtorEq, Nat.reduceLT, h88, h87, hlt]
            rw [← hfold]
            exact ⟨v, s', h0', ho5⟩
          | cons x rem =>
            obtain ⟨hx, hlt0, hd', ht'⟩ := drop_cons_get hd
            have hlt : (k : Int) < (g.length : Int) := by omega
            have hk0 : (0 : Int) ≤ (k : Int) := by omega
            have hw : IntKind.i64.wrap ((k : Int) + 1) = ((k + 1 : Nat) : Int) := by rw [Int.natCast_add]; exact wrap_i64 (by omega) (by omega)
            obtain ⟨hge, hgel⟩ := getE_flat len_entry g [] hx
            rw [List.append_nil] at hge hgel
            have hqn : ∀ j, (st3.c + j = q) = False := fun j => eq_false (by omega)
            have hbj : ∀ j, st.bar ≤ st3.c + j := fun j => by omega
            have ho6 : ∀ j X Y, OwnS 4 Entry.cells s' (hput (hput st3.h (st3.c + j) X) (st3.c + j) Y) v o := fun j X Y => by
              obtain ⟨cp', junk', e1, e2, e3⟩ := ho5
              exact ⟨cp', junk', e1, e2, by rw [hget_hput, if_neg (by omega), hget_hput, if_neg (by omega)]; exact e3⟩
            simp only [↓bD, bL, stps, stpOf, ev, ofConst, AV.cells, AV.one, loadObj, TI.agg, indexAddrA, binP, binA, symA, intOp, storeOk, putCells, elemTI, Option.or, ↓reduceIte, reduceCtorEq, Nat.reduceEqDiff, Nat.reduceLT, Nat.reduceAdd, C3_ty, ty35, ty107, Cl_2c (C := C3) (g := 132) rfl rfl, Nat.add_assoc, h88, h87, h86, h0', hlt, hqg5, hge, hgel, hw, hbar3, hbj]
            refine (C_put o x s' v ⟨_, st3.c + 9, st.bar⟩ (by omega) has5 (ho6 3 _ _) (by simp only; omega) hsb5).mono' ?_
            rintro r' st4 ⟨s2, ho7, hs2, hs2c, hk7⟩
            have hpl := putE_len x o
            simp only at hs2
            have hk7k := hk7.k q (by simp only; omega) (fun w => hsq5 w.symm)
            simp only at hk7k
            refine ⟨rem, by simp, k + 1, r', s2, putE x o, rfl, hd', by omega, rfl, ho7, by omega, by omega, by omega, putE_asc has5, by omega, ?_, hfold⟩
            rw [hk7k, hget_hput, if_neg (by omega), hget_hput, if_neg (by omega)]
            exact hqg5
        · rintro e T3 st3 he3 hF hc3 hb3 ⟨rfl, v, s', h0', ho5⟩
          simp only [↓kseq_normal, ↓kblock_normal, ↓kblock_exit, Option.map_some, ↓reduceIte, h0']
          exact ⟨s', v, _, rfl, rfl, ho5⟩
end Go.Ab.Seat
/- tree.may. -/
namespace Go.Ab.Seat
open Go Go.Proofs
-- CFG C3
set_option linter.unusedSimpArgs false
set_option linter.unusedVariables false
set_option maxHeartbeats 4000000
set_option maxRecDepth 100000

def mayJ (t : List Entry) (c : Change) (T : List AV) (st : St) : Prop :=
  getT T 0 = .rows false (t.map Entry.cells) ∧ getT T 3 = .ptr 0 0 ∧ hget st.h 0 = some (.cells [.int .i64 c.kind, .str c.path, .str c.to, .str c.text, .int .i64 c.base]) ∧ 0 < st.c ∧ st.bar = 0
def mayQ (r : Int) : KE := endW C3 Tryz.f109.results.toList fun r1 st' => fin st'.h 0 false 8 r1 = some (.int .i64 r)

theorem may_tail (t : List Entry) (c : Change) (T : List AV) (st : St) (hfit : Fit3 t c) (hJ : mayJ t c T st) (hb1 : -1 ≤ c.base) :
    X C3 Tryz.f109.ntmps (restC 7 (bodyC Tryz.f109)) T st (Q := ⟨mayQ (if 0 ≤ c.base ∧ t.any (fun x => within x.path c.path && decide (c.base < x.version)) = true then 8 else 0)⟩) := by
  obtain ⟨j0, j3, jh, jc, jb⟩ := hJ
  have htl := hfit.len
  have hcp2 := hfit.cp
  refine (?_ : X C3 Tryz.f109.ntmps (.seq _ (.seq _ (.seq _ .ret))) T st (Q := ⟨mayQ _⟩))
  by_cases hbase : c.base = -1
  · rw [if_neg (by omega)]
    simp only [↓bD, bL, stps, stpOf, ev, ofConst, loadObj, TI.agg, fieldAddrA, binP, binA, symA, intOp, resA, Option.or, ↓reduceIte, Nat.reduceEqDiff, Nat.reduceLT, Nat.reduceAdd, fin, C3_ty, ty3, ty47, Tryz.ntmps109, Tryz.results109, bneD, Int.reduceNeg, Nat.add_assoc, j3, jh, jb, eq_true hbase, mayQ]
  have h0b : 0 ≤ c.base := by omega
  have hc00 : ∀ j, (st.c + j = 0) = False := fun j => eq_false (by omega)
  simp only [↓bD, bL, stps, stpOf, ev, getT, setT, ofConst, loadObj, TI.agg, fieldAddrA, binP, binA, symA, intOp, lenA, padT, List.replicate, Option.or, ↓reduceIte, reduceCtorEq, Nat.reduceEqDiff, Nat.reduceLT, Nat.reduceAdd, Nat.reduceSub, C3_ty, ty3, ty35, ty47, Tryz.ntmps109, Cl_0 (C := C3) (g := 131) (fn := Tryz.f131) rfl (fnBy_of Tryz.func131 rfl) rfl rfl, Tryz.ntmps131, Cl_0 (C := C3) (g := 144) (fn := Tryz.f144) rfl (fnBy_of Tryz.func144 rfl) rfl rfl, Tryz.ntmps144, bneD, Int.reduceNeg, Nat.add_assoc, j0, j3, jh, jb, eq_false hbase]
  refine X_loop (fun (rem : List Entry) T st1 => ∃ k : Nat, getT T 8 = .int .i64 (k : Nat) ∧ t.drop k = rem ∧ (t.take k).any (fun x => within x.path c.path && decide (c.base < x.version)) = false ∧ hget st1.h 0 = some (.cells [.int .i64 c.kind, .str c.path, .str c.to, .str c.text, .int .i64 c.base])) List.length
    (fun e T st1 => (e = .ret ∧ ∃ i : Nat, getT T 4 = .int .i64 (i : Nat) ∧ t.any (fun x => within x.path c.path && decide (c.base < x.version)) = true) ∨ (e = .exit 0 ∧ t.any (fun x => within x.path c.path && decide (c.base < x.version)) = false)) t ⟨0, rfl, rfl, by simp, jh⟩ ?_ ?_
  · rintro rem T1 st1 hF hc hb ⟨k, hk, hd, hz, hbx⟩
    have h0 := hF 0 rfl
    have h1 := hF 1 rfl
    have h7 := hF 7 rfl
    simp only [getT] at h0 h1 h7
    clear hF
    have hcc : ∀ j, (st1.c + j = 0) = False := fun j => eq_false (by simp only at hc; omega)
    have hcc' : (st1.c = 0) = False := eq_false (by simp only at hc; omega)
    cases rem with
    | nil =>
      have hn := drop_nil_len hd
      have hlt : ¬ (k : Int) < (t.length : Int) := by omega
      rw [List.take_of_length_le hn] at hz
      simp only [↓bD, bL, stps, stpOf, ev, binP, binA, symA, intOp, Option.or, ↓reduceIte, reduceCtorEq, Nat.reduceEqDiff, Nat.reduceLT, hk, h7, hlt, hz]
    | cons x rem =>
      obtain ⟨hx, hlt0, hd', ht'⟩ := drop_cons_get hd
      have hlt : (k : Int) < (t.length : Int) := by omega
      have hw : IntKind.i64.wrap ((k : Int) + 1) = ((k + 1 : Nat) : Int) := by rw [Int.natCast_add]; exact wrap_i64 (by omega) (by omega)
      have hxp := hfit.path x (List.mem_of_getElem? hx)
      have hk0 : (0 : Int) ≤ (k : Int) := by omega
      by_cases q2 : c.base < x.version
      · cases q1 : within x.path c.path with
        | true =>
          have ha : t.any (fun x => within x.path c.path && decide (c.base < x.version)) = true := List.any_eq_true.2 ⟨x, List.mem_of_getElem? hx, by simp [q1, q2]⟩
          simp only [↓bD, bL, stps, stpOf, ev, getT, setT, ofConst, AV.cells, notBad, loadObj, TI.agg, fieldAddrA, indexAddrA, binP, binA, symA, intOp, elemTI, resA, padT, List.replicate, Option.or, hputs, ↓reduceIte, reduceCtorEq, Nat.reduceEqDiff, Nat.reduceLT, Nat.reduceAdd, Nat.reduceSub, fin, List.mapM_cons, List.mapM_nil, scalarN, plainN, hookLooks, looks1, C3_ty, ty3, ty9, ty35, ty47, ty107, pureF, Cl_hook (hk_C3_129), G_in, Cl_0 (C := C3) (g := 130) (fn := Tryz.f130) rfl (fnBy_of Tryz.func130 rfl) rfl rfl, Tryz.ntmps130, Tryz.results130, Nat.add_assoc, hk, h0, h1, h7, hlt, hx, hbx, hcp2, hxp, q1, eq_true q2, hcc, ha]
          exact ⟨k, rfl⟩
        | false =>
          have hs : (t.take (k + 1)).any (fun x => within x.path c.path && decide (c.base < x.version)) = false := by rw [ht', List.any_append, hz]; simp [q1]
          simp only [↓bD, bL, stps, stpOf, ev, getT, setT, ofConst, AV.cells, notBad, loadObj, TI.agg, fieldAddrA, indexAddrA, binP, binA, symA, intOp, elemTI, resA, padT, List.replicate, Option.or, hputs, ↓reduceIte, reduceCtorEq, Nat.reduceEqDiff, Nat.reduceLT, Nat.reduceAdd, Nat.reduceSub, fin, List.mapM_cons, List.mapM_nil, scalarN, plainN, hookLooks, looks1, C3_ty, ty3, ty9, ty35, ty47, ty107, pureF, Cl_hook (hk_C3_129), G_in, Cl_0 (C := C3) (g := 130) (fn := Tryz.f130) rfl (fnBy_of Tryz.func130 rfl) rfl rfl, Tryz.ntmps130, Tryz.results130, Nat.add_assoc, hk, h0, h1, h7, hlt, hx, hw, hbx, hcp2, hxp, q1, eq_true q2, hcc]
          exact ⟨rem, by simp, k + 1, rfl, hd', hs⟩
      · have hs : (t.take (k + 1)).any (fun x => within x.path c.path && decide (c.base < x.version)) = false := by rw [ht', List.any_append, hz]; simp [q2]
        simp only [↓bD, bL, stps, stpOf, ev, getT, setT, ofConst, AV.cells, notBad, loadObj, TI.agg, fieldAddrA, indexAddrA, binP, binA, symA, intOp, elemTI, resA, padT, List.replicate, Option.or, ↓reduceIte, reduceCtorEq, Nat.reduceEqDiff, Nat.reduceLT, Nat.reduceAdd, Nat.reduceSub, fin, C3_ty, ty3, ty35, ty47, ty107, Cl_0 (C := C3) (g := 130) (fn := Tryz.f130) rfl (fnBy_of Tryz.func130 rfl) rfl rfl, Tryz.ntmps130, Tryz.results130, Nat.add_assoc, hk, h0, h1, h7, hlt, hx, hw, hbx, eq_false q2, hcc]
        exact ⟨rem, by simp, k + 1, rfl, hd', hs⟩
  · rintro e T1 st1 he hF hc hb (⟨rfl, i, h4, ha⟩ | ⟨rfl, ha⟩)
    · rw [if_pos ⟨h0b, ha⟩]
      have hi : (0 : Int) ≤ (i : Int) := by omega
      simp only [↓bD, bL, stps, stpOf, ev, getT, setT, ofConst, binP, binA, symA, intOp, resA, Option.or, ↓reduceIte, Nat.reduceEqDiff, Nat.reduceLT, Nat.reduceAdd, fin, Tryz.ntmps109, Tryz.results109, Tryz.results131, Tryz.results144, Nat.add_assoc, h4, hi, mayQ]
    · rw [if_neg (fun q => by rw [ha] at q; cases q.2)]
      simp only [↓bD, bL, stps, stpOf, ev, getT, setT, ofConst, binP, binA, symA, intOp, resA, Option.or, ↓reduceIte, Nat.reduceEqDiff, Nat.reduceLT, Nat.reduceAdd, fin, Tryz.ntmps109, Tryz.results109, Tryz.results131, Tryz.ntmps144, Tryz.results144, Int.reduceLE, Int.reduceNeg, Nat.add_assoc, mayQ]
end Go.Ab.Seat
namespace Go.Ab.Seat
open Go Go.Proofs
set_option linter.unusedSimpArgs false
set_option linter.unusedVariables false
set_option maxHeartbeats 4000000
set_option maxRecDepth 100000

theorem at_entry {t : List Entry} (ha : Asc t) (q : Str) : (bsF (fun x : Entry => cmpS x.path q) t = false ∧ entryAt t q < 0) ∨
    (bsF (fun x : Entry => cmpS x.path q) t = true ∧ ∃ x, t[bsI (fun x : Entry => cmpS x.path q) t]? = some x ∧ entryAt t q = (bsI (fun x : Entry => cmpS x.path q) t : Int) ∧ x.path = q) := by
  rcases asc_find ((asc_iff t).2 ha) q with ⟨h1, h2⟩ | ⟨k, x, h1, h2, h3, h4⟩
  · left
    rcases bsF_find (fun x : Entry => cmpS x.path q) t with ⟨hf, x, hx, hb⟩ | ⟨hf, hb⟩
    · rw [h2] at hb; cases hb
    · exact ⟨hf, h1⟩
  · right
    rcases bsF_find (fun x : Entry => cmpS x.path q) t with ⟨hf, y, hy, hb⟩ | ⟨hf, hb⟩
    · rw [h4] at hb
      obtain rfl := Option.some.inj hb
      refine ⟨hf, x, hy, ?_, h3⟩
      rw [h1]
      obtain ⟨k1, e1⟩ := List.getElem?_eq_some_iff.1 h2
      obtain ⟨k2, e2⟩ := List.getElem?_eq_some_iff.1 hy
      unfold Asc at ha
      rw [List.pairwise_iff_getElem] at ha
      rcases Nat.lt_trichotomy k (bsI (fun x : Entry => cmpS x.path q) t) with h | h | h
      · exact absurd (ha _ _ k1 k2 h) (by rw [e1, e2]; exact List.lt_irrefl _)
      · rw [h]
      · exact absurd (ha _ _ k2 k1 h) (by rw [e1, e2]; exact List.lt_irrefl _)
    · rw [h4] at hb; cases hb

-- REG tree.may G_may
theorem R_may (t : List Entry) (c : Change) (hfit : Fit3 t c) (ha : Asc t) (hf : changeForm c = 0) : Run3 C3 Tryz.f109 [.rows false (t.map Entry.cells), .agg [.int .i64 c.kind, .str c.path, .str c.to, .str c.text, .int .i64 c.base]] (.int .i64 (changeErr t c)) := by
  have hok := form_ok hf
  have hk1 := hok.k1
  have hk4 := hok.k4
  have htl := hfit.len
  have hcp2 := hfit.cp
  have hct2 := hfit.ct
  have hasc := (asc_iff t).2 ha
  have hat := G_at t c.path (by omega) (asc_mono hasc c.path)
  have hat2 := G_at t c.to (by omega) (asc_mono hasc c.to)
  have hfp := folder_parent hasc (if c.kind = 3 then c.to else c.path)
  have hG := G_parent t (if c.kind = 3 then c.to else c.path) (by omega) (by split <;> omega) (asc_mono hasc _)
  have he1 := at_entry ha c.path
  have he2 := at_entry ha c.to
  generalize parentE t (if c.kind = 3 then c.to else c.path) = pe at hfp hG
  obtain ⟨pe, pb⟩ := pe
  simp only at hfp hG
  rw [Entry.cells_eq] at hG
  generalize hi1 : bsI (fun x : Entry => cmpS x.path c.path) t = i1 at hat he1
  generalize hb1 : bsF (fun x : Entry => cmpS x.path c.path) t = b1 at hat he1
  generalize hi2 : bsI (fun x : Entry => cmpS x.path c.to) t = i2 at hat2 he2
  generalize hb2 : bsF (fun x : Entry => cmpS x.path c.to) t = b2 at hat2 he2
  refine Run3.mk (fn := Tryz.f109) rfl ?_
  refine (?_ : X C3 Tryz.f109.ntmps (.seq _ (.seq _ (.seq _ (.seq _ (.seq _ (.seq _ (.seq _ (restC 7 (bodyC Tryz.f109))))))))) _ _ (Q := ⟨mayQ (changeErr t c)⟩))
  rw [X_assoc, X_assoc, X_assoc, X_assoc, X_assoc, X_assoc]
  have tail : changeErr t c = (if 0 ≤ c.base ∧ t.any (fun x => within x.path c.path && decide (c.base < x.version)) = true then 8 else 0) → ∀ T st, mayJ t c T st → X C3 Tryz.f109.ntmps (restC 7 (bodyC Tryz.f109)) T st (Q := ⟨mayQ (changeErr t c)⟩) := fun e T st hJ => by
    rw [e]; exact may_tail t c T st hfit hJ hok.base0
  refine X_cut (fun T st => changeErr t c = (if 0 ≤ c.base ∧ t.any (fun x => within x.path c.path && decide (c.base < x.version)) = true then 8 else 0) ∧ mayJ t c T st) ?_ fun T st _ _ _ h => tail h.1 T st h.2
  clear tail
  cases pb with
  | false =>
    have he : changeErr t c = 5 := by
      unfold changeErr; rw [hfp]; rfl
    rw [he]
    by_cases k3 : c.kind = 3
    · rw [if_pos k3] at hG
      simp only [↓bD, bL, stps, stpOf, ev, getT, setT, ofConst, AV.cells, notBad, AV.one, loadObj, TI.agg, fieldAddrA, binP, binA, symA, intOp, unA, storeOk, putCells, resA, padT, List.replicate, Option.or, hputs, ↓reduceIte, Nat.reduceLT, Nat.reduceAdd, Nat.reduceSub, fin, List.mapM_cons, List.mapM_nil, scalarN, plainN, hookLooks, looks1, C3_ty, ty3, ty9, ty47, ty107, Tryz.ntmps109, Tryz.results109, Cl_hook (hk_C3_126), pureF, beqD, eq_true k3, hG, mayQ]
    · rw [if_neg k3] at hG
      simp only [↓bD, bL, stps, stpOf, ev, getT, setT, ofConst, AV.cells, notBad, AV.one, loadObj, TI.agg, fieldAddrA, binP, binA, symA, intOp, unA, storeOk, putCells, resA, padT, List.replicate, Option.or, hputs, ↓reduceIte, Nat.reduceLT, Nat.reduceAdd, Nat.reduceSub, fin, List.mapM_cons, List.mapM_nil, scalarN, plainN, hookLooks, looks1, C3_ty, ty3, ty9, ty47, ty107, Tryz.ntmps109, Tryz.results109, Cl_hook (hk_C3_126), pureF, beqD, eq_false k3, hG, mayQ]
  | true =>
  cases hpf : pe.folder with
  | false =>
    have he : changeErr t c = 4 := by
      unfold changeErr; rw [hfp, hpf]; rfl
    rw [he]
    by_cases k3 : c.kind = 3
    · rw [if_pos k3] at hG
      simp only [↓bD, bL, stps, stpOf, ev, getT, setT, ofConst, AV.cells, notBad, AV.one, loadObj, TI.agg, fieldAddrA, binP, binA, symA, intOp, unA, storeOk, putCells, resA, padT, List.replicate, Option.or, hputs, ↓reduceIte, Nat.reduceLT, Nat.reduceAdd, Nat.reduceSub, fin, List.mapM_cons, List.mapM_nil, scalarN, plainN, hookLooks, looks1, C3_ty, ty3, ty4, ty9, ty47, ty107, Tryz.ntmps109, Tryz.results109, Cl_hook (hk_C3_126), pureF, beqD, eq_true k3, hG, hpf, mayQ]
    · rw [if_neg k3] at hG
      simp only [↓bD, bL, stps, stpOf, ev, getT, setT, ofConst, AV.cells, notBad, AV.one, loadObj, TI.agg, fieldAddrA, binP, binA, symA, intOp, unA, storeOk, putCells, resA, padT, List.replicate, Option.or, hputs, ↓reduceIte, Nat.reduceLT, Nat.reduceAdd, Nat.reduceSub, fin, List.mapM_cons, List.mapM_nil, scalarN, plainN, hookLooks, looks1, C3_ty, ty3, ty4, ty9, ty47, ty107, Tryz.ntmps109, Tryz.results109, Cl_hook (hk_C3_126), pureF, beqD, eq_false k3, hG, hpf, mayQ]
  | true =>
  have hz : folderE t (parentOf (if c.kind = 3 then c.to else c.path)) = 0 := by rw [hfp, hpf]; rfl
  have hz' : ¬ folderE t (parentOf (if c.kind = 3 then c.to else c.path)) ≠ 0 := fun q => q hz
  by_cases k1 : c.kind = 1
  · have k2 : ¬ c.kind = 2 := by omega
    have k3 : ¬ c.kind = 3 := by omega
    have n3 : ¬ 3 ≤ c.kind := by omega
    rw [if_neg k3] at hG
    rcases he1 with ⟨rfl, hen⟩ | ⟨rfl, x, hx, hen, hxp⟩
    · have he : changeErr t c = (if 0 ≤ c.base ∧ t.any (fun x => within x.path c.path && decide (c.base < x.version)) = true then 8 else 0) := by
        unfold changeErr
        rw [if_neg hz', if_neg (by omega), if_neg (fun q => k2 q.1), if_neg (fun q => n3 q.1), if_neg (fun q => k3 q.1), if_neg (fun q => k3 q.1)]
      simp only [↓bD, bL, stps, stpOf, ev, getT, setT, ofConst, AV.cells, notBad, AV.one, loadObj, TI.agg, fieldAddrA, binP, binA, symA, intOp, unA, storeOk, putCells, padT, List.replicate, Option.or, hputs, ↓reduceIte, reduceCtorEq, Nat.reduceLT, Nat.reduceAdd, Nat.reduceSub, fin, List.mapM_cons, List.mapM_nil, scalarN, plainN, hookLooks, looks1, C3_ty, ty3, ty4, ty9, ty47, ty107, Tryz.ntmps109, Cl_hook (hk_C3_126), pureF, Cl_hook (hk_C3_128), beqD, eq_true k1, eq_false k3, hG, hpf, hat, he, mayJ]
    · have he : changeErr t c = 6 := by unfold changeErr; rw [if_neg hz', if_pos ⟨k1, by omega⟩]
      rw [he]
      simp only [↓bD, bL, stps, stpOf, ev, getT, setT, ofConst, AV.cells, notBad, AV.one, loadObj, TI.agg, fieldAddrA, binP, binA, symA, intOp, unA, storeOk, putCells, resA, padT, List.replicate, Option.or, hputs, ↓reduceIte, reduceCtorEq, Nat.reduceLT, Nat.reduceAdd, Nat.reduceSub, fin, List.mapM_cons, List.mapM_nil, scalarN, plainN, hookLooks, looks1, C3_ty, ty3, ty4, ty9, ty47, ty107, Tryz.ntmps109, Tryz.results109, Cl_hook (hk_C3_126), pureF, Cl_hook (hk_C3_128), beqD, eq_true k1, eq_false k3, hG, hpf, hat, mayQ]
  by_cases k2 : c.kind = 2
  · have k3 : ¬ c.kind = 3 := by omega
    have n3 : ¬ 3 ≤ c.kind := by omega
    rw [if_neg k3] at hG
    have he0 : ¬ (c.kind = 2 ∧ 0 ≤ entryAt t c.path ∧ (∃ x, t[(entryAt t c.path).toNat]? = some x ∧ x.folder = true)) → changeErr t c = (if 0 ≤ c.base ∧ t.any (fun x => within x.path c.path && decide (c.base < x.version)) = true then 8 else 0) := fun w => by
      unfold changeErr
      rw [if_neg hz', if_neg (fun q => k1 q.1), if_neg w, if_neg (fun q => n3 q.1), if_neg (fun q => k3 q.1), if_neg (fun q => k3 q.1)]
    rcases he1 with ⟨rfl, hen⟩ | ⟨rfl, x, hx, hen, hxp⟩
    · have he := he0 (by omega)
      simp only [↓bD, bL, stps, stpOf, ev, getT, setT, ofConst, AV.cells, notBad, AV.one, loadObj, TI.agg, fieldAddrA, binP, binA, symA, intOp, unA, storeOk, putCells, padT, List.replicate, Option.or, hputs, ↓reduceIte, reduceCtorEq, Nat.reduceLT, Nat.reduceAdd, Nat.reduceSub, fin, List.mapM_cons, List.mapM_nil, scalarN, plainN, hookLooks, looks1, C3_ty, ty3, ty4, ty9, ty47, ty107, Tryz.ntmps109, Cl_hook (hk_C3_126), pureF, Cl_hook (hk_C3_128), beqD, eq_false k1, eq_true k2, eq_false k3, hG, hpf, hat, he, mayJ]
    · have hlt : (i1 : Int) < (t.length : Int) := by have := (List.getElem?_eq_some_iff.1 hx).1; omega
      have h0i : (0 : Int) ≤ (i1 : Int) := by omega
      cases hxf : x.folder with
      | false =>
        have he := he0 (fun ⟨_, _, y, hy, hyf⟩ => by rw [hen, Int.toNat_natCast, hx] at hy; obtain rfl := Option.some.inj hy; rw [hxf] at hyf; cases hyf)
        simp only [↓bD, bL, stps, stpOf, ev, getT, setT, ofConst, AV.cells, notBad, AV.one, loadObj, TI.agg, fieldAddrA, indexAddrA, binP, binA, symA, intOp, unA, storeOk, putCells, elemTI, padT, List.replicate, Option.or, hputs, ↓reduceIte, reduceCtorEq, Nat.reduceLT, Nat.reduceAdd, Nat.reduceSub, fin, List.mapM_cons, List.mapM_nil, scalarN, plainN, hookLooks, looks1, C3_ty, ty3, ty4, ty9, ty35, ty47, ty107, Tryz.ntmps109, Cl_hook (hk_C3_126), pureF, Cl_hook (hk_C3_128), beqD, eq_false k1, eq_true k2, eq_false k3, hG, hpf, hat, hx, hxf, hlt, h0i, he, mayJ]
      | true =>
        have he : changeErr t c = 4 := by unfold changeErr; rw [if_neg hz', if_neg (fun q => k1 q.1), if_pos ⟨k2, by omega, x, by rw [hen, Int.toNat_natCast]; exact hx, hxf⟩]
        rw [he]
        simp only [↓bD, bL, stps, stpOf, ev, getT, setT, ofConst, AV.cells, notBad, AV.one, loadObj, TI.agg, fieldAddrA, indexAddrA, binP, binA, symA, intOp, unA, storeOk, putCells, elemTI, resA, padT, List.replicate, Option.or, hputs, ↓reduceIte, reduceCtorEq, Nat.reduceLT, Nat.reduceAdd, Nat.reduceSub, fin, List.mapM_cons, List.mapM_nil, scalarN, plainN, hookLooks, looks1, C3_ty, ty3, ty4, ty9, ty35, ty47, ty107, Tryz.ntmps109, Tryz.results109, Cl_hook (hk_C3_126), pureF, Cl_hook (hk_C3_128), beqD, eq_false k1, eq_true k2, eq_false k3, hG, hpf, hat, hx, hxf, hlt, h0i, mayQ]
  have n3 : 3 ≤ c.kind := by omega
  rcases he1 with ⟨rfl, hen⟩ | ⟨rfl, x, hx, hen, hxp⟩
  · have he : changeErr t c = 5 := by unfold changeErr; rw [if_neg hz', if_neg (fun q => k1 q.1), if_neg (fun q => k2 q.1), if_pos ⟨n3, hen⟩]
    rw [he]
    by_cases k3 : c.kind = 3
    · rw [if_pos k3] at hG
      simp only [↓bD, bL, stps, stpOf, ev, getT, setT, ofConst, AV.cells, notBad, AV.one, loadObj, TI.agg, fieldAddrA, binP, binA, symA, intOp, unA, storeOk, putCells, resA, padT, List.replicate, Option.or, hputs, ↓reduceIte, reduceCtorEq, Nat.reduceLT, Nat.reduceAdd, Nat.reduceSub, fin, List.mapM_cons, List.mapM_nil, scalarN, plainN, hookLooks, looks1, C3_ty, ty3, ty4, ty9, ty47, ty107, Tryz.ntmps109, Tryz.results109, Cl_hook (hk_C3_126), pureF, Cl_hook (hk_C3_128), beqD, eq_false k1, eq_false k2, eq_true k3, hG, hpf, hat, mayQ]
    · rw [if_neg k3] at hG
      simp only [↓bD, bL, stps, stpOf, ev, getT, setT, ofConst, AV.cells, notBad, AV.one, loadObj, TI.agg, fieldAddrA, binP, binA, symA, intOp, unA, storeOk, putCells, resA, padT, List.replicate, Option.or, hputs, ↓reduceIte, reduceCtorEq, Nat.reduceLT, Nat.reduceAdd, Nat.reduceSub, fin, List.mapM_cons, List.mapM_nil, scalarN, plainN, hookLooks, looks1, C3_ty, ty3, ty4, ty9, ty47, ty107, Tryz.ntmps109, Tryz.results109, Cl_hook (hk_C3_126), pureF, Cl_hook (hk_C3_128), beqD, eq_false k1, eq_false k2, eq_false k3, hG, hpf, hat, mayQ]
  have a3 : ¬ (3 ≤ c.kind ∧ entryAt t c.path < 0) := by omega
  by_cases k3 : c.kind = 3
  · rw [if_pos k3] at hG
    cases hw : within c.to c.path with
    | true =>
      have he : changeErr t c = 3 := by unfold changeErr; rw [if_neg hz', if_neg (fun q => k1 q.1), if_neg (fun q => k2 q.1), if_neg a3, if_pos ⟨k3, hw⟩]
      rw [he]
      simp only [↓bD, bL, stps, stpOf, ev, getT, setT, ofConst, AV.cells, notBad, AV.one, loadObj, TI.agg, fieldAddrA, binP, binA, symA, intOp, unA, storeOk, putCells, resA, padT, List.replicate, Option.or, hputs, ↓reduceIte, reduceCtorEq, Nat.reduceLT, Nat.reduceAdd, Nat.reduceSub, fin, List.mapM_cons, List.mapM_nil, scalarN, plainN, hookLooks, looks1, C3_ty, ty3, ty4, ty9, ty47, ty107, Tryz.ntmps109, Tryz.results109, Cl_hook (hk_C3_126), pureF, Cl_hook (hk_C3_128), Cl_hook (hk_C3_129), G_in, beqD, eq_false k1, eq_false k2, eq_true k3, hG, hpf, hat, hw, hcp2, hct2, mayQ]
    | false =>
      rcases he2 with ⟨rfl, hen2⟩ | ⟨rfl, y, hy, hen2, hyp⟩
      · have he : changeErr t c = (if 0 ≤ c.base ∧ t.any (fun x => within x.path c.path && decide (c.base < x.version)) = true then 8 else 0) := by
          unfold changeErr; rw [if_neg hz', if_neg (fun q => k1 q.1), if_neg (fun q => k2 q.1), if_neg a3, if_neg (fun q => by rw [hw] at q; cases q.2), if_neg (by omega)]
        simp only [↓bD, bL, stps, stpOf, ev, getT, setT, ofConst, AV.cells, notBad, AV.one, loadObj, TI.agg, fieldAddrA, binP, binA, symA, intOp, unA, storeOk, putCells, padT, List.replicate, Option.or, hputs, ↓reduceIte, reduceCtorEq, Nat.reduceLT, Nat.reduceAdd, Nat.reduceSub, fin, List.mapM_cons, List.mapM_nil, scalarN, plainN, hookLooks, looks1, C3_ty, ty3, ty4, ty9, ty47, ty107, Tryz.ntmps109, Cl_hook (hk_C3_126), pureF, Cl_hook (hk_C3_128), Cl_hook (hk_C3_129), G_in, beqD, eq_false k1, eq_false k2, eq_true k3, hG, hpf, hat, hat2, hw, hcp2, hct2, he, mayJ]
      · have he : changeErr t c = 6 := by unfold changeErr; rw [if_neg hz', if_neg (fun q => k1 q.1), if_neg (fun q => k2 q.1), if_neg a3, if_neg (fun q => by rw [hw] at q; cases q.2), if_pos ⟨k3, by omega⟩]
        rw [he]
        simp only [↓bD, bL, stps, stpOf, ev, getT, setT, ofConst, AV.cells, notBad, AV.one, loadObj, TI.agg, fieldAddrA, binP, binA, symA, intOp, unA, storeOk, putCells, resA, padT, List.replicate, Option.or, hputs, ↓reduceIte, reduceCtorEq, Nat.reduceLT, Nat.reduceAdd, Nat.reduceSub, fin, List.mapM_cons, List.mapM_nil, scalarN, plainN, hookLooks, looks1, C3_ty, ty3, ty4, ty9, ty47, ty107, Tryz.ntmps109, Tryz.results109, Cl_hook (hk_C3_126), pureF, Cl_hook (hk_C3_128), Cl_hook (hk_C3_129), G_in, beqD, eq_false k1, eq_false k2, eq_true k3, hG, hpf, hat, hat2, hw, hcp2, hct2, mayQ]
  · rw [if_neg k3] at hG
    have he : changeErr t c = (if 0 ≤ c.base ∧ t.any (fun x => within x.path c.path && decide (c.base < x.version)) = true then 8 else 0) := by
      unfold changeErr; rw [if_neg hz', if_neg (fun q => k1 q.1), if_neg (fun q => k2 q.1), if_neg a3, if_neg (fun q => k3 q.1), if_neg (fun q => k3 q.1)]
    simp only [↓bD, bL, stps, stpOf, ev, getT, setT, ofConst, AV.cells, notBad, AV.one, loadObj, TI.agg, fieldAddrA, binP, binA, symA, intOp, unA, storeOk, putCells, padT, List.replicate, Option.or, hputs, ↓reduceIte, reduceCtorEq, Nat.reduceLT, Nat.reduceAdd, Nat.reduceSub, fin, List.mapM_cons, List.mapM_nil, scalarN, plainN, hookLooks, looks1, C3_ty, ty3, ty4, ty9, ty47, ty107, Tryz.ntmps109, Cl_hook (hk_C3_126), pureF, Cl_hook (hk_C3_128), beqD, eq_false k1, eq_false k2, eq_false k3, hG, hpf, hat, he, mayJ]
theorem G_may (t : List Entry) (c : Change) (hfit : Fit3 t c) (ha : Asc t) (hf : changeForm c = 0) : G3 C3 Tryz.f109 [.rows false (t.map Entry.cells), .agg [.int .i64 c.kind, .str c.path, .str c.to, .str c.text, .int .i64 c.base]] = some (.int .i64 (changeErr t c)) := G3_eq (R_may t c hfit ha hf)
end Go.Ab.Seat
/- tree.Raw. -/
namespace Go.Ab.Seat
open Go Go.Proofs
-- CFG C3
set_option linter.unusedSimpArgs false
set_option linter.unusedVariables false
set_option maxHeartbeats 4000000
set_option maxRecDepth 100000

theorem clone_E (t : List Entry) (ht : t.length ≤ 549755813888) (b : Bool) (look : Heap) (bar new : Nat) : cloneH CT 35 look bar new [.rows b (t.map Entry.cells)] = some (.osl 4 new 0 t.length t.length, [(new, .cells (t.flatMap Entry.cells))]) := by
  have h1 : ((t.map Entry.cells).all fun r => r.length == 4) = true := by simp [Entry.cells_eq]
  have h2 : t.length * 48 ≤ 140737488355328 := by omega
  have h3 : t.length ≤ 9223372036854775807 := by omega
  have h4 : (t.map Entry.cells).flatten = t.flatMap Entry.cells := by rw [List.flatMap_def]
  have h5 := one_E t
  simp only [cloneH, plan, CT_ty, ty35, ty107, ev, getT, elemsOf, h1, h4, h5]
  simp [h2, h3]
  intro x _ y hy
  exact List.all_eq_true.1 h5 y (List.mem_flatMap.2 ⟨x, by assumption, hy⟩)

-- REG tree.Raw G_raw
theorem R_raw (t : List Entry) (c : Change) (n : Int) (hfit : Fit3 t c) (ha : Asc t) (hok : ∀ x ∈ t, checkPath x.path = 0) : Run3 C3 Tryz.f85 [.rows false (t.map Entry.cells), .agg [.int .i64 c.kind, .str c.path, .str c.to, .str c.text, .int .i64 c.base], .int .i64 n] (.tuple [.rows false ((changeOf t c n).1.map Entry.cells), .int .i64 (changeOf t c n).2]) := by
  have htl := hfit.len
  have hcp := hfit.cp
  have hct := hfit.ct
  refine Run3.mk (fn := Tryz.f85) rfl ?_
  by_cases hf : changeForm c = 0
  rotate_left
  · rw [show changeOf t c n = ([], changeForm c) from if_pos hf]
    simp only [↓bD, bL, stps, stpOf, ev, getT, setT, ofConst, AV.cells, notBad, loadObj, TI.agg, binP, binA, symA, intOp, resA, padT, List.replicate, Option.or, hputs, ↓reduceIte, Nat.reduceLT, Nat.reduceAdd, Nat.reduceSub, fin, List.mapM_cons, List.mapM_nil, scalarN, plainN, hookLooks, looks1, C3_ty, ty47, Tryz.ntmps85, Tryz.results85, Cl_hook (hk_C3_108), pureF, G_form, beqD, bneD, hcp, hct, eq_false hf]
  have hG := G_may t c hfit ha hf
  by_cases he : changeErr t c = 0
  rotate_left
  · rw [show changeOf t c n = ([], changeErr t c) by unfold changeOf; rw [if_neg (fun q => q hf), if_pos he]]
    simp only [↓bD, bL, stps, stpOf, ev, getT, setT, ofConst, AV.cells, notBad, loadObj, TI.agg, binP, binA, symA, intOp, resA, padT, List.replicate, Option.or, hputs, ↓reduceIte, Nat.reduceLT, Nat.reduceAdd, Nat.reduceSub, fin, List.mapM_cons, List.mapM_nil, scalarN, plainN, hookLooks, looks1, C3_ty, ty47, Tryz.ntmps85, Tryz.results85, Cl_hook (hk_C3_108), pureF, G_form, Cl_3 (C := C3) (g := 109) (fn := Tryz.f109) rfl (fnBy_of Tryz.func109 rfl) rfl, bneD, hcp, hct, hf, hG, eq_false he]
  have hch : changeOf t c n = chP (changeTo t c n) := by
    unfold changeOf
    rw [if_neg (fun q => q hf), if_neg (fun q => q he)]
    cases changeTo t c n <;> rfl
  rw [hch]
  have hcl := clone_E t (by omega)
  simp only [↓bD, bL, stps, stpOf, ev, getT, setT, ofConst, AV.cells, notBad, loadObj, TI.agg, binP, binA, symA, intOp, padT, List.replicate, Option.or, hputs, ↓reduceIte, reduceCtorEq, Nat.reduceLT, Nat.reduceAdd, Nat.reduceSub, fin, List.mapM_cons, List.mapM_nil, scalarN, plainN, hookLooks, looks1, looks, C3_ty, ty47, Tryz.ntmps85, Cl_hook (hk_C3_55), Cl_hook (hk_C3_108), pureF, G_form, Cl_3 (C := C3) (g := 109) (fn := Tryz.f109) rfl (fnBy_of Tryz.func109 rfl) rfl, Cl_2c (C := C3) (g := 110) rfl rfl, hcp, hct, hf, hG, he, hcl]
  refine (C_done t c n 15 _ ⟨_, _, _⟩ hfit ha hok hf ⟨t.length, [], rfl, Nat.le_refl _, by rw [hget_hput, if_pos rfl, List.append_nil]⟩ (by simp only; omega) (by simp only; omega)).mono' ?_
  rintro r st' ⟨v', rfl, hfin⟩
  simp only [↓bD, bL, ev, getT, setT, resA, Nat.reduceLT, Nat.reduceAdd, looks, Tryz.results85]
  refine ⟨(by kernel_rfl : (_ : Bool) = true), ?_⟩
  exact fin_pair hfin
theorem G_raw (t : List Entry) (c : Change) (n : Int) (hfit : Fit3 t c) (ha : Asc t) (hok : ∀ x ∈ t, checkPath x.path = 0) : G3 C3 Tryz.f85 [.rows false (t.map Entry.cells), .agg [.int .i64 c.kind, .str c.path, .str c.to, .str c.text, .int .i64 c.base], .int .i64 n] = some (.tuple [.rows false ((changeOf t c n).1.map Entry.cells), .int .i64 (changeOf t c n).2]) := G3_eq (R_raw t c n hfit ha hok)
end Go.Ab.Seat
/- tree.All. -/
namespace Go.Ab.Seat
open Go Go.Proofs
-- CFG C4
set_option linter.unusedSimpArgs false
set_option linter.unusedVariables false
set_option maxHeartbeats 4000000
set_option maxRecDepth 100000

theorem okT_fit {t : List Entry} (h : OkT t) {c : Change} (h1 : c.path.length ≤ 1099511627776) (h2 : c.to.length ≤ 1099511627776) : Fit3 t c :=
  ⟨by have := h.len; omega, fun x hx => by have := okT_path h x hx; omega, h1, h2⟩
/-- tree.All. -/
def allPg (t : List Entry) (l : List Change) (n : Int) : List Entry × Int × Int := if checkTree t ≠ 0 then ([], 0, checkTree t) else allOf t l n
-- REG tree.All G_all
theorem R_all (t : List Entry) (l : List Change) (n : Int) (ht : FitT t) (hl : FitC l) : Run3 C4 Tryz.f59 [.rows false (t.map Entry.cells), .rows false (l.map Change.cells), .int .i64 n] (.tuple [.rows false ((allPg t l n).1.map Entry.cells), .int .i64 (allPg t l n).2.1, .int .i64 (allPg t l n).2.2]) := by
  obtain ⟨hl1, hl2⟩ := hl
  have htl := ht.len
  have htp := ht.path
  refine Run3.mk (fn := Tryz.f59) rfl ?_
  unfold allPg
  by_cases hck : checkTree t = 0
  rotate_left
  · rw [if_pos hck]
    simp only [↓bD, bL, stps, stpOf, ev, getT, setT, ofConst, AV.cells, binP, binA, symA, intOp, putCells, elemTI, resA, padT, List.replicate, Option.or, hputs, ↓reduceIte, Nat.reduceLT, Nat.reduceLeDiff, Nat.reduceAdd, Nat.reduceSub, fin, List.mapM_cons, List.mapM_nil, scalarN, plainN, hookLooks, looks1, buildSliceA, fillA, chunks, C4_ty, ty35, ty86, Tryz.ntmps59, Tryz.results59, Cl_hook (hk_C4_80), pureF, G_treeCheck1, bneD, htl, eq_true htp, eq_false hck]
  rw [if_neg (fun q => q hck)]
  have hokT := (checkTree_ok t).1 hck
  have ht39 : t.length ≤ 549755813888 := Nat.le_trans hokT.len (by omega)
  by_cases h20 : 20 < l.length
  · have h20' : (20 : Int) < (l.length : Int) := by omega
    rw [show allOf t l n = ([], 0, 2) from if_pos h20]
    simp only [↓bD, bL, stps, stpOf, ev, getT, setT, ofConst, AV.cells, binP, binA, symA, intOp, lenA, putCells, elemTI, resA, padT, List.replicate, Option.or, hputs, ↓reduceIte, Nat.reduceLT, Nat.reduceLeDiff, Nat.reduceAdd, Nat.reduceSub, fin, List.mapM_cons, List.mapM_nil, scalarN, plainN, hookLooks, looks1, buildSliceA, fillA, chunks, C4_ty, ty35, ty43, ty86, Tryz.ntmps59, Tryz.results59, Cl_hook (hk_C4_80), pureF, G_treeCheck1, htl, eq_true htp, hck, h20']
  have h20' : ¬ (20 : Int) < (l.length : Int) := by omega
  unfold allOf
  rw [if_neg h20]
  by_cases hv : l ≠ [] ∧ isVersion n = false
  · rw [if_pos hv]
    have h0 : (0 : Int) < (l.length : Int) := by have := List.length_pos_iff.2 hv.1; omega
    simp only [↓bD, bL, stps, stpOf, ev, getT, setT, ofConst, AV.cells, binP, binA, symA, intOp, unA, lenA, putCells, elemTI, resA, padT, List.replicate, Option.or, hputs, ↓reduceIte, Nat.reduceLT, Nat.reduceLeDiff, Nat.reduceAdd, Nat.reduceSub, fin, List.mapM_cons, List.mapM_nil, scalarN, plainN, hookLooks, looks1, buildSliceA, fillA, chunks, C4_ty, ty35, ty43, ty86, Tryz.ntmps59, Tryz.results59, Cl_hook (hk_C4_80), pureF, G_treeCheck1, Cl_hook (hk_C4_84), G_isVersion, htl, eq_true htp, hck, h20', h0, hv.2]
  rw [if_neg hv]
  have hv2 : l ≠ [] → isVersion n = true := fun q => by
    cases hq : isVersion n with
    | true => rfl
    | false => exact absurd ⟨q, hq⟩ hv
  have key : ∀ T st, getT T 0 = .rows false (t.map Entry.cells) → getT T 1 = .rows false (l.map Change.cells) → getT T 2 = .int .i64 n → st.bar = 0 → X C4 Tryz.f59.ntmps (restC 5 (bodyC Tryz.f59)) T st (Q := ⟨endW C4 Tryz.f59.results.toList fun r1 st' => fin st'.h 0 false 8 r1 = some (.tuple [.rows false ((allGo n t l 0).1.map Entry.cells), .int .i64 (allGo n t l 0).2.1, .int .i64 (allGo n t l 0).2.2])⟩) := by
    intro T st g0 g1 g2 gb
    refine (?_ : X C4 Tryz.f59.ntmps (.seq _ (.seq _ .ret)) T st (Q := ⟨_⟩))
    simp only [↓bD, bL, stps, stpOf, ev, ofConst, lenA, ↓reduceIte, Nat.reduceLT, Nat.reduceAdd, C4_ty, ty43, Tryz.ntmps59, Nat.add_assoc, g1, gb]
    refine X_loop (fun (rem : List Change) T st => ∃ (k : Nat) (cur : List Entry), getT T 35 = .int .i64 (k : Nat) ∧ l.drop k = rem ∧ k ≤ l.length ∧ getT T 0 = .rows false (cur.map Entry.cells) ∧ OkT cur ∧ allGo n cur rem k = allGo n t l 0) List.length
      (fun e T st => (e = .ret ∧ getT T 6 = .rows true [] ∧ getT T 7 = .int .i64 (allGo n t l 0).2.1 ∧ getT T 8 = .int .i64 (allGo n t l 0).2.2 ∧ (allGo n t l 0).1 = []) ∨ (e = .exit 0 ∧ ∃ cur : List Entry, getT T 0 = .rows false (cur.map Entry.cells) ∧ (allGo n t l 0) = (cur, (l.length : Int), 0))) l ⟨0, t, by rw [getT_setT, if_pos rfl]; rfl, rfl, Nat.zero_le _, by simp [getT_setT, g0], hokT, rfl⟩ ?_ ?_
    · rintro rem T1 st1 hF hc hb ⟨k, cur, hk, hd, hkl, h0, hok, hgo⟩
      have h1 := hF 33 rfl
      have h2 := hF 2 rfl
      have h34 := hF 34 rfl
      simp only [getT_setT, getT, g1, g2, Nat.reduceEqDiff, if_false, if_true] at h1 h2 h34
      clear hF
      have hbar : st1.bar = 0 := hb
      cases rem with
      | nil =>
        have hnk := drop_nil_len hd
        have hlt : ¬ (k : Int) < (l.length : Int) := by omega
        simp only [↓bD, bL, stps, stpOf, ev, binP, binA, symA, intOp, Option.or, ↓reduceIte, reduceCtorEq, Nat.reduceEqDiff, Nat.reduceLT, hk, h0, h34, hlt]
        refine ⟨cur, rfl, ?_⟩
        rw [← hgo, show l.length = k by omega]
        rfl
      | cons c rem =>
        obtain ⟨hx, hlt0, hd', ht'⟩ := drop_cons_get hd
        have hlt : (k : Int) < (l.length : Int) := by omega
        have hw : IntKind.i64.wrap ((k : Int) + 1) = ((k + 1 : Nat) : Int) := by rw [Int.natCast_add]; exact wrap_i64 (by omega) (by omega)
        obtain ⟨hcp, hct, _⟩ := hl2 c (List.mem_of_getElem? hx)
        have hG := G_raw cur c n (okT_fit hok hcp hct) hok.asc (fun x hx => (checkEntry_zero.1 (hok.ent x hx)).1)
        by_cases he : (changeOf cur c n).2 = 0
        · have hok2 := changeOf_okT hok (hv2 (fun q => by subst q; simp at hlt0)) (changeOf_pair he)
          rw [allGo_one he] at hgo
          simp only [↓bD, bL, stps, stpOf, ev, ofConst, AV.cells, AV.one, loadObj, TI.agg, indexAddrA, binP, binA, symA, intOp, storeOk, putCells, elemTI, Option.or, hputs, ↓reduceIte, reduceCtorEq, Nat.reduceEqDiff, Nat.reduceLT, Nat.reduceAdd, fin, List.mapM_cons, List.mapM_nil, scalarN, plainN, hookLooks, looks1, C4_ty, ty43, ty47, pureF, Cl_hook (hk_C4_85), Nat.add_assoc, hk, h0, h1, h2, h34, hlt, hx, hw, hG, he, hbar]
          exact ⟨rem, by simp, k + 1, _, rfl, hd', by omega, rfl, hok2, hgo⟩
        · have hgo2 : allGo n t l 0 = ([], (k : Int), (changeOf cur c n).2) := by rw [← hgo, allGo, if_pos he]
          simp only [↓bD, bL, stps, stpOf, ev, ofConst, AV.cells, AV.one, loadObj, TI.agg, indexAddrA, binP, binA, symA, intOp, storeOk, putCells, elemTI, Option.or, hputs, ↓reduceIte, reduceCtorEq, Nat.reduceEqDiff, Nat.reduceLT, Nat.reduceAdd, fin, List.mapM_cons, List.mapM_nil, scalarN, plainN, hookLooks, looks1, C4_ty, ty43, ty47, pureF, Cl_hook (hk_C4_85), bneD, Nat.add_assoc, hk, h0, h1, h2, h34, hlt, hx, hG, eq_false he, hgo2, hbar]
    · rintro e T1 st1 he2 hF hc hb (⟨rfl, h6, h7, h8, h9⟩ | ⟨rfl, cur, h0, hgo⟩)
      · simp only [↓bD, bL, resA, fin, List.mapM_cons, List.mapM_nil, Tryz.results59, h6, h7, h8, h9]
      · have h1 := hF 1 rfl
        simp only [getT_setT, getT, g1, Nat.reduceEqDiff, if_false] at h1
        clear hF
        simp only [↓bD, bL, stps, stpOf, ev, ofConst, lenA, resA, ↓reduceIte, Nat.reduceEqDiff, Nat.reduceLT, Nat.reduceAdd, fin, List.mapM_cons, List.mapM_nil, C4_ty, ty43, Tryz.ntmps59, Tryz.results59, Nat.add_assoc, h0, h1, hgo]
  refine (?_ : X C4 Tryz.f59.ntmps (.seq _ (.seq _ (.seq _ (.seq _ (.seq _ (restC 5 (bodyC Tryz.f59))))))) _ _ (Q := ⟨_⟩))
  rw [X_assoc, X_assoc, X_assoc, X_assoc]
  refine X_cut (fun T st => getT T 0 = .rows false (t.map Entry.cells) ∧ getT T 1 = .rows false (l.map Change.cells) ∧ getT T 2 = .int .i64 n ∧ st.bar = 0) ?_ fun T st _ _ _ h => key T st h.1 h.2.1 h.2.2.1 h.2.2.2
  by_cases hne : l = []
  · have h0 : ¬ (0 : Int) < (l.length : Int) := by rw [hne]; simp
    cases hvn : isVersion n with
    | true => simp only [↓bD, bL, stps, stpOf, ev, getT, setT, ofConst, AV.cells, binP, binA, symA, intOp, unA, lenA, putCells, elemTI, padT, List.replicate, Option.or, hputs, ↓reduceIte, Nat.reduceLT, Nat.reduceLeDiff, Nat.reduceAdd, Nat.reduceSub, fin, List.mapM_cons, List.mapM_nil, scalarN, plainN, hookLooks, looks1, buildSliceA, fillA, chunks, C4_ty, ty35, ty43, ty86, Tryz.ntmps59, Cl_hook (hk_C4_55), cloneP, entryOf_map, Cl_hook (hk_C4_80), pureF, G_treeCheck1, Cl_hook (hk_C4_84), G_isVersion, htl, eq_true htp, ht39, hck, h20', hvn]
    | false => simp only [↓bD, bL, stps, stpOf, ev, getT, setT, ofConst, AV.cells, binP, binA, symA, intOp, unA, lenA, putCells, elemTI, padT, List.replicate, Option.or, hputs, ↓reduceIte, Nat.reduceLT, Nat.reduceLeDiff, Nat.reduceAdd, Nat.reduceSub, fin, List.mapM_cons, List.mapM_nil, scalarN, plainN, hookLooks, looks1, buildSliceA, fillA, chunks, C4_ty, ty35, ty43, ty86, Tryz.ntmps59, Cl_hook (hk_C4_55), cloneP, entryOf_map, Cl_hook (hk_C4_80), pureF, G_treeCheck1, Cl_hook (hk_C4_84), G_isVersion, htl, eq_true htp, ht39, hck, h20', h0, hvn]
  · simp only [↓bD, bL, stps, stpOf, ev, getT, setT, ofConst, AV.cells, binP, binA, symA, intOp, unA, lenA, putCells, elemTI, padT, List.replicate, Option.or, hputs, ↓reduceIte, Nat.reduceLT, Nat.reduceLeDiff, Nat.reduceAdd, Nat.reduceSub, fin, List.mapM_cons, List.mapM_nil, scalarN, plainN, hookLooks, looks1, buildSliceA, fillA, chunks, C4_ty, ty35, ty43, ty86, Tryz.ntmps59, Cl_hook (hk_C4_55), cloneP, entryOf_map, Cl_hook (hk_C4_80), pureF, G_treeCheck1, Cl_hook (hk_C4_84), G_isVersion, htl, eq_true htp, ht39, hck, h20', hv2 hne]
theorem G_all (t : List Entry) (l : List Change) (n : Int) (ht : FitT t) (hl : FitC l) : G3 C4 Tryz.f59 [.rows false (t.map Entry.cells), .rows false (l.map Change.cells), .int .i64 n] = some (.tuple [.rows false ((allPg t l n).1.map Entry.cells), .int .i64 (allPg t l n).2.1, .int .i64 (allPg t l n).2.2]) := G3_eq (R_all t l n ht hl)
end Go.Ab.Seat
