/- the document's OpenOf; what lies within bounds. -/
import Derived.Test.YtnmlmmakheckpaaGreatDoorAb11
import Derived.Test.YtnmlmmakheckpaaGreatDoorAb21
import Derived.Test.YtnmlmmakheckpaaGreatDoorAb23
import Derived.Test.YtnmlmmakheckpaaGreatDoorAb13
namespace Go.Ab.Seat
open Go Go.Proofs
-- CFG C1
set_option linter.unusedSimpArgs false
set_option linter.unusedVariables false
set_option maxHeartbeats 4000000
set_option maxRecDepth 100000

-- REG R.CheckUploads$1 G_rWithin
theorem R_rWithin (n a b : Int) : Run3 C1 Tryz.f36 [.int .i64 n, .int .i64 a, .int .i64 b] (.bool (decide (a ≤ n ∧ n ≤ b))) := by
  refine Run3.mk (fn := Tryz.f36) rfl ?_
  by_cases h1 : a ≤ n
  · by_cases h2 : n ≤ b
    · first | (exfalso; omega) | (simp (config := {maxSteps := 1000000}) only [↓bD, bL, stps, stpOf, ev, getT, setT, ofConst, binP, binA, symA, intOp, resA, padT, List.replicate, Option.or, ↓reduceIte, Nat.reduceLT, Nat.reduceAdd, Nat.reduceSub, fin, Tryz.ntmps36, Tryz.results36, eq_true h1, eq_true h2])
    · first | (exfalso; omega) | (simp (config := {maxSteps := 1000000}) only [↓bD, bL, stps, stpOf, ev, getT, setT, ofConst, binP, binA, symA, intOp, resA, padT, List.replicate, Option.or, ↓reduceIte, Nat.reduceLT, Nat.reduceAdd, Nat.reduceSub, fin, Tryz.ntmps36, Tryz.results36, eq_true h1, eq_false h2])
  · by_cases h2 : n ≤ b
    · first | (exfalso; omega) | (simp (config := {maxSteps := 1000000}) only [↓bD, bL, stps, stpOf, ev, getT, setT, ofConst, binP, binA, symA, intOp, resA, padT, List.replicate, Option.or, ↓reduceIte, Nat.reduceLT, Nat.reduceAdd, Nat.reduceSub, fin, Tryz.ntmps36, Tryz.results36, eq_false h1, eq_true h2])
    · first | (exfalso; omega) | (simp (config := {maxSteps := 1000000}) only [↓bD, bL, stps, stpOf, ev, getT, setT, ofConst, binP, binA, symA, intOp, resA, padT, List.replicate, Option.or, ↓reduceIte, Nat.reduceLT, Nat.reduceAdd, Nat.reduceSub, fin, Tryz.ntmps36, Tryz.results36, eq_false h1, eq_false h2])
theorem G_rWithin (n a b : Int) : G3 C1 Tryz.f36 [.int .i64 n, .int .i64 a, .int .i64 b] = some (.bool (decide (a ≤ n ∧ n ≤ b))) := G3_eq (R_rWithin n a b)
-- REG R.OpenOf G_rOpenOf
theorem R_rOpenOf (l : List Session) (who : Str) (hl : l.length ≤ 1099511627776) (hs : ∀ s ∈ l, 0 ≤ s.size ∧ s.size ≤ 300) : Run3 C1 Tryz.f37 [.rows false (l.map Session.cells), .str who] (.int .i64 (openOf who l)) := by
  refine Run3.mk (fn := Tryz.f37) rfl ?_
  simp only [↓bD, bL, stps, stpOf, ev, setT, ofConst, padT, List.replicate, Nat.reduceLT, Nat.reduceAdd, Nat.reduceSub, Tryz.ntmps37]
  refine X_loop (fun (rem : List Session) T st => ∃ k : Nat, getT T 6 = .int .i64 (k : Nat) ∧ l.drop k = rem ∧ getT T 5 = .int .i64 (openOf who (l.take k))) List.length
    (fun e T st => e = .exit 0 ∧ getT T 5 = .int .i64 (openOf who l)) l ⟨0, rfl, rfl, rfl⟩ ?_ ?_
  · rintro rem T st hF hc hb ⟨k, hk, hd, h5⟩
    have h0 := hF 0 rfl
    have h1 := hF 1 rfl
    simp only [getT_setT, getT] at h0 h1
    clear hF
    have hbar : st.bar = 0 := hb
    cases rem with
    | nil =>
      have hn := drop_nil_len hd
      have hlt : ¬ (k : Int) < (l.length : Int) := by omega
      rw [List.take_of_length_le hn] at h5
      simp only [↓bD, bL, stps, stpOf, ev, binP, binA, symA, intOp, lenA, Option.or, ↓reduceIte, reduceCtorEq, Nat.reduceEqDiff, Nat.reduceLT, Nat.reduceAdd, C1_ty, ty24, Nat.add_assoc, hk, h0, hlt, h5]
    | cons x rem =>
      obtain ⟨hx, hlt0, hd', ht'⟩ := drop_cons_get hd
      have hlt : (k : Int) < (l.length : Int) := by omega
      have hw : IntKind.i64.wrap ((k : Int) + 1) = ((k + 1 : Nat) : Int) := by rw [Int.natCast_add]; exact wrap_i64 (by omega) (by omega)
      have hb1 := openOf_bd who (l.take k) fun s hs' => hs s (List.mem_of_mem_take hs')
      have hxs := hs x (List.mem_of_getElem? hx)
      have htl : (l.take k).length ≤ l.length := by rw [List.length_take]; omega
      have hw2 : IntKind.i64.wrap (openOf who (l.take k) + x.size) = openOf who (l.take k) + x.size := wrap_i64 (by omega) (by omega)
      by_cases h : x.who = who
      · simp only [↓bD, bL, stps, stpOf, ev, ofConst, loadObj, TI.agg, fieldAddrA, indexAddrA, binP, binA, symA, intOp, strOp, lenA, elemTI, Option.or, ↓reduceIte, reduceCtorEq, Nat.reduceEqDiff, Nat.reduceLT, Nat.reduceAdd, C1_ty, ty3, ty9, ty24, ty83, beqD, Nat.add_assoc, hk, h0, h1, h5, hlt, hx, hw, hw2, hbar, eq_true h]
        exact ⟨rem, by simp, k + 1, rfl, hd', by rw [ht', openOf_append]; simp [openOf, h]⟩
      · simp only [↓bD, bL, stps, stpOf, ev, ofConst, loadObj, TI.agg, fieldAddrA, indexAddrA, binP, binA, symA, intOp, strOp, lenA, elemTI, Option.or, ↓reduceIte, reduceCtorEq, Nat.reduceEqDiff, Nat.reduceLT, Nat.reduceAdd, C1_ty, ty9, ty24, ty83, beqD, Nat.add_assoc, hk, h0, h1, h5, hlt, hx, hw, hbar, eq_false h]
        exact ⟨rem, by simp, k + 1, rfl, hd', by rw [ht', openOf_append]; simp [openOf, h]⟩
  · rintro e T st he hF hc hb ⟨rfl, h5⟩
    simp only [↓bD, bL, stps, stpOf, ev, resA, ↓reduceIte, Nat.reduceLT, Nat.reduceAdd, fin, Tryz.ntmps37, Tryz.results37, Nat.add_assoc, h5]
theorem G_rOpenOf (l : List Session) (who : Str) (hl : l.length ≤ 1099511627776) (hs : ∀ s ∈ l, 0 ≤ s.size ∧ s.size ≤ 300) : G3 C1 Tryz.f37 [.rows false (l.map Session.cells), .str who] = some (.int .i64 (openOf who l)) := G3_eq (R_rOpenOf l who hl hs)
end Go.Ab.Seat
/- the document's CheckUploads. -/
namespace Go.Ab.Seat
open Go Go.Proofs
-- CFG C1
set_option linter.unusedSimpArgs false
set_option linter.unusedVariables false
set_option maxHeartbeats 4000000
set_option maxRecDepth 100000

-- REG R.CheckUploads G_rCheckUploads
theorem R_rCheckUploads (l : List Session) (nx la ro : Int) (hp : ∀ s ∈ l, s.who.length ≤ 4398046511104) : Run3 C1 Tryz.f20 [.agg [.rows false (l.map Session.cells), .int .i64 nx, .int .i64 la, .int .i64 ro]] (.int .i64 (checkUploads ⟨l, nx, la, ro⟩)) := by
  refine Run3.mk (fn := Tryz.f20) rfl ?_
  unfold checkUploads
  by_cases c1 : (1 ≤ la ∧ la ≤ 1000000)
  rotate_left
  · simp (config := {maxSteps := 1000000}) only [↓bD, bL, stps, stpOf, ev, getT, setT, ofConst, AV.cells, notBad, loadObj, TI.agg, fieldAddrA, unA, resA, padT, List.replicate, hputs, ↓reduceIte, Nat.reduceLT, Nat.reduceAdd, Nat.reduceSub, fin, List.mapM_cons, List.mapM_nil, scalarN, plainN, C1_ty, ty3, ty26, Tryz.ntmps20, Tryz.results20, pureF, Cl_3 (C := C1) (g := 36) (fn := Tryz.f36) rfl (fnBy_of Tryz.func36 rfl) rfl, G_rWithin, eq_false c1]
  by_cases c2 : (0 ≤ ro ∧ ro ≤ 100000)
  rotate_left
  · simp (config := {maxSteps := 1000000}) only [↓bD, bL, stps, stpOf, ev, getT, setT, ofConst, AV.cells, notBad, loadObj, TI.agg, fieldAddrA, unA, resA, padT, List.replicate, hputs, ↓reduceIte, Nat.reduceLT, Nat.reduceAdd, Nat.reduceSub, fin, List.mapM_cons, List.mapM_nil, scalarN, plainN, C1_ty, ty3, ty26, Tryz.ntmps20, Tryz.results20, pureF, Cl_3 (C := C1) (g := 36) (fn := Tryz.f36) rfl (fnBy_of Tryz.func36 rfl) rfl, G_rWithin, eq_true c1, eq_false c2]
  by_cases c3 : (1 ≤ nx ∧ nx ≤ 1099511627776)
  rotate_left
  · simp (config := {maxSteps := 1000000}) only [↓bD, bL, stps, stpOf, ev, getT, setT, ofConst, AV.cells, notBad, loadObj, TI.agg, fieldAddrA, unA, resA, padT, List.replicate, hputs, ↓reduceIte, Nat.reduceLT, Nat.reduceAdd, Nat.reduceSub, fin, List.mapM_cons, List.mapM_nil, scalarN, plainN, C1_ty, ty3, ty26, Tryz.ntmps20, Tryz.results20, pureF, Cl_3 (C := C1) (g := 36) (fn := Tryz.f36) rfl (fnBy_of Tryz.func36 rfl) rfl, G_rWithin, eq_true c1, eq_true c2, eq_false c3]
  by_cases c4 : 20 < l.length
  · have c4' : (20 : Int) < (l.length : Int) := by omega
    simp (config := {maxSteps := 1000000}) only [↓bD, bL, stps, stpOf, ev, getT, setT, ofConst, AV.cells, notBad, loadObj, TI.agg, fieldAddrA, binP, binA, symA, intOp, unA, lenA, resA, padT, List.replicate, Option.or, hputs, ↓reduceIte, Nat.reduceLT, Nat.reduceAdd, Nat.reduceSub, fin, List.mapM_cons, List.mapM_nil, scalarN, plainN, C1_ty, ty3, ty24, ty26, Tryz.ntmps20, Tryz.results20, pureF, Cl_3 (C := C1) (g := 36) (fn := Tryz.f36) rfl (fnBy_of Tryz.func36 rfl) rfl, G_rWithin, eq_true c1, eq_true c2, eq_true c3, eq_true c4, eq_true c4']
  have c4' : ¬ (20 : Int) < (l.length : Int) := by omega
  have hwn : IntKind.i64.wrap (nx - 1) = nx - 1 := wrap_i64 (by omega) (by omega)
  simp (config := {maxSteps := 1000000}) only [↓bD, bL, stps, stpOf, ev, getT, setT, ofConst, AV.cells, notBad, loadObj, TI.agg, fieldAddrA, binP, binA, symA, intOp, unA, lenA, padT, List.replicate, Option.or, hputs, ↓reduceIte, Nat.reduceLT, Nat.reduceAdd, Nat.reduceSub, fin, List.mapM_cons, List.mapM_nil, scalarN, plainN, C1_ty, ty3, ty24, ty26, Tryz.ntmps20, pureF, Cl_3 (C := C1) (g := 36) (fn := Tryz.f36) rfl (fnBy_of Tryz.func36 rfl) rfl, G_rWithin, eq_true c1, eq_true c2, eq_true c3, eq_false c4']
  refine X_loop (fun (rem : List Session) T st => ∃ k : Nat, getT T 4 = .int .i64 (k : Nat) ∧ l.drop k = rem ∧ firstErr (checkSess nx) (l.take k) = 0 ∧ hget st.h 0 = some (.cells [.rows false (l.map Session.cells), .int .i64 nx, .int .i64 la, .int .i64 ro])) List.length
    (fun e T st => (e = .ret ∧ firstErr (checkSess nx) l ≠ 0 ∧ getT T 2 = .int .i64 (firstErr (checkSess nx) l)) ∨ (e = .exit 0 ∧ firstErr (checkSess nx) l = 0 ∧ hget st.h 0 = some (.cells [.rows false (l.map Session.cells), .int .i64 nx, .int .i64 la, .int .i64 ro]))) l ⟨0, rfl, rfl, rfl, rfl⟩ ?_ ?_
  · rintro rem T st hF hc hb ⟨k, hk, hd, hz, hh⟩
    have h1 := hF 1 rfl
    have h3 := hF 3 rfl
    simp only [getT_setT, getT] at h1 h3
    clear hF
    cases rem with
    | nil =>
      have hn := drop_nil_len hd
      have hlt : ¬ (k : Int) < (l.length : Int) := by omega
      rw [List.take_of_length_le hn] at hz
      simp only [↓bD, bL, stps, stpOf, ev, loadObj, TI.agg, fieldAddrA, binP, binA, symA, intOp, lenA, Option.or, ↓reduceIte, reduceCtorEq, Nat.reduceEqDiff, Nat.reduceLT, Nat.reduceAdd, C1_ty, ty24, ty26, Nat.add_assoc, hk, h1, hlt, hz, hh]
    | cons x rem =>
      obtain ⟨hx, hlt0, hd', ht'⟩ := drop_cons_get hd
      have hlt : (k : Int) < (l.length : Int) := by omega
      have hw : IntKind.i64.wrap ((k : Int) + 1) = ((k + 1 : Nat) : Int) := by rw [Int.natCast_add]; exact wrap_i64 (by omega) (by omega)
      have hbar : st.bar = 0 := hb
      have hc9 : 1 ≤ st.c := Nat.le_trans (Nat.le_of_ble_eq_true rfl) hc
      have hc0 : ∀ j, (st.c + j = 0) = False := fun j => eq_false (by omega)
      have hc0' : (st.c = 0) = False := eq_false (by omega)
      have hxp := hp x (List.mem_of_getElem? hx)
      have hfe : firstErr (checkSess nx) l = if checkSess nx x ≠ 0 then checkSess nx x else firstErr (checkSess nx) rem := by
        rw [← List.take_append_drop k l, firstErr_append, hz, hd]; rfl
      have hfe2 : checkSess nx x = 0 → firstErr (checkSess nx) (l.take (k + 1)) = 0 := fun h => by
        rw [ht', firstErr_append, hz]; simp [firstErr, h]
      have c0 : checkSess nx x = checkSess nx x := rfl
      conv at c0 => rhs; unfold checkSess
      by_cases s1 : (1 ≤ x.number ∧ x.number ≤ nx - 1)
      rotate_left
      · have hv : firstErr (checkSess nx) l = 3 := by rw [hfe, c0, if_pos s1]; rfl
        simp (config := {maxSteps := 1000000}) only [↓bD, bL, stps, stpOf, ev, ofConst, AV.cells, AV.one, loadObj, TI.agg, fieldAddrA, indexAddrA, binP, binA, symA, intOp, unA, lenA, storeOk, putCells, elemTI, Option.or, hputs, ↓reduceIte, reduceCtorEq, Nat.reduceEqDiff, Nat.reduceLT, Nat.reduceAdd, fin, List.mapM_cons, List.mapM_nil, scalarN, plainN, C1_ty, ty3, ty24, ty26, ty83, pureF, Cl_3 (C := C1) (g := 36) (fn := Tryz.f36) rfl (fnBy_of Tryz.func36 rfl) rfl, G_rWithin, Int.reduceEq, Nat.add_assoc, hk, h1, h3, hh, hlt, hx, hwn, hbar, hc0, eq_false s1, hv]
      by_cases s2 : (0 ≤ x.size ∧ x.size ≤ 300)
      rotate_left
      · have hv : firstErr (checkSess nx) l = 3 := by rw [hfe, c0, if_neg (not_not_intro s1), if_pos s2]; rfl
        simp (config := {maxSteps := 1000000}) only [↓bD, bL, stps, stpOf, ev, ofConst, AV.cells, AV.one, loadObj, TI.agg, fieldAddrA, indexAddrA, binP, binA, symA, intOp, unA, lenA, storeOk, putCells, elemTI, Option.or, hputs, ↓reduceIte, reduceCtorEq, Nat.reduceEqDiff, Nat.reduceLT, Nat.reduceAdd, fin, List.mapM_cons, List.mapM_nil, scalarN, plainN, C1_ty, ty3, ty24, ty26, ty83, pureF, Cl_3 (C := C1) (g := 36) (fn := Tryz.f36) rfl (fnBy_of Tryz.func36 rfl) rfl, G_rWithin, Int.reduceEq, Nat.add_assoc, hk, h1, h3, hh, hlt, hx, hwn, hbar, hc0, eq_true s1, eq_false s2, hv]
      by_cases s3 : (0 ≤ x.till ∧ x.till ≤ 2199023255552)
      rotate_left
      · have hv : firstErr (checkSess nx) l = 3 := by rw [hfe, c0, if_neg (not_not_intro s1), if_neg (not_not_intro s2), if_pos s3]; rfl
        simp (config := {maxSteps := 1000000}) only [↓bD, bL, stps, stpOf, ev, ofConst, AV.cells, AV.one, loadObj, TI.agg, fieldAddrA, indexAddrA, binP, binA, symA, intOp, unA, lenA, storeOk, putCells, elemTI, Option.or, hputs, ↓reduceIte, reduceCtorEq, Nat.reduceEqDiff, Nat.reduceLT, Nat.reduceAdd, fin, List.mapM_cons, List.mapM_nil, scalarN, plainN, C1_ty, ty3, ty24, ty26, ty83, pureF, Cl_3 (C := C1) (g := 36) (fn := Tryz.f36) rfl (fnBy_of Tryz.func36 rfl) rfl, G_rWithin, Int.reduceEq, Nat.add_assoc, hk, h1, h3, hh, hlt, hx, hwn, hbar, hc0, eq_true s1, eq_true s2, eq_false s3, hv]
      rw [if_neg (not_not_intro s1), if_neg (not_not_intro s2), if_neg (not_not_intro s3)] at c0
      cases s4 : isName x.who with
      | false =>
        have hv : firstErr (checkSess nx) l = 1 := by rw [hfe, c0, if_pos s4]; rfl
        simp (config := {maxSteps := 1000000}) only [↓bD, bL, stps, stpOf, ev, ofConst, AV.cells, AV.one, loadObj, TI.agg, fieldAddrA, indexAddrA, binP, binA, symA, intOp, unA, lenA, storeOk, putCells, elemTI, Option.or, hputs, ↓reduceIte, reduceCtorEq, Nat.reduceEqDiff, Nat.reduceLT, Nat.reduceAdd, fin, List.mapM_cons, List.mapM_nil, scalarN, plainN, C1_ty, ty3, ty9, ty24, ty26, ty83, Cl_3 (C := C1) (g := 15) (fn := Tryz.f15) rfl (fnBy_of Tryz.func15 rfl) rfl, pureF, G_rIsName, Cl_3 (C := C1) (g := 36) (fn := Tryz.f36) rfl (fnBy_of Tryz.func36 rfl) rfl, G_rWithin, Int.reduceEq, Nat.add_assoc, hk, h1, h3, hh, hlt, hx, hwn, hbar, hc0, hxp, eq_true s1, eq_true s2, eq_true s3, s4, hv]
      | true =>
        rw [if_neg (by rw [s4]; decide)] at c0
        by_cases s5 : x.size < (x.text.length : Int)
        · have hv : firstErr (checkSess nx) l = 2 := by rw [hfe, c0, if_pos s5]; rfl
          simp (config := {maxSteps := 1000000}) only [↓bD, bL, stps, stpOf, ev, ofConst, AV.cells, AV.one, loadObj, TI.agg, fieldAddrA, indexAddrA, binP, binA, symA, intOp, unA, lenA, storeOk, putCells, elemTI, Option.or, hputs, ↓reduceIte, reduceCtorEq, Nat.reduceEqDiff, Nat.reduceLT, Nat.reduceAdd, fin, List.mapM_cons, List.mapM_nil, scalarN, plainN, C1_ty, ty3, ty9, ty24, ty26, ty83, Cl_3 (C := C1) (g := 15) (fn := Tryz.f15) rfl (fnBy_of Tryz.func15 rfl) rfl, pureF, G_rIsName, Cl_3 (C := C1) (g := 36) (fn := Tryz.f36) rfl (fnBy_of Tryz.func36 rfl) rfl, G_rWithin, Int.reduceEq, Nat.add_assoc, hk, h1, h3, hh, hlt, hx, hwn, hbar, hc0, hxp, eq_true s1, eq_true s2, eq_true s3, s4, eq_true s5, hv]
        · have hn0 := hfe2 (by rw [c0, if_neg s5])
          simp (config := {maxSteps := 1000000}) only [↓bD, bL, stps, stpOf, ev, ofConst, AV.cells, AV.one, loadObj, TI.agg, fieldAddrA, indexAddrA, binP, binA, symA, intOp, unA, lenA, storeOk, putCells, elemTI, Option.or, hputs, ↓reduceIte, reduceCtorEq, Nat.reduceEqDiff, Nat.reduceLT, Nat.reduceAdd, fin, List.mapM_cons, List.mapM_nil, scalarN, plainN, C1_ty, ty3, ty9, ty24, ty26, ty83, Cl_3 (C := C1) (g := 15) (fn := Tryz.f15) rfl (fnBy_of Tryz.func15 rfl) rfl, pureF, G_rIsName, Cl_3 (C := C1) (g := 36) (fn := Tryz.f36) rfl (fnBy_of Tryz.func36 rfl) rfl, G_rWithin, Nat.add_assoc, hk, h1, h3, hh, hlt, hx, hw, hwn, hbar, hc0, hxp, eq_true s1, eq_true s2, eq_true s3, s4, eq_false s5]
          exact ⟨rem, by simp, k + 1, rfl, hd', hn0⟩
  · rintro e T st he hF hc hb (⟨rfl, h4, h2⟩ | ⟨rfl, h4, hh⟩)
    · simp only [↓bD, bL, resA, ↓reduceIte, fin, Tryz.results20, h4, h2, eq_true c1, eq_true c2, eq_true c3, eq_false c4]
    · have h1 := hF 1 rfl
      simp only [getT_setT, getT] at h1
      clear hF
      have hbar : st.bar = 0 := hb
      simp (config := {maxSteps := 1000000}) only [↓bD, bL, stps, stpOf, ev, ofConst, ↓reduceIte, Nat.reduceLT, Tryz.ntmps20, hbar]
      refine X_loop (fun (rem : List (Session × Session)) T st => ∃ k : Nat, getT T 6 = .int .i64 ((k + 1 : Nat) : Int) ∧ (l.zip l.tail).drop k = rem ∧ ((l.zip l.tail).take k).all (fun q => !leNum q.2 q.1) = true ∧ hget st.h 0 = some (.cells [.rows false (l.map Session.cells), .int .i64 nx, .int .i64 la, .int .i64 ro])) List.length
        (fun e T st => (e = .ret ∧ ascBy leNum l = false ∧ getT T 2 = .int .i64 4) ∨ (e = .exit 3 ∧ ascBy leNum l = true ∧ hget st.h 0 = some (.cells [.rows false (l.map Session.cells), .int .i64 nx, .int .i64 la, .int .i64 ro]))) (l.zip l.tail) ⟨0, by simp [getT_setT], rfl, by simp, hh⟩ ?_ ?_
      · rintro rem T2 st2 hF hc2 hb2 ⟨k, hk, hd, hz, hh2⟩
        have g1 := hF 1 rfl
        simp only [getT_setT, h1] at g1
        clear hF
        have hlz := zip_tail_len l
        cases rem with
        | nil =>
          have hn := drop_nil_len hd
          have hlt : ¬ ((k + 1 : Nat) : Int) < (l.length : Int) := by omega
          rw [List.take_of_length_le hn] at hz
          simp (config := {maxSteps := 1000000}) only [↓bD, bL, stps, stpOf, ev, loadObj, TI.agg, fieldAddrA, binP, binA, symA, intOp, lenA, Option.or, ↓reduceIte, reduceCtorEq, Nat.reduceEqDiff, Nat.reduceLT, Nat.reduceAdd, C1_ty, ty24, ty26, Nat.add_assoc, hk, g1, hlt, hh2]
          exact hz
        | cons q rem =>
          obtain ⟨hx, hlt0, hd', ht'⟩ := drop_cons_get hd
          obtain ⟨hq1, hq2⟩ := zip_tail_get hx
          have hlt : ((k + 1 : Nat) : Int) < (l.length : Int) := by omega
          have hlt2 : (k : Int) < (l.length : Int) := by omega
          have hw : IntKind.i64.wrap (((k + 1 : Nat) : Int) + 1) = ((k + 1 + 1 : Nat) : Int) := by rw [Int.natCast_add (k + 1)]; exact wrap_i64 (by omega) (by omega)
          have hw2 : IntKind.i64.wrap (((k + 1 : Nat) : Int) - 1) = (k : Int) := by rw [show ((k + 1 : Nat) : Int) - 1 = (k : Int) by omega]; exact wrap_i64 (by omega) (by omega)
          by_cases hle : q.2.number ≤ q.1.number
          · have hfa : ascBy leNum l = false := by
              unfold ascBy
              rw [List.all_eq_false]
              exact ⟨q, List.mem_of_getElem? hx, by simp [leNum, hle]⟩
            simp (config := {maxSteps := 1000000}) only [↓bD, bL, stps, stpOf, ev, ofConst, loadObj, TI.agg, fieldAddrA, indexAddrA, binP, binA, symA, intOp, lenA, elemTI, Option.or, ↓reduceIte, reduceCtorEq, Nat.reduceEqDiff, Nat.reduceLT, Nat.reduceAdd, looks, C1_ty, ty3, ty24, ty26, ty83, Nat.add_assoc, hk, g1, hh2, hlt, hlt2, hq1, hq2, hw2, hfa, eq_true hle]
            kernel_rfl
          · simp (config := {maxSteps := 1000000}) only [↓bD, bL, stps, stpOf, ev, ofConst, loadObj, TI.agg, fieldAddrA, indexAddrA, binP, binA, symA, intOp, lenA, elemTI, Option.or, ↓reduceIte, reduceCtorEq, Nat.reduceEqDiff, Nat.reduceLT, Nat.reduceAdd, looks, C1_ty, ty3, ty24, ty26, ty83, Nat.add_assoc, hk, g1, hh2, hlt, hlt2, hq1, hq2, hw, hw2, eq_false hle]
            refine ⟨by kernel_rfl, ?_⟩
            exact ⟨rem, by simp, k + 1, rfl, hd', by rw [ht', List.all_append, hz]; simp [leNum, hle]⟩
      · rintro e T2 st2 he2 hF hc2 hb2 (⟨rfl, h5, h2⟩ | ⟨rfl, h5, hh2⟩)
        · simp only [↓bD, bL, resA, ↓reduceIte, fin, Tryz.results20, h4, h5, h2, eq_true c1, eq_true c2, eq_true c3, eq_false c4]
        · have g1 := hF 1 rfl
          simp only [getT_setT, h1] at g1
          clear hF
          have hbar2 : st2.bar = 0 := by rw [hb2]
          simp (config := {maxSteps := 1000000}) only [↓bD, bL, stps, stpOf, ev, ofConst, ↓reduceIte, Nat.reduceLT, Tryz.ntmps20, hbar2]
          have hsz : ∀ s ∈ l, 0 ≤ s.size ∧ s.size ≤ 300 := fun s hs => by
            have h := firstErr_all h4 s hs
            unfold checkSess at h
            by_cases q : (0 ≤ s.size ∧ s.size ≤ 300)
            · exact q
            · rw [if_pos q] at h; split at h <;> omega
          refine X_loop (fun (rem : List Session) T st => ∃ k : Nat, getT T 7 = .int .i64 (k : Nat) ∧ l.drop k = rem ∧ (l.take k).any (fun s => decide (ro < openOf s.who l)) = false ∧ hget st.h 0 = some (.cells [.rows false (l.map Session.cells), .int .i64 nx, .int .i64 la, .int .i64 ro])) List.length
            (fun e T st => (e = .ret ∧ l.any (fun s => decide (ro < openOf s.who l)) = true ∧ getT T 2 = .int .i64 10) ∨ (e = .exit 5 ∧ l.any (fun s => decide (ro < openOf s.who l)) = false)) l ⟨0, by simp [getT_setT], rfl, by simp, hh2⟩ ?_ ?_
          · rintro rem T3 st3 hF hc3 hb3 ⟨k, hk, hd, hz, hh3⟩
            have k1 := hF 1 rfl
            simp only [getT_setT, g1] at k1
            clear hF
            cases rem with
            | nil =>
              have hn := drop_nil_len hd
              have hlt : ¬ (k : Int) < (l.length : Int) := by omega
              rw [List.take_of_length_le hn] at hz
              simp only [↓bD, bL, stps, stpOf, ev, loadObj, TI.agg, fieldAddrA, binP, binA, symA, intOp, lenA, Option.or, ↓reduceIte, reduceCtorEq, Nat.reduceEqDiff, Nat.reduceLT, Nat.reduceAdd, C1_ty, ty24, ty26, Nat.add_assoc, hk, k1, hh3, hlt, hz]
            | cons x rem =>
              obtain ⟨hx, hlt0, hd', ht'⟩ := drop_cons_get hd
              have hlt : (k : Int) < (l.length : Int) := by omega
              have hw : IntKind.i64.wrap ((k : Int) + 1) = ((k + 1 : Nat) : Int) := by rw [Int.natCast_add]; exact wrap_i64 (by omega) (by omega)
              have hbar3 : st3.bar = 0 := by rw [hb3]
              have hg := G_rOpenOf l x.who (by omega) hsz
              by_cases hro : ro < openOf x.who l
              · have hany : l.any (fun s => decide (ro < openOf s.who l)) = true := by
                  rw [List.any_eq_true]; exact ⟨x, List.mem_of_getElem? hx, by simpa using hro⟩
                simp (config := {maxSteps := 1000000}) only [↓bD, bL, stps, stpOf, ev, ofConst, loadObj, TI.agg, fieldAddrA, indexAddrA, binP, binA, symA, intOp, lenA, elemTI, Option.or, hputs, ↓reduceIte, reduceCtorEq, Nat.reduceEqDiff, Nat.reduceLT, Nat.reduceAdd, fin, List.mapM_cons, List.mapM_nil, scalarN, plainN, looks, C1_ty, ty3, ty9, ty24, ty26, ty83, pureF, Cl_3 (C := C1) (g := 37) (fn := Tryz.f37) rfl (fnBy_of Tryz.func37 rfl) rfl, Nat.add_assoc, hk, k1, hh3, hlt, hx, hbar3, hg, hany, eq_true hro]
                kernel_rfl
              · simp (config := {maxSteps := 1000000}) only [↓bD, bL, stps, stpOf, ev, ofConst, loadObj, TI.agg, fieldAddrA, indexAddrA, binP, binA, symA, intOp, lenA, elemTI, Option.or, hputs, ↓reduceIte, reduceCtorEq, Nat.reduceEqDiff, Nat.reduceLT, Nat.reduceAdd, fin, List.mapM_cons, List.mapM_nil, scalarN, plainN, looks, C1_ty, ty3, ty9, ty24, ty26, ty83, pureF, Cl_3 (C := C1) (g := 37) (fn := Tryz.f37) rfl (fnBy_of Tryz.func37 rfl) rfl, Nat.add_assoc, hk, k1, hh3, hlt, hx, hw, hbar3, hg, eq_false hro]
                refine ⟨by kernel_rfl, ?_⟩
                exact ⟨rem, by simp, k + 1, rfl, hd', by rw [ht', List.any_append, hz]; simp [hro]⟩
          · rintro e T3 st3 he3 hF hc3 hb3 (⟨rfl, h6, h2⟩ | ⟨rfl, h6⟩)
            · simp only [↓bD, bL, resA, ↓reduceIte, fin, Tryz.results20, h4, h5, h6, h2, eq_true c1, eq_true c2, eq_true c3, eq_false c4]
            · simp only [↓bD, bL, stps, stpOf, ev, ofConst, resA, ↓reduceIte, Nat.reduceLT, fin, Tryz.ntmps20, Tryz.results20, h4, h5, h6, eq_true c1, eq_true c2, eq_true c3, eq_false c4]
theorem G_rCheckUploads (l : List Session) (nx la ro : Int) (hp : ∀ s ∈ l, s.who.length ≤ 4398046511104) : G3 C1 Tryz.f20 [.agg [.rows false (l.map Session.cells), .int .i64 nx, .int .i64 la, .int .i64 ro]] = some (.int .i64 (checkUploads ⟨l, nx, la, ro⟩)) := G3_eq (R_rCheckUploads l nx la ro hp)
end Go.Ab.Seat
/- the document's WhoOf. -/
namespace Go.Ab.Seat
open Go Go.Proofs
-- CFG C1
set_option linter.unusedSimpArgs false
set_option linter.unusedVariables false
set_option maxHeartbeats 4000000
set_option maxRecDepth 100000

/-- Who may in a folder. -/
def whoOf (l : List Grant) (f : Str) : List Str := (l.filter fun g => decide (g.folder = f)).map Grant.who
-- REG R.WhoOf G_whoOf
theorem R_whoOf (l : List Grant) (f : Str) (hl : l.length ≤ 1099511627776) : Run3 C1 Tryz.f19 [.rows false (l.map Grant.cells), .str f] (.rows false ((whoOf l f).map sCells)) := by
  refine Run3.mk (fn := Tryz.f19) rfl ?_
  simp only [↓bD, bL, stps, stpOf, ev, setT, ofConst, padT, List.replicate, Nat.reduceLT, Nat.reduceAdd, Nat.reduceSub, Tryz.ntmps19]
  refine X_loop (fun (rem : List Grant) T st => ∃ (k : Nat) (v : AV) (ns : List Str), getT T 6 = .int .i64 (k : Nat) ∧ l.drop k = rem ∧ getT T 5 = v ∧ OwnT st.h st.c v ns ∧ ns.length ≤ k ∧ whoOf (l.take k) f = ns) List.length
    (fun e T st => e = .exit 0 ∧ ∃ (v : AV), getT T 5 = v ∧ OwnT st.h st.c v (whoOf l f)) l
    ⟨0, .rows true [], [], rfl, rfl, rfl, .inl ⟨rfl, rfl⟩, Nat.zero_le _, rfl⟩ ?_ ?_
  · rintro rem T st hF hc hb ⟨k, v, ns, h6, hd, h5, ho, hnl, hn⟩
    have h0 := hF 0 rfl
    have h1 := hF 1 rfl
    simp only [getT_setT, getT] at h0 h1
    clear hF
    have hbar : st.bar = 0 := hb
    cases rem with
    | nil =>
      have hnk := drop_nil_len hd
      have hlt : ¬ (k : Int) < (l.length : Int) := by omega
      rw [List.take_of_length_le hnk] at hn
      simp only [↓bD, bL, stps, stpOf, ev, binP, binA, symA, intOp, lenA, Option.or, ↓reduceIte, reduceCtorEq, Nat.reduceEqDiff, Nat.reduceLT, Nat.reduceAdd, C1_ty, ty23, Nat.add_assoc, h6, h5, h0, hlt]
      rw [hn]
      exact ⟨v, rfl, ho.up (by omega)⟩
    | cons x rem =>
      obtain ⟨hx, hlt0, hd', ht'⟩ := drop_cons_get hd
      have hlt : (k : Int) < (l.length : Int) := by omega
      have hw : IntKind.i64.wrap ((k : Int) + 1) = ((k + 1 : Nat) : Int) := by rw [Int.natCast_add]; exact wrap_i64 (by omega) (by omega)
      by_cases hs : x.folder = f
      · have hstep : whoOf (l.take (k + 1)) f = ns ++ [x.who] := by
          rw [ht', ← hn]; unfold whoOf; simp [List.filter_append, hs]
        rcases ho with ⟨rfl, rfl⟩ | ⟨hne, s, rfl, hsc, hg⟩
        · simp only [↓bD, bL, stps, stpOf, ev, ofConst, AV.cells, AV.one, loadObj, TI.agg, fieldAddrA, indexAddrA, binP, binA, symA, intOp, strOp, lenA, putCells, elemTI, List.replicate, Option.or, hputs, ↓reduceIte, reduceCtorEq, Nat.reduceEqDiff, Nat.reduceLT, Nat.reduceLeDiff, Nat.reduceAdd, buildSliceA, fillA, appendA, elemsOf, C1_ty, ty9, ty23, ty60, ty61, beqD, Nat.add_assoc, h6, h5, h0, h1, hlt, hx, hw, hbar, eq_true hs]
          refine ⟨rem, by simp, k + 1, _, [x.who], rfl, hd', rfl, .inr ⟨by simp, _, rfl, by simp, by rw [hget_hput, if_pos rfl]; rfl⟩, by simp, hstep⟩
        · have hne1 : ∀ j, (st.c + j = s) = False := fun j => by simp; omega
          have hb1 : (ns.length + 1) * 16 ≤ 140737488355328 := by omega
          have hb2 : ns.length ≤ 9223372036854775806 := by omega
          simp only [↓bD, bL, stps, stpOf, ev, ofConst, AV.cells, AV.one, loadObj, TI.agg, fieldAddrA, indexAddrA, binP, binA, symA, intOp, strOp, lenA, putCells, elemTI, List.replicate, Option.or, hputs, ↓reduceIte, reduceCtorEq, Nat.reduceEqDiff, Nat.reduceLT, Nat.reduceLeDiff, Nat.reduceAdd, buildSliceA, fillA, appendA, elemsOf, C1_ty, ty9, ty23, ty60, ty61, beqD, Nat.add_assoc, h6, h5, h0, h1, hlt, hx, hw, hbar, eq_true hs, hne1, hg, hb1, hb2]
          refine ⟨rem, by simp, k + 1, _, ns ++ [x.who], rfl, hd', rfl, .inr ⟨by simp, st.c + 18, by simp, by omega, ?_⟩, by simp; omega, hstep⟩
          rw [hget_hput, if_pos rfl]; simp
      · have hstep : whoOf (l.take (k + 1)) f = ns := by
          rw [ht', ← hn]; unfold whoOf; simp [List.filter_append, hs]
        simp only [↓bD, bL, stps, stpOf, ev, ofConst, loadObj, TI.agg, fieldAddrA, indexAddrA, binP, binA, symA, intOp, strOp, lenA, elemTI, Option.or, ↓reduceIte, reduceCtorEq, Nat.reduceEqDiff, Nat.reduceLT, Nat.reduceAdd, C1_ty, ty9, ty23, ty60, beqD, Nat.add_assoc, h6, h5, h0, h1, hlt, hx, hw, hbar, eq_false hs]
        exact ⟨rem, by simp, k + 1, v, ns, rfl, hd', rfl, ho.up (by omega), by omega, hstep⟩
  · rintro e T st he hF hc hb ⟨rfl, v, h5, ho⟩
    simp only [↓bD, bL, stps, stpOf, ev, resA, ↓reduceIte, Nat.reduceLT, Nat.reduceAdd, Tryz.ntmps19, Tryz.results19, Nat.add_assoc, h5]
    exact fin_ownT ho
theorem G_whoOf (l : List Grant) (f : Str) (hl : l.length ≤ 1099511627776) : G3 C1 Tryz.f19 [.rows false (l.map Grant.cells), .str f] = some (.rows false ((whoOf l f).map sCells)) := G3_eq (R_whoOf l f hl)
end Go.Ab.Seat
/- the document's CheckGrants. -/
namespace Go.Ab.Seat
open Go Go.Proofs
-- CFG C1
set_option linter.unusedSimpArgs false
set_option linter.unusedVariables false
set_option maxHeartbeats 4000000
set_option maxRecDepth 100000

-- REG R.CheckGrants G_rCheckGrants
theorem R_rCheckGrants (l : List Grant) (hl : l.length ≤ 4398046511104) (hp : ∀ g ∈ l, g.folder.length ≤ 4398046511104 ∧ g.who.length ≤ 4398046511104) : Run3 C1 Tryz.f17 [.rows false (l.map Grant.cells)] (.int .i64 (checkGrants l)) := by
  refine Run3.mk (fn := Tryz.f17) rfl ?_
  unfold checkGrants
  rw [ownedB_eq]
  by_cases h60 : 60 < l.length
  · have h60' : (60 : Int) < (l.length : Int) := by omega
    simp only [↓bD, bL, stps, stpOf, ev, getT, setT, ofConst, binP, binA, symA, intOp, lenA, resA, padT, List.replicate, Option.or, ↓reduceIte, Nat.reduceLT, Nat.reduceAdd, Nat.reduceSub, fin, C1_ty, ty23, Tryz.ntmps17, Tryz.results17, h60, h60']
  · have h60' : ¬ (60 : Int) < (l.length : Int) := by omega
    simp only [↓bD, bL, stps, stpOf, ev, getT, setT, ofConst, binP, binA, symA, intOp, lenA, padT, List.replicate, Option.or, ↓reduceIte, Nat.reduceLT, Nat.reduceAdd, Nat.reduceSub, C1_ty, ty23, Tryz.ntmps17, h60']
    refine X_loop (fun (rem : List Grant) T st => ∃ k : Nat, getT T 3 = .int .i64 (k : Nat) ∧ l.drop k = rem ∧ firstErr checkG (l.take k) = 0) List.length
      (fun e T st => (e = .ret ∧ firstErr checkG l ≠ 0 ∧ getT T 2 = .int .i64 (firstErr checkG l)) ∨ (e = .exit 0 ∧ firstErr checkG l = 0)) l ⟨0, rfl, rfl, rfl⟩ ?_ ?_
    · rintro rem T st hF hc hb ⟨k, hk, hd, hz⟩
      have h0 := hF 0 rfl
      simp only [getT] at h0
      clear hF
      cases rem with
      | nil =>
        have hn := drop_nil_len hd
        have hlt : ¬ (k : Int) < (l.length : Int) := by omega
        rw [List.take_of_length_le hn] at hz
        simp only [↓bD, bL, stps, stpOf, ev, binP, binA, symA, intOp, lenA, Option.or, ↓reduceIte, reduceCtorEq, Nat.reduceEqDiff, Nat.reduceLT, Nat.reduceAdd, C1_ty, ty23, Nat.add_assoc, hk, h0, hlt, hz]
      | cons x rem =>
        obtain ⟨hx, hlt0, hd', ht'⟩ := drop_cons_get hd
        have hlt : (k : Int) < (l.length : Int) := by omega
        have hw : IntKind.i64.wrap ((k : Int) + 1) = ((k + 1 : Nat) : Int) := by rw [Int.natCast_add]; exact wrap_i64 (by omega) (by omega)
        obtain ⟨hb1, hb2⟩ := hp x (List.mem_of_getElem? hx)
        have hfe : firstErr checkG l = if checkG x ≠ 0 then checkG x else firstErr checkG rem := by
          rw [← List.take_append_drop k l, firstErr_append, hz, hd]; rfl
        have hfe2 : checkG x = 0 → firstErr checkG (l.take (k + 1)) = 0 := fun h => by
          rw [ht', firstErr_append, hz]; simp [firstErr, h]
        have c0 : checkG x = if isName x.folder = false then 1 else if isName x.who = false then 1 else if x.right < 1 then 3 else if 3 < x.right then 3 else 0 := by
          unfold checkG
          cases a1 : isName x.folder <;> cases a2 : isName x.who <;> simp [a1, a2]
        cases n1 : isName x.folder with
        | false =>
          have hv : firstErr checkG l = 1 := by rw [hfe, c0, n1]; rfl
          simp only [↓bD, bL, stps, stpOf, ev, ofConst, loadObj, TI.agg, fieldAddrA, indexAddrA, binP, binA, symA, intOp, unA, lenA, elemTI, Option.or, hputs, ↓reduceIte, reduceCtorEq, Nat.reduceEqDiff, Nat.reduceLT, Nat.reduceAdd, fin, List.mapM_cons, List.mapM_nil, scalarN, plainN, C1_ty, ty9, ty23, ty60, Cl_3 (C := C1) (g := 15) (fn := Tryz.f15) rfl (fnBy_of Tryz.func15 rfl) rfl, pureF, G_rIsName, Int.reduceEq, Nat.add_assoc, hk, h0, hlt, hx, hb1, n1, hv]
        | true =>
          cases n2 : isName x.who with
          | false =>
            have hv : firstErr checkG l = 1 := by rw [hfe, c0, n1, n2]; rfl
            simp only [↓bD, bL, stps, stpOf, ev, ofConst, loadObj, TI.agg, fieldAddrA, indexAddrA, binP, binA, symA, intOp, unA, lenA, elemTI, Option.or, hputs, ↓reduceIte, reduceCtorEq, Nat.reduceEqDiff, Nat.reduceLT, Nat.reduceAdd, fin, List.mapM_cons, List.mapM_nil, scalarN, plainN, C1_ty, ty9, ty23, ty60, Cl_3 (C := C1) (g := 15) (fn := Tryz.f15) rfl (fnBy_of Tryz.func15 rfl) rfl, pureF, G_rIsName, Int.reduceEq, Nat.add_assoc, hk, h0, hlt, hx, hb1, hb2, n1, n2, hv]
          | true =>
            rw [n1, n2] at c0
            simp only [Bool.true_eq_false, if_false] at c0
            by_cases r1 : x.right < 1
            · have hv : firstErr checkG l = 3 := by rw [hfe, c0, if_pos r1]; rfl
              simp only [↓bD, bL, stps, stpOf, ev, ofConst, loadObj, TI.agg, fieldAddrA, indexAddrA, binP, binA, symA, intOp, unA, lenA, elemTI, Option.or, hputs, ↓reduceIte, reduceCtorEq, Nat.reduceEqDiff, Nat.reduceLT, Nat.reduceAdd, fin, List.mapM_cons, List.mapM_nil, scalarN, plainN, C1_ty, ty3, ty9, ty23, ty60, Cl_3 (C := C1) (g := 15) (fn := Tryz.f15) rfl (fnBy_of Tryz.func15 rfl) rfl, pureF, G_rIsName, Int.reduceEq, Nat.add_assoc, hk, h0, hlt, hx, hb1, hb2, n1, n2, eq_true r1, hv]
            · by_cases r2 : 3 < x.right
              · have hv : firstErr checkG l = 3 := by rw [hfe, c0, if_neg r1, if_pos r2]; rfl
                simp only [↓bD, bL, stps, stpOf, ev, ofConst, loadObj, TI.agg, fieldAddrA, indexAddrA, binP, binA, symA, intOp, unA, lenA, elemTI, Option.or, hputs, ↓reduceIte, reduceCtorEq, Nat.reduceEqDiff, Nat.reduceLT, Nat.reduceAdd, fin, List.mapM_cons, List.mapM_nil, scalarN, plainN, C1_ty, ty3, ty9, ty23, ty60, Cl_3 (C := C1) (g := 15) (fn := Tryz.f15) rfl (fnBy_of Tryz.func15 rfl) rfl, pureF, G_rIsName, Int.reduceEq, Nat.add_assoc, hk, h0, hlt, hx, hb1, hb2, n1, n2, eq_false r1, eq_true r2, hv]
              · have hn0 := hfe2 (by rw [c0, if_neg r1, if_neg r2])
                simp only [↓bD, bL, stps, stpOf, ev, ofConst, loadObj, TI.agg, fieldAddrA, indexAddrA, binP, binA, symA, intOp, unA, lenA, elemTI, Option.or, hputs, ↓reduceIte, reduceCtorEq, Nat.reduceEqDiff, Nat.reduceLT, Nat.reduceAdd, fin, List.mapM_cons, List.mapM_nil, scalarN, plainN, C1_ty, ty3, ty9, ty23, ty60, Cl_3 (C := C1) (g := 15) (fn := Tryz.f15) rfl (fnBy_of Tryz.func15 rfl) rfl, pureF, G_rIsName, Nat.add_assoc, hk, h0, hlt, hx, hw, hb1, hb2, n1, n2, eq_false r1, eq_false r2]
                exact ⟨rem, by simp, k + 1, rfl, hd', hn0⟩
    · rintro e T st he hF hc hb (⟨rfl, h4, h2⟩ | ⟨rfl, h4⟩)
      · simp only [↓bD, bL, resA, ↓reduceIte, fin, Tryz.results17, h4, h2, h60]
      · have h0 := hF 0 rfl
        simp only [getT] at h0
        clear hF
        simp only [↓bD, bL, stps, stpOf, ev, ofConst, ↓reduceIte, Nat.reduceLT, Tryz.ntmps17]
        refine X_loop (fun (rem : List (Grant × Grant)) T st => ∃ k : Nat, getT T 4 = .int .i64 ((k + 1 : Nat) : Int) ∧ (l.zip l.tail).drop k = rem ∧ ((l.zip l.tail).take k).all (fun q => !leG q.2 q.1) = true) List.length
          (fun e T st => (e = .ret ∧ ascBy leG l = false ∧ getT T 2 = .int .i64 4) ∨ (e = .exit 2 ∧ ascBy leG l = true)) (l.zip l.tail) ⟨0, by simp [getT_setT], rfl, by simp⟩ ?_ ?_
        · rintro rem T2 st2 hF hc2 hb2 ⟨k, hk, hd, hz⟩
          have g0 := hF 0 rfl
          simp only [getT_setT, h0] at g0
          clear hF
          have hlz := zip_tail_len l
          cases rem with
          | nil =>
            have hn := drop_nil_len hd
            have hlt : ¬ ((k + 1 : Nat) : Int) < (l.length : Int) := by omega
            rw [List.take_of_length_le hn] at hz
            simp only [↓bD, bL, stps, stpOf, ev, binP, binA, symA, intOp, lenA, Option.or, ↓reduceIte, reduceCtorEq, Nat.reduceEqDiff, Nat.reduceLT, Nat.reduceAdd, C1_ty, ty23, Nat.add_assoc, hk, g0, hlt]
            exact hz
          | cons q rem =>
            obtain ⟨hx, hlt0, hd', ht'⟩ := drop_cons_get hd
            obtain ⟨hx1, hx2⟩ := zip_tail_get hx
            have hlt : ((k + 1 : Nat) : Int) < (l.length : Int) := by omega
            have hlt2 : (k : Int) < (l.length : Int) := by omega
            have hw : IntKind.i64.wrap (((k + 1 : Nat) : Int) + 1) = ((k + 1 + 1 : Nat) : Int) := by rw [Int.natCast_add (k + 1)]; exact wrap_i64 (by omega) (by omega)
            have hw2 : IntKind.i64.wrap (((k + 1 : Nat) : Int) - 1) = (k : Int) := by rw [wrap_i64 (by omega) (by omega)]; omega
            have hle := leG_eq q.2 q.1
            have hyes : leG q.2 q.1 = true → ascBy leG l = false := fun h => all_append_false hx (by rw [h]; rfl)
            have hno : leG q.2 q.1 = false → ((l.zip l.tail).take (k + 1)).all (fun q => !leG q.2 q.1) = true := fun h => by rw [ht', List.all_append, hz]; simp [h]
            have go_yes : leG q.2 q.1 = true → ascBy leG l = false := hyes
            cases b1 : Op.bytesLess q.2.folder q.1.folder with
            | true =>
              have hf := hyes (by rw [hle, b1]; rfl)
              simp only [↓bD, bL, stps, stpOf, ev, ofConst, loadObj, TI.agg, fieldAddrA, indexAddrA, binP, binA, symA, intOp, strOp, lenA, elemTI, Option.or, ↓reduceIte, reduceCtorEq, Nat.reduceEqDiff, Nat.reduceLT, Nat.reduceAdd, looks, C1_ty, ty9, ty23, ty60, Nat.add_assoc, hk, g0, hlt, hlt2, hx1, hx2, hw2, b1, hf]
              kernel_rfl
            | false =>
              by_cases e1 : q.2.folder = q.1.folder
              · cases b2 : (Op.bytesLess q.2.who q.1.who || decide (q.2.who = q.1.who)) with
                | true =>
                  have hf := hyes (by rw [hle, b1, b2]; simp [e1])
                  simp only [↓bD, bL, stps, stpOf, ev, ofConst, loadObj, TI.agg, fieldAddrA, indexAddrA, binP, binA, symA, intOp, strOp, lenA, elemTI, Option.or, ↓reduceIte, reduceCtorEq, Nat.reduceEqDiff, Nat.reduceLT, Nat.reduceAdd, looks, C1_ty, ty9, ty23, ty60, beqD, Nat.add_assoc, hk, g0, hlt, hlt2, hx1, hx2, hw2, b1, eq_true e1, b2, hf]
                  kernel_rfl
                | false =>
                  have hf := hno (by rw [hle, b1, b2]; simp)
                  simp only [↓bD, bL, stps, stpOf, ev, ofConst, loadObj, TI.agg, fieldAddrA, indexAddrA, binP, binA, symA, intOp, strOp, lenA, elemTI, Option.or, ↓reduceIte, reduceCtorEq, Nat.reduceEqDiff, Nat.reduceLT, Nat.reduceAdd, looks, C1_ty, ty9, ty23, ty60, beqD, Nat.add_assoc, hk, g0, hlt, hlt2, hx1, hx2, hw, hw2, b1, eq_true e1, b2]
                  refine ⟨by kernel_rfl, ?_⟩
                  exact ⟨rem, by simp, k + 1, rfl, hd', hf⟩
              · have hf := hno (by rw [hle, b1]; simp [e1])
                simp only [↓bD, bL, stps, stpOf, ev, ofConst, loadObj, TI.agg, fieldAddrA, indexAddrA, binP, binA, symA, intOp, strOp, lenA, elemTI, Option.or, ↓reduceIte, reduceCtorEq, Nat.reduceEqDiff, Nat.reduceLT, Nat.reduceAdd, looks, C1_ty, ty9, ty23, ty60, beqD, Nat.add_assoc, hk, g0, hlt, hlt2, hx1, hx2, hw, hw2, b1, eq_false e1]
                refine ⟨by kernel_rfl, ?_⟩
                exact ⟨rem, by simp, k + 1, rfl, hd', hf⟩
        · rintro e2 T2 st2 he2 hF hc2 hb2 (⟨rfl, g4, g2⟩ | ⟨rfl, g4⟩)
          · simp only [↓bD, bL, resA, ↓reduceIte, fin, Tryz.results17, g4, g2, h4, h60]
          · have g0 := hF 0 rfl
            simp only [getT_setT, h0] at g0
            clear hF
            simp only [h60, h4, g4, if_false, ne_eq, not_true_eq_false, Bool.true_eq_false]
            simp only [↓bD, bL, stps, stpOf, ev, ofConst, ↓reduceIte, Nat.reduceLT, Tryz.ntmps17]
            refine X_loop (fun (rem : List Grant) T st => ∃ k : Nat, getT T 5 = .int .i64 (k : Nat) ∧ l.drop k = rem ∧ (l.take k).any (fun g => !ownedF l g.folder) = false) List.length
              (fun e T st => (e = .ret ∧ l.any (fun g => !ownedF l g.folder) = true ∧ getT T 2 = .int .i64 5) ∨ (e = .exit 4 ∧ l.any (fun g => !ownedF l g.folder) = false)) l ⟨0, by simp [getT_setT], rfl, rfl⟩ ?_ ?_
            · rintro rem T3 st3 hF hc3 hb3 ⟨k, hk, hd, hz⟩
              have i0 := hF 0 rfl
              simp only [getT_setT, g0] at i0
              clear hF
              cases rem with
              | nil =>
                have hn := drop_nil_len hd
                have hlt : ¬ (k : Int) < (l.length : Int) := by omega
                rw [List.take_of_length_le hn] at hz
                simp only [↓bD, bL, stps, stpOf, ev, binP, binA, symA, intOp, lenA, Option.or, ↓reduceIte, reduceCtorEq, Nat.reduceEqDiff, Nat.reduceLT, Nat.reduceAdd, C1_ty, ty23, Nat.add_assoc, hk, i0, hlt, hz]
              | cons x rem =>
                obtain ⟨hx, hlt0, hd', ht'⟩ := drop_cons_get hd
                have hlt : (k : Int) < (l.length : Int) := by omega
                have hw : IntKind.i64.wrap ((k : Int) + 1) = ((k + 1 : Nat) : Int) := by rw [Int.natCast_add]; exact wrap_i64 (by omega) (by omega)
                cases ho : ownedF l x.folder with
                | false =>
                  have ha := any_get (f := fun g => !ownedF l g.folder) hx (by simp [ho])
                  simp only [↓bD, bL, stps, stpOf, ev, ofConst, loadObj, TI.agg, fieldAddrA, indexAddrA, binP, binA, symA, intOp, unA, lenA, elemTI, Option.or, hputs, ↓reduceIte, reduceCtorEq, Nat.reduceEqDiff, Nat.reduceLT, Nat.reduceAdd, fin, List.mapM_cons, List.mapM_nil, scalarN, plainN, C1_ty, ty9, ty23, ty60, pureF, Cl_3 (C := C1) (g := 35) (fn := Tryz.f35) rfl (fnBy_of Tryz.func35 rfl) rfl, G_rOwned, Nat.add_assoc, hk, i0, hlt, hx, hl, ho, ha]
                | true =>
                  have ha := any_snoc (f := fun g => !ownedF l g.folder) hz ht' (by simp [ho])
                  simp only [↓bD, bL, stps, stpOf, ev, ofConst, loadObj, TI.agg, fieldAddrA, indexAddrA, binP, binA, symA, intOp, unA, lenA, elemTI, Option.or, hputs, ↓reduceIte, reduceCtorEq, Nat.reduceEqDiff, Nat.reduceLT, Nat.reduceAdd, fin, List.mapM_cons, List.mapM_nil, scalarN, plainN, C1_ty, ty9, ty23, ty60, pureF, Cl_3 (C := C1) (g := 35) (fn := Tryz.f35) rfl (fnBy_of Tryz.func35 rfl) rfl, G_rOwned, Nat.add_assoc, hk, i0, hlt, hx, hw, hl, ho]
                  exact ⟨rem, by simp, k + 1, rfl, hd', ha⟩
            · rintro e3 T3 st3 he3 hF hc3 hb3 (⟨rfl, i4, i2⟩ | ⟨rfl, i4⟩)
              · simp only [↓bD, bL, resA, ↓reduceIte, fin, Tryz.results17, i4, i2, h4, h60, g4]
              · simp only [↓bD, bL, stps, stpOf, ev, ofConst, resA, ↓reduceIte, Nat.reduceLT, fin, Tryz.ntmps17, Tryz.results17, i4, h4, h60, g4]
theorem G_rCheckGrants (l : List Grant) (hl : l.length ≤ 4398046511104) (hp : ∀ g ∈ l, g.folder.length ≤ 4398046511104 ∧ g.who.length ≤ 4398046511104) : G3 C1 Tryz.f17 [.rows false (l.map Grant.cells)] = some (.int .i64 (checkGrants l)) := G3_eq (R_rCheckGrants l hl hp)
end Go.Ab.Seat
/- the document's CheckHub. -/
namespace Go.Ab.Seat
open Go Go.Proofs
-- CFG C2
set_option linter.unusedSimpArgs false
set_option linter.unusedVariables false
set_option maxHeartbeats 4000000
set_option maxRecDepth 100000

structure FitH (h : Hub) : Prop where
  fl : h.folders.length ≤ 1099511627776
  fo : ∀ s ∈ h.folders, s.name.length ≤ 1099511627776 ∧ FitJ s.journal
  gl : h.grants.length ≤ 1099511627776
  gr : ∀ g ∈ h.grants, g.folder.length ≤ 1099511627776 ∧ g.who.length ≤ 1099511627776
  se : ∀ s ∈ h.uploads.sessions, s.who.length ≤ 1099511627776 ∧ s.text.length ≤ 1099511627776
  sl : h.uploads.sessions.length ≤ 1099511627776
def checkShared (s : Shared) : Int := if isName s.name = false then 1 else (openJ s.journal).2
def leShared (x y : Shared) : Bool := leS x.name y.name
/-- The document's CheckHub. -/
def checkHub (h : Hub) : Int :=
  if h.now < 0 then 3 else if 1099511627776 < h.now then 3 else if 8 < h.folders.length then 2
  else if firstErr checkShared h.folders ≠ 0 then firstErr checkShared h.folders else if ascBy leShared h.folders = false then 4
  else if checkGrants h.grants ≠ 0 then checkGrants h.grants else if h.grants.any (fun g => decide (folderAt h.folders g.folder < 0)) = true then 5
  else if h.folders.any (fun s => decide (whoOf h.grants s.name = [])) = true then 5 else checkUploads h.uploads

def hubO (h : Hub) : Option AObj := some (.cells [.rows false (h.folders.map Shared.cells), .rows false (h.grants.map Grant.cells), .rows false (h.uploads.sessions.map Session.cells), .int .i64 h.uploads.next, .int .i64 h.uploads.lasts, .int .i64 h.uploads.room, .int .i64 h.now])
def hubJ (h : Hub) (T : List AV) (st : St) : Prop := getT T 1 = .ptr 0 0 ∧ hget st.h 0 = hubO h ∧ st.bar = 0
def chkQ (r : AV) : KE := endW C2 Tryz.f6.results.toList fun r1 st' => fin st'.h 0 false 8 r1 = some r
abbrev chkX (n : Nat) (T : List AV) (st : St) (r : AV) : Prop := X C2 Tryz.f6.ntmps (restC n (bodyC Tryz.f6)) T st (Q := ⟨chkQ r⟩)

theorem chk_asc (h : Hub) (hf : FitH h) (T : List AV) (st : St) (r : AV) (hJ : hubJ h T st) (herr : (h.folders.zip h.folders.tail).any (fun x => leShared x.2 x.1) = true → r = .int .i64 4)
    (hgo : (h.folders.zip h.folders.tail).any (fun x => leShared x.2 x.1) = false → ∀ T st, hubJ h T st → chkX 5 T st r) : chkX 4 T st r := by
  obtain ⟨g1, hh, hb⟩ := hJ
  have hfl := hf.fl
  have hgl := hf.gl
  unfold hubO at hh
  refine (?_ : X C2 Tryz.f6.ntmps (.seq _ (restC 5 (bodyC Tryz.f6))) T st (Q := ⟨chkQ r⟩))
  refine X_cut (fun T st => (h.folders.zip h.folders.tail).any (fun x => leShared x.2 x.1) = false ∧ hget st.h 0 = hubO h) ?_ fun T1 st1 hF hc hb1 hq => hgo hq.1 T1 st1 ⟨(hF 1 rfl).trans g1, hq.2, hb1.trans hb⟩
  simp only [↓bD, bL, stps, stpOf, ev, ofConst, Nat.reduceLT, Tryz.ntmps6, hb]
  refine X_loop (fun (rem : List (Shared × Shared)) T st => ∃ k : Nat, getT T 5 = .int .i64 ((k + 1 : Nat) : Int) ∧ (h.folders.zip h.folders.tail).drop k = rem ∧ ((h.folders.zip h.folders.tail).take k).any (fun x => leShared x.2 x.1) = false ∧ hget st.h 0 = hubO h) List.length
    (fun e T st => (e = .ret ∧ (h.folders.zip h.folders.tail).any (fun x => leShared x.2 x.1) = true ∧ getT T 2 = .int .i64 4) ∨ (e = .exit 2 ∧ (h.folders.zip h.folders.tail).any (fun x => leShared x.2 x.1) = false ∧ hget st.h 0 = hubO h)) (h.folders.zip h.folders.tail) ⟨0, by rw [getT_setT, if_pos rfl]; rfl, rfl, rfl, hh⟩ ?_ ?_
  · rintro rem T1 st1 hF hc hb1 ⟨k, hk, hd, hz, hh⟩
    have h1 := hF 1 rfl
    simp only [getT_setT, getT, g1, Nat.reduceEqDiff, if_false] at h1
    clear hF
    have hbar : st1.bar = 0 := hb1
    unfold hubO at hh
    cases rem with
    | nil =>
      have hnk := drop_nil_len hd
      have hlz := zip_tail_len h.folders
      have hlt : ¬ ((k + 1 : Nat) : Int) < (h.folders.length : Int) := by omega
      rw [List.take_of_length_le hnk] at hz
      simp only [↓bD, bL, stps, stpOf, ev, loadObj, TI.agg, fieldAddrA, binP, binA, symA, intOp, lenA, Option.or, ↓reduceIte, reduceCtorEq, Nat.reduceEqDiff, Nat.reduceLT, Nat.reduceAdd, C2_ty, ty22, ty28, Nat.add_assoc, hk, h1, hh, hlt, hz, hubO]
    | cons x rem =>
      obtain ⟨hx, hlt0, hd', ht'⟩ := drop_cons_get hd
      have hlz := zip_tail_len h.folders
      obtain ⟨hq1, hq2⟩ := zip_tail_get hx
      have hlt : ((k + 1 : Nat) : Int) < (h.folders.length : Int) := by omega
      have hlt2 : (k : Int) < (h.folders.length : Int) := by omega
      have hw : IntKind.i64.wrap (((k + 1 : Nat) : Int) + 1) = ((k + 1 + 1 : Nat) : Int) := by rw [Int.natCast_add (k + 1)]; exact wrap_i64 (by omega) (by omega)
      have hw2 : IntKind.i64.wrap (((k + 1 : Nat) : Int) - 1) = (k : Int) := by rw [show ((k + 1 : Nat) : Int) - 1 = (k : Int) by omega]; exact wrap_i64 (by omega) (by omega)
      cases hle : leShared x.2 x.1 with
      | true =>
        have hle2 : (Op.bytesLess x.2.name x.1.name = true ∨ x.2.name = x.1.name) = True := eq_true (by simpa [leShared, leS] using hle)
        have hany : (h.folders.zip h.folders.tail).any (fun x => leShared x.2 x.1) = true := List.any_eq_true.2 ⟨x, List.mem_of_getElem? hx, hle⟩
        simp (config := {maxSteps := 1000000}) only [↓bD, bL, stps, stpOf, ev, ofConst, loadObj, TI.agg, fieldAddrA, indexAddrA, binP, binA, symA, intOp, strOp, lenA, elemTI, Option.or, ↓reduceIte, reduceCtorEq, Nat.reduceEqDiff, Nat.reduceLT, Nat.reduceAdd, looks, C2_ty, ty9, ty22, ty28, ty53, beqD, Nat.add_assoc, hk, h1, hh, hlt, hlt2, hq1, hq2, hw2, hle2, hany]
        (first | exact (by kernel_rfl : (_ : Bool) = true) | (repeat (refine ⟨(by kernel_rfl : (_ : Bool) = true), ?_⟩)))
      | false =>
        have hle2 : (Op.bytesLess x.2.name x.1.name = true ∨ x.2.name = x.1.name) = False := eq_false (by simpa [leShared, leS] using hle)
        have hs : ((h.folders.zip h.folders.tail).take (k + 1)).any (fun x => leShared x.2 x.1) = false := by rw [ht', List.any_append, hz]; simpa using hle
        simp (config := {maxSteps := 1000000}) only [↓bD, bL, stps, stpOf, ev, ofConst, loadObj, TI.agg, fieldAddrA, indexAddrA, binP, binA, symA, intOp, strOp, lenA, elemTI, Option.or, ↓reduceIte, reduceCtorEq, Nat.reduceEqDiff, Nat.reduceLT, Nat.reduceAdd, looks, C2_ty, ty9, ty22, ty28, ty53, beqD, Nat.add_assoc, hk, h1, hh, hlt, hlt2, hq1, hq2, hw, hw2, hle2]
        (repeat (refine ⟨(by kernel_rfl : (_ : Bool) = true), ?_⟩))
        exact ⟨rem, by simp, k + 1, rfl, hd', hs, rfl⟩
  · rintro e T1 st1 he2 hF hc hb1 (⟨rfl, ha, h2⟩ | ⟨rfl, ha, hh⟩)
    · rw [herr ha]
      simp only [↓kseq_ret, ↓kblock_ret, List.toList_toArray, S_some, ↓end_ret, resA, tupOf_1, Option.map_some, fin, Tryz.results6, h2, chkQ]
    · simp only [↓kseq_normal, ↓kblock_exit, ↓reduceIte, and_self, ha, hh]

theorem chk_gr (h : Hub) (hf : FitH h) (T : List AV) (st : St) (r : AV) (hJ : hubJ h T st) (herr : h.grants.any (fun x => decide (folderAt h.folders x.folder < 0)) = true → r = .int .i64 5)
    (hgo : h.grants.any (fun x => decide (folderAt h.folders x.folder < 0)) = false → ∀ T st, hubJ h T st → chkX 8 T st r) : chkX 7 T st r := by
  obtain ⟨g1, hh, hb⟩ := hJ
  have hfl := hf.fl
  have hgl := hf.gl
  unfold hubO at hh
  refine (?_ : X C2 Tryz.f6.ntmps (.seq _ (restC 8 (bodyC Tryz.f6))) T st (Q := ⟨chkQ r⟩))
  refine X_cut (fun T st => h.grants.any (fun x => decide (folderAt h.folders x.folder < 0)) = false ∧ hget st.h 0 = hubO h) ?_ fun T1 st1 hF hc hb1 hq => hgo hq.1 T1 st1 ⟨(hF 1 rfl).trans g1, hq.2, hb1.trans hb⟩
  simp only [↓bD, bL, stps, stpOf, ev, ofConst, Nat.reduceLT, Tryz.ntmps6, hb]
  refine X_loop (fun (rem : List Grant) T st => ∃ k : Nat, getT T 7 = .int .i64 (k : Nat) ∧ h.grants.drop k = rem ∧ (h.grants.take k).any (fun x => decide (folderAt h.folders x.folder < 0)) = false ∧ hget st.h 0 = hubO h) List.length
    (fun e T st => (e = .ret ∧ h.grants.any (fun x => decide (folderAt h.folders x.folder < 0)) = true ∧ getT T 2 = .int .i64 5) ∨ (e = .exit 4 ∧ h.grants.any (fun x => decide (folderAt h.folders x.folder < 0)) = false ∧ hget st.h 0 = hubO h)) h.grants ⟨0, by rw [getT_setT, if_pos rfl]; rfl, rfl, rfl, hh⟩ ?_ ?_
  · rintro rem T1 st1 hF hc hb1 ⟨k, hk, hd, hz, hh⟩
    have h1 := hF 1 rfl
    simp only [getT_setT, getT, g1, Nat.reduceEqDiff, if_false] at h1
    clear hF
    have hbar : st1.bar = 0 := hb1
    unfold hubO at hh
    cases rem with
    | nil =>
      have hnk := drop_nil_len hd

      have hlt : ¬ (k : Int) < (h.grants.length : Int) := by omega
      rw [List.take_of_length_le hnk] at hz
      simp only [↓bD, bL, stps, stpOf, ev, loadObj, TI.agg, fieldAddrA, binP, binA, symA, intOp, lenA, Option.or, ↓reduceIte, reduceCtorEq, Nat.reduceEqDiff, Nat.reduceLT, Nat.reduceAdd, C2_ty, ty23, ty28, Nat.add_assoc, hk, h1, hh, hlt, hz, hubO]
    | cons x rem =>
      obtain ⟨hx, hlt0, hd', ht'⟩ := drop_cons_get hd
      have hlt : (k : Int) < (h.grants.length : Int) := by omega
      have hw : IntKind.i64.wrap ((k : Int) + 1) = ((k + 1 : Nat) : Int) := by rw [Int.natCast_add]; exact wrap_i64 (by omega) (by omega)
      have hG := G_folderAt h x.folder hf.fl
      rw [Hub.cells_eq] at hG
      by_cases hq : folderAt h.folders x.folder < 0
      · have hany : h.grants.any (fun x => decide (folderAt h.folders x.folder < 0)) = true := List.any_eq_true.2 ⟨x, List.mem_of_getElem? hx, by simpa using hq⟩
        simp (config := {maxSteps := 1000000}) only [↓bD, bL, stps, stpOf, ev, ofConst, loadObj, TI.agg, fieldAddrA, indexAddrA, binP, binA, symA, intOp, lenA, elemTI, Option.or, hputs, ↓reduceIte, reduceCtorEq, Nat.reduceEqDiff, Nat.reduceLT, Nat.reduceAdd, fin, List.mapM_cons, List.mapM_nil, scalarN, plainN, hookLooks, looks1, looks, C2_ty, ty9, ty23, ty28, ty60, pureF, Cl_hook (hk_C2_18), Nat.add_assoc, hk, h1, hh, hlt, hx, hG, eq_true hq, hany]
        (first | exact (by kernel_rfl : (_ : Bool) = true) | (repeat (refine ⟨(by kernel_rfl : (_ : Bool) = true), ?_⟩)))
      · have hs : (h.grants.take (k + 1)).any (fun x => decide (folderAt h.folders x.folder < 0)) = false := by rw [ht', List.any_append, hz]; simpa using hq
        simp (config := {maxSteps := 1000000}) only [↓bD, bL, stps, stpOf, ev, ofConst, loadObj, TI.agg, fieldAddrA, indexAddrA, binP, binA, symA, intOp, lenA, elemTI, Option.or, hputs, ↓reduceIte, reduceCtorEq, Nat.reduceEqDiff, Nat.reduceLT, Nat.reduceAdd, fin, List.mapM_cons, List.mapM_nil, scalarN, plainN, hookLooks, looks1, looks, C2_ty, ty9, ty23, ty28, ty60, pureF, Cl_hook (hk_C2_18), Nat.add_assoc, hk, h1, hh, hlt, hx, hw, hG, eq_false hq]
        (repeat (refine ⟨(by kernel_rfl : (_ : Bool) = true), ?_⟩))
        exact ⟨rem, by simp, k + 1, rfl, hd', hs, rfl⟩
  · rintro e T1 st1 he2 hF hc hb1 (⟨rfl, ha, h2⟩ | ⟨rfl, ha, hh⟩)
    · rw [herr ha]
      simp only [↓kseq_ret, ↓kblock_ret, List.toList_toArray, S_some, ↓end_ret, resA, tupOf_1, Option.map_some, fin, Tryz.results6, h2, chkQ]
    · simp only [↓kseq_normal, ↓kblock_exit, ↓reduceIte, and_self, ha, hh]

theorem chk_fo (h : Hub) (hf : FitH h) (T : List AV) (st : St) (r : AV) (hJ : hubJ h T st) (herr : h.folders.any (fun x => decide (whoOf h.grants x.name = [])) = true → r = .int .i64 5)
    (hgo : h.folders.any (fun x => decide (whoOf h.grants x.name = [])) = false → ∀ T st, hubJ h T st → chkX 9 T st r) : chkX 8 T st r := by
  obtain ⟨g1, hh, hb⟩ := hJ
  have hfl := hf.fl
  have hgl := hf.gl
  unfold hubO at hh
  refine (?_ : X C2 Tryz.f6.ntmps (.seq _ (restC 9 (bodyC Tryz.f6))) T st (Q := ⟨chkQ r⟩))
  refine X_cut (fun T st => h.folders.any (fun x => decide (whoOf h.grants x.name = [])) = false ∧ hget st.h 0 = hubO h) ?_ fun T1 st1 hF hc hb1 hq => hgo hq.1 T1 st1 ⟨(hF 1 rfl).trans g1, hq.2, hb1.trans hb⟩
  simp only [↓bD, bL, stps, stpOf, ev, ofConst, Nat.reduceLT, Tryz.ntmps6, hb]
  refine X_loop (fun (rem : List Shared) T st => ∃ k : Nat, getT T 8 = .int .i64 (k : Nat) ∧ h.folders.drop k = rem ∧ (h.folders.take k).any (fun x => decide (whoOf h.grants x.name = [])) = false ∧ hget st.h 0 = hubO h) List.length
    (fun e T st => (e = .ret ∧ h.folders.any (fun x => decide (whoOf h.grants x.name = [])) = true ∧ getT T 2 = .int .i64 5) ∨ (e = .exit 6 ∧ h.folders.any (fun x => decide (whoOf h.grants x.name = [])) = false ∧ hget st.h 0 = hubO h)) h.folders ⟨0, by rw [getT_setT, if_pos rfl]; rfl, rfl, rfl, hh⟩ ?_ ?_
  · rintro rem T1 st1 hF hc hb1 ⟨k, hk, hd, hz, hh⟩
    have h1 := hF 1 rfl
    simp only [getT_setT, getT, g1, Nat.reduceEqDiff, if_false] at h1
    clear hF
    have hbar : st1.bar = 0 := hb1
    unfold hubO at hh
    cases rem with
    | nil =>
      have hnk := drop_nil_len hd

      have hlt : ¬ (k : Int) < (h.folders.length : Int) := by omega
      rw [List.take_of_length_le hnk] at hz
      simp only [↓bD, bL, stps, stpOf, ev, loadObj, TI.agg, fieldAddrA, binP, binA, symA, intOp, lenA, Option.or, ↓reduceIte, reduceCtorEq, Nat.reduceEqDiff, Nat.reduceLT, Nat.reduceAdd, C2_ty, ty22, ty28, Nat.add_assoc, hk, h1, hh, hlt, hz, hubO]
    | cons x rem =>
      obtain ⟨hx, hlt0, hd', ht'⟩ := drop_cons_get hd
      have hlt : (k : Int) < (h.folders.length : Int) := by omega
      have hw : IntKind.i64.wrap ((k : Int) + 1) = ((k + 1 : Nat) : Int) := by rw [Int.natCast_add]; exact wrap_i64 (by omega) (by omega)
      have hG := G_whoOf h.grants x.name hf.gl
      by_cases hq : whoOf h.grants x.name = []
      · have hq2 : ((whoOf h.grants x.name).length : Int) = 0 := by rw [hq]; rfl
        have hany : h.folders.any (fun x => decide (whoOf h.grants x.name = [])) = true := List.any_eq_true.2 ⟨x, List.mem_of_getElem? hx, by simpa using hq⟩
        simp (config := {maxSteps := 1000000}) only [↓bD, bL, stps, stpOf, ev, ofConst, loadObj, TI.agg, fieldAddrA, indexAddrA, binP, binA, symA, intOp, lenA, elemTI, Option.or, hputs, ↓reduceIte, reduceCtorEq, Nat.reduceEqDiff, Nat.reduceLT, Nat.reduceAdd, fin, List.mapM_cons, List.mapM_nil, scalarN, plainN, hookLooks, looks1, looks, C2_ty, ty9, ty22, ty23, ty28, ty53, ty61, pureF, Cl_hook (hk_C2_19), beqD, Nat.add_assoc, hk, h1, hh, hlt, hx, hG, only_nil, eq_true hq2, hany]
        (first | exact (by kernel_rfl : (_ : Bool) = true) | (repeat (refine ⟨(by kernel_rfl : (_ : Bool) = true), ?_⟩)))
      · have hq2 : ¬ ((whoOf h.grants x.name).length : Int) = 0 := by have := List.length_pos_iff.2 hq; omega
        have hs : (h.folders.take (k + 1)).any (fun x => decide (whoOf h.grants x.name = [])) = false := by rw [ht', List.any_append, hz]; simpa using hq
        simp (config := {maxSteps := 1000000}) only [↓bD, bL, stps, stpOf, ev, ofConst, loadObj, TI.agg, fieldAddrA, indexAddrA, binP, binA, symA, intOp, lenA, elemTI, Option.or, hputs, ↓reduceIte, reduceCtorEq, Nat.reduceEqDiff, Nat.reduceLT, Nat.reduceAdd, fin, List.mapM_cons, List.mapM_nil, scalarN, plainN, hookLooks, looks1, looks, C2_ty, ty9, ty22, ty23, ty28, ty53, ty61, pureF, Cl_hook (hk_C2_19), beqD, Nat.add_assoc, hk, h1, hh, hlt, hx, hw, hG, only_nil, eq_false hq2]
        (repeat (refine ⟨(by kernel_rfl : (_ : Bool) = true), ?_⟩))
        exact ⟨rem, by simp, k + 1, rfl, hd', hs, rfl⟩
  · rintro e T1 st1 he2 hF hc hb1 (⟨rfl, ha, h2⟩ | ⟨rfl, ha, hh⟩)
    · rw [herr ha]
      simp only [↓kseq_ret, ↓kblock_ret, List.toList_toArray, S_some, ↓end_ret, resA, tupOf_1, Option.map_some, fin, Tryz.results6, h2, chkQ]
    · simp only [↓kseq_normal, ↓kblock_exit, ↓reduceIte, and_self, ha, hh]

theorem chk_sh (h : Hub) (hf : FitH h) (T : List AV) (st : St) (r : AV) (hJ : hubJ h T st) (herr : firstErr checkShared h.folders ≠ 0 → r = .int .i64 (firstErr checkShared h.folders))
    (hgo : firstErr checkShared h.folders = 0 → ∀ T st, hubJ h T st → chkX 4 T st r) : chkX 3 T st r := by
  obtain ⟨g1, hh, hb⟩ := hJ
  have hfl := hf.fl
  unfold hubO at hh
  refine (?_ : X C2 Tryz.f6.ntmps (.seq _ (restC 4 (bodyC Tryz.f6))) T st (Q := ⟨chkQ r⟩))
  refine X_cut (fun T st => firstErr checkShared h.folders = 0 ∧ hget st.h 0 = hubO h) ?_ fun T1 st1 hF hc hb1 hq => hgo hq.1 T1 st1 ⟨(hF 1 rfl).trans g1, hq.2, hb1.trans hb⟩
  simp only [↓bD, bL, stps, stpOf, ev, ofConst, Nat.reduceLT, Tryz.ntmps6, hb]
  refine X_loop (fun (rem : List Shared) T st => ∃ k : Nat, getT T 3 = .int .i64 (k : Nat) ∧ h.folders.drop k = rem ∧ firstErr checkShared h.folders = firstErr checkShared rem ∧ hget st.h 0 = hubO h) List.length
    (fun e T st => (e = .ret ∧ firstErr checkShared h.folders ≠ 0 ∧ getT T 2 = .int .i64 (firstErr checkShared h.folders)) ∨ (e = .exit 0 ∧ firstErr checkShared h.folders = 0 ∧ hget st.h 0 = hubO h)) h.folders ⟨0, by rw [getT_setT, if_pos rfl]; rfl, rfl, rfl, hh⟩ ?_ ?_
  · rintro rem T1 st1 hF hc hb1 ⟨k, hk, hd, hz, hh⟩
    have h1 := hF 1 rfl
    simp only [getT_setT, getT, g1, Nat.reduceEqDiff, if_false] at h1
    clear hF
    have hbar : st1.bar = 0 := hb1
    unfold hubO at hh
    cases rem with
    | nil =>
      have hnk := drop_nil_len hd
      have hlt : ¬ (k : Int) < (h.folders.length : Int) := by omega
      simp only [firstErr] at hz
      simp only [↓bD, bL, stps, stpOf, ev, loadObj, TI.agg, fieldAddrA, binP, binA, symA, intOp, lenA, Option.or, ↓reduceIte, reduceCtorEq, Nat.reduceEqDiff, Nat.reduceLT, Nat.reduceAdd, C2_ty, ty22, ty28, Nat.add_assoc, hk, h1, hh, hlt, hz, hubO]
    | cons x rem =>
      obtain ⟨hx, hlt0, hd', ht'⟩ := drop_cons_get hd
      have hlt : (k : Int) < (h.folders.length : Int) := by omega
      have hw : IntKind.i64.wrap ((k : Int) + 1) = ((k + 1 : Nat) : Int) := by rw [Int.natCast_add]; exact wrap_i64 (by omega) (by omega)
      obtain ⟨hn, hj⟩ := hf.fo x (List.mem_of_getElem? hx)
      have hn2 : x.name.length ≤ 4398046511104 := by omega
      have hG := G_rCheckJ x.journal hj
      cases q1 : isName x.name with
      | false =>
        have hz2 : firstErr checkShared h.folders = 1 := by rw [hz, firstErr, if_pos (by unfold checkShared; rw [q1, if_pos rfl]; decide)]; unfold checkShared; rw [q1, if_pos rfl]
        simp only [↓bD, bL, stps, stpOf, ev, ofConst, loadObj, TI.agg, fieldAddrA, indexAddrA, binP, binA, symA, intOp, unA, lenA, elemTI, Option.or, hputs, ↓reduceIte, reduceCtorEq, Nat.reduceEqDiff, Nat.reduceLT, Nat.reduceAdd, fin, List.mapM_cons, List.mapM_nil, scalarN, plainN, hookLooks, looks1, C2_ty, ty9, ty22, ty28, ty53, Cl_hook (hk_C2_15), pureF, G_rIsName, Int.reduceEq, Nat.add_assoc, hk, h1, hh, hlt, hx, hn2, q1, hz2]
      | true =>
        have hcs : checkShared x = (openJ x.journal).2 := by unfold checkShared; rw [q1, if_neg (by decide)]
        by_cases q2 : (openJ x.journal).2 = 0
        · rw [firstErr, if_neg (by rw [hcs]; exact fun q => q q2)] at hz
          simp only [↓bD, bL, stps, stpOf, ev, ofConst, loadObj, TI.agg, fieldAddrA, indexAddrA, binP, binA, symA, intOp, unA, lenA, elemTI, Option.or, hputs, ↓reduceIte, reduceCtorEq, Nat.reduceEqDiff, Nat.reduceLT, Nat.reduceAdd, fin, List.mapM_cons, List.mapM_nil, scalarN, plainN, hookLooks, looks1, C2_ty, ty9, ty22, ty28, ty51, ty53, Cl_hook (hk_C2_15), pureF, G_rIsName, Cl_3 (C := C2) (g := 16) (fn := Tryz.f16) rfl (fnBy_of Tryz.func16 rfl) rfl, Nat.add_assoc, hk, h1, hh, hlt, hx, hw, hn2, q1, hG, q2]
          exact ⟨rem, by simp, k + 1, rfl, hd', hz, rfl⟩
        · have hz2 : firstErr checkShared h.folders = (openJ x.journal).2 := by rw [hz, firstErr, if_pos (by rw [hcs]; exact q2), hcs]
          simp only [↓bD, bL, stps, stpOf, ev, ofConst, loadObj, TI.agg, fieldAddrA, indexAddrA, binP, binA, symA, intOp, unA, lenA, elemTI, Option.or, hputs, ↓reduceIte, reduceCtorEq, Nat.reduceEqDiff, Nat.reduceLT, Nat.reduceAdd, fin, List.mapM_cons, List.mapM_nil, scalarN, plainN, hookLooks, looks1, C2_ty, ty9, ty22, ty28, ty51, ty53, Cl_hook (hk_C2_15), pureF, G_rIsName, Cl_3 (C := C2) (g := 16) (fn := Tryz.f16) rfl (fnBy_of Tryz.func16 rfl) rfl, bneD, Nat.add_assoc, hk, h1, hh, hlt, hx, hn2, q1, hG, eq_false q2, hz2]
  · rintro e T1 st1 he2 hF hc hb1 (⟨rfl, ha, h2⟩ | ⟨rfl, ha, hh⟩)
    · rw [herr ha]
      simp only [↓kseq_ret, ↓kblock_ret, List.toList_toArray, S_some, ↓end_ret, resA, tupOf_1, Option.map_some, fin, Tryz.results6, h2, chkQ]
    · simp only [↓kseq_normal, ↓kblock_exit, ↓reduceIte, and_self, ha, hh]

theorem asc_any {α : Type} (le : α → α → Bool) (l : List α) : ascBy le l = !(l.zip l.tail).any (fun x => le x.2 x.1) := by
  unfold ascBy
  rw [List.not_any_eq_all_not]
-- REG R.CheckHub G_rCheckHub
theorem R_rCheckHub (h : Hub) (hf : FitH h) : Run3 C2 Tryz.f6 [.agg h.cells] (.int .i64 (checkHub h)) := by
  have hgg : ∀ g ∈ h.grants, g.folder.length ≤ 4398046511104 ∧ g.who.length ≤ 4398046511104 := fun g hg => by have := hf.gr g hg; omega
  have hgl : h.grants.length ≤ 4398046511104 := by have := hf.gl; omega
  have hss : ∀ s ∈ h.uploads.sessions, s.who.length ≤ 4398046511104 := fun s hs => by have := hf.se s hs; omega
  have hcu : checkUploads ⟨h.uploads.sessions, h.uploads.next, h.uploads.lasts, h.uploads.room⟩ = checkUploads h.uploads := rfl
  rw [Hub.cells_eq]
  refine Run3.mk (fn := Tryz.f6) rfl ?_
  unfold checkHub
  by_cases e1 : h.now < 0
  · rw [if_pos e1]
    simp only [↓bD, bL, stps, stpOf, ev, getT, setT, ofConst, AV.cells, notBad, loadObj, TI.agg, fieldAddrA, binP, binA, symA, intOp, resA, padT, List.replicate, Option.or, ↓reduceIte, Nat.reduceLT, Nat.reduceAdd, Nat.reduceSub, fin, C2_ty, ty3, ty28, Tryz.ntmps6, Tryz.results6, eq_true e1]
  rw [if_neg e1]
  by_cases e2 : 1099511627776 < h.now
  · rw [if_pos e2]
    simp only [↓bD, bL, stps, stpOf, ev, getT, setT, ofConst, AV.cells, notBad, loadObj, TI.agg, fieldAddrA, binP, binA, symA, intOp, resA, padT, List.replicate, Option.or, ↓reduceIte, Nat.reduceLT, Nat.reduceAdd, Nat.reduceSub, fin, C2_ty, ty3, ty28, Tryz.ntmps6, Tryz.results6, eq_false e1, eq_true e2]
  rw [if_neg e2]
  by_cases e3 : 8 < h.folders.length
  · rw [if_pos e3]
    have e3' : (8 : Int) < (h.folders.length : Int) := by omega
    simp only [↓bD, bL, stps, stpOf, ev, getT, setT, ofConst, AV.cells, notBad, loadObj, TI.agg, fieldAddrA, binP, binA, symA, intOp, lenA, resA, padT, List.replicate, Option.or, ↓reduceIte, Nat.reduceLT, Nat.reduceAdd, Nat.reduceSub, fin, C2_ty, ty3, ty22, ty28, Tryz.ntmps6, Tryz.results6, eq_false e1, eq_false e2, e3']
  rw [if_neg e3]
  have e3' : ¬ (8 : Int) < (h.folders.length : Int) := by omega
  refine (?_ : X C2 Tryz.f6.ntmps (.seq _ (.seq _ (.seq _ (restC 3 (bodyC Tryz.f6))))) _ _ (Q := ⟨chkQ _⟩))
  rw [X_assoc, X_assoc]
  refine X_cut (hubJ h) ?_ fun T st _ _ _ hJ => ?_
  · simp only [↓bD, bL, stps, stpOf, ev, getT, setT, ofConst, AV.cells, notBad, loadObj, TI.agg, fieldAddrA, binP, binA, symA, intOp, lenA, padT, List.replicate, Option.or, ↓reduceIte, Nat.reduceLT, Nat.reduceAdd, Nat.reduceSub, C2_ty, ty3, ty22, ty28, Tryz.ntmps6, eq_false e1, eq_false e2, e3', hubJ, hubO]
  refine chk_sh h hf T st _ hJ (fun q => by rw [if_pos q]) fun q T st hJ => ?_
  rw [if_neg (fun q2 => q2 q)]
  refine chk_asc h hf T st _ hJ (fun q => by rw [asc_any, q]; rfl) fun q T st hJ => ?_
  rw [asc_any, q, if_neg (by decide)]
  obtain ⟨g1, hh, hb⟩ := hJ
  unfold hubO at hh
  refine (?_ : X C2 Tryz.f6.ntmps (.seq _ (.seq _ (restC 7 (bodyC Tryz.f6)))) T st (Q := ⟨chkQ _⟩))
  rw [X_assoc]
  refine X_cut (fun T st => checkGrants h.grants = 0 ∧ hubJ h T st) ?_ ?_
  · by_cases e4 : checkGrants h.grants = 0
    · simp only [↓bD, bL, stps, stpOf, ev, ofConst, loadObj, TI.agg, fieldAddrA, binP, binA, symA, intOp, Option.or, hputs, ↓reduceIte, Nat.reduceEqDiff, Nat.reduceLT, Nat.reduceAdd, fin, List.mapM_cons, List.mapM_nil, scalarN, plainN, hookLooks, looks1, C2_ty, ty23, ty28, Tryz.ntmps6, pureF, Cl_hook (hk_C2_17), G_rCheckGrants, Nat.add_assoc, g1, hh, hb, hgl, eq_true hgg, e4, hubJ, hubO]
    · rw [if_pos e4]
      simp only [↓bD, bL, stps, stpOf, ev, ofConst, loadObj, TI.agg, fieldAddrA, binP, binA, symA, intOp, resA, Option.or, hputs, ↓reduceIte, Nat.reduceEqDiff, Nat.reduceLT, Nat.reduceAdd, fin, List.mapM_cons, List.mapM_nil, scalarN, plainN, hookLooks, looks1, C2_ty, ty23, ty28, Tryz.ntmps6, Tryz.results6, pureF, Cl_hook (hk_C2_17), G_rCheckGrants, bneD, Nat.add_assoc, g1, hh, hb, hgl, eq_true hgg, eq_false e4, chkQ]
  rintro T st _ _ _ ⟨e4, hJ⟩
  rw [if_neg (fun q => q e4)]
  refine chk_gr h hf T st _ hJ (fun q => by rw [if_pos q]) fun q T st hJ => ?_
  rw [if_neg (by rw [q]; decide)]
  refine chk_fo h hf T st _ hJ (fun q => by rw [if_pos q]) fun q T st hJ => ?_
  rw [if_neg (by rw [q]; decide)]
  obtain ⟨g1, hh, hb⟩ := hJ
  unfold hubO at hh
  refine (?_ : X C2 Tryz.f6.ntmps (.seq _ .ret) T st (Q := ⟨chkQ _⟩))
  simp only [↓bD, bL, stps, stpOf, ev, loadObj, TI.agg, fieldAddrA, resA, hputs, ↓reduceIte, reduceCtorEq, Nat.reduceLT, Nat.reduceLeDiff, Nat.reduceAdd, fin, List.mapM_cons, List.mapM_nil, scalarN, plainN, hookLooks, looks1, C2_ty, ty26, ty28, Tryz.ntmps6, Tryz.results6, pureF, Cl_hook (hk_C2_20), G_rCheckUploads, Nat.add_assoc, g1, hh, hb, eq_true hss, hcu, chkQ]
theorem G_rCheckHub (h : Hub) (hf : FitH h) : G3 C2 Tryz.f6 [.agg h.cells] = some (.int .i64 (checkHub h)) := G3_eq (R_rCheckHub h hf)
end Go.Ab.Seat
/- package grant: names, and their order. -/
namespace Go.Ab.Seat
open Go Go.Proofs
-- CFG C1
set_option linter.unusedSimpArgs false
set_option linter.unusedVariables false
set_option maxHeartbeats 4000000
set_option maxRecDepth 100000


-- REG grant.names$1 G_notName
theorem R_notName (s : Str) : Run3 C1 Tryz.f61 [.str s] (.bool !(isName s)) := by
  refine Run3.mk (fn := Tryz.f61) rfl ?_
  simp only [↓bD, bL, stps, stpOf, ev, getT, setT, ofConst, unA, resA, padT, List.replicate, hputs, ↓reduceIte, Nat.reduceLT, Nat.reduceAdd, Nat.reduceSub, fin, List.mapM_cons, List.mapM_nil, scalarN, plainN, Tryz.ntmps61, Tryz.results61, Cl_3 (C := C1) (g := 10) (fn := Tryz.f10) rfl (fnBy_of Tryz.func10 rfl) rfl, pureF, G_isName]
theorem G_notName (s : Str) : G3 C1 Tryz.f61 [.str s] = some (.bool !(isName s)) := G3_eq (R_notName s)

-- REG slices.IndexFunc[[]string,string] G_idxNames
theorem R_idxNames (l : List Str) (hl : l.length ≤ 1099511627776) : Run3 C1 Tryz.f86 [.rows false (l.map sCells), .func 61 [] []] (.int .i64 (idxF' (fun s => !(isName s)) l)) := by
  refine Run3.mk (fn := Tryz.f86) rfl ?_
  simp only [↓bD, bL, stps, stpOf, ev, getT, setT, ofConst, lenA, padT, List.replicate, Nat.reduceLT, Nat.reduceAdd, Nat.reduceSub, C1_ty, ty61, Tryz.ntmps86]
  refine X_loop (fun (rem : List Str) T st => ∃ k : Nat, getT T 8 = .int .i64 (k : Nat) ∧ l.drop k = rem ∧ (l.take k).any (fun s => !(isName s)) = false) List.length
    (fun e T st => (e = .ret ∧ getT T 4 = .int .i64 (idxF' (fun s => !(isName s)) l)) ∨ (e = .exit 0 ∧ l.any (fun s => !(isName s)) = false)) l ⟨0, rfl, rfl, by simp⟩ ?_ ?_
  · rintro rem T st hF hc hb ⟨k, hk, hd, hz⟩
    have h0 := hF 0 rfl
    have h1 := hF 1 rfl
    have h6 := hF 6 rfl
    have h7 := hF 7 rfl
    simp only [getT] at h0 h1 h6 h7
    clear hF
    cases rem with
    | nil =>
      have hn := drop_nil_len hd
      have hlt : ¬ (k : Int) < (l.length : Int) := by omega
      rw [List.take_of_length_le hn] at hz
      simp only [↓bD, bL, stps, stpOf, ev, binP, binA, symA, intOp, Option.or, ↓reduceIte, reduceCtorEq, Nat.reduceEqDiff, Nat.reduceLT, hk, h7, hlt, hz]
    | cons x rem =>
      obtain ⟨hx, hlt0, hd', ht'⟩ := drop_cons_get hd
      have hlt : (k : Int) < (l.length : Int) := by omega
      have hw : IntKind.i64.wrap ((k : Int) + 1) = ((k + 1 : Nat) : Int) := by rw [Int.natCast_add]; exact wrap_i64 (by omega) (by omega)
      have hcl := G_notName x
      cases hp : (fun s => !(isName s)) x with
      | true =>
        dsimp only at hp
        have hi := idxF_some hz hx hp
        rw [hp] at hcl
        simp only [↓bD, bL, stps, stpOf, ev, loadObj, TI.agg, indexAddrA, binP, binA, symA, intOp, elemTI, Option.or, hputs, ↓reduceIte, reduceCtorEq, Nat.reduceEqDiff, Nat.reduceLT, Nat.reduceAdd, fin, List.mapM_cons, List.mapM_nil, scalarN, plainN, C1_ty, ty9, ty61, Nat.add_assoc, Cl_3 (C := C1) (g := 61) (fn := Tryz.f61) rfl (fnBy_of Tryz.func61 rfl) rfl, pureF, hk, h0, h1, h7, hlt, hx, hcl, hi]
      | false =>
        dsimp only at hp
        rw [hp] at hcl
        simp only [↓bD, bL, stps, stpOf, ev, ofConst, loadObj, TI.agg, indexAddrA, binP, binA, symA, intOp, elemTI, Option.or, hputs, ↓reduceIte, reduceCtorEq, Nat.reduceEqDiff, Nat.reduceLT, Nat.reduceAdd, fin, List.mapM_cons, List.mapM_nil, scalarN, plainN, C1_ty, ty9, ty61, Nat.add_assoc, Cl_3 (C := C1) (g := 61) (fn := Tryz.f61) rfl (fnBy_of Tryz.func61 rfl) rfl, pureF, hk, h0, h1, h7, hlt, hx, hw, hcl]
        exact ⟨rem, by simp, k + 1, rfl, hd', by rw [ht', List.any_append, hz]; simp [hp]⟩
  · rintro e T st he hF hc hb (⟨rfl, h4⟩ | ⟨rfl, h4⟩)
    · simp only [↓kseq_ret, ↓kblock_ret, List.toList_toArray, S_some, ↓end_ret, resA, tupOf_1, Option.map_some, fin, Tryz.results86, h4]
    · simp only [↓bD, bL, stps, stpOf, ev, ofConst, resA, ↓reduceIte, Nat.reduceLT, fin, Tryz.ntmps86, Tryz.results86, Int.reduceNeg, idxF_none h4]
theorem G_idxNames (l : List Str) (hl : l.length ≤ 1099511627776) : G3 C1 Tryz.f86 [.rows false (l.map sCells), .func 61 [] []] = some (.int .i64 (idxF' (fun s => !(isName s)) l)) := G3_eq (R_idxNames l hl)

-- REG slices.ContainsFunc[[]string,string] G_cfNames
theorem R_cfNames (l : List Str) (hl : l.length ≤ 1099511627776) : Run3 C1 Tryz.f60 [.rows false (l.map sCells), .func 61 [] []] (.bool (l.any fun s => !(isName s))) := by
  refine Run3.mk (fn := Tryz.f60) rfl ?_
  have h := idxF_nn (fun s => !(isName s)) l
  cases ha : l.any (fun s => !(isName s)) with
  | true => have h' := h.2 ha
            simp only [↓bD, bL, stps, stpOf, ev, getT, setT, ofConst, binP, binA, symA, intOp, resA, padT, List.replicate, Option.or, hputs, ↓reduceIte, Nat.reduceLT, Nat.reduceAdd, Nat.reduceSub, fin, List.mapM_cons, List.mapM_nil, scalarN, plainN, Tryz.ntmps60, Tryz.results60, Cl_3 (C := C1) (g := 86) (fn := Tryz.f86) rfl (fnBy_of Tryz.func86 rfl) rfl, pureF, G_idxNames, hl, h']
  | false => have h' : ¬ 0 ≤ idxF' (fun s => !(isName s)) l := fun q => by rw [h.1 q] at ha; cases ha
             simp only [↓bD, bL, stps, stpOf, ev, getT, setT, ofConst, binP, binA, symA, intOp, resA, padT, List.replicate, Option.or, hputs, ↓reduceIte, Nat.reduceLT, Nat.reduceAdd, Nat.reduceSub, fin, List.mapM_cons, List.mapM_nil, scalarN, plainN, Tryz.ntmps60, Tryz.results60, Cl_3 (C := C1) (g := 86) (fn := Tryz.f86) rfl (fnBy_of Tryz.func86 rfl) rfl, pureF, G_idxNames, hl, h']
theorem G_cfNames (l : List Str) (hl : l.length ≤ 1099511627776) : G3 C1 Tryz.f60 [.rows false (l.map sCells), .func 61 [] []] = some (.bool (l.any fun s => !(isName s))) := G3_eq (R_cfNames l hl)
-- REG grant.names G_names
theorem R_names (l : List Str) (hl : l.length ≤ 1099511627776) : Run3 C1 Tryz.f28 [.rows false (l.map sCells)] (.bool (l.all isName)) := by
  refine Run3.mk (fn := Tryz.f28) rfl ?_
  have h : (!(l.any fun s => !(isName s))) = l.all isName := by
    rw [List.not_any_eq_all_not]; simp
  simp only [↓bD, bL, stps, stpOf, ev, getT, setT, ofConst, unA, resA, padT, List.replicate, hputs, ↓reduceIte, Nat.reduceLT, Nat.reduceAdd, Nat.reduceSub, fin, List.mapM_cons, List.mapM_nil, scalarN, plainN, Tryz.ntmps28, Tryz.results28, Cl_3 (C := C1) (g := 60) (fn := Tryz.f60) rfl (fnBy_of Tryz.func60 rfl) rfl, pureF, G_cfNames, hl, h]
theorem G_names (l : List Str) (hl : l.length ≤ 1099511627776) : G3 C1 Tryz.f28 [.rows false (l.map sCells)] = some (.bool (l.all isName)) := G3_eq (R_names l hl)
-- REG cmp.Or[int] G_cmpOr
theorem R_cmpOr (a b : Int) : Run3 C1 Tryz.f62 [.rows false [[.int .i64 a], [.int .i64 b]]] (.int .i64 (if a ≠ 0 then a else b)) := by
  refine Run3.mk (fn := Tryz.f62) rfl ?_
  have w1 : IntKind.i64.wrap (0 + 1) = 1 := wrap_i64 (by omega) (by omega)
  have w2 : IntKind.i64.wrap (1 + 1) = 2 := wrap_i64 (by omega) (by omega)
  have n2 : ((0 + 1 + 1 : Nat) : Int) = 2 := rfl
  have w1' : IntKind.i64.wrap 1 = 1 := wrap_i64 (by omega) (by omega)
  have w2' : IntKind.i64.wrap 2 = 2 := wrap_i64 (by omega) (by omega)
  simp only [↓bD, bL, stps, stpOf, ev, getT, setT, ofConst, lenA, padT, List.replicate, Nat.reduceLT, Nat.reduceAdd, Nat.reduceSub, C1_ty, ty140, Tryz.ntmps62, Int.cast_ofNat_Int]
  refine (Ex_loop.2 (?_ : X _ _ _ _ _ (Q := ⟨_⟩)))
  by_cases ha : a = 0
  · by_cases hb : b = 0
    · simp only [↓bD, bL, stps, stpOf, ev, getT, setT, ofConst, loadObj, TI.agg, indexAddrA, binP, binA, symA, intOp, elemTI, resA, Option.or, ↓reduceIte, Nat.reduceLT, Nat.reduceAdd, C1_ty, ty3, ty140, Tryz.ntmps62, Tryz.results62, bneD, Int.reduceLT, Int.reduceAdd, Nat.add_assoc, w1', n2, Int.toNat_zero, eq_true ha]
      refine (Ex_loop.2 (?_ : X _ _ _ _ _ (Q := ⟨_⟩)))
      simp only [↓bD, bL, stps, stpOf, ev, getT, setT, ofConst, loadObj, TI.agg, indexAddrA, binP, binA, symA, intOp, elemTI, Option.or, ↓reduceIte, Nat.reduceLT, Nat.reduceAdd, C1_ty, ty3, ty140, bneD, Int.reduceLT, Int.reduceAdd, w2', n2, Int.toNat_one, eq_true hb]
      refine (Ex_loop.2 (?_ : X _ _ _ _ _ (Q := ⟨_⟩)))
      simp only [↓bD, bL, stps, stpOf, ev, getT, setT, binP, binA, symA, intOp, Option.or, ↓reduceIte, Nat.reduceLT, Nat.reduceAdd, fin, Int.lt_irrefl]
      rw [hb]
    · simp only [↓bD, bL, stps, stpOf, ev, getT, setT, ofConst, loadObj, TI.agg, indexAddrA, binP, binA, symA, intOp, elemTI, resA, Option.or, ↓reduceIte, Nat.reduceLT, Nat.reduceAdd, C1_ty, ty3, ty140, Tryz.ntmps62, Tryz.results62, bneD, Int.reduceLT, Int.reduceAdd, Nat.add_assoc, w1', n2, Int.toNat_zero, eq_true ha]
      refine (Ex_loop.2 (?_ : X _ _ _ _ _ (Q := ⟨_⟩)))
      simp only [↓bD, bL, stps, stpOf, ev, getT, setT, loadObj, TI.agg, indexAddrA, binP, binA, symA, intOp, elemTI, resA, Option.or, ↓reduceIte, Nat.reduceLT, Nat.reduceAdd, fin, C1_ty, ty3, ty140, bneD, Int.reduceLT, n2, Int.toNat_one, eq_false hb]
  · simp only [↓bD, bL, stps, stpOf, ev, getT, setT, loadObj, TI.agg, indexAddrA, binP, binA, symA, intOp, elemTI, resA, Option.or, ↓reduceIte, Nat.reduceLT, Nat.reduceAdd, fin, C1_ty, ty3, ty140, Tryz.results62, bneD, Int.reduceLT, n2, Int.toNat_zero, eq_false ha]
theorem G_cmpOr (a b : Int) : G3 C1 Tryz.f62 [.rows false [[.int .i64 a], [.int .i64 b]]] = some (.int .i64 (if a ≠ 0 then a else b)) := G3_eq (R_cmpOr a b)
-- REG grant.order G_order
theorem R_order (a b : Grant) : Run3 C1 Tryz.f29 [.agg [.str a.folder, .str a.who, .int .i64 a.right], .agg [.str b.folder, .str b.who, .int .i64 b.right]] (.int .i64 (orderG a b)) := by
  refine Run3.mk (fn := Tryz.f29) rfl ?_
  unfold orderG
  simp (config := {decide := true}) only [↓bD, bL, stps, stpOf, ev, getT, setT, ofConst, AV.cells, notBad, loadObj, fieldAddrA, putCells, elemTI, resA, padT, List.replicate, hputs, ↓reduceIte, Nat.reduceLeDiff, Nat.reduceAdd, Nat.reduceSub, fin, List.mapM_cons, List.mapM_nil, scalarN, plainN, buildSliceA, fillA, chunks, looks, C1_ty, ty3, ty9, ty60, ty140, Tryz.ntmps29, Tryz.results29, Cl_3 (C := C1) (g := 54) (fn := Tryz.f54) rfl (fnBy_of Tryz.func54 rfl) rfl, pureF, G_cmpS, Cl_3 (C := C1) (g := 62) (fn := Tryz.f62) rfl (fnBy_of Tryz.func62 rfl) rfl, G_cmpOr, hget_seen]
theorem G_order (a b : Grant) : G3 C1 Tryz.f29 [.agg [.str a.folder, .str a.who, .int .i64 a.right], .agg [.str b.folder, .str b.who, .int .i64 b.right]] = some (.int .i64 (orderG a b)) := G3_eq (R_order a b)
end Go.Ab.Seat
/- package grant: what is wrong with grants. -/
namespace Go.Ab.Seat
open Go Go.Proofs
-- CFG C1
set_option linter.unusedSimpArgs false
set_option linter.unusedVariables false
set_option maxHeartbeats 4000000
set_option maxRecDepth 100000



-- REG grant.owned G_owned
theorem R_owned (l : List Grant) (hl : l.length ≤ 1099511627776) : Run3 C1 Tryz.f30 [.rows false (l.map Grant.cells)] (.bool (ownedB l)) := by
  refine Run3.mk (fn := Tryz.f30) rfl ?_
  simp only [↓bD, bL, stps, stpOf, ev, getT, setT, ofConst, lenA, padT, List.replicate, Nat.reduceLT, Nat.reduceAdd, Nat.reduceSub, C1_ty, ty23, Tryz.ntmps30]
  refine X_loop (fun (rem : List Grant) T st => ∃ k : Nat, getT T 11 = .int .i64 (k : Nat) ∧ l.drop k = rem ∧ hget st.h 2 = some (.map (setE (setOf ((l.take k).map Grant.folder)))) ∧ hget st.h 1 = some (.map (setE (setOf (((l.take k).filter fun g => decide (g.right = 3)).map Grant.folder))))) List.length
    (fun e T st => e = .exit 0 ∧ hget st.h 2 = some (.map (setE (setOf (l.map Grant.folder)))) ∧ hget st.h 1 = some (.map (setE (setOf ((l.filter fun g => decide (g.right = 3)).map Grant.folder))))) l ⟨0, rfl, rfl, rfl, rfl⟩ ?_ ?_
  · rintro rem T st hF hc hb ⟨k, hk, hd, hm2, hm1⟩
    have h3 := hF 3 rfl
    have h4 := hF 4 rfl
    have h9 := hF 9 rfl
    have h10 := hF 10 rfl
    simp only [getT] at h3 h4 h9 h10
    clear hF
    have hbar : st.bar = 0 := hb
    cases rem with
    | nil =>
      have hn := drop_nil_len hd
      have hlt : ¬ (k : Int) < (l.length : Int) := by omega
      rw [List.take_of_length_le hn] at hm1 hm2
      simp only [↓bD, bL, stps, stpOf, ev, binP, binA, symA, intOp, Option.or, ↓reduceIte, Nat.reduceLT, hk, h10, hlt, hm1, hm2]
    | cons x rem =>
      obtain ⟨hx, hlt0, hd', ht'⟩ := drop_cons_get hd
      have hlt : (k : Int) < (l.length : Int) := by omega
      have hw : IntKind.i64.wrap ((k : Int) + 1) = ((k + 1 : Nat) : Int) := by rw [Int.natCast_add]; exact wrap_i64 (by omega) (by omega)
      have e2 : setOf ((l.take (k + 1)).map Grant.folder) = setAdd (setOf ((l.take k).map Grant.folder)) x.folder := by
        rw [ht', List.map_append]; exact setOf_snoc _ _
      by_cases hr : x.right = 3
      · have e1 : setOf (((l.take (k + 1)).filter fun g => decide (g.right = 3)).map Grant.folder) = setAdd (setOf (((l.take k).filter fun g => decide (g.right = 3)).map Grant.folder)) x.folder := by
          rw [ht', List.filter_append, List.map_append]; simp only [List.filter_cons, hr, decide_true, if_true, List.filter_nil, List.map_cons, List.map_nil]; exact setOf_snoc _ _
        simp only [↓bD, bL, stps, stpOf, ev, ofConst, AV.cells, AV.one, loadObj, TI.agg, fieldAddrA, indexAddrA, binP, binA, symA, intOp, storeOk, putCells, elemTI, Option.or, ↓reduceIte, reduceCtorEq, Nat.reduceEqDiff, Nat.reduceLT, Nat.reduceAdd, keyTI, keyMatch, C1_ty, ty3, ty9, ty23, ty60, ty80, beqD, Nat.add_assoc, hk, h3, h4, h9, h10, hlt, hx, hw, hbar, hm1, hm2, eq_true hr, mapSet_set]
        exact ⟨rem, by simp, k + 1, rfl, hd', by rw [e2], by rw [e1]⟩
      · have e1 : setOf (((l.take (k + 1)).filter fun g => decide (g.right = 3)).map Grant.folder) = setOf (((l.take k).filter fun g => decide (g.right = 3)).map Grant.folder) := by
          rw [ht', List.filter_append, List.map_append]; simp [hr]
        simp only [↓bD, bL, stps, stpOf, ev, ofConst, AV.cells, AV.one, loadObj, TI.agg, fieldAddrA, indexAddrA, binP, binA, symA, intOp, storeOk, putCells, elemTI, Option.or, ↓reduceIte, reduceCtorEq, Nat.reduceEqDiff, Nat.reduceLT, Nat.reduceAdd, keyTI, keyMatch, C1_ty, ty3, ty9, ty23, ty60, ty80, beqD, Nat.add_assoc, hk, h4, h9, h10, hlt, hx, hw, hbar, hm1, hm2, eq_false hr, mapSet_set]
        exact ⟨rem, by simp, k + 1, rfl, hd', by rw [e2], by rw [e1]⟩
  · rintro e T st he hF hc hb ⟨rfl, hm2, hm1⟩
    have h3 := hF 3 rfl
    have h4 := hF 4 rfl
    simp only [getT] at h3 h4
    clear hF
    unfold ownedB
    simp only [↓bD, bL, stps, stpOf, ev, binP, binA, symA, intOp, lenA, resA, Option.or, ↓reduceIte, Nat.reduceEqDiff, Nat.reduceLT, Nat.reduceAdd, fin, C1_ty, ty80, Tryz.ntmps30, Tryz.results30, beqD, Nat.add_assoc, h3, h4, hm1, hm2, setE_len, Int.ofNat_inj]
theorem G_owned (l : List Grant) (hl : l.length ≤ 1099511627776) : G3 C1 Tryz.f30 [.rows false (l.map Grant.cells)] = some (.bool (ownedB l)) := G3_eq (R_owned l hl)

-- REG grant.Check G_grantCheck
theorem R_grantCheck (l : List Grant) : Run3 C1 Tryz.f12 [.rows false (l.map Grant.cells)] (.int .i64 (checkGrants l)) := by
  refine Run3.mk (fn := Tryz.f12) rfl ?_
  unfold checkGrants
  by_cases c4 : 60 < l.length
  · have c4' : (60 : Int) < (l.length : Int) := by omega
    simp only [↓bD, bL, stps, stpOf, ev, getT, setT, ofConst, binP, binA, symA, intOp, lenA, resA, padT, List.replicate, Option.or, ↓reduceIte, Nat.reduceLT, Nat.reduceAdd, Nat.reduceSub, fin, C1_ty, ty23, Tryz.ntmps12, Tryz.results12, eq_true c4, eq_true c4']
  have c4' : ¬ (60 : Int) < (l.length : Int) := by omega
  simp only [↓bD, bL, stps, stpOf, ev, getT, setT, ofConst, binP, binA, symA, intOp, lenA, padT, List.replicate, Option.or, ↓reduceIte, Nat.reduceLT, Nat.reduceAdd, Nat.reduceSub, C1_ty, ty23, Tryz.ntmps12, eq_false c4']
  refine X_loop (fun (rem : List Grant) T st => ∃ k : Nat, getT T 11 = .int .i64 (k : Nat) ∧ l.drop k = rem ∧ firstErr checkG (l.take k) = 0) List.length
    (fun e T st => (e = .ret ∧ firstErr checkG l ≠ 0 ∧ getT T 2 = .int .i64 (firstErr checkG l)) ∨ (e = .exit 0 ∧ firstErr checkG l = 0)) l ⟨0, rfl, rfl, rfl⟩ ?_ ?_
  · rintro rem T st hF hc hb ⟨k, hk, hd, hz⟩
    have h9 := hF 9 rfl
    have h10 := hF 10 rfl
    simp only [getT] at h9 h10
    clear hF
    cases rem with
    | nil =>
      have hn := drop_nil_len hd
      have hlt : ¬ (k : Int) < (l.length : Int) := by omega
      rw [List.take_of_length_le hn] at hz
      simp only [↓bD, bL, stps, stpOf, ev, binP, binA, symA, intOp, Option.or, ↓reduceIte, reduceCtorEq, Nat.reduceEqDiff, Nat.reduceLT, hk, h10, hlt, hz]
    | cons x rem =>
      obtain ⟨hx, hlt0, hd', ht'⟩ := drop_cons_get hd
      have hlt : (k : Int) < (l.length : Int) := by omega
      have hw : IntKind.i64.wrap ((k : Int) + 1) = ((k + 1 : Nat) : Int) := by rw [Int.natCast_add]; exact wrap_i64 (by omega) (by omega)
      have hbar : st.bar = 0 := hb
      have hfe : firstErr checkG l = firstErr checkG (x :: rem) := by
        rw [← List.take_append_drop k l, firstErr_append, hz, hd]; simp
      have hfe2 : firstErr checkG (l.take (k + 1)) = checkG x := by
        rw [ht', firstErr_append, hz]; simp only [firstErr, ne_eq, not_true_eq_false, if_false]
        split
        · rfl
        · rename_i q; exact (Classical.not_not.1 q).symm
      have hfe3 : checkG x ≠ 0 → firstErr checkG l = checkG x := fun hce => by rw [hfe]; simp [firstErr, hce]
      have hg : G3 C1 Tryz.f28 [.rows false [[.str x.folder], [.str x.who]]] = some (.bool ([x.folder, x.who].all isName)) := G_names [x.folder, x.who] (by simp)
      by_cases q1 : [x.folder, x.who].all isName = false
      · have hce : checkG x = 1 := by unfold checkG; rw [if_pos q1]
        have hf4 := hfe3 (by omega)
        rw [q1] at hg
        simp only [↓bD, bL, stps, stpOf, ev, ofConst, AV.cells, AV.one, loadObj, TI.agg, fieldAddrA, indexAddrA, binP, binA, symA, intOp, unA, storeOk, putCells, elemTI, List.replicate, Option.or, hputs, ↓reduceIte, reduceCtorEq, Nat.reduceEqDiff, Nat.reduceLT, Nat.reduceLeDiff, Nat.reduceAdd, fin, List.mapM_cons, List.mapM_nil, scalarN, plainN, buildSliceA, fillA, chunks, C1_ty, ty9, ty23, ty60, ty61, Cl_3 (C := C1) (g := 28) (fn := Tryz.f28) rfl (fnBy_of Tryz.func28 rfl) rfl, pureF, Int.reduceEq, Nat.add_assoc, hk, h9, h10, hlt, hx, hbar, hg, hf4, hce]
      · have q1' : [x.folder, x.who].all isName = true := by simpa using q1
        rw [q1'] at hg
        by_cases q2 : x.right < 1
        · have hce : checkG x = 3 := by unfold checkG; rw [if_neg q1, if_pos q2]
          have hf4 := hfe3 (by omega)
          simp only [↓bD, bL, stps, stpOf, ev, ofConst, AV.cells, AV.one, loadObj, TI.agg, fieldAddrA, indexAddrA, binP, binA, symA, intOp, unA, storeOk, putCells, elemTI, List.replicate, Option.or, hputs, ↓reduceIte, reduceCtorEq, Nat.reduceEqDiff, Nat.reduceLT, Nat.reduceLeDiff, Nat.reduceAdd, fin, List.mapM_cons, List.mapM_nil, scalarN, plainN, buildSliceA, fillA, chunks, C1_ty, ty3, ty9, ty23, ty60, ty61, Cl_3 (C := C1) (g := 28) (fn := Tryz.f28) rfl (fnBy_of Tryz.func28 rfl) rfl, pureF, Int.reduceEq, Nat.add_assoc, hk, h9, h10, hlt, hx, hbar, hg, hf4, hce, eq_true q2]
        · by_cases q3 : 3 < x.right
          · have hce : checkG x = 3 := by unfold checkG; rw [if_neg q1, if_neg q2, if_pos q3]
            have hf4 := hfe3 (by omega)
            simp only [↓bD, bL, stps, stpOf, ev, ofConst, AV.cells, AV.one, loadObj, TI.agg, fieldAddrA, indexAddrA, binP, binA, symA, intOp, unA, storeOk, putCells, elemTI, List.replicate, Option.or, hputs, ↓reduceIte, reduceCtorEq, Nat.reduceEqDiff, Nat.reduceLT, Nat.reduceLeDiff, Nat.reduceAdd, fin, List.mapM_cons, List.mapM_nil, scalarN, plainN, buildSliceA, fillA, chunks, C1_ty, ty3, ty9, ty23, ty60, ty61, Cl_3 (C := C1) (g := 28) (fn := Tryz.f28) rfl (fnBy_of Tryz.func28 rfl) rfl, pureF, Int.reduceEq, Nat.add_assoc, hk, h9, h10, hlt, hx, hbar, hg, hf4, hce, eq_false q2, eq_true q3]
          · have hce : checkG x = 0 := by unfold checkG; rw [if_neg q1, if_neg q2, if_neg q3]
            simp only [↓bD, bL, stps, stpOf, ev, ofConst, AV.cells, AV.one, loadObj, TI.agg, fieldAddrA, indexAddrA, binP, binA, symA, intOp, unA, storeOk, putCells, elemTI, List.replicate, Option.or, hputs, ↓reduceIte, reduceCtorEq, Nat.reduceEqDiff, Nat.reduceLT, Nat.reduceLeDiff, Nat.reduceAdd, fin, List.mapM_cons, List.mapM_nil, scalarN, plainN, buildSliceA, fillA, chunks, C1_ty, ty3, ty9, ty23, ty60, ty61, Cl_3 (C := C1) (g := 28) (fn := Tryz.f28) rfl (fnBy_of Tryz.func28 rfl) rfl, pureF, Nat.add_assoc, hk, h9, h10, hlt, hx, hw, hbar, hg, eq_false q2, eq_false q3]
            exact ⟨rem, by simp, k + 1, rfl, hd', by rw [hfe2, hce]⟩
  · rintro e T st he hF hc hb (⟨rfl, h4, h2⟩ | ⟨rfl, h4⟩)
    · simp only [↓bD, bL, resA, ↓reduceIte, fin, Tryz.results12, h4, h2, eq_false c4]
    · have h0 := hF 0 rfl
      simp only [getT] at h0
      clear hF
      simp only [↓bD, bL, stps, stpOf, ev, ofConst, ↓reduceIte, Nat.reduceLT, Tryz.ntmps12]
      refine X_loop (fun (rem : List (Grant × Grant)) T st => ∃ k : Nat, getT T 5 = .int .i64 ((k + 1 : Nat) : Int) ∧ (l.zip l.tail).drop k = rem ∧ ((l.zip l.tail).take k).all (fun q => !leG q.2 q.1) = true) List.length
        (fun e T st => (e = .ret ∧ ascBy leG l = false ∧ getT T 2 = .int .i64 4) ∨ (e = .exit 3 ∧ ascBy leG l = true)) (l.zip l.tail) ⟨0, by simp [getT_setT], rfl, by simp⟩ ?_ ?_
      · rintro rem T2 st2 hF hc2 hb2 ⟨k, hk, hd, hz⟩
        have g0 := hF 0 rfl
        simp only [getT_setT, h0] at g0
        clear hF
        have hlz := zip_tail_len l
        cases rem with
        | nil =>
          have hn := drop_nil_len hd
          have hlt : ¬ ((k + 1 : Nat) : Int) < (l.length : Int) := by omega
          rw [List.take_of_length_le hn] at hz
          simp only [↓bD, bL, stps, stpOf, ev, binP, binA, symA, intOp, lenA, Option.or, ↓reduceIte, reduceCtorEq, Nat.reduceEqDiff, Nat.reduceLT, Nat.reduceAdd, C1_ty, ty23, Nat.add_assoc, hk, g0, hlt]
          exact hz
        | cons q rem =>
          obtain ⟨hx, hlt0, hd', ht'⟩ := drop_cons_get hd
          obtain ⟨hq1, hq2⟩ := zip_tail_get hx
          have hlt : ((k + 1 : Nat) : Int) < (l.length : Int) := by omega
          have hlt2 : (k : Int) < (l.length : Int) := by omega
          have hw : IntKind.i64.wrap (((k + 1 : Nat) : Int) + 1) = ((k + 1 + 1 : Nat) : Int) := by rw [Int.natCast_add (k + 1)]; exact wrap_i64 (by omega) (by omega)
          have hw2 : IntKind.i64.wrap (((k + 1 : Nat) : Int) - 1) = (k : Int) := by rw [show ((k + 1 : Nat) : Int) - 1 = (k : Int) by omega]; exact wrap_i64 (by omega) (by omega)
          by_cases hle : 0 ≤ orderG q.1 q.2
          · have hfa : ascBy leG l = false := by
              unfold ascBy
              rw [List.all_eq_false]
              exact ⟨q, List.mem_of_getElem? hx, by simp [leG, hle]⟩
            simp only [↓bD, bL, stps, stpOf, ev, ofConst, loadObj, TI.agg, indexAddrA, binP, binA, symA, intOp, lenA, elemTI, Option.or, hputs, ↓reduceIte, reduceCtorEq, Nat.reduceEqDiff, Nat.reduceLT, Nat.reduceAdd, fin, List.mapM_cons, List.mapM_nil, scalarN, plainN, looks, C1_ty, ty23, ty60, pureF, Cl_3 (C := C1) (g := 29) (fn := Tryz.f29) rfl (fnBy_of Tryz.func29 rfl) rfl, G_order, Nat.add_assoc, hk, g0, hlt, hlt2, hq1, hq2, hw2, hfa, eq_true hle]
            kernel_rfl
          · simp only [↓bD, bL, stps, stpOf, ev, ofConst, loadObj, TI.agg, indexAddrA, binP, binA, symA, intOp, lenA, elemTI, Option.or, hputs, ↓reduceIte, reduceCtorEq, Nat.reduceEqDiff, Nat.reduceLT, Nat.reduceAdd, fin, List.mapM_cons, List.mapM_nil, scalarN, plainN, looks, C1_ty, ty23, ty60, pureF, Cl_3 (C := C1) (g := 29) (fn := Tryz.f29) rfl (fnBy_of Tryz.func29 rfl) rfl, G_order, Nat.add_assoc, hk, g0, hlt, hlt2, hq1, hq2, hw, hw2, eq_false hle]
            refine ⟨by kernel_rfl, ?_⟩
            exact ⟨rem, by simp, k + 1, rfl, hd', by rw [ht', List.all_append, hz]; simp [leG, hle]⟩
      · rintro e T2 st2 he2 hF hc2 hb2 (⟨rfl, h5, h2⟩ | ⟨rfl, h5⟩)
        · simp only [↓bD, bL, resA, ↓reduceIte, fin, Tryz.results12, h4, h5, h2, eq_false c4]
        · have g0 := hF 0 rfl
          simp only [getT_setT, h0] at g0
          clear hF
          have hll : l.length ≤ 1099511627776 := by omega
          cases ho : ownedB l with
          | true => simp only [↓bD, bL, stps, stpOf, ev, ofConst, unA, resA, hputs, ↓reduceIte, reduceCtorEq, Nat.reduceLT, Nat.reduceAdd, fin, List.mapM_cons, List.mapM_nil, scalarN, plainN, Tryz.ntmps12, Tryz.results12, pureF, Cl_3 (C := C1) (g := 30) (fn := Tryz.f30) rfl (fnBy_of Tryz.func30 rfl) rfl, G_owned, Nat.add_assoc, g0, h4, h5, hll, ho, eq_false c4]
          | false => simp only [↓bD, bL, stps, stpOf, ev, ofConst, unA, resA, hputs, ↓reduceIte, reduceCtorEq, Nat.reduceLT, Nat.reduceAdd, fin, List.mapM_cons, List.mapM_nil, scalarN, plainN, Tryz.ntmps12, Tryz.results12, pureF, Cl_3 (C := C1) (g := 30) (fn := Tryz.f30) rfl (fnBy_of Tryz.func30 rfl) rfl, G_owned, Nat.add_assoc, g0, h4, h5, hll, ho, eq_false c4]
theorem G_grantCheck (l : List Grant) : G3 C1 Tryz.f12 [.rows false (l.map Grant.cells)] = some (.int .i64 (checkGrants l)) := G3_eq (R_grantCheck l)
end Go.Ab.Seat
/- package upload: what is wrong with uploads. -/
namespace Go.Ab.Seat
open Go Go.Proofs
-- CFG C1
set_option linter.unusedSimpArgs false
set_option linter.unusedVariables false
set_option maxHeartbeats 4000000
set_option maxRecDepth 100000

-- REG upload.within G_upWithin
theorem R_upWithin (n a b : Int) : Run3 C1 Tryz.f31 [.int .i64 n, .int .i64 a, .int .i64 b] (.bool (decide (a ≤ n ∧ n ≤ b))) := by
  refine Run3.mk (fn := Tryz.f31) rfl ?_
  by_cases h1 : a ≤ n
  · by_cases h2 : n ≤ b
    · first | (exfalso; omega) | (simp (config := {maxSteps := 1000000}) only [↓bD, bL, stps, stpOf, ev, getT, setT, ofConst, binP, binA, symA, intOp, resA, padT, List.replicate, Option.or, ↓reduceIte, Nat.reduceLT, Nat.reduceAdd, Nat.reduceSub, fin, Tryz.ntmps31, Tryz.results31, eq_true h1, eq_true h2])
    · first | (exfalso; omega) | (simp (config := {maxSteps := 1000000}) only [↓bD, bL, stps, stpOf, ev, getT, setT, ofConst, binP, binA, symA, intOp, resA, padT, List.replicate, Option.or, ↓reduceIte, Nat.reduceLT, Nat.reduceAdd, Nat.reduceSub, fin, Tryz.ntmps31, Tryz.results31, eq_true h1, eq_false h2])
  · by_cases h2 : n ≤ b
    · first | (exfalso; omega) | (simp (config := {maxSteps := 1000000}) only [↓bD, bL, stps, stpOf, ev, getT, setT, ofConst, binP, binA, symA, intOp, resA, padT, List.replicate, Option.or, ↓reduceIte, Nat.reduceLT, Nat.reduceAdd, Nat.reduceSub, fin, Tryz.ntmps31, Tryz.results31, eq_false h1, eq_true h2])
    · first | (exfalso; omega) | (simp (config := {maxSteps := 1000000}) only [↓bD, bL, stps, stpOf, ev, getT, setT, ofConst, binP, binA, symA, intOp, resA, padT, List.replicate, Option.or, ↓reduceIte, Nat.reduceLT, Nat.reduceAdd, Nat.reduceSub, fin, Tryz.ntmps31, Tryz.results31, eq_false h1, eq_false h2])
theorem G_upWithin (n a b : Int) : G3 C1 Tryz.f31 [.int .i64 n, .int .i64 a, .int .i64 b] = some (.bool (decide (a ≤ n ∧ n ≤ b))) := G3_eq (R_upWithin n a b)
-- REG upload.session G_session
theorem R_session (l : List Session) (nx la ro : Int) (s : Session) (hn : -1099511627776 ≤ nx ∧ nx ≤ 1099511627776) : Run3 C1 Tryz.f32 [.agg [.rows false (l.map Session.cells), .int .i64 nx, .int .i64 la, .int .i64 ro], .agg [.int .i64 s.number, .str s.who, .str s.text, .int .i64 s.size, .int .i64 s.till]] (.int .i64 (checkSess nx s)) := by
  refine Run3.mk (fn := Tryz.f32) rfl ?_
  unfold checkSess
  have hw : IntKind.i64.wrap (nx - 1) = nx - 1 := wrap_i64 (by omega) (by omega)
  by_cases h1 : (1 ≤ s.number ∧ s.number ≤ nx - 1)
  · by_cases h2 : (0 ≤ s.size ∧ s.size ≤ 300)
    · by_cases h3 : (0 ≤ s.till ∧ s.till ≤ 2199023255552)
      · by_cases h4 : isName s.who = false
        · first | (exfalso; omega) | (simp (config := {maxSteps := 1000000}) only [↓bD, bL, stps, stpOf, ev, getT, setT, ofConst, AV.cells, notBad, loadObj, TI.agg, fieldAddrA, binP, binA, symA, intOp, unA, resA, padT, List.replicate, Option.or, hputs, ↓reduceIte, Nat.reduceLT, Nat.reduceAdd, Nat.reduceSub, fin, List.mapM_cons, List.mapM_nil, scalarN, plainN, C1_ty, ty3, ty9, ty26, ty83, Tryz.ntmps32, Tryz.results32, Cl_3 (C := C1) (g := 10) (fn := Tryz.f10) rfl (fnBy_of Tryz.func10 rfl) rfl, pureF, G_isName, Cl_3 (C := C1) (g := 31) (fn := Tryz.f31) rfl (fnBy_of Tryz.func31 rfl) rfl, G_upWithin, hw, eq_true h1, eq_true h2, eq_true h3, eq_true h4])
        · by_cases h5 : s.size < (s.text.length : Int)
          · first | (exfalso; omega) | (simp (config := {maxSteps := 1000000}) only [↓bD, bL, stps, stpOf, ev, getT, setT, ofConst, AV.cells, notBad, loadObj, TI.agg, fieldAddrA, binP, binA, symA, intOp, unA, lenA, resA, padT, List.replicate, Option.or, hputs, ↓reduceIte, Nat.reduceLT, Nat.reduceAdd, Nat.reduceSub, fin, List.mapM_cons, List.mapM_nil, scalarN, plainN, C1_ty, ty3, ty9, ty26, ty83, Tryz.ntmps32, Tryz.results32, Cl_3 (C := C1) (g := 10) (fn := Tryz.f10) rfl (fnBy_of Tryz.func10 rfl) rfl, pureF, G_isName, Cl_3 (C := C1) (g := 31) (fn := Tryz.f31) rfl (fnBy_of Tryz.func31 rfl) rfl, G_upWithin, hw, eq_true h1, eq_true h2, eq_true h3, eq_false h4, eq_true h5])
          · first | (exfalso; omega) | (simp (config := {maxSteps := 1000000}) only [↓bD, bL, stps, stpOf, ev, getT, setT, ofConst, AV.cells, notBad, loadObj, TI.agg, fieldAddrA, binP, binA, symA, intOp, unA, lenA, resA, padT, List.replicate, Option.or, hputs, ↓reduceIte, Nat.reduceLT, Nat.reduceAdd, Nat.reduceSub, fin, List.mapM_cons, List.mapM_nil, scalarN, plainN, C1_ty, ty3, ty9, ty26, ty83, Tryz.ntmps32, Tryz.results32, Cl_3 (C := C1) (g := 10) (fn := Tryz.f10) rfl (fnBy_of Tryz.func10 rfl) rfl, pureF, G_isName, Cl_3 (C := C1) (g := 31) (fn := Tryz.f31) rfl (fnBy_of Tryz.func31 rfl) rfl, G_upWithin, hw, eq_true h1, eq_true h2, eq_true h3, eq_false h4, eq_false h5])
      · first | (exfalso; omega) | (simp (config := {maxSteps := 1000000}) only [↓bD, bL, stps, stpOf, ev, getT, setT, ofConst, AV.cells, notBad, loadObj, TI.agg, fieldAddrA, binP, binA, symA, intOp, unA, resA, padT, List.replicate, Option.or, hputs, ↓reduceIte, Nat.reduceLT, Nat.reduceAdd, Nat.reduceSub, fin, List.mapM_cons, List.mapM_nil, scalarN, plainN, C1_ty, ty3, ty26, ty83, Tryz.ntmps32, Tryz.results32, pureF, Cl_3 (C := C1) (g := 31) (fn := Tryz.f31) rfl (fnBy_of Tryz.func31 rfl) rfl, G_upWithin, hw, eq_true h1, eq_true h2, eq_false h3])
    · first | (exfalso; omega) | (simp (config := {maxSteps := 1000000}) only [↓bD, bL, stps, stpOf, ev, getT, setT, ofConst, AV.cells, notBad, loadObj, TI.agg, fieldAddrA, binP, binA, symA, intOp, unA, resA, padT, List.replicate, Option.or, hputs, ↓reduceIte, Nat.reduceLT, Nat.reduceAdd, Nat.reduceSub, fin, List.mapM_cons, List.mapM_nil, scalarN, plainN, C1_ty, ty3, ty26, ty83, Tryz.ntmps32, Tryz.results32, pureF, Cl_3 (C := C1) (g := 31) (fn := Tryz.f31) rfl (fnBy_of Tryz.func31 rfl) rfl, G_upWithin, hw, eq_true h1, eq_false h2])
  · first | (exfalso; omega) | (simp (config := {maxSteps := 1000000}) only [↓bD, bL, stps, stpOf, ev, getT, setT, ofConst, AV.cells, notBad, loadObj, TI.agg, fieldAddrA, binP, binA, symA, intOp, unA, resA, padT, List.replicate, Option.or, hputs, ↓reduceIte, Nat.reduceLT, Nat.reduceAdd, Nat.reduceSub, fin, List.mapM_cons, List.mapM_nil, scalarN, plainN, C1_ty, ty3, ty26, ty83, Tryz.ntmps32, Tryz.results32, pureF, Cl_3 (C := C1) (g := 31) (fn := Tryz.f31) rfl (fnBy_of Tryz.func31 rfl) rfl, G_upWithin, hw, eq_false h1])
theorem G_session (l : List Session) (nx la ro : Int) (s : Session) (hn : -1099511627776 ≤ nx ∧ nx ≤ 1099511627776) : G3 C1 Tryz.f32 [.agg [.rows false (l.map Session.cells), .int .i64 nx, .int .i64 la, .int .i64 ro], .agg [.int .i64 s.number, .str s.who, .str s.text, .int .i64 s.size, .int .i64 s.till]] = some (.int .i64 (checkSess nx s)) := G3_eq (R_session l nx la ro s hn)
-- REG upload.open G_openOf
theorem R_openOf (l : List Session) (who : Str) (hl : l.length ≤ 1099511627776) (hs : ∀ s ∈ l, 0 ≤ s.size ∧ s.size ≤ 300) : Run3 C1 Tryz.f33 [.rows false (l.map Session.cells), .str who] (.int .i64 (openOf who l)) := by
  refine Run3.mk (fn := Tryz.f33) rfl ?_
  simp only [↓bD, bL, stps, stpOf, ev, getT, setT, ofConst, lenA, padT, List.replicate, Nat.reduceLT, Nat.reduceAdd, Nat.reduceSub, C1_ty, ty24, Tryz.ntmps33]
  refine X_loop (fun (rem : List Session) T st => ∃ k : Nat, getT T 10 = .int .i64 (k : Nat) ∧ l.drop k = rem ∧ getT T 5 = .int .i64 (openOf who (l.take k))) List.length
    (fun e T st => e = .exit 0 ∧ getT T 5 = .int .i64 (openOf who l)) l ⟨0, rfl, rfl, rfl⟩ ?_ ?_
  · rintro rem T st hF hc hb ⟨k, hk, hd, h5⟩
    have h0 := hF 0 rfl
    have h1 := hF 1 rfl
    have h8 := hF 8 rfl
    have h9 := hF 9 rfl
    simp only [getT] at h0 h1 h8 h9
    clear hF
    have hbar : st.bar = 0 := hb
    cases rem with
    | nil =>
      have hn := drop_nil_len hd
      have hlt : ¬ (k : Int) < (l.length : Int) := by omega
      rw [List.take_of_length_le hn] at h5
      simp only [↓bD, bL, stps, stpOf, ev, binP, binA, symA, intOp, Option.or, ↓reduceIte, Nat.reduceEqDiff, Nat.reduceLT, hk, h9, hlt, h5]
    | cons x rem =>
      obtain ⟨hx, hlt0, hd', ht'⟩ := drop_cons_get hd
      have hlt : (k : Int) < (l.length : Int) := by omega
      have hw : IntKind.i64.wrap ((k : Int) + 1) = ((k + 1 : Nat) : Int) := by rw [Int.natCast_add]; exact wrap_i64 (by omega) (by omega)
      have hb1 := openOf_bd who (l.take k) fun s hs' => hs s (List.mem_of_mem_take hs')
      have hxs := hs x (List.mem_of_getElem? hx)
      have htl : (l.take k).length ≤ l.length := by rw [List.length_take]; omega
      have hw2 : IntKind.i64.wrap (openOf who (l.take k) + x.size) = openOf who (l.take k) + x.size := wrap_i64 (by omega) (by omega)
      by_cases h : x.who = who
      · simp only [↓bD, bL, stps, stpOf, ev, ofConst, AV.cells, AV.one, loadObj, TI.agg, fieldAddrA, indexAddrA, binP, binA, symA, intOp, strOp, storeOk, putCells, elemTI, Option.or, ↓reduceIte, reduceCtorEq, Nat.reduceEqDiff, Nat.reduceLT, Nat.reduceAdd, C1_ty, ty3, ty9, ty24, ty83, beqD, Nat.add_assoc, hk, h1, h5, h8, h9, hlt, hx, hw, hw2, hbar, eq_true h]
        exact ⟨rem, by simp, k + 1, rfl, hd', by rw [ht', openOf_append]; simp [openOf, h]⟩
      · simp only [↓bD, bL, stps, stpOf, ev, ofConst, AV.cells, AV.one, loadObj, TI.agg, fieldAddrA, indexAddrA, binP, binA, symA, intOp, strOp, storeOk, putCells, elemTI, Option.or, ↓reduceIte, reduceCtorEq, Nat.reduceEqDiff, Nat.reduceLT, Nat.reduceAdd, C1_ty, ty9, ty24, ty83, beqD, Nat.add_assoc, hk, h1, h5, h8, h9, hlt, hx, hw, hbar, eq_false h]
        exact ⟨rem, by simp, k + 1, rfl, hd', by rw [ht', openOf_append]; simp [openOf, h]⟩
  · rintro e T st he hF hc hb ⟨rfl, h5⟩
    simp only [↓bD, bL, stps, stpOf, ev, resA, ↓reduceIte, Nat.reduceLT, Nat.reduceAdd, fin, Tryz.ntmps33, Tryz.results33, Nat.add_assoc, h5]
theorem G_openOf (l : List Session) (who : Str) (hl : l.length ≤ 1099511627776) (hs : ∀ s ∈ l, 0 ≤ s.size ∧ s.size ≤ 300) : G3 C1 Tryz.f33 [.rows false (l.map Session.cells), .str who] = some (.int .i64 (openOf who l)) := G3_eq (R_openOf l who hl hs)
end Go.Ab.Seat
/- package upload: Check. -/
namespace Go.Ab.Seat
open Go Go.Proofs
-- CFG C1
set_option linter.unusedSimpArgs false
set_option linter.unusedVariables false
set_option maxHeartbeats 4000000
set_option maxRecDepth 100000


-- REG upload.Check G_upCheck
theorem R_upCheck (l : List Session) (nx la ro : Int) : Run3 C1 Tryz.f14 [.agg [.rows false (l.map Session.cells), .int .i64 nx, .int .i64 la, .int .i64 ro]] (.int .i64 (checkUploads ⟨l, nx, la, ro⟩)) := by
  refine Run3.mk (fn := Tryz.f14) rfl ?_
  unfold checkUploads
  by_cases c1 : (1 ≤ la ∧ la ≤ 1000000)
  rotate_left
  · simp (config := {maxSteps := 1000000}) only [↓bD, bL, stps, stpOf, ev, getT, setT, ofConst, AV.cells, notBad, loadObj, TI.agg, fieldAddrA, unA, resA, padT, List.replicate, hputs, ↓reduceIte, Nat.reduceLT, Nat.reduceAdd, Nat.reduceSub, fin, List.mapM_cons, List.mapM_nil, scalarN, plainN, C1_ty, ty3, ty26, Tryz.ntmps14, Tryz.results14, Cl_3 (C := C1) (g := 31) (fn := Tryz.f31) rfl (fnBy_of Tryz.func31 rfl) rfl, pureF, G_upWithin, eq_false c1]
  by_cases c2 : (0 ≤ ro ∧ ro ≤ 100000)
  rotate_left
  · simp (config := {maxSteps := 1000000}) only [↓bD, bL, stps, stpOf, ev, getT, setT, ofConst, AV.cells, notBad, loadObj, TI.agg, fieldAddrA, unA, resA, padT, List.replicate, hputs, ↓reduceIte, Nat.reduceLT, Nat.reduceAdd, Nat.reduceSub, fin, List.mapM_cons, List.mapM_nil, scalarN, plainN, C1_ty, ty3, ty26, Tryz.ntmps14, Tryz.results14, Cl_3 (C := C1) (g := 31) (fn := Tryz.f31) rfl (fnBy_of Tryz.func31 rfl) rfl, pureF, G_upWithin, eq_true c1, eq_false c2]
  by_cases c3 : (1 ≤ nx ∧ nx ≤ 1099511627776)
  rotate_left
  · simp (config := {maxSteps := 1000000}) only [↓bD, bL, stps, stpOf, ev, getT, setT, ofConst, AV.cells, notBad, loadObj, TI.agg, fieldAddrA, unA, resA, padT, List.replicate, hputs, ↓reduceIte, Nat.reduceLT, Nat.reduceAdd, Nat.reduceSub, fin, List.mapM_cons, List.mapM_nil, scalarN, plainN, C1_ty, ty3, ty26, Tryz.ntmps14, Tryz.results14, Cl_3 (C := C1) (g := 31) (fn := Tryz.f31) rfl (fnBy_of Tryz.func31 rfl) rfl, pureF, G_upWithin, eq_true c1, eq_true c2, eq_false c3]
  have hnx : -1099511627776 ≤ nx ∧ nx ≤ 1099511627776 := by omega
  by_cases c4 : 20 < l.length
  · have c4' : (20 : Int) < (l.length : Int) := by omega
    simp (config := {maxSteps := 1000000}) only [↓bD, bL, stps, stpOf, ev, getT, setT, ofConst, AV.cells, notBad, loadObj, TI.agg, fieldAddrA, binP, binA, symA, intOp, unA, lenA, resA, padT, List.replicate, Option.or, hputs, ↓reduceIte, Nat.reduceLT, Nat.reduceAdd, Nat.reduceSub, fin, List.mapM_cons, List.mapM_nil, scalarN, plainN, C1_ty, ty3, ty24, ty26, Tryz.ntmps14, Tryz.results14, Cl_3 (C := C1) (g := 31) (fn := Tryz.f31) rfl (fnBy_of Tryz.func31 rfl) rfl, pureF, G_upWithin, eq_true c1, eq_true c2, eq_true c3, eq_true c4, eq_true c4']
  have c4' : ¬ (20 : Int) < (l.length : Int) := by omega
  simp (config := {maxSteps := 1000000}) only [↓bD, bL, stps, stpOf, ev, getT, setT, ofConst, AV.cells, notBad, loadObj, TI.agg, fieldAddrA, binP, binA, symA, intOp, unA, lenA, padT, List.replicate, Option.or, hputs, ↓reduceIte, Nat.reduceLT, Nat.reduceAdd, Nat.reduceSub, fin, List.mapM_cons, List.mapM_nil, scalarN, plainN, C1_ty, ty3, ty24, ty26, Tryz.ntmps14, Cl_3 (C := C1) (g := 31) (fn := Tryz.f31) rfl (fnBy_of Tryz.func31 rfl) rfl, pureF, G_upWithin, eq_true c1, eq_true c2, eq_true c3, eq_false c4']
  refine X_loop (fun (rem : List Session) T st => ∃ k : Nat, getT T 34 = .int .i64 (k : Nat) ∧ l.drop k = rem ∧ firstErr (checkSess nx) (l.take k) = 0 ∧ hget st.h 0 = some (.cells [.rows false (l.map Session.cells), .int .i64 nx, .int .i64 la, .int .i64 ro])) List.length
    (fun e T st => (e = .ret ∧ firstErr (checkSess nx) l ≠ 0 ∧ getT T 2 = .int .i64 (firstErr (checkSess nx) l)) ∨ (e = .exit 1 ∧ firstErr (checkSess nx) l = 0 ∧ hget st.h 0 = some (.cells [.rows false (l.map Session.cells), .int .i64 nx, .int .i64 la, .int .i64 ro]))) l ⟨0, rfl, rfl, rfl, rfl⟩ ?_ ?_
  · rintro rem T st hF hc hb ⟨k, hk, hd, hz, hh⟩
    have h1 := hF 1 rfl
    have h32 := hF 32 rfl
    have h33 := hF 33 rfl
    simp only [getT] at h1 h32 h33
    clear hF
    cases rem with
    | nil =>
      have hn := drop_nil_len hd
      have hlt : ¬ (k : Int) < (l.length : Int) := by omega
      rw [List.take_of_length_le hn] at hz
      simp only [↓bD, bL, stps, stpOf, ev, binP, binA, symA, intOp, Option.or, ↓reduceIte, reduceCtorEq, Nat.reduceEqDiff, Nat.reduceLT, hk, h33, hlt, hz, hh]
    | cons x rem =>
      obtain ⟨hx, hlt0, hd', ht'⟩ := drop_cons_get hd
      have hlt : (k : Int) < (l.length : Int) := by omega
      have hw : IntKind.i64.wrap ((k : Int) + 1) = ((k + 1 : Nat) : Int) := by rw [Int.natCast_add]; exact wrap_i64 (by omega) (by omega)
      have hbar : st.bar = 0 := hb
      have hfe : firstErr (checkSess nx) l = firstErr (checkSess nx) (x :: rem) := by
        rw [← List.take_append_drop k l, firstErr_append, hz, hd]; simp
      have hfe2 : firstErr (checkSess nx) (l.take (k + 1)) = checkSess nx x := by
        rw [ht', firstErr_append, hz]; simp only [firstErr, ne_eq, not_true_eq_false, if_false]
        split
        · rfl
        · rename_i q; exact (Classical.not_not.1 q).symm
      have hg := G_session l nx la ro x hnx
      by_cases hce : checkSess nx x = 0
      · rw [hce] at hg
        simp (config := {maxSteps := 1000000}) only [↓bD, bL, stps, stpOf, ev, ofConst, AV.cells, AV.one, loadObj, TI.agg, indexAddrA, binP, binA, symA, intOp, storeOk, putCells, elemTI, Option.or, hputs, ↓reduceIte, reduceCtorEq, Nat.reduceEqDiff, Nat.reduceLT, Nat.reduceAdd, fin, List.mapM_cons, List.mapM_nil, scalarN, plainN, C1_ty, ty24, ty26, ty83, pureF, Cl_3 (C := C1) (g := 32) (fn := Tryz.f32) rfl (fnBy_of Tryz.func32 rfl) rfl, Nat.add_assoc, hk, h1, h32, h33, hh, hlt, hx, hw, hbar, hg]
        exact ⟨rem, by simp, k + 1, rfl, hd', by rw [hfe2, hce]⟩
      · have hfe3 : firstErr (checkSess nx) l = checkSess nx x := by rw [hfe]; simp [firstErr, hce]
        simp (config := {maxSteps := 1000000}) only [↓bD, bL, stps, stpOf, ev, ofConst, AV.cells, AV.one, loadObj, TI.agg, indexAddrA, binP, binA, symA, intOp, storeOk, putCells, elemTI, Option.or, hputs, ↓reduceIte, reduceCtorEq, Nat.reduceEqDiff, Nat.reduceLT, Nat.reduceAdd, fin, List.mapM_cons, List.mapM_nil, scalarN, plainN, C1_ty, ty24, ty26, ty83, pureF, Cl_3 (C := C1) (g := 32) (fn := Tryz.f32) rfl (fnBy_of Tryz.func32 rfl) rfl, bneD, Nat.add_assoc, hk, h1, h32, h33, hh, hlt, hx, hbar, hg, eq_false hce, hfe3]
  · rintro e T st he hF hc hb (⟨rfl, h4, h2⟩ | ⟨rfl, h4, hh⟩)
    · simp only [↓bD, bL, resA, ↓reduceIte, fin, Tryz.results14, h4, h2, eq_true c1, eq_true c2, eq_true c3, eq_false c4]
    · have h1 := hF 1 rfl
      simp only [getT] at h1
      clear hF
      have hbar : st.bar = 0 := hb
      simp (config := {maxSteps := 1000000}) only [↓bD, bL, stps, stpOf, ev, ofConst, ↓reduceIte, Nat.reduceLT, Tryz.ntmps14, hbar]
      refine X_loop (fun (rem : List (Session × Session)) T st => ∃ k : Nat, getT T 6 = .int .i64 ((k + 1 : Nat) : Int) ∧ (l.zip l.tail).drop k = rem ∧ ((l.zip l.tail).take k).all (fun q => !leNum q.2 q.1) = true ∧ hget st.h 0 = some (.cells [.rows false (l.map Session.cells), .int .i64 nx, .int .i64 la, .int .i64 ro])) List.length
        (fun e T st => (e = .ret ∧ ascBy leNum l = false ∧ getT T 2 = .int .i64 4) ∨ (e = .exit 3 ∧ ascBy leNum l = true ∧ hget st.h 0 = some (.cells [.rows false (l.map Session.cells), .int .i64 nx, .int .i64 la, .int .i64 ro]))) (l.zip l.tail) ⟨0, by simp [getT_setT], rfl, by simp, hh⟩ ?_ ?_
      · rintro rem T2 st2 hF hc2 hb2 ⟨k, hk, hd, hz, hh2⟩
        have g1 := hF 1 rfl
        simp only [getT_setT, h1] at g1
        clear hF
        have hlz := zip_tail_len l
        cases rem with
        | nil =>
          have hn := drop_nil_len hd
          have hlt : ¬ ((k + 1 : Nat) : Int) < (l.length : Int) := by omega
          rw [List.take_of_length_le hn] at hz
          simp (config := {maxSteps := 1000000}) only [↓bD, bL, stps, stpOf, ev, loadObj, TI.agg, fieldAddrA, binP, binA, symA, intOp, lenA, Option.or, ↓reduceIte, reduceCtorEq, Nat.reduceEqDiff, Nat.reduceLT, Nat.reduceAdd, C1_ty, ty24, ty26, Nat.add_assoc, hk, g1, hlt, hh2]
          exact hz
        | cons q rem =>
          obtain ⟨hx, hlt0, hd', ht'⟩ := drop_cons_get hd
          obtain ⟨hq1, hq2⟩ := zip_tail_get hx
          have hlt : ((k + 1 : Nat) : Int) < (l.length : Int) := by omega
          have hlt2 : (k : Int) < (l.length : Int) := by omega
          have hw : IntKind.i64.wrap (((k + 1 : Nat) : Int) + 1) = ((k + 1 + 1 : Nat) : Int) := by rw [Int.natCast_add (k + 1)]; exact wrap_i64 (by omega) (by omega)
          have hw2 : IntKind.i64.wrap (((k + 1 : Nat) : Int) - 1) = (k : Int) := by rw [show ((k + 1 : Nat) : Int) - 1 = (k : Int) by omega]; exact wrap_i64 (by omega) (by omega)
          by_cases hle : q.2.number ≤ q.1.number
          · have hfa : ascBy leNum l = false := by
              unfold ascBy
              rw [List.all_eq_false]
              exact ⟨q, List.mem_of_getElem? hx, by simp [leNum, hle]⟩
            simp (config := {maxSteps := 1000000}) only [↓bD, bL, stps, stpOf, ev, ofConst, loadObj, TI.agg, fieldAddrA, indexAddrA, binP, binA, symA, intOp, lenA, elemTI, Option.or, ↓reduceIte, reduceCtorEq, Nat.reduceEqDiff, Nat.reduceLT, Nat.reduceAdd, looks, C1_ty, ty3, ty24, ty26, ty83, Nat.add_assoc, hk, g1, hh2, hlt, hlt2, hq1, hq2, hw2, hfa, eq_true hle]
            kernel_rfl
          · simp (config := {maxSteps := 1000000}) only [↓bD, bL, stps, stpOf, ev, ofConst, loadObj, TI.agg, fieldAddrA, indexAddrA, binP, binA, symA, intOp, lenA, elemTI, Option.or, ↓reduceIte, reduceCtorEq, Nat.reduceEqDiff, Nat.reduceLT, Nat.reduceAdd, looks, C1_ty, ty3, ty24, ty26, ty83, Nat.add_assoc, hk, g1, hh2, hlt, hlt2, hq1, hq2, hw, hw2, eq_false hle]
            refine ⟨by kernel_rfl, ?_⟩
            exact ⟨rem, by simp, k + 1, rfl, hd', by rw [ht', List.all_append, hz]; simp [leNum, hle]⟩
      · rintro e T2 st2 he2 hF hc2 hb2 (⟨rfl, h5, h2⟩ | ⟨rfl, h5, hh2⟩)
        · simp only [↓bD, bL, resA, ↓reduceIte, fin, Tryz.results14, h4, h5, h2, eq_true c1, eq_true c2, eq_true c3, eq_false c4]
        · have g1 := hF 1 rfl
          simp only [getT_setT, h1] at g1
          clear hF
          have hbar2 : st2.bar = 0 := by rw [hb2]
          simp (config := {maxSteps := 1000000}) only [↓bD, bL, stps, stpOf, ev, ofConst, loadObj, TI.agg, fieldAddrA, lenA, ↓reduceIte, Nat.reduceEqDiff, Nat.reduceLT, Nat.reduceAdd, C1_ty, ty24, ty26, Tryz.ntmps14, Nat.add_assoc, g1, hbar2, hh2]
          have hsz : ∀ s ∈ l, 0 ≤ s.size ∧ s.size ≤ 300 := fun s hs => by
            have h := firstErr_all h4 s hs
            unfold checkSess at h
            by_cases q : (0 ≤ s.size ∧ s.size ≤ 300)
            · exact q
            · rw [if_pos q] at h; split at h <;> omega
          refine X_loop (fun (rem : List Session) T st => ∃ k : Nat, getT T 69 = .int .i64 (k : Nat) ∧ l.drop k = rem ∧ (l.take k).any (fun s => decide (ro < openOf s.who l)) = false ∧ hget st.h 0 = some (.cells [.rows false (l.map Session.cells), .int .i64 nx, .int .i64 la, .int .i64 ro])) List.length
            (fun e T st => (e = .ret ∧ l.any (fun s => decide (ro < openOf s.who l)) = true ∧ getT T 2 = .int .i64 10) ∨ (e = .exit 5 ∧ l.any (fun s => decide (ro < openOf s.who l)) = false)) l ⟨0, by simp [getT_setT], rfl, by simp, hh2⟩ ?_ ?_
          · rintro rem T3 st3 hF hc3 hb3 ⟨k, hk, hd, hz, hh3⟩
            have k1 := hF 1 rfl
            have k67 := hF 67 rfl
            have k68 := hF 68 rfl
            simp only [↓reduceIte, Nat.reduceEqDiff, getT_setT, g1] at k1 k67 k68
            clear hF
            cases rem with
            | nil =>
              have hn := drop_nil_len hd
              have hlt : ¬ (k : Int) < (l.length : Int) := by omega
              rw [List.take_of_length_le hn] at hz
              simp only [↓bD, bL, stps, stpOf, ev, binP, binA, symA, intOp, Option.or, ↓reduceIte, reduceCtorEq, Nat.reduceEqDiff, Nat.reduceLT, hk, k68, hlt, hz]
            | cons x rem =>
              obtain ⟨hx, hlt0, hd', ht'⟩ := drop_cons_get hd
              have hlt : (k : Int) < (l.length : Int) := by omega
              have hw : IntKind.i64.wrap ((k : Int) + 1) = ((k + 1 : Nat) : Int) := by rw [Int.natCast_add]; exact wrap_i64 (by omega) (by omega)
              have hbar3 : st3.bar = 0 := by rw [hb3]
              have hg := G_openOf l x.who (by omega) hsz
              by_cases hro : ro < openOf x.who l
              · have hany : l.any (fun s => decide (ro < openOf s.who l)) = true := by
                  rw [List.any_eq_true]; exact ⟨x, List.mem_of_getElem? hx, by simpa using hro⟩
                simp (config := {maxSteps := 1000000}) only [↓bD, bL, stps, stpOf, ev, ofConst, AV.cells, AV.one, loadObj, TI.agg, fieldAddrA, indexAddrA, binP, binA, symA, intOp, storeOk, putCells, elemTI, Option.or, hputs, ↓reduceIte, reduceCtorEq, Nat.reduceEqDiff, Nat.reduceLT, Nat.reduceAdd, fin, List.mapM_cons, List.mapM_nil, scalarN, plainN, looks, C1_ty, ty3, ty9, ty24, ty26, ty83, pureF, Cl_3 (C := C1) (g := 33) (fn := Tryz.f33) rfl (fnBy_of Tryz.func33 rfl) rfl, Nat.add_assoc, hk, k1, k67, k68, hh3, hlt, hx, hbar3, hg, hany, eq_true hro]
                kernel_rfl
              · simp (config := {maxSteps := 1000000}) only [↓bD, bL, stps, stpOf, ev, ofConst, AV.cells, AV.one, loadObj, TI.agg, fieldAddrA, indexAddrA, binP, binA, symA, intOp, storeOk, putCells, elemTI, Option.or, hputs, ↓reduceIte, reduceCtorEq, Nat.reduceEqDiff, Nat.reduceLT, Nat.reduceAdd, fin, List.mapM_cons, List.mapM_nil, scalarN, plainN, looks, C1_ty, ty3, ty9, ty24, ty26, ty83, pureF, Cl_3 (C := C1) (g := 33) (fn := Tryz.f33) rfl (fnBy_of Tryz.func33 rfl) rfl, Nat.add_assoc, hk, k1, k67, k68, hh3, hlt, hx, hw, hbar3, hg, eq_false hro]
                refine ⟨by kernel_rfl, ?_⟩
                exact ⟨rem, by simp, k + 1, rfl, hd', by rw [ht', List.any_append, hz]; simp [hro]⟩
          · rintro e T3 st3 he3 hF hc3 hb3 (⟨rfl, h6, h2⟩ | ⟨rfl, h6⟩)
            · simp only [↓bD, bL, resA, ↓reduceIte, fin, Tryz.results14, h4, h5, h6, h2, eq_true c1, eq_true c2, eq_true c3, eq_false c4]
            · simp only [↓bD, bL, stps, stpOf, ev, ofConst, resA, ↓reduceIte, Nat.reduceLT, fin, Tryz.ntmps14, Tryz.results14, h4, h5, h6, eq_true c1, eq_true c2, eq_true c3, eq_false c4]
theorem G_upCheck (l : List Session) (nx la ro : Int) : G3 C1 Tryz.f14 [.agg [.rows false (l.map Session.cells), .int .i64 nx, .int .i64 la, .int .i64 ro]] = some (.int .i64 (checkUploads ⟨l, nx, la, ro⟩)) := G3_eq (R_upCheck l nx la ro)
end Go.Ab.Seat
