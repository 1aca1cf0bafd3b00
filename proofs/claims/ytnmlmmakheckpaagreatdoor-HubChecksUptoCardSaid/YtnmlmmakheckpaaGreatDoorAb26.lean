/- journal.IsKey. -/
import Derived.Test.YtnmlmmakheckpaaGreatDoorAb11
import Derived.Test.YtnmlmmakheckpaaGreatDoorAb20
import Derived.Test.YtnmlmmakheckpaaGreatDoorAb13
import Derived.Test.YtnmlmmakheckpaaGreatDoorAb09
import Derived.Laws.RangeString
import Derived.Laws.RangeAny
import Derived.Test.YtnmlmmakheckpaaGreatDoorAb24
import Derived.Test.YtnmlmmakheckpaaGreatDoorAb23
namespace Go.Ab.Seat
open Go Go.Proofs
-- CFG C4
set_option linter.unusedSimpArgs false
set_option linter.unusedVariables false
set_option maxHeartbeats 4000000
set_option maxRecDepth 100000

def keyR (r : Int) : Bool := (decide ((97 : Int) ≤ r) && decide (r ≤ 122)) || (decide ((65 : Int) ≤ r) && decide (r ≤ 90)) || (decide ((48 : Int) ≤ r) && decide (r ≤ 57)) || decide (r = 45)
-- REG journal.IsKey$1 G_keyR
theorem R_keyR (r : Int) : Run3 C4 Tryz.f81 [.int .i32 r] (.bool (keyR r)) := by
  refine Run3.mk (fn := Tryz.f81) rfl ?_
  unfold keyR
  by_cases a0 : r ≤ 44
  · simp only [↓bD, bL, stps, stpOf, ev, getT, setT, ofConst, binP, binA, symA, intOp, resA, padT, List.replicate, Option.or, ↓reduceIte, Nat.reduceLT, Nat.reduceAdd, Nat.reduceSub, fin, Tryz.ntmps81, Tryz.results81, beqD, eq_false (show ¬ ((97 : Int) ≤ r) by omega), eq_true (show (r ≤ 122) by omega), eq_false (show ¬ ((65 : Int) ≤ r) by omega), eq_true (show (r ≤ 90) by omega), eq_false (show ¬ ((48 : Int) ≤ r) by omega), eq_true (show (r ≤ 57) by omega), eq_false (show ¬ (r = 45) by omega)]
  by_cases a1 : r ≤ 45
  · simp only [↓bD, bL, stps, stpOf, ev, getT, setT, ofConst, binP, binA, symA, intOp, resA, padT, List.replicate, Option.or, ↓reduceIte, Nat.reduceLT, Nat.reduceAdd, Nat.reduceSub, fin, Tryz.ntmps81, Tryz.results81, beqD, eq_false (show ¬ ((97 : Int) ≤ r) by omega), eq_true (show (r ≤ 122) by omega), eq_false (show ¬ ((65 : Int) ≤ r) by omega), eq_true (show (r ≤ 90) by omega), eq_false (show ¬ ((48 : Int) ≤ r) by omega), eq_true (show (r ≤ 57) by omega), eq_true (show (r = 45) by omega)]
  by_cases a2 : r ≤ 47
  · simp only [↓bD, bL, stps, stpOf, ev, getT, setT, ofConst, binP, binA, symA, intOp, resA, padT, List.replicate, Option.or, ↓reduceIte, Nat.reduceLT, Nat.reduceAdd, Nat.reduceSub, fin, Tryz.ntmps81, Tryz.results81, beqD, eq_false (show ¬ ((97 : Int) ≤ r) by omega), eq_true (show (r ≤ 122) by omega), eq_false (show ¬ ((65 : Int) ≤ r) by omega), eq_true (show (r ≤ 90) by omega), eq_false (show ¬ ((48 : Int) ≤ r) by omega), eq_true (show (r ≤ 57) by omega), eq_false (show ¬ (r = 45) by omega)]
  by_cases a3 : r ≤ 57
  · simp only [↓bD, bL, stps, stpOf, ev, getT, setT, ofConst, binP, binA, symA, intOp, resA, padT, List.replicate, Option.or, ↓reduceIte, Nat.reduceLT, Nat.reduceAdd, Nat.reduceSub, fin, Tryz.ntmps81, Tryz.results81, eq_false (show ¬ ((97 : Int) ≤ r) by omega), eq_true (show (r ≤ 122) by omega), eq_false (show ¬ ((65 : Int) ≤ r) by omega), eq_true (show (r ≤ 90) by omega), eq_true (show ((48 : Int) ≤ r) by omega), eq_true (show (r ≤ 57) by omega), eq_false (show ¬ (r = 45) by omega)]
  by_cases a4 : r ≤ 64
  · simp only [↓bD, bL, stps, stpOf, ev, getT, setT, ofConst, binP, binA, symA, intOp, resA, padT, List.replicate, Option.or, ↓reduceIte, Nat.reduceLT, Nat.reduceAdd, Nat.reduceSub, fin, Tryz.ntmps81, Tryz.results81, beqD, eq_false (show ¬ ((97 : Int) ≤ r) by omega), eq_true (show (r ≤ 122) by omega), eq_false (show ¬ ((65 : Int) ≤ r) by omega), eq_true (show (r ≤ 90) by omega), eq_true (show ((48 : Int) ≤ r) by omega), eq_false (show ¬ (r ≤ 57) by omega), eq_false (show ¬ (r = 45) by omega)]
  by_cases a5 : r ≤ 90
  · simp only [↓bD, bL, stps, stpOf, ev, getT, setT, ofConst, binP, binA, symA, intOp, resA, padT, List.replicate, Option.or, ↓reduceIte, Nat.reduceLT, Nat.reduceAdd, Nat.reduceSub, fin, Tryz.ntmps81, Tryz.results81, eq_false (show ¬ ((97 : Int) ≤ r) by omega), eq_true (show (r ≤ 122) by omega), eq_true (show ((65 : Int) ≤ r) by omega), eq_true (show (r ≤ 90) by omega), eq_true (show ((48 : Int) ≤ r) by omega), eq_false (show ¬ (r ≤ 57) by omega), eq_false (show ¬ (r = 45) by omega)]
  by_cases a6 : r ≤ 96
  · simp only [↓bD, bL, stps, stpOf, ev, getT, setT, ofConst, binP, binA, symA, intOp, resA, padT, List.replicate, Option.or, ↓reduceIte, Nat.reduceLT, Nat.reduceAdd, Nat.reduceSub, fin, Tryz.ntmps81, Tryz.results81, beqD, eq_false (show ¬ ((97 : Int) ≤ r) by omega), eq_true (show (r ≤ 122) by omega), eq_true (show ((65 : Int) ≤ r) by omega), eq_false (show ¬ (r ≤ 90) by omega), eq_true (show ((48 : Int) ≤ r) by omega), eq_false (show ¬ (r ≤ 57) by omega), eq_false (show ¬ (r = 45) by omega)]
  by_cases a7 : r ≤ 122
  · simp only [↓bD, bL, stps, stpOf, ev, getT, setT, ofConst, binP, binA, symA, intOp, resA, padT, List.replicate, Option.or, ↓reduceIte, Nat.reduceLT, Nat.reduceAdd, Nat.reduceSub, fin, Tryz.ntmps81, Tryz.results81, eq_true (show ((97 : Int) ≤ r) by omega), eq_true (show (r ≤ 122) by omega), eq_true (show ((65 : Int) ≤ r) by omega), eq_false (show ¬ (r ≤ 90) by omega), eq_true (show ((48 : Int) ≤ r) by omega), eq_false (show ¬ (r ≤ 57) by omega), eq_false (show ¬ (r = 45) by omega)]
  simp only [↓bD, bL, stps, stpOf, ev, getT, setT, ofConst, binP, binA, symA, intOp, resA, padT, List.replicate, Option.or, ↓reduceIte, Nat.reduceLT, Nat.reduceAdd, Nat.reduceSub, fin, Tryz.ntmps81, Tryz.results81, beqD, eq_true (show ((97 : Int) ≤ r) by omega), eq_false (show ¬ (r ≤ 122) by omega), eq_true (show ((65 : Int) ≤ r) by omega), eq_false (show ¬ (r ≤ 90) by omega), eq_true (show ((48 : Int) ≤ r) by omega), eq_false (show ¬ (r ≤ 57) by omega), eq_false (show ¬ (r = 45) by omega)]
theorem G_keyR (r : Int) : G3 C4 Tryz.f81 [.int .i32 r] = some (.bool (keyR r)) := G3_eq (R_keyR r)

theorem key_step {s : Str} {k : Nat} {x : UInt8} (hx : s[k]? = some x) : (keyByte x = true → Utf8.decode ⟨s.toArray⟩ k = (x.toNat, 1)) ∧ keyR ((Utf8.decode ⟨s.toArray⟩ k).1 : Nat) = keyByte x := by
  obtain ⟨hk, hxe⟩ := List.getElem?_eq_some_iff.1 hx
  have hp : k < (⟨s.toArray⟩ : ByteArray).size := by simpa [ByteArray.size] using hk
  have hg : (⟨s.toArray⟩ : ByteArray)[k]'hp = x := by
    show s.toArray[k] = x
    simpa using hxe
  by_cases ha : x.toNat < 128
  · have hd := decode_ascii ⟨s.toArray⟩ k hp (by rw [hg]; exact ha)
    rw [hg] at hd
    exact ⟨fun _ => hd, by rw [hd]; rfl⟩
  · have hd := (decode_high ⟨s.toArray⟩ k hp (by rw [hg]; omega)).1
    have h1 : keyByte x = false := by
      unfold keyByte
      simp only [Bool.or_eq_false_iff, Bool.and_eq_false_iff, decide_eq_false_iff_not]
      omega
    refine ⟨fun q => absurd (h1.symm.trans q) (by decide), ?_⟩
    rw [h1]
    unfold keyR
    simp only [Bool.or_eq_false_iff, Bool.and_eq_false_iff, decide_eq_false_iff_not]
    omega

-- REG journal.IsKey G_isKeyP
theorem R_isKeyP (s : Str) (hs : s.length ≤ 1099511627776) : Run3 C4 Tryz.f58 [.str s] (.bool (isKey s)) := by
  refine Run3.mk (fn := Tryz.f58) rfl ?_
  by_cases e0 : s = []
  · subst e0
    simp only [↓bD, bL, stps, stpOf, ev, getT, setT, ofConst, AV.cells, AV.one, binP, binA, symA, strOp, storeOk, putCells, resA, padT, List.replicate, Option.or, ↓reduceIte, Nat.reduceLT, Nat.reduceLeDiff, Nat.reduceAdd, Nat.reduceSub, fin, C4_ty, ty136, Tryz.ntmps58, Tryz.results58, isKey]
  have hl1 : 1 ≤ s.length := List.length_pos_iff.2 e0
  by_cases e1 : s.length ≤ 20
  rotate_left
  · have e1' : ¬ (s.length : Int) ≤ 20 := by omega
    have hi : isKey s = false := by unfold isKey; simp [e1]
    rw [hi]
    simp only [↓bD, bL, stps, stpOf, ev, getT, setT, ofConst, AV.cells, AV.one, binP, binA, symA, intOp, strOp, lenA, storeOk, putCells, resA, padT, List.replicate, Option.or, ↓reduceIte, Nat.reduceLT, Nat.reduceAdd, Nat.reduceSub, fin, C4_ty, ty9, ty136, Tryz.ntmps58, Tryz.results58, beqD, eq_false e0, eq_false e1']
  have e1' : (s.length : Int) ≤ 20 := by omega
  have hi : isKey s = s.all keyByte := by unfold isKey; simp [e1, hl1]
  rw [hi]
  simp only [↓bD, bL, stps, stpOf, ev, getT, setT, ofConst, AV.cells, AV.one, binP, binA, symA, intOp, strOp, lenA, storeOk, putCells, padT, List.replicate, Option.or, hputs, ↓reduceIte, Nat.reduceLT, Nat.reduceAdd, Nat.reduceSub, C4_ty, ty9, ty136, Tryz.ntmps58, Cl_0 (C := C4) (g := 82) (fn := Tryz.f82) rfl (fnBy_of Tryz.func82 rfl) rfl rfl, Tryz.ntmps82, Cl_0 (C := C4) (g := 107) (fn := Tryz.f107) rfl (fnBy_of Tryz.func107 rfl) rfl rfl, Tryz.ntmps107, beqD, ↓O_range, rangeA, eq_false e0, eq_true e1']
  refine X_loop (fun (rem : Str) T st => ∃ (k q b : Nat), getT T 10 = .ptr q 0 ∧ st.bar ≤ q ∧ hget st.h q = some (.iter s k) ∧ s.drop k = rem ∧ (s.take k).all keyByte = true ∧ getT T 1 = .func 83 [] [.ptr b 0] ∧ hget st.h b = some (.cells [.func 81 [] []]) ∧ (q = b) = False) List.length
    (fun e T st => (e = .ret ∧ (∃ k : Nat, getT T 6 = .int .i64 (k : Nat)) ∧ s.all keyByte = false) ∨ (e = .exit 0 ∧ s.all keyByte = true)) s ⟨0, _, _, rfl, (by simp : _ ≤ _), rfl, rfl, rfl, rfl, rfl, eq_false (by decide)⟩ ?_ ?_
  · rintro rem T st hF hc hb ⟨k, q, b, h10, hbq, hit, hd, hz, h1, hbx, hqb⟩
    have h2 := hF 2 rfl
    simp only [getT_setT, getT, Nat.reduceEqDiff, if_false] at h2
    clear hF
    cases rem with
    | nil =>
      have hn := drop_nil_len hd
      have hlt : ¬ k < s.length := by omega
      rw [List.take_of_length_le hn] at hz
      simp only [↓bD, bL, stps, stpOf, ev, hputs, ↓reduceIte, reduceCtorEq, Nat.reduceEqDiff, Nat.reduceLT, Nat.reduceAdd, Nat.add_assoc, ↓O_next, nextA, h10, hbq, hit, hlt, hz]
    | cons x rem =>
      obtain ⟨hx, hlt, hd', ht'⟩ := drop_cons_get hd
      obtain ⟨hdec, hkr⟩ := key_step hx
      cases hq : keyByte x with
      | true =>
        have hdec := hdec hq
        rw [hdec, hq] at hkr
        simp only at hkr
        simp only [↓bD, bL, stps, stpOf, ev, getT, setT, ofConst, loadObj, TI.agg, binP, binA, symA, eqOp, unA, resA, padT, List.replicate, Option.or, hputs, ↓reduceIte, Nat.reduceEqDiff, Nat.reduceLT, Nat.reduceAdd, Nat.reduceSub, fin, List.mapM_cons, List.mapM_nil, scalarN, plainN, C4_ty, ty136, Cl_3 (C := C4) (g := 81) (fn := Tryz.f81) rfl (fnBy_of Tryz.func81 rfl) rfl, pureF, G_keyR, ty4, Cl_0 (C := C4) (g := 83) (fn := Tryz.f83) rfl (fnBy_of Tryz.func83 rfl) rfl rfl, Tryz.ntmps83, Tryz.results83, beqD, Nat.add_assoc, ↓O_next, nextA, isNilConst, eqAV, h10, hbq, hit, hlt, h1, h2, hbx, hqb, hdec, hkr]
        exact ⟨rem, by simp, k + 1, q, b, rfl, hbq, by rw [if_pos rfl], hd', by rw [ht', List.all_append, hz]; simp [hq], rfl, by rw [if_neg (of_eq_false hqb)]; exact hbx, hqb⟩
      | false =>
        rw [hq] at hkr
        have hf : s.all keyByte = false := by rw [List.all_eq_false]; exact ⟨x, List.mem_of_getElem? hx, by rw [hq]; decide⟩
        simp only [↓bD, bL, stps, stpOf, ev, getT, setT, ofConst, loadObj, TI.agg, binP, binA, symA, eqOp, unA, resA, padT, List.replicate, Option.or, hputs, ↓reduceIte, reduceCtorEq, Nat.reduceEqDiff, Nat.reduceLT, Nat.reduceAdd, Nat.reduceSub, fin, List.mapM_cons, List.mapM_nil, scalarN, plainN, C4_ty, ty136, Cl_3 (C := C4) (g := 81) (fn := Tryz.f81) rfl (fnBy_of Tryz.func81 rfl) rfl, pureF, G_keyR, ty4, Cl_0 (C := C4) (g := 83) (fn := Tryz.f83) rfl (fnBy_of Tryz.func83 rfl) rfl rfl, Tryz.ntmps83, Tryz.results83, Nat.add_assoc, ↓O_next, nextA, isNilConst, eqAV, h10, hbq, hit, hlt, h1, h2, hbx, hqb, hkr, hf]
        exact ⟨k, rfl⟩
  · rintro e T st he hF hc hb (⟨rfl, ⟨k, h6⟩, hf⟩ | ⟨rfl, hf⟩)
    · have hk : ¬ (k : Int) < 0 := by omega
      rw [hf]
      simp only [↓bD, bL, ev, getT, setT, ofConst, binP, binA, symA, intOp, resA, Option.or, ↓reduceIte, Nat.reduceLT, Nat.reduceAdd, fin, Tryz.results58, Tryz.results82, Tryz.results107, h6, hk]
    · rw [hf]
      simp only [↓bD, bL, stps, stpOf, ev, getT, setT, ofConst, binP, binA, symA, intOp, resA, Option.or, ↓reduceIte, Nat.reduceLT, Nat.reduceAdd, fin, Tryz.results58, Tryz.results82, Tryz.ntmps107, Tryz.results107, Int.reduceLT, Int.reduceNeg]
theorem G_isKeyP (s : Str) (hs : s.length ≤ 1099511627776) : G3 C4 Tryz.f58 [.str s] = some (.bool (isKey s)) := G3_eq (R_isKeyP s hs)
end Go.Ab.Seat
/- journal.Open, journal.Check. -/
namespace Go.Ab.Seat
open Go Go.Proofs
-- CFG C4
set_option linter.unusedSimpArgs false
set_option linter.unusedVariables false
set_option maxHeartbeats 4000000
set_option maxRecDepth 100000

theorem setOf_le (l : List Str) : (setOf l).length ≤ l.length := by
  induction l using snoc_ind with
  | h0 => simp [setOf]
  | hs l k ih =>
    rw [setOf_snoc]
    unfold setAdd
    split <;> simp <;> omega
theorem setOf_lt (l : List Str) : ((setOf l).length < l.length) ↔ ¬ l.Nodup := by
  induction l using snoc_ind with
  | h0 => simp [setOf]
  | hs l k ih =>
    have hle := setOf_le l
    rw [setOf_snoc]
    unfold setAdd
    by_cases hk : k ∈ setOf l
    · have hk2 : k ∈ l := (setOf_mem l k).1 hk
      rw [if_pos hk]
      refine ⟨fun _ hn => ?_, fun _ => by simp; omega⟩
      rw [List.nodup_append] at hn
      exact hn.2.2 k hk2 k (by simp) rfl
    · have hk2 : k ∉ l := fun q => hk ((setOf_mem l k).2 q)
      rw [if_neg hk]
      simp only [List.length_append, List.length_cons, List.length_nil, Nat.add_lt_add_iff_right, ih]
      rw [List.nodup_append]
      refine ⟨fun h hn => h hn.1, fun h hn => h ⟨hn, by simp, fun a ha b hb => ?_⟩⟩
      simp only [List.mem_singleton] at hb
      subst hb
      exact fun e => hk2 (e ▸ ha)

/-- The last tree. -/
def lastD (l : List (List Entry)) : List Entry := l.getLast?.getD []
theorem lastD_cons (a b : List Entry) (l : List (List Entry)) : lastD (a :: b :: l) = lastD (b :: l) := by
  unfold lastD; rw [List.getLast?_cons_cons]
def jCells (j : Journal) : List AV := [.rows false (j.base.map Entry.cells), .int .i64 j.first, .rows false (j.commits.map Commit.cells)]
def kCells (j : Journal) (t : List Entry) : List AV := [.rows false (j.base.map Entry.cells), .int .i64 j.first, .rows false (j.commits.map Commit.cells), .rows false (t.map Entry.cells)]
/-- What a call that opens a journal hands out. -/
def opR (j : Journal) (st : St) (r : AV) (st' : St) : Prop := ∃ p, r = .tuple [p, .int .i64 (openJ j).2] ∧
  ((openJ j).2 = 0 → ∃ k, p = .ptr k 0 ∧ st.c ≤ k ∧ k < st'.c ∧ hget st'.h k = some (.cells (kCells j (lastD (openJ j).1)))) ∧ ((openJ j).2 ≠ 0 → p = .nilptr) ∧ st.c ≤ st'.c ∧ st'.bar = st.bar ∧ ∀ k, k < st.c → hget st'.h k = hget st.h k
def opQ (j : Journal) (st : St) : KE := endW C4 Tryz.f27.results.toList fun r st' => opR j st r ⟨st'.h, st'.c, st.bar⟩
/-- What is known ahead of the walk. -/
def opJ (j : Journal) (st0 : St) (T : List AV) (st : St) : Prop := ∃ b q m, getT T 1 = .ptr b 0 ∧ getT T 5 = .ptr q 0 ∧ getT T 6 = .map m ∧ hget st.h b = some (.cells (jCells j)) ∧ hget st.h q = some (.cells (kCells j j.base)) ∧ hget st.h m = some (.map []) ∧
  st0.c ≤ b ∧ st0.c ≤ q ∧ st0.c ≤ m ∧ b < st.c ∧ q < st.c ∧ m < st.c ∧ b ≠ q ∧ b ≠ m ∧ q ≠ m ∧ st.bar = st0.bar ∧ ∀ k, k < st0.c → hget st.h k = hget st0.h k

theorem op_walk (j : Journal) (hj : FitJ j) (st0 : St) (hb0 : st0.bar ≤ st0.c) (ht : OkT j.base) (hv : isVersion j.first = true) (h30 : ¬ 30 < j.commits.length) (T : List AV) (st : St) (hJ : opJ j st0 T st) :
    X C4 Tryz.f27.ntmps (restC 5 (bodyC Tryz.f27)) T st (Q := ⟨opQ j st0⟩) := by
  obtain ⟨b, q, m, g1, g5, g6, hb, hq, hm, b0, q0, m0, bc, qc, mc, hbq, hbm, hqm, hbar0, hkeep⟩ := hJ
  have hv1 : 1 ≤ j.first ∧ j.first ≤ 1000000 := by simpa [isVersion] using hv
  have hck : checkTree j.base = 0 := (checkTree_ok _).2 ht
  have hopen : openJ j = if (openGo j.first j.base j.commits 0).2 ≠ 0 then ([], (openGo j.first j.base j.commits 0).2) else if twice j.commits = true then ([], 6) else (j.base :: (openGo j.first j.base j.commits 0).1, 0) := by
    unfold openJ
    rw [if_neg (fun w => w hck), if_neg (by rw [hv]; decide), if_neg h30]
  unfold jCells at hb
  unfold kCells at hq
  have e1 : (b = q) = False := eq_false hbq
  have e2 : (q = b) = False := eq_false (Ne.symm hbq)
  have e3 : (b = m) = False := eq_false hbm
  have e4 : (m = b) = False := eq_false (Ne.symm hbm)
  have e5 : (q = m) = False := eq_false hqm
  have e6 : (m = q) = False := eq_false (Ne.symm hqm)
  refine (?_ : X C4 Tryz.f27.ntmps (.seq _ (.seq _ (.seq _ .ret))) T st (Q := ⟨opQ j st0⟩))
  simp only [↓bD, bL, stps, stpOf, ev, ofConst, loadObj, TI.agg, fieldAddrA, lenA, ↓reduceIte, Nat.reduceLT, Nat.reduceAdd, C4_ty, ty36, ty51, Tryz.ntmps27, Nat.add_assoc, g1, hb]
  refine X_loop (fun (rem : List Commit) T st => ∃ (k : Nat) (cur : List Entry), getT T 41 = .int .i64 (k : Nat) ∧ j.commits.drop k = rem ∧ k ≤ j.commits.length ∧ OkT cur ∧
      hget st.h b = some (.cells [.rows false (j.base.map Entry.cells), .int .i64 j.first, .rows false (j.commits.map Commit.cells)]) ∧
      hget st.h q = some (.cells [.rows false (j.base.map Entry.cells), .int .i64 j.first, .rows false (j.commits.map Commit.cells), .rows false (cur.map Entry.cells)]) ∧
      hget st.h m = some (.map (setE (setOf ((j.commits.take k).map Commit.key)))) ∧ (∀ k, k < st0.c → hget st.h k = hget st0.h k) ∧
      (openGo j.first j.base j.commits 0).2 = (openGo j.first cur rem k).2 ∧ lastD (j.base :: (openGo j.first j.base j.commits 0).1) = lastD (cur :: (openGo j.first cur rem k).1)) List.length
    (fun e T st => (e = .ret ∧ (openGo j.first j.base j.commits 0).2 ≠ 0 ∧ getT T 2 = .nilptr ∧ getT T 3 = .int .i64 (openGo j.first j.base j.commits 0).2 ∧ (∀ k, k < st0.c → hget st.h k = hget st0.h k)) ∨
      (e = .exit 1 ∧ (openGo j.first j.base j.commits 0).2 = 0 ∧ hget st.h b = some (.cells [.rows false (j.base.map Entry.cells), .int .i64 j.first, .rows false (j.commits.map Commit.cells)]) ∧
      hget st.h q = some (.cells [.rows false (j.base.map Entry.cells), .int .i64 j.first, .rows false (j.commits.map Commit.cells), .rows false ((lastD (j.base :: (openGo j.first j.base j.commits 0).1)).map Entry.cells)]) ∧
      hget st.h m = some (.map (setE (setOf (j.commits.map Commit.key)))) ∧ (∀ k, k < st0.c → hget st.h k = hget st0.h k))) j.commits
    ⟨0, j.base, by rw [getT_setT, if_pos rfl]; rfl, rfl, Nat.zero_le _, ht, hb, hq, hm, hkeep, rfl, rfl⟩ ?_ ?_
  · rintro rem T1 st1 hF hc hb1 ⟨k, cur, hk, hd, hkl, hok1, hb2, hq2, hm2, hkeep2, hgo2, hgo1⟩
    have h1 := hF 1 rfl
    have h5 := hF 5 rfl
    have h6 := hF 6 rfl
    have h39 := hF 39 rfl
    have h40 := hF 40 rfl
    simp only [getT_setT, getT, g1, g5, g6, Nat.reduceEqDiff, if_false, if_true] at h1 h5 h6 h39 h40
    clear hF
    have hcc : st.c < st1.c := by simp only at hc; omega
    have hbar : st1.bar = st0.bar := hb1.trans hbar0
    have zb : ∀ i, (st1.c + i = b) = False := fun i => eq_false (by omega)
    have zq : ∀ i, (st1.c + i = q) = False := fun i => eq_false (by omega)
    have zm : ∀ i, (st1.c + i = m) = False := fun i => eq_false (by omega)
    have yb : ∀ i, (b = st1.c + i) = False := fun i => eq_false (by omega)
    have yq : ∀ i, (q = st1.c + i) = False := fun i => eq_false (by omega)
    have ym : ∀ i, (m = st1.c + i) = False := fun i => eq_false (by omega)
    have xb : st0.bar ≤ b := by omega
    have xq : st0.bar ≤ q := by omega
    have xm : st0.bar ≤ m := by omega
    have xn : ∀ i, st0.bar ≤ st1.c + i := fun i => by omega
    cases rem with
    | nil =>
      have hnk := drop_nil_len hd
      have hlt : ¬ (k : Int) < (j.commits.length : Int) := by omega
      rw [List.take_of_length_le hnk] at hm2
      have hl : lastD (cur :: (openGo j.first cur [] k).1) = cur := rfl
      rw [hl] at hgo1
      simp only [openGo] at hgo2
      simp only [↓bD, bL, stps, stpOf, ev, binP, binA, symA, intOp, Option.or, ↓reduceIte, reduceCtorEq, Nat.reduceEqDiff, Nat.reduceLT, hk, h40, hlt, hgo2, hgo1, hb2, hq2, hm2]
      exact hkeep2
    | cons c rem =>
      obtain ⟨hx, hlt0, hd', ht'⟩ := drop_cons_get hd
      have hlt : (k : Int) < (j.commits.length : Int) := by omega
      have hk0 : (0 : Int) ≤ (k : Int) := by omega
      have hw : IntKind.i64.wrap ((k : Int) + 1) = ((k + 1 : Nat) : Int) := by rw [Int.natCast_add]; exact wrap_i64 (by omega) (by omega)
      have hw2 : IntKind.i64.wrap (j.first + (k : Int)) = j.first + (k : Int) := wrap_i64 (by omega) (by omega)
      obtain ⟨hcf, hck2⟩ := hj.com c (List.mem_of_getElem? hx)
      have hkp : ∀ (i : Nat) (X Y : Option AObj), ∀ k, k < st0.c → (if st1.c + i = k then X else if st1.c + i = k then Y else hget st1.h k) = hget st0.h k := fun i X Y k hk => by
        rw [if_neg (by omega), if_neg (by omega)]; exact hkeep2 k hk
      have hG := G_all cur c.changes c.number ⟨by have := hok1.len; omega, fun x hx => by have := okT_path hok1 x hx; omega⟩ hcf
      have hall : allPg cur c.changes c.number = allOf cur c.changes c.number := by unfold allPg; rw [if_neg (fun w => w ((checkTree_ok _).2 hok1))]
      rw [hall] at hG
      have hce : ∀ e, commitErr j.first k c = e → e ≠ 0 → (openGo j.first j.base j.commits 0).2 = e := fun e q1 q2 => by rw [hgo2, openGo, q1, if_pos q2]
      have e2' : setOf ((j.commits.take (k + 1)).map Commit.key) = setAdd (setOf ((j.commits.take k).map Commit.key)) c.key := by
        rw [ht', List.map_append]; exact setOf_snoc _ _
      by_cases f1 : c.number = j.first + (k : Int)
      rotate_left
      · have hgo3 := hce 4 (by unfold commitErr; rw [if_pos f1]) (by decide)
        simp only [↓bD, bL, stps, stpOf, ev, ofConst, AV.cells, AV.one, loadObj, TI.agg, fieldAddrA, indexAddrA, binP, binA, symA, intOp, storeOk, putCells, elemTI, Option.or, ↓reduceIte, reduceCtorEq, Nat.reduceEqDiff, Nat.reduceLT, Nat.reduceAdd, C4_ty, ty3, ty36, ty51, ty112, bneD, Int.reduceEq, Nat.add_assoc, hk, h1, h39, h40, hb2, hq2, hm2, hlt, hx, hw2, hbar, zb, zq, zm, xn, eq_false f1, hgo3]
        exact hkp _ _ _
      by_cases f2 : 1000000 < c.number
      · have hgo3 := hce 3 (by unfold commitErr; rw [if_neg (fun w => w f1), if_pos f2]) (by decide)
        simp only [↓bD, bL, stps, stpOf, ev, ofConst, AV.cells, AV.one, loadObj, TI.agg, fieldAddrA, indexAddrA, binP, binA, symA, intOp, storeOk, putCells, elemTI, Option.or, ↓reduceIte, reduceCtorEq, Nat.reduceEqDiff, Nat.reduceLT, Nat.reduceAdd, C4_ty, ty3, ty36, ty51, ty112, bneD, Int.reduceEq, Nat.add_assoc, hk, h1, h39, h40, hb2, hq2, hm2, hlt, hx, hw2, hbar, zb, zq, zm, xn, eq_true f1, eq_true f2, hgo3]
        exact hkp _ _ _
      cases f3 : isKey c.key with
      | false =>
        have hgo3 := hce 1 (by unfold commitErr; rw [if_neg (fun w => w f1), if_neg f2, if_pos f3]) (by decide)
        simp only [↓bD, bL, stps, stpOf, ev, ofConst, AV.cells, AV.one, loadObj, TI.agg, fieldAddrA, indexAddrA, binP, binA, symA, intOp, unA, storeOk, putCells, elemTI, Option.or, hputs, ↓reduceIte, reduceCtorEq, Nat.reduceEqDiff, Nat.reduceLT, Nat.reduceAdd, fin, List.mapM_cons, List.mapM_nil, scalarN, plainN, C4_ty, ty3, ty9, ty36, ty51, ty112, pureF, Cl_3 (C := C4) (g := 58) (fn := Tryz.f58) rfl (fnBy_of Tryz.func58 rfl) rfl, G_isKeyP, bneD, Int.reduceEq, Nat.add_assoc, hk, h1, h39, h40, hb2, hq2, hm2, hlt, hx, hw2, hbar, zb, zq, zm, xn, eq_true f1, eq_false f2, f3, hck2, hgo3]
        exact hkp _ _ _
      | true =>
      have f3' : ¬ isKey c.key = false := by rw [f3]; decide
      by_cases f4 : c.changes = []
      · have hgo3 := hce 1 (by unfold commitErr; rw [if_neg (fun w => w f1), if_neg f2, if_neg f3', if_pos f4]) (by decide)
        have hcl : ((c.changes.length : Int) = 0) = True := eq_true (by rw [f4]; rfl)
        simp only [↓bD, bL, stps, stpOf, ev, ofConst, AV.cells, AV.one, loadObj, TI.agg, fieldAddrA, indexAddrA, binP, binA, symA, intOp, unA, lenA, storeOk, putCells, elemTI, Option.or, hputs, ↓reduceIte, reduceCtorEq, Nat.reduceEqDiff, Nat.reduceLT, Nat.reduceAdd, fin, List.mapM_cons, List.mapM_nil, scalarN, plainN, C4_ty, ty3, ty9, ty36, ty43, ty51, ty112, pureF, Cl_3 (C := C4) (g := 58) (fn := Tryz.f58) rfl (fnBy_of Tryz.func58 rfl) rfl, G_isKeyP, beqD, bneD, Int.reduceEq, Nat.add_assoc, hk, h1, h39, h40, hb2, hq2, hm2, hlt, hx, hw2, hbar, zb, zq, zm, xn, eq_true f1, eq_false f2, f3, hck2, hcl, hgo3]
        exact hkp _ _ _
      have hcl : ((c.changes.length : Int) = 0) = False := eq_false (by have := List.length_pos_iff.2 f4; omega)
      have hc00 : commitErr j.first k c = 0 := by unfold commitErr; rw [if_neg (fun w => w f1), if_neg f2, if_neg f3', if_neg f4]
      by_cases f5 : (allOf cur c.changes c.number).2.2 = 0
      · rw [openGo_one hc00 f5] at hgo1 hgo2
        rw [lastD_cons] at hgo1
        have hok2 := allOf_okT hok1 f5
        simp only [↓bD, bL, stps, stpOf, ev, ofConst, AV.cells, AV.one, loadObj, TI.agg, fieldAddrA, indexAddrA, binP, binA, symA, intOp, unA, lenA, storeOk, putCells, elemTI, Option.or, hputs, ↓reduceIte, reduceCtorEq, Nat.reduceEqDiff, Nat.reduceLT, Nat.reduceAdd, fin, List.mapM_cons, List.mapM_nil, scalarN, plainN, looks, keyTI, keyMatch, C4_ty, ty3, ty9, ty35, ty36, ty43, ty51, ty80, ty109, ty112, pureF, Cl_3 (C := C4) (g := 58) (fn := Tryz.f58) rfl (fnBy_of Tryz.func58 rfl) rfl, G_isKeyP, Cl_3 (C := C4) (g := 59) (fn := Tryz.f59) rfl (fnBy_of Tryz.func59 rfl) rfl, beqD, bneD, Nat.add_assoc, hk, h1, h5, h6, h39, h40, hb2, hq2, hm2, hlt, hx, hw, hw2, hbar, zb, zq, zm, yq, xq, xm, xn, e2, e4, e5, e6, eq_true f1, eq_false f2, f3, hck2, hcl, hG, f5, mapSet_set]
        refine ⟨(by kernel_rfl : (_ : Bool) = true), ?_⟩
        exact ⟨rem, by simp, k + 1, _, rfl, hd', by omega, hok2, rfl, by rw [e2'], fun i hi => by rw [if_neg (by omega), if_neg (by omega), if_neg (by omega), if_neg (by omega)]; exact hkeep2 i hi, hgo2, hgo1⟩
      · have hgo3 : (openGo j.first j.base j.commits 0).2 = (allOf cur c.changes c.number).2.2 := by rw [hgo2, openGo, if_neg (fun w => w hc00), if_pos f5]
        simp only [↓bD, bL, stps, stpOf, ev, ofConst, AV.cells, AV.one, loadObj, TI.agg, fieldAddrA, indexAddrA, binP, binA, symA, intOp, unA, lenA, storeOk, putCells, elemTI, Option.or, hputs, ↓reduceIte, reduceCtorEq, Nat.reduceEqDiff, Nat.reduceLT, Nat.reduceAdd, fin, List.mapM_cons, List.mapM_nil, scalarN, plainN, looks, C4_ty, ty3, ty9, ty35, ty36, ty43, ty51, ty109, ty112, pureF, Cl_3 (C := C4) (g := 58) (fn := Tryz.f58) rfl (fnBy_of Tryz.func58 rfl) rfl, G_isKeyP, Cl_3 (C := C4) (g := 59) (fn := Tryz.f59) rfl (fnBy_of Tryz.func59 rfl) rfl, beqD, bneD, Nat.add_assoc, hk, h1, h5, h39, h40, hb2, hq2, hm2, hlt, hx, hw2, hbar, zb, zq, zm, xn, eq_true f1, eq_false f2, f3, hck2, hcl, hG, eq_false f5, hgo3]
        refine ⟨(by kernel_rfl : (_ : Bool) = true), ?_⟩
        exact hkp _ _ _
  · rintro e T1 st1 he2 hF hc hb1 (⟨rfl, hne, h2, h3, hkeep2⟩ | ⟨rfl, h0, hb2, hq2, hm2, hkeep2⟩)
    · have hcc : st.c ≤ st1.c := by simp only at hc; omega
      rw [if_pos hne] at hopen
      simp only [↓kseq_ret, ↓kblock_ret, List.toList_toArray, S_some, ↓end_ret, resA, tupOf_2, Option.map_some, Tryz.results27, h2, h3, opQ]
      exact ⟨.nilptr, by rw [hopen], fun w => absurd w (by rw [hopen]; exact hne), fun _ => rfl, by simp only; omega, rfl, hkeep2⟩
    · have h1 := hF 1 rfl
      have h5 := hF 5 rfl
      have h6 := hF 6 rfl
      simp only [getT_setT, getT, g1, g5, g6, Nat.reduceEqDiff, if_false, if_true] at h1 h5 h6
      clear hF
      have hcc : st.c ≤ st1.c := by simp only at hc; omega
      rw [if_neg (fun w => w h0)] at hopen
      have hlk : (setOf (j.commits.map Commit.key)).length < j.commits.length ↔ ¬ (j.commits.map Commit.key).Nodup := by
        have := setOf_lt (j.commits.map Commit.key)
        rwa [List.length_map] at this
      cases htw : twice j.commits with
      | true =>
        have hlt : ((setOf (j.commits.map Commit.key)).length : Int) < (j.commits.length : Int) := by
          have := hlk.2 (fun w => by rw [(twice_iff _).2 w] at htw; cases htw)
          omega
        rw [if_pos htw] at hopen
        simp only [↓bD, bL, stps, stpOf, ev, ofConst, loadObj, TI.agg, fieldAddrA, binP, binA, symA, intOp, lenA, resA, Option.or, ↓reduceIte, Nat.reduceEqDiff, Nat.reduceLT, Nat.reduceAdd, C4_ty, ty36, ty51, ty80, Tryz.ntmps27, Tryz.results27, Nat.add_assoc, h1, h6, hb2, hm2, setE_len, hlt, opQ]
        exact ⟨.nilptr, by rw [hopen], fun w => by rw [hopen] at w; exact absurd w (by decide), fun _ => rfl, by simp only; omega, rfl, hkeep2⟩
      | false =>
        have hlt : ¬ ((setOf (j.commits.map Commit.key)).length : Int) < (j.commits.length : Int) := by
          intro w
          exact hlk.1 (by omega) ((twice_iff _).1 htw)
        rw [if_neg (by rw [htw]; decide)] at hopen
        simp only [↓bD, bL, stps, stpOf, ev, ofConst, loadObj, TI.agg, fieldAddrA, binP, binA, symA, intOp, lenA, resA, Option.or, ↓reduceIte, Nat.reduceEqDiff, Nat.reduceLT, Nat.reduceAdd, C4_ty, ty36, ty51, ty80, Tryz.ntmps27, Tryz.results27, Nat.add_assoc, h1, h5, h6, hb2, hm2, setE_len, hlt, opQ]
        refine ⟨.ptr q 0, by rw [hopen], fun w => ⟨q, rfl, q0, by simp only; omega, by rw [hopen]; exact hq2⟩, fun w => absurd (by rw [hopen]) w, by simp only; omega, rfl, hkeep2⟩

theorem C_open (j : Journal) (hj : FitJ j) (st : St) (hb : st.bar ≤ st.c) : Ca C4 27 [.agg [.rows false (j.base.map Entry.cells), .int .i64 j.first, .rows false (j.commits.map Commit.cells)]] st (opR j st) := by
  have hb1 := hj.base.len
  have hb2 := hj.base.path
  refine (Ca_mode2 (fn := Tryz.f27) (fnBy_of Tryz.func27 rfl) rfl rfl).2 ?_
  refine (?_ : X C4 Tryz.f27.ntmps (.seq _ (.seq _ (.seq _ (.seq _ (.seq _ (restC 5 (bodyC Tryz.f27))))))) _ _ (Q := ⟨opQ j st⟩))
  rw [X_assoc, X_assoc, X_assoc, X_assoc]
  have err : ∀ (e : Int) (st' : St), openJ j = ([], e) → e ≠ 0 → st.c ≤ st'.c → st'.bar = st.bar → (∀ k, k < st.c → hget st'.h k = hget st.h k) → opR j st (.tuple [.nilptr, .int .i64 e]) st' := fun e st' h1 h2 h3 h4 h5 =>
    ⟨.nilptr, by rw [h1], fun w => by rw [h1] at w; exact absurd w h2, fun _ => rfl, h3, h4, h5⟩
  have hkp : ∀ (X : Option AObj), ∀ k, k < st.c → (if st.c = k then X else hget st.h k) = hget st.h k := fun X k hk => by rw [if_neg (by omega)]
  have hkp2 : ∀ (X : AObj), ∀ k, k < st.c → hget (hput st.h st.c X) k = hget st.h k := fun X k hk => by rw [hget_hput, if_neg (by omega)]
  by_cases e1 : checkTree j.base = 0
  rotate_left
  · have ho : openJ j = ([], checkTree j.base) := if_pos e1
    refine X_cut (fun _ _ => False) ?_ fun _ _ _ _ _ h => h.elim
    simp only [↓bD, bL, stps, stpOf, ev, getT, setT, ofConst, AV.cells, notBad, loadObj, TI.agg, fieldAddrA, binP, binA, symA, intOp, resA, padT, List.replicate, Option.or, hputs, ↓reduceIte, Nat.reduceLT, Nat.reduceAdd, Nat.reduceSub, fin, List.mapM_cons, List.mapM_nil, scalarN, plainN, hookLooks, looks1, C4_ty, ty35, ty51, Tryz.ntmps27, Tryz.results27, Cl_hook (hk_C4_57), pureF, G_treeCheck, bneD, Nat.add_assoc, hb1, eq_true hb2, eq_false e1, opQ]
    exact err _ _ ho e1 (by simp only; omega) rfl (hkp2 _)
  by_cases e2 : j.first < 1
  · have hv : isVersion j.first = false := by unfold isVersion; simp; omega
    have ho : openJ j = ([], 3) := by unfold openJ; rw [if_neg (fun q => q e1), if_pos hv]
    refine X_cut (fun _ _ => False) ?_ fun _ _ _ _ _ h => h.elim
    simp only [↓bD, bL, stps, stpOf, ev, getT, setT, ofConst, AV.cells, notBad, loadObj, TI.agg, fieldAddrA, binP, binA, symA, intOp, resA, padT, List.replicate, Option.or, hputs, ↓reduceIte, Nat.reduceLT, Nat.reduceAdd, Nat.reduceSub, fin, List.mapM_cons, List.mapM_nil, scalarN, plainN, hookLooks, looks1, C4_ty, ty3, ty35, ty51, Tryz.ntmps27, Tryz.results27, Cl_hook (hk_C4_57), pureF, G_treeCheck, Nat.add_assoc, hb1, eq_true hb2, e1, eq_true e2, opQ]
    exact err _ _ ho (by decide) (by simp only; omega) rfl (hkp2 _)
  by_cases e3 : 1000000 < j.first
  · have hv : isVersion j.first = false := by unfold isVersion; simp; omega
    have ho : openJ j = ([], 3) := by unfold openJ; rw [if_neg (fun q => q e1), if_pos hv]
    refine X_cut (fun _ _ => False) ?_ fun _ _ _ _ _ h => h.elim
    simp only [↓bD, bL, stps, stpOf, ev, getT, setT, ofConst, AV.cells, notBad, loadObj, TI.agg, fieldAddrA, binP, binA, symA, intOp, resA, padT, List.replicate, Option.or, hputs, ↓reduceIte, Nat.reduceLT, Nat.reduceAdd, Nat.reduceSub, fin, List.mapM_cons, List.mapM_nil, scalarN, plainN, hookLooks, looks1, C4_ty, ty3, ty35, ty51, Tryz.ntmps27, Tryz.results27, Cl_hook (hk_C4_57), pureF, G_treeCheck, Nat.add_assoc, hb1, eq_true hb2, e1, eq_false e2, eq_true e3, opQ]
    exact err _ _ ho (by decide) (by simp only; omega) rfl (hkp2 _)
  have hv : isVersion j.first = true := by unfold isVersion; simp; omega
  by_cases e4 : 30 < j.commits.length
  · have e4' : (30 : Int) < (j.commits.length : Int) := by omega
    have ho : openJ j = ([], 2) := by unfold openJ; rw [if_neg (fun q => q e1), if_neg (by rw [hv]; decide), if_pos e4]
    refine X_cut (fun _ _ => False) ?_ fun _ _ _ _ _ h => h.elim
    simp only [↓bD, bL, stps, stpOf, ev, getT, setT, ofConst, AV.cells, notBad, loadObj, TI.agg, fieldAddrA, binP, binA, symA, intOp, lenA, resA, padT, List.replicate, Option.or, hputs, ↓reduceIte, Nat.reduceLT, Nat.reduceAdd, Nat.reduceSub, fin, List.mapM_cons, List.mapM_nil, scalarN, plainN, hookLooks, looks1, C4_ty, ty3, ty35, ty36, ty51, Tryz.ntmps27, Tryz.results27, Cl_hook (hk_C4_57), pureF, G_treeCheck, Nat.add_assoc, hb1, eq_true hb2, e1, eq_false e2, eq_false e3, e4', opQ]
    exact err _ _ ho (by decide) (by simp only; omega) rfl (hkp2 _)
  have e4' : ¬ (30 : Int) < (j.commits.length : Int) := by omega
  refine X_cut (opJ j st) ?_ fun T st1 _ _ _ hJ => op_walk j hj st hb ((checkTree_ok _).1 e1) hv e4 T st1 hJ
  have n1 : ∀ i, (st.c + i = st.c) = (i = 0) := fun i => by simp
  simp only [↓bD, bL, stps, stpOf, ev, getT, setT, ofConst, AV.cells, notBad, loadObj, TI.agg, fieldAddrA, binP, binA, symA, intOp, lenA, putCells, padT, List.replicate, Option.or, hputs, ↓reduceIte, Nat.reduceLT, Nat.reduceLeDiff, Nat.reduceAdd, Nat.reduceSub, fin, List.mapM_cons, List.mapM_nil, scalarN, plainN, hookLooks, looks1, fillA, buildA, C4_ty, ty3, ty35, ty36, ty51, ty109, Tryz.ntmps27, Cl_hook (hk_C4_57), pureF, G_treeCheck, Nat.add_assoc, hb1, eq_true hb2, e1, eq_false e2, eq_false e3, e4']
  refine ⟨st.c, st.c + 27, st.c + 29, rfl, rfl, rfl, ?_, ?_, ?_, Nat.le_refl _, by omega, by omega, by simp only; omega, by simp only; omega, by simp only; omega, by omega, by omega, by omega, rfl, fun k hk => ?_⟩
  · rw [hget_hput, if_neg (by omega), hget_hput, if_neg (by omega), hget_hput, if_pos rfl]; rfl
  · rw [hget_hput, if_neg (by omega), hget_hput, if_pos rfl]; rfl
  · rw [hget_hput, if_pos rfl]
  · rw [hget_hput, if_neg (by omega), hget_hput, if_neg (by omega), hget_hput, if_neg (by omega)]

-- REG journal.Check G_jCheck
theorem R_jCheck (j : Journal) (hj : FitJ j) : Run3 C4 Tryz.f11 [.agg [.rows false (j.base.map Entry.cells), .int .i64 j.first, .rows false (j.commits.map Commit.cells)]] (.int .i64 (openJ j).2) := by
  refine Run3.mk (fn := Tryz.f11) rfl ?_
  simp only [↓bD, bL, stps, stpOf, ev, getT, setT, ofConst, AV.cells, notBad, loadObj, TI.agg, padT, List.replicate, ↓reduceIte, Nat.reduceLT, Nat.reduceAdd, Nat.reduceSub, C4_ty, ty51, Tryz.ntmps11, Cl_2c (C := C4) (g := 27) rfl rfl]
  refine (C_open j hj ⟨_, _, _⟩ (by simp only; omega)).mono' ?_
  rintro r st' ⟨p, rfl, hp⟩
  simp only [↓bD, bL, stps, stpOf, ev, getT, setT, resA, Nat.reduceLT, Nat.reduceAdd, fin, Tryz.ntmps11, Tryz.results11, Nat.add_assoc]
theorem G_jCheck (j : Journal) (hj : FitJ j) : G3 C4 Tryz.f11 [.agg [.rows false (j.base.map Entry.cells), .int .i64 j.first, .rows false (j.commits.map Commit.cells)]] = some (.int .i64 (openJ j).2) := G3_eq (R_jCheck j hj)
end Go.Ab.Seat
