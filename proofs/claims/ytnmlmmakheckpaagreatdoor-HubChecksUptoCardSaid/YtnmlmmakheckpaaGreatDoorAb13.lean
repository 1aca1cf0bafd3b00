/- What path.check calls, over a configuration that holds IndexByte and Count alone. -/
import Derived.Test.YtnmlmmakheckpaaGreatDoorAb11
import Derived.Test.YtnmlmmakheckpaaGreatDoorAb12
import Derived.Test.YtnmlmmakheckpaaGreatDoorProg
import Derived.KernelRfl
namespace Go.Ab.Seat
open Go Go.Proofs
noncomputable def C0_hooks : List (Nat × (Heap → Nat → Nat → List AV → Option (AV × List (Nat × AObj)))) := [(56, idxF), (155, cntF)]
def C0_modes : List (Nat × Nat) := []
noncomputable def C0 : Cfg := { ty := tyBy tyTab, fn := fnBy Tryz.prog, mode := fun f => (look1 C0_modes f).getD 3, hook := fun f => look1 C0_hooks f }
theorem C0_ty : C0.ty = tyBy tyTab := rfl
theorem hk_C0_56 : C0.hook 56 = some (idxF) := rfl
theorem hk_C0_155 : C0.hook 155 = some (cntF) := rfl
-- CFG C0
set_option linter.unusedSimpArgs false
set_option linter.unusedVariables false
set_option maxHeartbeats 1000000
set_option maxRecDepth 100000

-- REG strings.IndexByte G_indexByte0
theorem R_indexByte0 (s : Str) (c : UInt8) : Run3 C0 Tryz.f26 [.str s, .int .u8 c.toNat] (.int .i64 (Lib.indexByte s c)) := by
  refine Run3.mk (fn := Tryz.f26) rfl ?_
  simp (config := {contextual := true}) only [↓bD, bL, stps, stpOf, ev, getT, setT, ofConst, resA, padT, List.replicate, hputs, Nat.reduceLT, Nat.reduceAdd, Nat.reduceSub, fin, Tryz.ntmps26, Tryz.results26, Cl_hook (hk_C0_56), idxF, UInt8.ofNat_toNat, Nat.toUInt8_eq]
theorem G_indexByte0 (s : Str) (c : UInt8) : G3 C0 Tryz.f26 [.str s, .int .u8 c.toNat] = some (.int .i64 (Lib.indexByte s c)) := G3_eq (R_indexByte0 s c)

-- REG path.IsName$1 G_okByte0
theorem R_okByte0 (c : UInt8) : Run3 C0 Tryz.f25 [.int .u8 c.toNat] (.bool (okByte c)) := by
  refine Run3.mk (fn := Tryz.f25) rfl ?_
  have g := G_indexByte0 [45, 95, 46, 40, 41, 32] c
  by_cases a1 : (97 : Int) ≤ (c.toNat : Int) <;> by_cases a2 : (c.toNat : Int) ≤ (122 : Int) <;> by_cases a3 : (65 : Int) ≤ (c.toNat : Int) <;> by_cases a4 : (c.toNat : Int) ≤ (90 : Int) <;>
    by_cases a5 : (48 : Int) ≤ (c.toNat : Int) <;> by_cases a6 : (c.toNat : Int) ≤ (57 : Int) <;>
    first
    | (exfalso; omega)
    | (simp only [↓bD, bL, stps, stpOf, ev, getT, setT, ofConst, binP, binA, symA, intOp, resA, padT, List.replicate, Option.or, hputs, ↓reduceIte, Nat.reduceLT, Nat.reduceAdd, Nat.reduceSub, fin, List.mapM_cons, List.mapM_nil, scalarN, plainN, Tryz.ntmps25, Tryz.results25, Cl_3 (C := C0) (g := 26) (fn := Tryz.f26) rfl (fnBy_of Tryz.func26 rfl) rfl, pureF, g, a1, a2, a3, a4, a5, a6]
       rw [okByte_eq]
       simp [a1, a2, a3, a4, a5, a6])
theorem G_okByte0 (c : UInt8) : G3 C0 Tryz.f25 [.int .u8 c.toNat] = some (.bool (okByte c)) := G3_eq (R_okByte0 c)

-- REG path.great G_great0
theorem R_great0 (p : Str) : Run3 C0 Tryz.f148 [.str p] (.bool (great p)) := by
  refine Run3.mk (fn := Tryz.f148) rfl ?_
  simp (config := {contextual := true}) only [↓bD, bL, stps, stpOf, ev, getT, setT, ofConst, binP, binA, symA, intOp, lenA, resA, padT, List.replicate, Option.or, hputs, ↓reduceIte, Nat.reduceLT, Nat.reduceAdd, Nat.reduceSub, fin, C0_ty, ty9, Tryz.ntmps148, Tryz.results148, Cl_hook (hk_C0_155), cntF]
  unfold great Lib.countByte
  by_cases h : 6 ≤ p.count 47
  · have : (6 : Int) ≤ (p.count 47 : Nat) := by omega
    simp [h, this]
  · have : ¬ (6 : Int) ≤ (p.count 47 : Nat) := by omega
    simp [h, this]
    omega
theorem G_great0 (p : Str) : G3 C0 Tryz.f148 [.str p] = some (.bool (great p)) := G3_eq (R_great0 p)

-- REG path.IsName G_isName0
theorem R_isName0 (s : Str) : Run3 C0 Tryz.f10 [.str s] (.bool (isName s)) := by
  refine Run3.mk (fn := Tryz.f10) rfl ?_
  cases s with
  | nil => simp (config := {contextual := true, maxSteps := 1000000}) only [↓bD, bL, stps, stpOf, ev, getT, setT, ofConst, binP, binA, symA, strOp, resA, padT, List.replicate, Option.or, ↓reduceIte, Nat.reduceLT, Nat.reduceAdd, Nat.reduceSub, fin, Tryz.ntmps10, Tryz.results10]
           rfl
  | cons a r =>
    have e0 : (a :: r == []) = false := rfl
    by_cases h20 : 20 < (r.length : Int) + 1
    · simp (config := {contextual := true, maxSteps := 1000000}) only [↓bD, bL, stps, stpOf, ev, getT, setT, ofConst, binP, binA, symA, intOp, strOp, lenA, resA, padT, List.replicate, Option.or, ↓reduceIte, Nat.reduceLT, Nat.reduceAdd, Nat.reduceSub, fin, C0_ty, ty9, Tryz.ntmps10, Tryz.results10, h20, e0, Int.natCast_add, Int.cast_ofNat_Int]
      have : isName (a :: r) = false := by
        unfold isName
        have : ¬ (a :: r).length ≤ 20 := by simp; omega
        simp only [this, decide_false, Bool.and_false, Bool.false_and]
      rw [this]
    · have hlast : (a :: r)[r.length]? = some ((a :: r)[r.length]) := by simp
      have hw : IntKind.i64.wrap ((r.length : Int) + 1 - 1) = (r.length : Int) := by rw [Int.add_sub_cancel]; exact wrap_i64 (by omega) (by omega)
      have hz : (a :: r).getLast? = some ((a :: r)[r.length]) := by
        rw [List.getLast?_eq_getElem?]; exact hlast
      generalize (a :: r)[r.length] = z at hlast hz
      have ez : ((z.toNat : Int) = 32) ↔ z = 32 := by rw [show (32 : Int) = ((32 : UInt8).toNat : Int) from rfl, Int.ofNat_inj, UInt8.toNat_inj]
      have ea : ((a.toNat : Int) = 32) ↔ a = 32 := by rw [show (32 : Int) = ((32 : UInt8).toNat : Int) from rfl, Int.ofNat_inj, UInt8.toNat_inj]
      have hle : (a :: r).length ≤ 20 := by simp; omega
      by_cases h1 : a :: r = [46]
      · have e1 : (a :: r == [46]) = true := by simpa using h1
        have : isName (a :: r) = false := by
          unfold isName; simp only [bne, e1]; simp
        simp (config := {contextual := true, maxSteps := 1000000}) only [↓bD, bL, stps, stpOf, ev, getT, setT, ofConst, binP, binA, symA, intOp, strOp, lenA, resA, padT, List.replicate, Option.or, ↓reduceIte, Nat.reduceLT, Nat.reduceAdd, Nat.reduceSub, fin, C0_ty, ty9, Tryz.ntmps10, Tryz.results10, h20, e0, e1, Int.natCast_add, Int.cast_ofNat_Int, this]
      · have e1 : (a :: r == [46]) = false := by simpa using h1
        by_cases h2 : a :: r = [46, 46]
        · have e2 : (a :: r == [46, 46]) = true := by simpa using h2
          have : isName (a :: r) = false := by
            unfold isName; simp only [bne, e2]; simp
          simp (config := {contextual := true, maxSteps := 1000000}) only [↓bD, bL, stps, stpOf, ev, getT, setT, ofConst, binP, binA, symA, intOp, strOp, lenA, resA, padT, List.replicate, Option.or, ↓reduceIte, Nat.reduceLT, Nat.reduceAdd, Nat.reduceSub, fin, C0_ty, ty9, Tryz.ntmps10, Tryz.results10, h20, e0, e1, e2, Int.natCast_add, Int.cast_ofNat_Int, this]
        · have e2 : (a :: r == [46, 46]) = false := by simpa using h2
          have key : isName (a :: r) = (a != 32 && (z != 32 && (a :: r).all okByte)) := by
            unfold isName
            rw [hz, bne, bne, bne, e0, e1, e2]
            simp only [hle, decide_true, Bool.not_false, Bool.true_and, List.head?_cons]
            rw [Bool.and_assoc]; rfl
          by_cases ha : a = 32
          · have : isName (a :: r) = false := by rw [key, ha]; rfl
            have eat : ((a.toNat : Int) == 32) = true := by rw [beq_iff_eq, ea]; exact ha
            clear hlast hz ez key
            simp (config := {contextual := true, maxSteps := 1000000}) only [↓bD, bL, stps, stpOf, ev, getT, setT, ofConst, indexA, binP, binA, symA, intOp, strOp, lenA, resA, padT, List.replicate, Option.or, ↓reduceIte, Nat.reduceLT, Nat.reduceAdd, Nat.reduceSub, fin, C0_ty, ty9, Tryz.ntmps10, Tryz.results10, h20, e0, e1, e2, Int.natCast_add, Int.cast_ofNat_Int, Int.toNat_zero, this, eat]
          · by_cases hz32 : z = 32
            · have : isName (a :: r) = false := by rw [key, hz32]; simp
              have ezt : ((z.toNat : Int) == 32) = true := by rw [beq_iff_eq, ez]; exact hz32
              have ezt' : (z.toNat : Int) = 32 := ez.2 hz32
              have eaf : ((a.toNat : Int) == 32) = false := by rw [beq_eq_false_iff_ne]; exact fun q => ha (ea.1 q)
              simp (config := {contextual := true, maxSteps := 1000000}) only [↓bD, bL, stps, stpOf, ev, getT, setT, ofConst, indexA, binP, binA, symA, intOp, strOp, lenA, resA, padT, List.replicate, Option.or, ↓reduceIte, Nat.reduceLT, Nat.reduceAdd, Nat.reduceSub, fin, C0_ty, ty9, Tryz.ntmps10, Tryz.results10, h20, e0, e1, e2, Int.natCast_add, Int.cast_ofNat_Int, hw, hlast, Int.toNat_zero, this, eaf, ezt']
            · have key2 : isName (a :: r) = (a :: r).all okByte := by
                rw [key]
                have q1 : (a != 32) = true := by simpa using ha
                have q2 : (z != 32) = true := by simpa using hz32
                rw [q1, q2]; rfl
              rw [key2]
              clear key key2 hz
              have ezf : ((z.toNat : Int) == 32) = false := by rw [beq_eq_false_iff_ne]; exact fun q => hz32 (ez.1 q)
              have ezf' : ¬ (z.toNat : Int) = 32 := fun q => hz32 (ez.1 q)
              have eaf : ((a.toNat : Int) == 32) = false := by rw [beq_eq_false_iff_ne]; exact fun q => ha (ea.1 q)
              have eaf' : ¬ (a.toNat : Int) = 32 := fun q => ha (ea.1 q)
              simp (config := {contextual := true, maxSteps := 1000000}) only [↓bD, bL, stps, stpOf, ev, getT, setT, ofConst, indexA, binP, binA, symA, intOp, strOp, lenA, padT, List.replicate, Option.or, ↓reduceIte, Nat.reduceLT, Nat.reduceAdd, Nat.reduceSub, C0_ty, ty9, Tryz.ntmps10, h20, e0, e1, e2, Int.natCast_add, Int.cast_ofNat_Int, hw, hlast, Int.toNat_zero, eaf, ezf]
              have hlen : (r.length : Int) + 1 = ((a :: r).length : Int) := by simp
              generalize hs' : a :: r = s at *
              refine X_loop (fun (k : Nat) T st => getT T 35 = .int .i64 ((s.length - k : Nat) : Int) ∧ k ≤ s.length ∧ (s.take (s.length - k)).all okByte = true) id
                (fun e T st => (e = .ret ∧ getT T 2 = .bool (s.all okByte)) ∨ (e = .exit 1 ∧ s.all okByte = true)) s.length ⟨by simp [getT], Nat.le_refl _, by simp⟩ ?_ ?_
              · rintro k T st hF hc hb ⟨h5, hk, hl⟩
                have h0 := hF 0 rfl
                have h3 := hF 3 rfl
                have h34 := hF 34 rfl
                simp only [getT] at h0 h3 h34
                clear hF
                rw [hlen] at h34
                generalize hi : s.length - k = i at h5 hl
                cases k with
                | zero =>
                  have hi' : i = s.length := by omega
                  subst hi'
                  rw [List.take_length] at hl
                  simp (config := {contextual := true}) only [↓bD, bL, stps, stpOf, ev, binP, binA, symA, intOp, Option.or, ↓reduceIte, reduceCtorEq, Nat.reduceEqDiff, Nat.reduceLT, h5, h34, Int.lt_irrefl, hl]
                | succ k =>
                  have hlt : (i : Int) < (s.length : Int) := by omega
                  have hx : s[i]? = some s[i] := by simp
                  have hw2 : IntKind.i64.wrap ((i : Int) + 1) = ((i + 1 : Nat) : Int) := by rw [Int.natCast_add]; exact wrap_i64 (by omega) (by omega)
                  have ht : s.take (i + 1) = s.take i ++ [s[i]] := List.take_succ_eq_append_getElem (by omega)
                  have hall : okByte s[i] = false → s.all okByte = false := fun q => by
                    rw [List.all_eq_false]; exact ⟨s[i], List.getElem_mem _, by simp [q]⟩
                  simp (config := {contextual := true}) only [↓bD, bL, stps, stpOf, ev, ofConst, indexA, binP, binA, symA, intOp, unA, Option.or, hputs, ↓reduceIte, reduceCtorEq, Nat.reduceEqDiff, Nat.reduceLT, Nat.reduceAdd, fin, List.mapM_cons, List.mapM_nil, scalarN, plainN, C0_ty, ty9, Cl_3 (C := C0) (g := 25) (fn := Tryz.f25) rfl (fnBy_of Tryz.func25 rfl) rfl, pureF, G_okByte0, h5, h0, h3, h34, hlt, hx, hw2]
                  cases hok : okByte s[i] with
                  | false => simp [hall hok]
                  | true =>
                    simp only [Bool.true_eq_false, if_false]
                    refine ⟨k, by simp, ?_, by omega, ?_⟩
                    · congr 2; omega
                    · rw [show s.length - k = i + 1 by omega, ht, List.all_append, hl]; simp [hok]
              · rintro e T st he hF hc hb (⟨rfl, h4⟩ | ⟨rfl, h4⟩)
                · simp only [↓kseq_ret, ↓kblock_ret, List.toList_toArray, S_some, ↓end_ret, resA, tupOf_1, Option.map_some, fin, Tryz.results10, h4]
                · simp only [↓bD, bL, stps, stpOf, ev, ofConst, resA, ↓reduceIte, Nat.reduceLT, fin, Tryz.ntmps10, Tryz.results10, h4]
theorem G_isName0 (s : Str) : G3 C0 Tryz.f10 [.str s] = some (.bool (isName s)) := G3_eq (R_isName0 s)

-- REG internal/stringslite.Index G_idx10
theorem R_idx10 (s : Str) : Run3 C0 Tryz.f166 [.str s, .str [47]] (.int .i64 (Lib.indexByte s 47)) := by
  refine Run3.mk (fn := Tryz.f166) rfl ?_
  by_cases h : ([47] : Str) = s
  · have hi : Lib.indexByte s 47 = 0 := by rw [← h]; rfl
    rw [hi]
    have e1 : (([47] : Str) == s) = true := by simpa using h
    simp (config := {contextual := true, maxSteps := 1000000}) only [↓bD, bL, stps, stpOf, ev, getT, setT, ofConst, binP, binA, symA, intOp, strOp, lenA, resA, padT, List.replicate, Option.or, ↓reduceIte, Nat.reduceLT, Nat.reduceAdd, Nat.reduceSub, fin, C0_ty, ty9, Tryz.ntmps166, Tryz.results166, beqD, Int.reduceEq, Int.cast_ofNat_Int, eq_true h]
  · have e1 : (([47] : Str) == s) = false := by simpa using h
    have e2 : (([47] : Str)[(0 : Int).toNat]?) = some 47 := rfl
    simp (config := {contextual := true, maxSteps := 1000000}) only [↓bD, bL, stps, stpOf, ev, getT, setT, ofConst, indexA, binP, binA, symA, intOp, strOp, lenA, resA, padT, List.replicate, Option.or, hputs, ↓reduceIte, Nat.reduceLT, Nat.reduceAdd, Nat.reduceSub, fin, C0_ty, ty9, Tryz.ntmps166, Tryz.results166, Cl_hook (hk_C0_56), idxF, beqD, Int.reduceEq, Int.cast_ofNat_Int, eq_false h, Int.toNat_zero]
    rfl
theorem G_idx10 (s : Str) : G3 C0 Tryz.f166 [.str s, .str [47]] = some (.int .i64 (Lib.indexByte s 47)) := G3_eq (R_idx10 s)
-- REG strings.Index G_idx20
theorem R_idx20 (s : Str) : Run3 C0 Tryz.f162 [.str s, .str [47]] (.int .i64 (Lib.indexByte s 47)) := by
  refine Run3.mk (fn := Tryz.f162) rfl ?_
  simp (config := {contextual := true, maxSteps := 1000000}) only [↓bD, bL, stps, stpOf, ev, getT, setT, ofConst, resA, padT, List.replicate, hputs, ↓reduceIte, Nat.reduceLT, Nat.reduceAdd, Nat.reduceSub, fin, List.mapM_cons, List.mapM_nil, scalarN, plainN, Tryz.ntmps162, Tryz.results162, Cl_3 (C := C0) (g := 166) (fn := Tryz.f166) rfl (fnBy_of Tryz.func166 rfl) rfl, pureF, G_idx10]
theorem G_idx20 (s : Str) : G3 C0 Tryz.f162 [.str s, .str [47]] = some (.int .i64 (Lib.indexByte s 47)) := G3_eq (R_idx20 s)
end Go.Ab.Seat
/- The configuration of the first layer. -/
namespace Go.Ab.Seat
open Go Go.Proofs
def CT : Cfg := { ty := tyBy tyTab, fn := fun _ => none, mode := fun _ => 0, hook := fun _ => none }
noncomputable def C1_hooks : List (Nat × (Heap → Nat → Nat → List AV → Option (AV × List (Nat × AObj)))) := [(39, cloneH CT 23), (40, cloneH CT 24), (55, cloneH CT 35), (56, idxF), (140, checkF), (155, cntF)]
def C1_modes : List (Nat × Nat) := []
noncomputable def C1 : Cfg := { ty := tyBy tyTab, fn := fnBy Tryz.prog, mode := fun f => (look1 C1_modes f).getD 3, hook := fun f => look1 C1_hooks f }
theorem C1_ty : C1.ty = tyBy tyTab := rfl
theorem hk_C1_39 : C1.hook 39 = some (cloneH CT 23) := rfl
theorem hk_C1_40 : C1.hook 40 = some (cloneH CT 24) := rfl
theorem hk_C1_55 : C1.hook 55 = some (cloneH CT 35) := rfl
theorem hk_C1_56 : C1.hook 56 = some (idxF) := rfl
theorem hk_C1_140 : C1.hook 140 = some (checkF) := rfl
theorem hk_C1_155 : C1.hook 155 = some (cntF) := rfl
end Go.Ab.Seat
/- package path, first part. -/
namespace Go.Ab.Seat
open Go Go.Proofs
-- CFG C1
set_option linter.unusedSimpArgs false
set_option linter.unusedVariables false
set_option maxHeartbeats 1000000
set_option maxRecDepth 100000

-- REG internal/bytealg.LastIndexByteString G_lastIdxS
theorem R_lastIdxS (s : Str) (c : UInt8) (hs : s.length ≤ 1099511627776) : Run3 C1 Tryz.f157 [.str s, .int .u8 c.toNat] (.int .i64 (lastIdx s c)) := by
  refine Run3.mk (fn := Tryz.f157) rfl ?_
  have hw : IntKind.i64.wrap ((s.length : Int) - 1) = (s.length : Int) - 1 := wrap_i64 (by omega) (by omega)
  simp (config := {contextual := true}) only [↓bD, bL, stps, stpOf, ev, getT, setT, ofConst, binP, binA, symA, intOp, lenA, padT, List.replicate, Option.or, ↓reduceIte, Nat.reduceLT, Nat.reduceAdd, Nat.reduceSub, C1_ty, ty9, Tryz.ntmps157, hw]
  refine X_loop (fun (k : Nat) T st => getT T 5 = .int .i64 ((k : Int) - 1) ∧ k ≤ s.length ∧ lastIdx s c = lastIdx (s.take k) c) id
    (fun e T st => (e = .ret ∧ getT T 4 = .int .i64 (lastIdx s c)) ∨ (e = .exit 0 ∧ lastIdx s c = -1)) s.length ⟨rfl, Nat.le_refl _, by simp⟩ ?_ ?_
  · rintro k T st hF hc hb ⟨h5, hk, hl⟩
    have h0 := hF 0 rfl
    have h1 := hF 1 rfl
    simp only [getT] at h0 h1
    clear hF
    cases k with
    | zero =>
      simp (config := {contextual := true}) only [↓bD, bL, stps, stpOf, ev, ofConst, binP, binA, symA, intOp, Option.or, ↓reduceIte, reduceCtorEq, Nat.reduceEqDiff, Nat.reduceLT, Nat.reduceAdd, h5, Int.cast_ofNat_Int, Int.reduceSub, Int.reduceLE, hl]
      rfl
    | succ k =>
      have e1 : ((k + 1 : Nat) : Int) - 1 = k := by omega
      have hx : s[k]? = some s[k] := by simp
      have hle : (0 : Int) ≤ (k : Int) := by omega
      have e3 : lastIdx (s.take (k + 1)) c = if s[k] = c then (k : Int) else lastIdx (s.take k) c := by
        rw [List.take_succ_eq_append_getElem hk, lastIdx_snoc, List.length_take, Nat.min_eq_left (by omega)]
      have hw2 : IntKind.i64.wrap ((k : Int) - 1) = (k : Int) - 1 := wrap_i64 (by omega) (by omega)
      have hc : ((s[k].toNat : Int) = c.toNat) ↔ s[k] = c := by
        rw [Int.ofNat_inj, UInt8.toNat_inj]
      simp (config := {contextual := true}) only [↓bD, bL, stps, stpOf, ev, ofConst, indexA, binP, binA, symA, intOp, Option.or, ↓reduceIte, reduceCtorEq, Nat.reduceEqDiff, Nat.reduceLT, Nat.reduceAdd, C1_ty, ty9, h5, h0, h1, e1, hx, hle, hw2, hc]
      by_cases h : s[k] = c
      · rw [if_pos h] at e3
        simp only [h, if_true]
        rw [hl, e3]
      · rw [if_neg h] at e3
        simp only [h, if_false]
        exact ⟨k, by simp, rfl, by omega, by rw [hl, e3]⟩
  · rintro e T st he hF hc hb (⟨rfl, h4⟩ | ⟨rfl, h4⟩)
    · simp only [↓kseq_ret, ↓kblock_ret, List.toList_toArray, S_some, ↓end_ret, resA, tupOf_1, Option.map_some, fin, Tryz.results157, h4]
    · simp only [↓bD, bL, stps, stpOf, ev, ofConst, resA, ↓reduceIte, Nat.reduceLT, fin, Tryz.ntmps157, Tryz.results157, h4]
theorem G_lastIdxS (s : Str) (c : UInt8) (hs : s.length ≤ 1099511627776) : G3 C1 Tryz.f157 [.str s, .int .u8 c.toNat] = some (.int .i64 (lastIdx s c)) := G3_eq (R_lastIdxS s c hs)


-- REG strings.LastIndexByte G_lastIdx
theorem R_lastIdx (s : Str) (c : UInt8) (hs : s.length ≤ 1099511627776) : Run3 C1 Tryz.f150 [.str s, .int .u8 c.toNat] (.int .i64 (lastIdx s c)) := by
  refine Run3.mk (fn := Tryz.f150) rfl ?_
  simp (config := {contextual := true}) only [↓bD, bL, stps, stpOf, ev, getT, setT, ofConst, resA, padT, List.replicate, hputs, ↓reduceIte, Nat.reduceLT, Nat.reduceAdd, Nat.reduceSub, fin, List.mapM_cons, List.mapM_nil, scalarN, plainN, Tryz.ntmps150, Tryz.results150, Cl_3 (C := C1) (g := 157) (fn := Tryz.f157) rfl (fnBy_of Tryz.func157 rfl) rfl, pureF, G_lastIdxS, hs]
theorem G_lastIdx (s : Str) (c : UInt8) (hs : s.length ≤ 1099511627776) : G3 C1 Tryz.f150 [.str s, .int .u8 c.toNat] = some (.int .i64 (lastIdx s c)) := G3_eq (R_lastIdx s c hs)

-- REG path.Split G_split
theorem R_split (p : Str) (hs : p.length ≤ 1099511627776) : Run3 C1 Tryz.f139 [.str p] (.tuple [.str (parentOf p), .str (lastOf p)]) := by
  refine Run3.mk (fn := Tryz.f139) rfl ?_
  obtain ⟨h1, h2⟩ := lastIdx_range p 47
  have hw : IntKind.i64.wrap (lastIdx p 47 + 1) = lastIdx p 47 + 1 := wrap_i64 (by omega) (by omega)
  have g := G_lastIdx p 47 hs
  have c1 : (0 : Int) ≤ (if lastIdx p 47 > 0 then lastIdx p 47 else 0) ∧ (if lastIdx p 47 > 0 then lastIdx p 47 else 0) ≤ (p.length : Int) := by split <;> omega
  have c2 : (0 : Int) ≤ lastIdx p 47 + 1 ∧ lastIdx p 47 + 1 ≤ (p.length : Int) := by omega
  have e47 : ((47 : UInt8).toNat : Int) = 47 := rfl
  rw [e47] at g
  simp (config := {contextual := true}) only [↓bD, bL, stps, stpOf, ev, getT, setT, ofConst, binP, binA, symA, intOp, resA, padT, List.replicate, Option.or, hputs, ↓reduceIte, Nat.reduceLT, Nat.reduceAdd, Nat.reduceSub, fin, List.mapM_cons, List.mapM_nil, scalarN, plainN, bound, sliceA, looks, C1_ty, ty9, Tryz.ntmps139, Tryz.results139, Cl_3 (C := C1) (g := 150) (fn := Tryz.f150) rfl (fnBy_of Tryz.func150 rfl) rfl, pureF, hw, g, c1.1, c1.2, c2.1, c2.2]
  refine ⟨by kernel_rfl, ?_⟩
  have e1 : (if 0 < lastIdx p 47 then lastIdx p 47 else 0).toNat = (lastIdx p 47).toNat := by split <;> omega
  rw [e1, List.take_length]
  rfl
theorem G_split (p : Str) (hs : p.length ≤ 1099511627776) : G3 C1 Tryz.f139 [.str p] = some (.tuple [.str (parentOf p), .str (lastOf p)]) := G3_eq (R_split p hs)

-- REG internal/stringslite.HasPrefix G_hasPrefixS
theorem R_hasPrefixS (s p : Str) (hs : s.length ≤ 1099511627776) : Run3 C1 Tryz.f152 [.str s, .str p] (.bool (isPre p s)) := by
  refine Run3.mk (fn := Tryz.f152) rfl ?_
  simp (config := {contextual := true}) only [↓bD, bL, stps, stpOf, ev, getT, setT, ofConst, binP, binA, symA, intOp, strOp, eqOp, lenA, resA, padT, List.replicate, Option.or, ↓reduceIte, Nat.reduceLT, Nat.reduceAdd, Nat.reduceSub, fin, bound, sliceA, C1_ty, ty9, Tryz.ntmps152, Tryz.results152]
  unfold isPre
  split
  · rfl
  · rename_i h
    have : s.take p.length ≠ p := fun e => by
      have := congrArg List.length e
      rw [List.length_take] at this
      omega
    simp [this]
theorem G_hasPrefixS (s p : Str) (hs : s.length ≤ 1099511627776) : G3 C1 Tryz.f152 [.str s, .str p] = some (.bool (isPre p s)) := G3_eq (R_hasPrefixS s p hs)
-- REG strings.HasPrefix G_hasPrefix
theorem R_hasPrefix (s p : Str) (hs : s.length ≤ 1099511627776) : Run3 C1 Tryz.f143 [.str s, .str p] (.bool (isPre p s)) := by
  refine Run3.mk (fn := Tryz.f143) rfl ?_
  simp (config := {contextual := true}) only [↓bD, bL, stps, stpOf, ev, getT, setT, ofConst, resA, padT, List.replicate, hputs, ↓reduceIte, Nat.reduceLT, Nat.reduceAdd, Nat.reduceSub, fin, List.mapM_cons, List.mapM_nil, scalarN, plainN, Tryz.ntmps143, Tryz.results143, Cl_3 (C := C1) (g := 152) (fn := Tryz.f152) rfl (fnBy_of Tryz.func152 rfl) rfl, pureF, G_hasPrefixS, hs]
theorem G_hasPrefix (s p : Str) (hs : s.length ≤ 1099511627776) : G3 C1 Tryz.f143 [.str s, .str p] = some (.bool (isPre p s)) := G3_eq (R_hasPrefix s p hs)
-- REG path.In G_in
theorem R_in (p q : Str) (hp : p.length ≤ 1099511627776) (hq : q.length ≤ 1099511627776) : Run3 C1 Tryz.f129 [.str p, .str q] (.bool (within p q)) := by
  refine Run3.mk (fn := Tryz.f129) rfl ?_
  have hl : q.length + 1 ≤ 9223372036854775807 := by omega
  simp (config := {contextual := true}) only [↓bD, bL, stps, stpOf, ev, getT, setT, ofConst, binP, binA, symA, strOp, resA, padT, List.replicate, Option.or, hputs, ↓reduceIte, Nat.reduceLT, Nat.reduceAdd, Nat.reduceSub, fin, List.mapM_cons, List.mapM_nil, scalarN, plainN, Tryz.ntmps129, Tryz.results129, Cl_3 (C := C1) (g := 143) (fn := Tryz.f143) rfl (fnBy_of Tryz.func143 rfl) rfl, pureF, G_hasPrefix, hp, hl]
  unfold within
  cases h : p == q with
  | false => have : p ≠ q := by simpa using h
             simp [this]
  | true => simp
theorem G_in (p q : Str) (hp : p.length ≤ 1099511627776) (hq : q.length ≤ 1099511627776) : G3 C1 Tryz.f129 [.str p, .str q] = some (.bool (within p q)) := G3_eq (R_in p q hp hq)

-- REG path.great G_great
theorem R_great (p : Str) : Run3 C1 Tryz.f148 [.str p] (.bool (great p)) := by
  refine Run3.mk (fn := Tryz.f148) rfl ?_
  simp (config := {contextual := true}) only [↓bD, bL, stps, stpOf, ev, getT, setT, ofConst, binP, binA, symA, intOp, lenA, resA, padT, List.replicate, Option.or, hputs, ↓reduceIte, Nat.reduceLT, Nat.reduceAdd, Nat.reduceSub, fin, C1_ty, ty9, Tryz.ntmps148, Tryz.results148, Cl_hook (hk_C1_155), cntF]
  unfold great Lib.countByte
  by_cases h : 6 ≤ p.count 47
  · have : (6 : Int) ≤ (p.count 47 : Nat) := by omega
    simp [h, this]
  · have : ¬ (6 : Int) ≤ (p.count 47 : Nat) := by omega
    simp [h, this]
    omega
theorem G_great (p : Str) : G3 C1 Tryz.f148 [.str p] = some (.bool (great p)) := G3_eq (R_great p)
-- REG path.Check G_check
theorem R_check (p : Str) (hp : p.length ≤ 1099511627776) : Run3 C1 Tryz.f127 [.str p] (.int .i64 (checkPath p)) := by
  refine Run3.mk (fn := Tryz.f127) rfl ?_
  simp (config := {contextual := true}) only [↓bD, bL, stps, stpOf, ev, getT, setT, ofConst, AV.cells, putCells, elemTI, resA, padT, List.replicate, hputs, ↓reduceIte, Nat.reduceLT, Nat.reduceLeDiff, Nat.reduceAdd, Nat.reduceSub, fin, List.mapM_cons, List.mapM_nil, scalarN, plainN, hookLooks, looks1, buildSliceA, fillA, chunks, strOf, C1_ty, ty9, ty61, Tryz.ntmps127, Tryz.results127, Cl_hook (hk_C1_140), checkF, pureF, hp]
  simp only [checkPaths]
  split
  · rfl
  · rename_i h; rw [Classical.not_not.1 h]
theorem G_check (p : Str) (hp : p.length ≤ 1099511627776) : G3 C1 Tryz.f127 [.str p] = some (.int .i64 (checkPath p)) := G3_eq (R_check p hp)
-- REG path.Moved G_moved
theorem R_moved (p q r : Str) (hp : p.length ≤ 1099511627776) (hq : q.length ≤ 1099511627776) (hr : r.length ≤ 1099511627776) : Run3 C1 Tryz.f134 [.str p, .str q, .str r] (.tuple [.str (moved p q r).1, .int .i64 (moved p q r).2]) := by
  refine Run3.mk (fn := Tryz.f134) rfl ?_
  unfold moved
  have hl : r.length + (p.length - q.length) ≤ 9223372036854775807 := by omega
  by_cases hc : checkPaths [p, q, r] = 0
  · by_cases hw : within p q = true
    · have hle : (q.length : Int) ≤ (p.length : Int) := by
        have := within_len hw; omega
      simp (config := {contextual := true}) only [↓bD, bL, stps, stpOf, ev, getT, setT, ofConst, AV.cells, binP, binA, symA, intOp, strOp, unA, lenA, putCells, elemTI, resA, padT, List.replicate, Option.or, hputs, ↓reduceIte, reduceCtorEq, Nat.reduceLT, Nat.reduceLeDiff, Nat.reduceAdd, Nat.reduceSub, fin, List.mapM_cons, List.mapM_nil, scalarN, plainN, hookLooks, looks1, bound, sliceA, buildSliceA, fillA, chunks, strOf, C1_ty, ty9, ty61, Tryz.ntmps134, Tryz.results134, Cl_3 (C := C1) (g := 129) (fn := Tryz.f129) rfl (fnBy_of Tryz.func129 rfl) rfl, pureF, G_in, Cl_hook (hk_C1_140), checkF, Cl_3 (C := C1) (g := 148) (fn := Tryz.f148) rfl (fnBy_of Tryz.func148 rfl) rfl, G_great, hp, hq, hr, hc, hw, hle, List.take_length, List.length_drop, hl]
      split
      · rename_i h; simp [h]
      · rename_i h; simp [h]
    · simp only [Bool.not_eq_true] at hw
      simp (config := {contextual := true}) only [↓bD, bL, stps, stpOf, ev, getT, setT, ofConst, AV.cells, binP, binA, symA, intOp, unA, putCells, elemTI, resA, padT, List.replicate, Option.or, hputs, ↓reduceIte, reduceCtorEq, Nat.reduceLT, Nat.reduceLeDiff, Nat.reduceAdd, Nat.reduceSub, fin, List.mapM_cons, List.mapM_nil, scalarN, plainN, hookLooks, looks1, buildSliceA, fillA, chunks, strOf, C1_ty, ty9, ty61, Tryz.ntmps134, Tryz.results134, Cl_3 (C := C1) (g := 129) (fn := Tryz.f129) rfl (fnBy_of Tryz.func129 rfl) rfl, pureF, G_in, Cl_hook (hk_C1_140), checkF, hp, hq, hr, hc, hw]
  · simp (config := {contextual := true}) only [↓bD, bL, stps, stpOf, ev, getT, setT, ofConst, AV.cells, binP, binA, symA, intOp, putCells, elemTI, resA, padT, List.replicate, Option.or, hputs, ↓reduceIte, reduceCtorEq, Nat.reduceLT, Nat.reduceLeDiff, Nat.reduceAdd, Nat.reduceSub, fin, List.mapM_cons, List.mapM_nil, scalarN, plainN, hookLooks, looks1, buildSliceA, fillA, chunks, strOf, C1_ty, ty9, ty61, Tryz.ntmps134, Tryz.results134, pureF, Cl_hook (hk_C1_140), checkF, hp, hq, hr, hc]
theorem G_moved (p q r : Str) (hp : p.length ≤ 1099511627776) (hq : q.length ≤ 1099511627776) (hr : r.length ≤ 1099511627776) : G3 C1 Tryz.f134 [.str p, .str q, .str r] = some (.tuple [.str (moved p q r).1, .int .i64 (moved p q r).2]) := G3_eq (R_moved p q r hp hq hr)

-- REG strings.IndexByte G_indexByte
theorem R_indexByte (s : Str) (c : UInt8) : Run3 C1 Tryz.f26 [.str s, .int .u8 c.toNat] (.int .i64 (Lib.indexByte s c)) := by
  refine Run3.mk (fn := Tryz.f26) rfl ?_
  simp (config := {contextual := true}) only [↓bD, bL, stps, stpOf, ev, getT, setT, ofConst, resA, padT, List.replicate, hputs, Nat.reduceLT, Nat.reduceAdd, Nat.reduceSub, fin, Tryz.ntmps26, Tryz.results26, Cl_hook (hk_C1_56), idxF, UInt8.ofNat_toNat, Nat.toUInt8_eq]
theorem G_indexByte (s : Str) (c : UInt8) : G3 C1 Tryz.f26 [.str s, .int .u8 c.toNat] = some (.int .i64 (Lib.indexByte s c)) := G3_eq (R_indexByte s c)

-- REG path.IsName$1 G_okByte
theorem R_okByte (c : UInt8) : Run3 C1 Tryz.f25 [.int .u8 c.toNat] (.bool (okByte c)) := by
  refine Run3.mk (fn := Tryz.f25) rfl ?_
  have g := G_indexByte [45, 95, 46, 40, 41, 32] c
  by_cases a1 : (97 : Int) ≤ (c.toNat : Int) <;> by_cases a2 : (c.toNat : Int) ≤ (122 : Int) <;> by_cases a3 : (65 : Int) ≤ (c.toNat : Int) <;> by_cases a4 : (c.toNat : Int) ≤ (90 : Int) <;>
    by_cases a5 : (48 : Int) ≤ (c.toNat : Int) <;> by_cases a6 : (c.toNat : Int) ≤ (57 : Int) <;>
    first
    | (exfalso; omega)
    | (simp only [↓bD, bL, stps, stpOf, ev, getT, setT, ofConst, binP, binA, symA, intOp, resA, padT, List.replicate, Option.or, hputs, ↓reduceIte, Nat.reduceLT, Nat.reduceAdd, Nat.reduceSub, fin, List.mapM_cons, List.mapM_nil, scalarN, plainN, Tryz.ntmps25, Tryz.results25, Cl_3 (C := C1) (g := 26) (fn := Tryz.f26) rfl (fnBy_of Tryz.func26 rfl) rfl, pureF, g, a1, a2, a3, a4, a5, a6]
       rw [okByte_eq]
       simp [a1, a2, a3, a4, a5, a6])
theorem G_okByte (c : UInt8) : G3 C1 Tryz.f25 [.int .u8 c.toNat] = some (.bool (okByte c)) := G3_eq (R_okByte c)
end Go.Ab.Seat
/- package path: IsName; the document's IsName. -/
namespace Go.Ab.Seat
open Go Go.Proofs
-- CFG C1
set_option linter.unusedSimpArgs false
set_option linter.unusedVariables false
set_option maxHeartbeats 1000000
set_option maxRecDepth 100000

-- REG path.IsName G_isName
theorem R_isName (s : Str) : Run3 C1 Tryz.f10 [.str s] (.bool (isName s)) := by
  refine Run3.mk (fn := Tryz.f10) rfl ?_
  cases s with
  | nil => simp (config := {contextual := true, maxSteps := 1000000}) only [↓bD, bL, stps, stpOf, ev, getT, setT, ofConst, binP, binA, symA, strOp, resA, padT, List.replicate, Option.or, ↓reduceIte, Nat.reduceLT, Nat.reduceAdd, Nat.reduceSub, fin, Tryz.ntmps10, Tryz.results10]
           rfl
  | cons a r =>
    have e0 : (a :: r == []) = false := rfl
    by_cases h20 : 20 < (r.length : Int) + 1
    · simp (config := {contextual := true, maxSteps := 1000000}) only [↓bD, bL, stps, stpOf, ev, getT, setT, ofConst, binP, binA, symA, intOp, strOp, lenA, resA, padT, List.replicate, Option.or, ↓reduceIte, Nat.reduceLT, Nat.reduceAdd, Nat.reduceSub, fin, C1_ty, ty9, Tryz.ntmps10, Tryz.results10, h20, e0, Int.natCast_add, Int.cast_ofNat_Int]
      have : isName (a :: r) = false := by
        unfold isName
        have : ¬ (a :: r).length ≤ 20 := by simp; omega
        simp only [this, decide_false, Bool.and_false, Bool.false_and]
      rw [this]
    · have hlast : (a :: r)[r.length]? = some ((a :: r)[r.length]) := by simp
      have hw : IntKind.i64.wrap ((r.length : Int) + 1 - 1) = (r.length : Int) := by rw [Int.add_sub_cancel]; exact wrap_i64 (by omega) (by omega)
      have hz : (a :: r).getLast? = some ((a :: r)[r.length]) := by
        rw [List.getLast?_eq_getElem?]; exact hlast
      generalize (a :: r)[r.length] = z at hlast hz
      have ez : ((z.toNat : Int) = 32) ↔ z = 32 := by rw [show (32 : Int) = ((32 : UInt8).toNat : Int) from rfl, Int.ofNat_inj, UInt8.toNat_inj]
      have ea : ((a.toNat : Int) = 32) ↔ a = 32 := by rw [show (32 : Int) = ((32 : UInt8).toNat : Int) from rfl, Int.ofNat_inj, UInt8.toNat_inj]
      have hle : (a :: r).length ≤ 20 := by simp; omega
      by_cases h1 : a :: r = [46]
      · have e1 : (a :: r == [46]) = true := by simpa using h1
        have : isName (a :: r) = false := by
          unfold isName; simp only [bne, e1]; simp
        simp (config := {contextual := true, maxSteps := 1000000}) only [↓bD, bL, stps, stpOf, ev, getT, setT, ofConst, binP, binA, symA, intOp, strOp, lenA, resA, padT, List.replicate, Option.or, ↓reduceIte, Nat.reduceLT, Nat.reduceAdd, Nat.reduceSub, fin, C1_ty, ty9, Tryz.ntmps10, Tryz.results10, h20, e0, e1, Int.natCast_add, Int.cast_ofNat_Int, this]
      · have e1 : (a :: r == [46]) = false := by simpa using h1
        by_cases h2 : a :: r = [46, 46]
        · have e2 : (a :: r == [46, 46]) = true := by simpa using h2
          have : isName (a :: r) = false := by
            unfold isName; simp only [bne, e2]; simp
          simp (config := {contextual := true, maxSteps := 1000000}) only [↓bD, bL, stps, stpOf, ev, getT, setT, ofConst, binP, binA, symA, intOp, strOp, lenA, resA, padT, List.replicate, Option.or, ↓reduceIte, Nat.reduceLT, Nat.reduceAdd, Nat.reduceSub, fin, C1_ty, ty9, Tryz.ntmps10, Tryz.results10, h20, e0, e1, e2, Int.natCast_add, Int.cast_ofNat_Int, this]
        · have e2 : (a :: r == [46, 46]) = false := by simpa using h2
          have key : isName (a :: r) = (a != 32 && (z != 32 && (a :: r).all okByte)) := by
            unfold isName
            rw [hz, bne, bne, bne, e0, e1, e2]
            simp only [hle, decide_true, Bool.not_false, Bool.true_and, List.head?_cons]
            rw [Bool.and_assoc]; rfl
          by_cases ha : a = 32
          · have : isName (a :: r) = false := by rw [key, ha]; rfl
            have eat : ((a.toNat : Int) == 32) = true := by rw [beq_iff_eq, ea]; exact ha
            clear hlast hz ez key
            simp (config := {contextual := true, maxSteps := 1000000}) only [↓bD, bL, stps, stpOf, ev, getT, setT, ofConst, indexA, binP, binA, symA, intOp, strOp, lenA, resA, padT, List.replicate, Option.or, ↓reduceIte, Nat.reduceLT, Nat.reduceAdd, Nat.reduceSub, fin, C1_ty, ty9, Tryz.ntmps10, Tryz.results10, h20, e0, e1, e2, Int.natCast_add, Int.cast_ofNat_Int, Int.toNat_zero, this, eat]
          · by_cases hz32 : z = 32
            · have : isName (a :: r) = false := by rw [key, hz32]; simp
              have ezt : ((z.toNat : Int) == 32) = true := by rw [beq_iff_eq, ez]; exact hz32
              have ezt' : (z.toNat : Int) = 32 := ez.2 hz32
              have eaf : ((a.toNat : Int) == 32) = false := by rw [beq_eq_false_iff_ne]; exact fun q => ha (ea.1 q)
              simp (config := {contextual := true, maxSteps := 1000000}) only [↓bD, bL, stps, stpOf, ev, getT, setT, ofConst, indexA, binP, binA, symA, intOp, strOp, lenA, resA, padT, List.replicate, Option.or, ↓reduceIte, Nat.reduceLT, Nat.reduceAdd, Nat.reduceSub, fin, C1_ty, ty9, Tryz.ntmps10, Tryz.results10, h20, e0, e1, e2, Int.natCast_add, Int.cast_ofNat_Int, hw, hlast, Int.toNat_zero, this, eaf, ezt']
            · have key2 : isName (a :: r) = (a :: r).all okByte := by
                rw [key]
                have q1 : (a != 32) = true := by simpa using ha
                have q2 : (z != 32) = true := by simpa using hz32
                rw [q1, q2]; rfl
              rw [key2]
              clear key key2 hz
              have ezf : ((z.toNat : Int) == 32) = false := by rw [beq_eq_false_iff_ne]; exact fun q => hz32 (ez.1 q)
              have ezf' : ¬ (z.toNat : Int) = 32 := fun q => hz32 (ez.1 q)
              have eaf : ((a.toNat : Int) == 32) = false := by rw [beq_eq_false_iff_ne]; exact fun q => ha (ea.1 q)
              have eaf' : ¬ (a.toNat : Int) = 32 := fun q => ha (ea.1 q)
              simp (config := {contextual := true, maxSteps := 1000000}) only [↓bD, bL, stps, stpOf, ev, getT, setT, ofConst, indexA, binP, binA, symA, intOp, strOp, lenA, padT, List.replicate, Option.or, ↓reduceIte, Nat.reduceLT, Nat.reduceAdd, Nat.reduceSub, C1_ty, ty9, Tryz.ntmps10, h20, e0, e1, e2, Int.natCast_add, Int.cast_ofNat_Int, hw, hlast, Int.toNat_zero, eaf, ezf]
              have hlen : (r.length : Int) + 1 = ((a :: r).length : Int) := by simp
              generalize hs' : a :: r = s at *
              refine X_loop (fun (k : Nat) T st => getT T 35 = .int .i64 ((s.length - k : Nat) : Int) ∧ k ≤ s.length ∧ (s.take (s.length - k)).all okByte = true) id
                (fun e T st => (e = .ret ∧ getT T 2 = .bool (s.all okByte)) ∨ (e = .exit 1 ∧ s.all okByte = true)) s.length ⟨by simp [getT], Nat.le_refl _, by simp⟩ ?_ ?_
              · rintro k T st hF hc hb ⟨h5, hk, hl⟩
                have h0 := hF 0 rfl
                have h3 := hF 3 rfl
                have h34 := hF 34 rfl
                simp only [getT] at h0 h3 h34
                clear hF
                rw [hlen] at h34
                generalize hi : s.length - k = i at h5 hl
                cases k with
                | zero =>
                  have hi' : i = s.length := by omega
                  subst hi'
                  rw [List.take_length] at hl
                  simp (config := {contextual := true}) only [↓bD, bL, stps, stpOf, ev, binP, binA, symA, intOp, Option.or, ↓reduceIte, reduceCtorEq, Nat.reduceEqDiff, Nat.reduceLT, h5, h34, Int.lt_irrefl, hl]
                | succ k =>
                  have hlt : (i : Int) < (s.length : Int) := by omega
                  have hx : s[i]? = some s[i] := by simp
                  have hw2 : IntKind.i64.wrap ((i : Int) + 1) = ((i + 1 : Nat) : Int) := by rw [Int.natCast_add]; exact wrap_i64 (by omega) (by omega)
                  have ht : s.take (i + 1) = s.take i ++ [s[i]] := List.take_succ_eq_append_getElem (by omega)
                  have hall : okByte s[i] = false → s.all okByte = false := fun q => by
                    rw [List.all_eq_false]; exact ⟨s[i], List.getElem_mem _, by simp [q]⟩
                  simp (config := {contextual := true}) only [↓bD, bL, stps, stpOf, ev, ofConst, indexA, binP, binA, symA, intOp, unA, Option.or, hputs, ↓reduceIte, reduceCtorEq, Nat.reduceEqDiff, Nat.reduceLT, Nat.reduceAdd, fin, List.mapM_cons, List.mapM_nil, scalarN, plainN, C1_ty, ty9, Cl_3 (C := C1) (g := 25) (fn := Tryz.f25) rfl (fnBy_of Tryz.func25 rfl) rfl, pureF, G_okByte, h5, h0, h3, h34, hlt, hx, hw2]
                  cases hok : okByte s[i] with
                  | false => simp [hall hok]
                  | true =>
                    simp only [Bool.true_eq_false, if_false]
                    refine ⟨k, by simp, ?_, by omega, ?_⟩
                    · congr 2; omega
                    · rw [show s.length - k = i + 1 by omega, ht, List.all_append, hl]; simp [hok]
              · rintro e T st he hF hc hb (⟨rfl, h4⟩ | ⟨rfl, h4⟩)
                · simp only [↓kseq_ret, ↓kblock_ret, List.toList_toArray, S_some, ↓end_ret, resA, tupOf_1, Option.map_some, fin, Tryz.results10, h4]
                · simp only [↓bD, bL, stps, stpOf, ev, ofConst, resA, ↓reduceIte, Nat.reduceLT, fin, Tryz.ntmps10, Tryz.results10, h4]
theorem G_isName (s : Str) : G3 C1 Tryz.f10 [.str s] = some (.bool (isName s)) := G3_eq (R_isName s)
end Go.Ab.Seat
/- package tree: the search for a path. -/
namespace Go.Ab.Seat
open Go Go.Proofs
-- CFG C1
set_option linter.unusedSimpArgs false
set_option linter.unusedVariables false
set_option maxHeartbeats 1000000
set_option maxRecDepth 100000

-- REG cmp.isNaN[string] G_isNaN
theorem R_isNaN (a : Str) : Run3 C1 Tryz.f78 [.str a] (.bool false) := by
  refine Run3.mk (fn := Tryz.f78) rfl ?_
  simp (config := {contextual := true}) only [↓bD, bL, stps, stpOf, ev, getT, setT, ofConst, binP, binA, symA, strOp, resA, padT, List.replicate, Option.or, Nat.reduceLT, Nat.reduceAdd, Nat.reduceSub, fin, Tryz.ntmps78, Tryz.results78]
theorem G_isNaN (a : Str) : G3 C1 Tryz.f78 [.str a] = some (.bool false) := G3_eq (R_isNaN a)
-- REG cmp.Compare[string] G_cmpS
theorem R_cmpS (a b : Str) : Run3 C1 Tryz.f54 [.str a, .str b] (.int .i64 (cmpS a b)) := by
  refine Run3.mk (fn := Tryz.f54) rfl ?_
  unfold cmpS
  cases h1 : Op.bytesLess a b with
  | true => simp (config := {contextual := true}) only [↓bD, bL, stps, stpOf, ev, getT, setT, ofConst, binP, binA, symA, strOp, resA, padT, List.replicate, Option.or, hputs, ↓reduceIte, Nat.reduceLT, Nat.reduceAdd, Nat.reduceSub, fin, List.mapM_cons, List.mapM_nil, scalarN, plainN, Tryz.ntmps54, Tryz.results54, Cl_3 (C := C1) (g := 78) (fn := Tryz.f78) rfl (fnBy_of Tryz.func78 rfl) rfl, pureF, G_isNaN, h1]
  | false =>
    by_cases h2 : a = b
    · have e : (a == b) = true := by simpa using h2
      simp (config := {contextual := true}) only [↓bD, bL, stps, stpOf, ev, getT, setT, ofConst, binP, binA, symA, strOp, resA, padT, List.replicate, Option.or, hputs, ↓reduceIte, Nat.reduceLT, Nat.reduceAdd, Nat.reduceSub, fin, List.mapM_cons, List.mapM_nil, scalarN, plainN, Tryz.ntmps54, Tryz.results54, Cl_3 (C := C1) (g := 78) (fn := Tryz.f78) rfl (fnBy_of Tryz.func78 rfl) rfl, pureF, G_isNaN, h1, e]
      simp [h2]
    · have e : (a == b) = false := by simpa using h2
      simp (config := {contextual := true}) only [↓bD, bL, stps, stpOf, ev, getT, setT, ofConst, binP, binA, symA, strOp, resA, padT, List.replicate, Option.or, hputs, ↓reduceIte, Nat.reduceLT, Nat.reduceAdd, Nat.reduceSub, fin, List.mapM_cons, List.mapM_nil, scalarN, plainN, Tryz.ntmps54, Tryz.results54, Cl_3 (C := C1) (g := 78) (fn := Tryz.f78) rfl (fnBy_of Tryz.func78 rfl) rfl, pureF, G_isNaN, h1, e, h2]
theorem G_cmpS (a b : Str) : G3 C1 Tryz.f54 [.str a, .str b] = some (.int .i64 (cmpS a b)) := G3_eq (R_cmpS a b)
-- REG tree.At$1 G_atC
theorem R_atC (x : Entry) (p : Str) : Run3 C1 Tryz.f142 [.agg [.str x.path, .bool x.folder, .str x.text, .int .i64 x.version], .str p] (.int .i64 (cmpS x.path p)) := by
  refine Run3.mk (fn := Tryz.f142) rfl ?_
  simp (config := {contextual := true}) only [↓bD, bL, stps, stpOf, ev, getT, setT, ofConst, AV.cells, notBad, loadObj, TI.agg, fieldAddrA, resA, padT, List.replicate, hputs, ↓reduceIte, Nat.reduceLT, Nat.reduceAdd, Nat.reduceSub, fin, List.mapM_cons, List.mapM_nil, scalarN, plainN, C1_ty, ty9, ty107, Tryz.ntmps142, Tryz.results142, Cl_3 (C := C1) (g := 54) (fn := Tryz.f54) rfl (fnBy_of Tryz.func54 rfl) rfl, pureF, G_cmpS]
theorem G_atC (x : Entry) (p : Str) : G3 C1 Tryz.f142 [.agg [.str x.path, .bool x.folder, .str x.text, .int .i64 x.version], .str p] = some (.int .i64 (cmpS x.path p)) := G3_eq (R_atC x p)

-- REG slices.BinarySearchFunc[[]api.Entry,api.Entry,string] G_bsE
theorem R_bsE (p : Str) (l : List Entry) (hl : l.length ≤ 1099511627776) (hm : Mono (fun x : Entry => cmpS x.path p) l) : Run3 C1 Tryz.f141 [.rows false (l.map Entry.cells), .str p, .func 142 [] []] (.tuple [.int .i64 (bsI (fun x : Entry => cmpS x.path p) l : Nat), .bool (bsF (fun x : Entry => cmpS x.path p) l)]) := by
  refine Run3.mk (fn := Tryz.f141) rfl ?_
  have hcl : ∀ x : Entry, G3 C1 Tryz.f142 [.agg x.cells, .str p] = some (.int .i64 ((fun x : Entry => cmpS x.path p) x)) := fun x => by rw [Entry.cells_eq]; exact G_atC x p
  simp (config := {contextual := true}) only [↓bD, bL, stps, stpOf, ev, getT, setT, ofConst, lenA, padT, List.replicate, Nat.reduceLT, Nat.reduceAdd, Nat.reduceSub, C1_ty, ty35, Tryz.ntmps141]
  refine X_loop (fun (k : Nat × Nat) T st => getT T 9 = .int .i64 (k.1 : Nat) ∧ getT T 10 = .int .i64 (k.2 : Nat) ∧ k.1 ≤ k.2 ∧ k.2 ≤ l.length ∧ (∀ q x, q < k.1 → l[q]? = some x → (fun x : Entry => cmpS x.path p) x < 0) ∧ (∀ x, l[k.2]? = some x → ¬ (fun x : Entry => cmpS x.path p) x < 0)) (fun k => k.2 - k.1)
    (fun e T st => e = .exit 0 ∧ getT T 9 = .int .i64 (bsI (fun x : Entry => cmpS x.path p) l : Nat)) (0, l.length) ⟨rfl, rfl, Nat.zero_le _, Nat.le_refl _, by simp, by simp⟩ ?_ ?_
  · rintro ⟨i, j⟩ T st hF hc hb ⟨h9, h10, hij, hj, hlo, hhi⟩
    simp only at h9 h10 hij hj hlo hhi
    have h0 := hF 0 rfl
    have h1 := hF 1 rfl
    have h2 := hF 2 rfl
    have h8 := hF 8 rfl
    simp only [getT] at h0 h1 h2 h8
    clear hF
    by_cases hlt : i < j
    · have hlt' : (i : Int) < (j : Int) := by omega
      have hw1 : IntKind.i64.wrap ((i : Int) + j) = ((i + j : Nat) : Int) := by rw [Int.natCast_add]; exact wrap_i64 (by omega) (by omega)
      have hw2 : IntKind.u64.wrap ((i + j : Nat) : Int) = ((i + j : Nat) : Int) := by
        exact IntWalk.u64_in _ (by omega)
      have hw3 : Int.fdiv ((i + j : Nat) : Int) (2 ^ (min (Int.toNat 1) IntKind.u64.bits)) = (((i + j) / 2 : Nat) : Int) := by
        rw [show (min (Int.toNat 1) IntKind.u64.bits) = 1 from rfl]
        rw [Int.fdiv_eq_ediv_of_nonneg _ (by decide)]; omega
      generalize hh : (i + j) / 2 = m at hw3
      have hm1 : i ≤ m := by omega
      have hm2 : m < j := by omega
      have hw4 : IntKind.i64.wrap (m : Int) = (m : Int) := wrap_i64 (by omega) (by omega)
      have hw5 : IntKind.i64.wrap ((m : Int) + 1) = ((m + 1 : Nat) : Int) := by rw [Int.natCast_add]; exact wrap_i64 (by omega) (by omega)
      have hml : (m : Int) < (l.length : Int) := by omega
      have hx : l[m]? = some (l[m]'(by omega)) := by simp
      generalize (l[m]'(by omega)) = x at hx
      have hcx := hcl x
      rw [Entry.cells_eq] at hcx
      by_cases hneg : (fun x : Entry => cmpS x.path p) x < 0
      · simp (config := {contextual := true}) only [↓bD, bL, stps, stpOf, ev, ofConst, loadObj, TI.agg, indexAddrA, convA, binP, binA, symA, intOp, elemTI, Option.or, hputs, ↓reduceIte, reduceCtorEq, Nat.reduceEqDiff, Nat.reduceLT, Nat.reduceAdd, fin, List.mapM_cons, List.mapM_nil, scalarN, plainN, C1_ty, ty3, ty35, ty107, ty134, Cl_3 (C := C1) (g := 142) (fn := Tryz.f142) rfl (fnBy_of Tryz.func142 rfl) rfl, pureF, h9, h10, h0, h1, h2, hlt', hw1, hw2, hw3, hw4, hw5, hml, hx, hcx, hneg, shiftOp, Int.reduceLT]
        refine ⟨(m + 1, j), by simp only; omega, rfl, rfl, by simp only; omega, hj, fun q y hq hy => ?_, hhi⟩
        rcases Nat.lt_or_ge q m with h | h
        · exact hm q m y x h hy hx hneg
        · have : q = m := by simp only at hq; omega
          subst this
          rw [hx, Option.some.injEq] at hy
          rw [← hy]; exact hneg
      · simp (config := {contextual := true}) only [↓bD, bL, stps, stpOf, ev, ofConst, loadObj, TI.agg, indexAddrA, convA, binP, binA, symA, intOp, elemTI, Option.or, hputs, ↓reduceIte, reduceCtorEq, Nat.reduceEqDiff, Nat.reduceLT, Nat.reduceAdd, fin, List.mapM_cons, List.mapM_nil, scalarN, plainN, C1_ty, ty3, ty35, ty107, ty134, Cl_3 (C := C1) (g := 142) (fn := Tryz.f142) rfl (fnBy_of Tryz.func142 rfl) rfl, pureF, h9, h10, h0, h1, h2, hlt', hw1, hw2, hw3, hw4, hml, hx, hcx, hneg, shiftOp, Int.reduceLT]
        refine ⟨(i, m), by simp only; omega, rfl, rfl, hm1, by simp only; omega, hlo, fun y hy => ?_⟩
        rw [hx, Option.some.injEq] at hy
        rw [← hy]; exact hneg
    · have hlt' : ¬ (i : Int) < (j : Int) := by omega
      have : i = j := by omega
      subst this
      have hb := bsI_eq hj hlo hhi
      simp (config := {contextual := true}) only [↓bD, bL, stps, stpOf, ev, binP, binA, symA, intOp, Option.or, ↓reduceIte, Nat.reduceEqDiff, Nat.reduceLT, Nat.reduceAdd, h9, h10, hlt', hb]
  · rintro e T st he hF hc hb ⟨rfl, h9⟩
    have h0 := hF 0 rfl
    have h1 := hF 1 rfl
    have h2 := hF 2 rfl
    have h8 := hF 8 rfl
    simp only [getT] at h0 h1 h2 h8
    clear hF
    have hle := bsI_le (fun x : Entry => cmpS x.path p) l
    by_cases hlt : bsI (fun x : Entry => cmpS x.path p) l < l.length
    · have hlt' : (bsI (fun x : Entry => cmpS x.path p) l : Int) < (l.length : Int) := by omega
      have hx : l[bsI (fun x : Entry => cmpS x.path p) l]? = some (l[bsI (fun x : Entry => cmpS x.path p) l]'hlt) := by simp
      have hf : bsF (fun x : Entry => cmpS x.path p) l = ((fun x : Entry => cmpS x.path p) (l[bsI (fun x : Entry => cmpS x.path p) l]'hlt) == 0) := by unfold bsF; rw [hx]
      generalize (l[bsI (fun x : Entry => cmpS x.path p) l]'hlt) = x at hx hf
      have hcx := hcl x
      rw [Entry.cells_eq] at hcx
      simp (config := {contextual := true}) only [↓bD, bL, stps, stpOf, ev, ofConst, loadObj, TI.agg, indexAddrA, binP, binA, symA, intOp, elemTI, resA, Option.or, hputs, ↓reduceIte, reduceCtorEq, Nat.reduceEqDiff, Nat.reduceLT, Nat.reduceAdd, fin, List.mapM_cons, List.mapM_nil, scalarN, plainN, C1_ty, ty35, ty107, Tryz.ntmps141, Tryz.results141, Cl_3 (C := C1) (g := 142) (fn := Tryz.f142) rfl (fnBy_of Tryz.func142 rfl) rfl, pureF, h9, h0, h1, h2, h8, hlt', hx, hcx, hf]
    · have hlt' : ¬ (bsI (fun x : Entry => cmpS x.path p) l : Int) < (l.length : Int) := by omega
      have hx : l[bsI (fun x : Entry => cmpS x.path p) l]? = none := by simp; omega
      have hf : bsF (fun x : Entry => cmpS x.path p) l = false := by unfold bsF; rw [hx]
      simp (config := {contextual := true}) only [↓bD, bL, stps, stpOf, ev, ofConst, binP, binA, symA, intOp, resA, Option.or, ↓reduceIte, Nat.reduceEqDiff, Nat.reduceLT, Nat.reduceAdd, fin, List.mapM_cons, List.mapM_nil, Tryz.ntmps141, Tryz.results141, h9, h8, hlt', hf]
theorem G_bsE (p : Str) (l : List Entry) (hl : l.length ≤ 1099511627776) (hm : Mono (fun x : Entry => cmpS x.path p) l) : G3 C1 Tryz.f141 [.rows false (l.map Entry.cells), .str p, .func 142 [] []] = some (.tuple [.int .i64 (bsI (fun x : Entry => cmpS x.path p) l : Nat), .bool (bsF (fun x : Entry => cmpS x.path p) l)]) := G3_eq (R_bsE p l hl hm)

-- REG tree.At G_at
theorem R_at (l : List Entry) (p : Str) (hl : l.length ≤ 1099511627776) (hm : Mono (fun x : Entry => cmpS x.path p) l) : Run3 C1 Tryz.f128 [.rows false (l.map Entry.cells), .str p] (.tuple [.int .i64 (bsI (fun x : Entry => cmpS x.path p) l : Nat), .bool (bsF (fun x : Entry => cmpS x.path p) l)]) := by
  refine Run3.mk (fn := Tryz.f128) rfl ?_
  simp (config := {contextual := true}) only [↓bD, bL, stps, stpOf, ev, getT, setT, ofConst, resA, padT, List.replicate, hputs, ↓reduceIte, Nat.reduceLT, Nat.reduceAdd, Nat.reduceSub, fin, List.mapM_cons, List.mapM_nil, scalarN, plainN, Tryz.ntmps128, Tryz.results128, Cl_3 (C := C1) (g := 141) (fn := Tryz.f141) rfl (fnBy_of Tryz.func141 rfl) rfl, pureF, G_bsE, hl, hm]
theorem G_at (l : List Entry) (p : Str) (hl : l.length ≤ 1099511627776) (hm : Mono (fun x : Entry => cmpS x.path p) l) : G3 C1 Tryz.f128 [.rows false (l.map Entry.cells), .str p] = some (.tuple [.int .i64 (bsI (fun x : Entry => cmpS x.path p) l : Nat), .bool (bsF (fun x : Entry => cmpS x.path p) l)]) := G3_eq (R_at l p hl hm)
end Go.Ab.Seat
/- package tree: what is wrong with a tree. -/
namespace Go.Ab.Seat
open Go Go.Proofs
-- CFG C1
set_option linter.unusedSimpArgs false
set_option linter.unusedVariables false
set_option maxHeartbeats 1000000
set_option maxRecDepth 100000

-- REG tree.isVersion G_isVersion
theorem R_isVersion (n : Int) : Run3 C1 Tryz.f84 [.int .i64 n] (.bool (isVersion n)) := by
  refine Run3.mk (fn := Tryz.f84) rfl ?_
  unfold isVersion
  by_cases h1 : 1 ≤ n <;> by_cases h2 : n ≤ 1000000 <;> simp (config := {contextual := true}) only [↓bD, bL, stps, stpOf, ev, getT, setT, ofConst, binP, binA, symA, intOp, resA, padT, List.replicate, Option.or, ↓reduceIte, Nat.reduceLT, Nat.reduceAdd, Nat.reduceSub, fin, Tryz.ntmps84, Tryz.results84, h1, h2]
theorem G_isVersion (n : Int) : G3 C1 Tryz.f84 [.int .i64 n] = some (.bool (isVersion n)) := G3_eq (R_isVersion n)
-- REG tree.checkEntry G_checkEntry
theorem R_checkEntry (x : Entry) (hp : x.path.length ≤ 1099511627776) : Run3 C1 Tryz.f125 [.agg [.str x.path, .bool x.folder, .str x.text, .int .i64 x.version]] (.int .i64 (checkEntry x)) := by
  refine Run3.mk (fn := Tryz.f125) rfl ?_
  unfold checkEntry
  by_cases h1 : checkPath x.path = 0
  · by_cases h2 : x.text = []
    · have e : (x.text == []) = true := by simpa using h2
      simp (config := {contextual := true}) only [↓bD, bL, stps, stpOf, ev, getT, setT, ofConst, AV.cells, notBad, loadObj, TI.agg, fieldAddrA, binP, binA, symA, intOp, strOp, eqOp, unA, lenA, resA, padT, List.replicate, Option.or, hputs, ↓reduceIte, Nat.reduceLT, Nat.reduceAdd, Nat.reduceSub, fin, List.mapM_cons, List.mapM_nil, scalarN, plainN, C1_ty, ty3, ty4, ty9, ty107, Tryz.ntmps125, Tryz.results125, Cl_3 (C := C1) (g := 84) (fn := Tryz.f84) rfl (fnBy_of Tryz.func84 rfl) rfl, pureF, G_isVersion, Cl_3 (C := C1) (g := 127) (fn := Tryz.f127) rfl (fnBy_of Tryz.func127 rfl) rfl, G_check, hp, h1, h2]
      simp
    · have e : (x.text == []) = false := by simpa using h2
      simp (config := {contextual := true}) only [↓bD, bL, stps, stpOf, ev, getT, setT, ofConst, AV.cells, notBad, loadObj, TI.agg, fieldAddrA, binP, binA, symA, intOp, strOp, eqOp, unA, lenA, resA, padT, List.replicate, Option.or, hputs, ↓reduceIte, Nat.reduceLT, Nat.reduceAdd, Nat.reduceSub, fin, List.mapM_cons, List.mapM_nil, scalarN, plainN, C1_ty, ty3, ty4, ty9, ty107, Tryz.ntmps125, Tryz.results125, Cl_3 (C := C1) (g := 84) (fn := Tryz.f84) rfl (fnBy_of Tryz.func84 rfl) rfl, pureF, G_isVersion, Cl_3 (C := C1) (g := 127) (fn := Tryz.f127) rfl (fnBy_of Tryz.func127 rfl) rfl, G_check, hp, h1, h2, e]
      by_cases hf : x.folder = true
      · simp [hf]
      · by_cases hl : 300 < x.text.length
        · have hl' : (300 : Int) < (x.text.length : Int) := by omega
          simp [hf, hl, hl']
        · have hl' : ¬ (300 : Int) < (x.text.length : Int) := by omega
          simp only [hf, hl, hl', if_false]
          cases isVersion x.version <;> simp
  · simp (config := {contextual := true}) only [↓bD, bL, stps, stpOf, ev, getT, setT, ofConst, AV.cells, notBad, loadObj, TI.agg, fieldAddrA, binP, binA, symA, intOp, resA, padT, List.replicate, Option.or, hputs, ↓reduceIte, Nat.reduceLT, Nat.reduceAdd, Nat.reduceSub, fin, List.mapM_cons, List.mapM_nil, scalarN, plainN, C1_ty, ty9, ty107, Tryz.ntmps125, Tryz.results125, pureF, Cl_3 (C := C1) (g := 127) (fn := Tryz.f127) rfl (fnBy_of Tryz.func127 rfl) rfl, G_check, hp, h1]
theorem G_checkEntry (x : Entry) (hp : x.path.length ≤ 1099511627776) : G3 C1 Tryz.f125 [.agg [.str x.path, .bool x.folder, .str x.text, .int .i64 x.version]] = some (.int .i64 (checkEntry x)) := G3_eq (R_checkEntry x hp)
-- REG tree.parent G_parent
theorem R_parent (t : List Entry) (p : Str) (ht : t.length ≤ 1099511627776) (hp : p.length ≤ 1099511627776) (hm : Mono (fun x : Entry => cmpS x.path (parentOf p)) t) : Run3 C1 Tryz.f126 [.rows false (t.map Entry.cells), .str p] (.tuple [.agg (parentE t p).1.cells, .bool (parentE t p).2]) := by
  refine Run3.mk (fn := Tryz.f126) rfl ?_
  by_cases h1 : parentOf p = []
  · have hpe : parentE t p = (⟨[], true, [], 0⟩, true) := by unfold parentE; rw [if_pos h1]
    have e1 : (parentOf p == []) = true := by simpa using h1
    rw [hpe]
    simp (config := {contextual := true}) only [↓bD, bL, stps, stpOf, ev, getT, setT, ofConst, AV.cells, AV.one, loadObj, TI.agg, binP, binA, symA, strOp, storeOk, putCells, resA, padT, List.replicate, Option.or, hputs, ↓reduceIte, Nat.reduceLT, Nat.reduceLeDiff, Nat.reduceAdd, Nat.reduceSub, fin, List.mapM_cons, List.mapM_nil, scalarN, plainN, fillA, buildA, C1_ty, ty107, Tryz.ntmps126, Tryz.results126, pureF, Cl_3 (C := C1) (g := 139) (fn := Tryz.f139) rfl (fnBy_of Tryz.func139 rfl) rfl, G_split, hp, e1]
  · have e1 : (parentOf p == []) = false := by simpa using h1
    rcases bsF_find (fun x : Entry => cmpS x.path (parentOf p)) t with ⟨hf, x, hx, hb⟩ | ⟨hf, hb⟩
    · have hlt : (bsI (fun x : Entry => cmpS x.path (parentOf p)) t : Int) < (t.length : Int) := by
        have := (List.getElem?_eq_some_iff.1 hx).1; omega
      have hpe : parentE t p = (x, true) := by unfold parentE; rw [if_neg h1, hb]
      rw [hpe]
      simp (config := {contextual := true}) only [↓bD, bL, stps, stpOf, ev, getT, setT, ofConst, AV.cells, AV.one, loadObj, TI.agg, indexAddrA, binP, binA, symA, strOp, unA, storeOk, putCells, elemTI, resA, padT, List.replicate, Option.or, hputs, ↓reduceIte, reduceCtorEq, Nat.reduceLT, Nat.reduceAdd, Nat.reduceSub, fin, List.mapM_cons, List.mapM_nil, scalarN, plainN, C1_ty, ty35, ty107, Tryz.ntmps126, Tryz.results126, Cl_3 (C := C1) (g := 128) (fn := Tryz.f128) rfl (fnBy_of Tryz.func128 rfl) rfl, pureF, G_at, Cl_3 (C := C1) (g := 139) (fn := Tryz.f139) rfl (fnBy_of Tryz.func139 rfl) rfl, G_split, ht, hp, hm, e1, hf, hx, hlt]
    · have hpe : parentE t p = (zeroE, false) := by unfold parentE; rw [if_neg h1, hb]
      rw [hpe]
      simp (config := {contextual := true}) only [↓bD, bL, stps, stpOf, ev, getT, setT, ofConst, AV.cells, AV.one, loadObj, TI.agg, binP, binA, symA, strOp, unA, storeOk, putCells, resA, padT, List.replicate, Option.or, hputs, ↓reduceIte, Nat.reduceLT, Nat.reduceAdd, Nat.reduceSub, fin, List.mapM_cons, List.mapM_nil, scalarN, plainN, fillA, buildA, C1_ty, ty107, Tryz.ntmps126, Tryz.results126, Cl_3 (C := C1) (g := 128) (fn := Tryz.f128) rfl (fnBy_of Tryz.func128 rfl) rfl, pureF, G_at, Cl_3 (C := C1) (g := 139) (fn := Tryz.f139) rfl (fnBy_of Tryz.func139 rfl) rfl, G_split, ht, hp, hm, e1, hf, zeroE]
theorem G_parent (t : List Entry) (p : Str) (ht : t.length ≤ 1099511627776) (hp : p.length ≤ 1099511627776) (hm : Mono (fun x : Entry => cmpS x.path (parentOf p)) t) : G3 C1 Tryz.f126 [.rows false (t.map Entry.cells), .str p] = some (.tuple [.agg (parentE t p).1.cells, .bool (parentE t p).2]) := G3_eq (R_parent t p ht hp hm)

-- REG tree.checkTree G_checkTree
theorem R_checkTree (t : List Entry) (ht : t.length ≤ 1099511627776) (hp : ∀ x ∈ t, x.path.length ≤ 1099511627776) : Run3 C1 Tryz.f106 [.rows false (t.map Entry.cells)] (.int .i64 (checkTree t)) := by
  refine Run3.mk (fn := Tryz.f106) rfl ?_
  unfold checkTree
  by_cases h60 : 60 < t.length
  · have h60' : (60 : Int) < (t.length : Int) := by omega
    simp (config := {contextual := true}) only [↓bD, bL, stps, stpOf, ev, getT, setT, ofConst, binP, binA, symA, intOp, lenA, resA, padT, List.replicate, Option.or, ↓reduceIte, Nat.reduceLT, Nat.reduceAdd, Nat.reduceSub, fin, C1_ty, ty35, Tryz.ntmps106, Tryz.results106, h60, h60']
  · have h60' : ¬ (60 : Int) < (t.length : Int) := by omega
    simp (config := {contextual := true}) only [↓bD, bL, stps, stpOf, ev, getT, setT, ofConst, binP, binA, symA, intOp, lenA, padT, List.replicate, Option.or, ↓reduceIte, Nat.reduceLT, Nat.reduceAdd, Nat.reduceSub, C1_ty, ty35, Tryz.ntmps106, h60']
    refine X_loop (fun (rem : List Entry) T st => ∃ k : Nat, getT T 17 = .int .i64 (k : Nat) ∧ t.drop k = rem ∧ firstErr checkEntry (t.take k) = 0) List.length
      (fun e T st => (e = .ret ∧ firstErr checkEntry t ≠ 0 ∧ getT T 2 = .int .i64 (firstErr checkEntry t)) ∨ (e = .exit 0 ∧ firstErr checkEntry t = 0)) t ⟨0, rfl, rfl, rfl⟩ ?_ ?_
    · rintro rem T st hF hc hb ⟨k, hk, hd, hz⟩
      have h15 := hF 15 rfl
      have h16 := hF 16 rfl
      simp only [getT] at h15 h16
      clear hF
      cases rem with
      | nil =>
        have hn := drop_nil_len hd
        have hlt : ¬ (k : Int) < (t.length : Int) := by omega
        rw [List.take_of_length_le hn] at hz
        simp (config := {contextual := true}) only [↓bD, bL, stps, stpOf, ev, binP, binA, symA, intOp, Option.or, ↓reduceIte, reduceCtorEq, Nat.reduceEqDiff, Nat.reduceLT, hk, h16, hlt, hz]
      | cons x rem =>
        obtain ⟨hx, hlt0, hd', ht'⟩ := drop_cons_get hd
        have hxp := hp x (List.mem_of_getElem? hx)
        have hlt : (k : Int) < (t.length : Int) := by omega
        have hw : IntKind.i64.wrap ((k : Int) + 1) = ((k + 1 : Nat) : Int) := by rw [Int.natCast_add]; exact wrap_i64 (by omega) (by omega)
        have hbar : st.bar = 0 := hb
        have hfe : firstErr checkEntry t = firstErr checkEntry (x :: rem) := by
          rw [← List.take_append_drop k t, firstErr_append, hz, hd]; simp
        have hfe2 : firstErr checkEntry (t.take (k + 1)) = checkEntry x := by
          rw [ht', firstErr_append, hz]; simp only [firstErr, ne_eq, not_true_eq_false, if_false]
          split
          · rfl
          · rename_i q; exact (Classical.not_not.1 q).symm
        by_cases hce : checkEntry x = 0
        · simp (config := {contextual := true}) only [↓bD, bL, stps, stpOf, ev, ofConst, AV.cells, AV.one, loadObj, TI.agg, indexAddrA, binP, binA, symA, intOp, storeOk, putCells, elemTI, Option.or, hputs, ↓reduceIte, reduceCtorEq, Nat.reduceEqDiff, Nat.reduceLT, Nat.reduceAdd, fin, List.mapM_cons, List.mapM_nil, scalarN, plainN, C1_ty, ty35, ty107, Cl_3 (C := C1) (g := 125) (fn := Tryz.f125) rfl (fnBy_of Tryz.func125 rfl) rfl, pureF, G_checkEntry, hk, h15, h16, hlt, hx, hw, hbar, hce, hxp]
          exact ⟨rem, by simp, k + 1, rfl, hd', by rw [hfe2, hce]⟩
        · have hfe3 : firstErr checkEntry t = checkEntry x := by rw [hfe]; simp [firstErr, hce]
          simp (config := {contextual := true}) only [↓bD, bL, stps, stpOf, ev, ofConst, AV.cells, AV.one, loadObj, TI.agg, indexAddrA, binP, binA, symA, intOp, storeOk, putCells, elemTI, Option.or, hputs, ↓reduceIte, reduceCtorEq, Nat.reduceEqDiff, Nat.reduceLT, Nat.reduceAdd, fin, List.mapM_cons, List.mapM_nil, scalarN, plainN, C1_ty, ty35, ty107, Cl_3 (C := C1) (g := 125) (fn := Tryz.f125) rfl (fnBy_of Tryz.func125 rfl) rfl, pureF, G_checkEntry, hk, h15, h16, hlt, hx, hbar, hce, hfe3, hxp]
    · rintro e T st he hF hc hb (⟨rfl, h4, h2⟩ | ⟨rfl, h4⟩)
      · simp only [↓bD, bL, resA, ↓reduceIte, fin, Tryz.results106, h4, h2, h60]
      · have h0 := hF 0 rfl
        simp only [getT] at h0
        clear hF
        have hbar : st.bar = 0 := hb
        simp (config := {contextual := true}) only [↓bD, bL, stps, stpOf, ev, ofConst, ↓reduceIte, Nat.reduceLT, Tryz.ntmps106, hbar]
        refine X_loop (fun (rem : List (Entry × Entry)) T st => ∃ k : Nat, getT T 6 = .int .i64 ((k + 1 : Nat) : Int) ∧ (t.zip t.tail).drop k = rem ∧ ((t.zip t.tail).take k).all (fun q => !lePath q.2 q.1) = true) List.length
          (fun e T st => (e = .ret ∧ ascBy lePath t = false ∧ getT T 2 = .int .i64 4) ∨ (e = .exit 2 ∧ ascBy lePath t = true)) (t.zip t.tail) ⟨0, by simp [getT_setT], rfl, by simp⟩ ?_ ?_
        · rintro rem T2 st2 hF hc2 hb2 ⟨k, hk, hd, hz⟩
          have g0 := hF 0 rfl
          simp only [getT_setT, h0] at g0
          clear hF
          have hlz := zip_tail_len t
          cases rem with
          | nil =>
            have hn := drop_nil_len hd
            have hlt : ¬ ((k + 1 : Nat) : Int) < (t.length : Int) := by omega
            rw [List.take_of_length_le hn] at hz
            simp (config := {contextual := true}) only [↓bD, bL, stps, stpOf, ev, binP, binA, symA, intOp, lenA, Option.or, ↓reduceIte, reduceCtorEq, Nat.reduceEqDiff, Nat.reduceLT, Nat.reduceAdd, C1_ty, ty35, hk, g0, hlt]
            exact hz
          | cons q rem =>
            obtain ⟨hx, hlt0, hd', ht'⟩ := drop_cons_get hd
            obtain ⟨hq1, hq2⟩ := zip_tail_get hx
            have hlt : ((k + 1 : Nat) : Int) < (t.length : Int) := by omega
            have hlt2 : (k : Int) < (t.length : Int) := by omega
            have hw : IntKind.i64.wrap (((k + 1 : Nat) : Int) + 1) = ((k + 1 + 1 : Nat) : Int) := by rw [Int.natCast_add (k + 1)]; exact wrap_i64 (by omega) (by omega)
            have hw2 : IntKind.i64.wrap (((k + 1 : Nat) : Int) - 1) = (k : Int) := by rw [show ((k + 1 : Nat) : Int) - 1 = (k : Int) by omega]; exact wrap_i64 (by omega) (by omega)
            cases hle : leS q.2.path q.1.path with
            | true =>
              have hfa : ascBy lePath t = false := by
                unfold ascBy
                rw [List.all_eq_false]
                exact ⟨q, List.mem_of_getElem? hx, by simp [lePath, hle]⟩
              have hle' := hle
              unfold leS at hle'
              simp (config := {contextual := true}) only [↓bD, bL, stps, stpOf, ev, ofConst, loadObj, TI.agg, fieldAddrA, indexAddrA, binP, binA, symA, intOp, strOp, lenA, elemTI, Option.or, ↓reduceIte, reduceCtorEq, Nat.reduceEqDiff, Nat.reduceLT, Nat.reduceAdd, looks, C1_ty, ty9, ty35, ty107, hk, g0, hlt, hlt2, hq1, hq2, hw2, hle', hfa]
              kernel_rfl
            | false =>
              have hle' := hle
              unfold leS at hle'
              simp (config := {contextual := true}) only [↓bD, bL, stps, stpOf, ev, ofConst, loadObj, TI.agg, fieldAddrA, indexAddrA, binP, binA, symA, intOp, strOp, lenA, elemTI, Option.or, ↓reduceIte, reduceCtorEq, Nat.reduceEqDiff, Nat.reduceLT, Nat.reduceAdd, looks, C1_ty, ty9, ty35, ty107, hk, g0, hlt, hlt2, hq1, hq2, hw, hw2, hle']
              refine ⟨by kernel_rfl, ?_⟩
              exact ⟨rem, by simp, k + 1, rfl, hd', by rw [ht', List.all_append, hz]; simp [lePath, hle]⟩
        · rintro e T2 st2 he2 hF hc2 hb2 (⟨rfl, h5, h2⟩ | ⟨rfl, h5⟩)
          · simp only [↓bD, bL, resA, ↓reduceIte, fin, Tryz.results106, h4, h5, h2, h60]
          · have g0 := hF 0 rfl
            simp only [getT_setT, h0] at g0
            clear hF
            have hbar2 : st2.bar = 0 := by rw [hb2]
            simp (config := {contextual := true}) only [↓bD, bL, stps, stpOf, ev, ofConst, lenA, ↓reduceIte, reduceCtorEq, Nat.reduceLT, Nat.reduceAdd, C1_ty, ty35, Tryz.ntmps106, g0, hbar2]
            refine X_loop (fun (rem : List Entry) T st => ∃ k : Nat, getT T 47 = .int .i64 (k : Nat) ∧ t.drop k = rem ∧ (t.take k).any (fun x => !(parentE t x.path).2) = false ∧ getT T 7 = .int .i64 (if (t.take k).any (fun x => !(parentE t x.path).1.folder) then 4 else 0)) List.length
              (fun e T st => (e = .ret ∧ t.any (fun x => !(parentE t x.path).2) = true ∧ getT T 2 = .int .i64 5) ∨ (e = .exit 4 ∧ t.any (fun x => !(parentE t x.path).2) = false ∧ getT T 7 = .int .i64 (if t.any (fun x => !(parentE t x.path).1.folder) then 4 else 0))) t ⟨0, by simp [getT_setT], rfl, by simp, by simp [getT_setT]⟩ ?_ ?_
            · rintro rem T3 st3 hF hc3 hb3 ⟨k, hk, hd, hz, h7⟩
              have k0 := hF 0 rfl
              have k45 := hF 45 rfl
              have k46 := hF 46 rfl
              simp only [getT_setT, g0, ↓reduceIte, reduceCtorEq, Nat.reduceEqDiff] at k0 k45 k46
              clear hF
              cases rem with
              | nil =>
                have hn := drop_nil_len hd
                have hlt : ¬ (k : Int) < (t.length : Int) := by omega
                rw [List.take_of_length_le hn] at hz h7
                simp (config := {contextual := true}) only [↓bD, bL, stps, stpOf, ev, binP, binA, symA, intOp, Option.or, ↓reduceIte, reduceCtorEq, Nat.reduceEqDiff, Nat.reduceLT, hk, k46, hlt, h7, hz]
              | cons x rem =>
                obtain ⟨hx, hlt0, hd', ht'⟩ := drop_cons_get hd
                have hlt : (k : Int) < (t.length : Int) := by omega
                have hw : IntKind.i64.wrap ((k : Int) + 1) = ((k + 1 : Nat) : Int) := by rw [Int.natCast_add]; exact wrap_i64 (by omega) (by omega)
                have hbar3 : st3.bar = 0 := by rw [hb3]
                have hxp := hp x (List.mem_of_getElem? hx)
                have hmx := asc_mono h5 (parentOf x.path)
                have hg := G_parent t x.path ht hxp hmx
                rw [Entry.cells_eq] at hg
                cases hok : (parentE t x.path).2 with
                | false =>
                  have hany : t.any (fun x => !(parentE t x.path).2) = true := by
                    rw [List.any_eq_true]; exact ⟨x, List.mem_of_getElem? hx, by simp [hok]⟩
                  rw [hok] at hg
                  simp (config := {contextual := true}) only [↓bD, bL, stps, stpOf, ev, ofConst, AV.cells, AV.one, loadObj, TI.agg, fieldAddrA, indexAddrA, binP, binA, symA, intOp, unA, storeOk, putCells, elemTI, Option.or, hputs, ↓reduceIte, reduceCtorEq, Nat.reduceEqDiff, Nat.reduceLT, Nat.reduceAdd, fin, List.mapM_cons, List.mapM_nil, scalarN, plainN, C1_ty, ty9, ty35, ty107, pureF, Cl_3 (C := C1) (g := 126) (fn := Tryz.f126) rfl (fnBy_of Tryz.func126 rfl) rfl, hk, k0, k45, k46, hlt, hx, hbar3, hg, hany]
                | true =>
                  rw [hok] at hg
                  cases hfo : (parentE t x.path).1.folder with
                  | false =>
                    rw [hfo] at hg
                    simp (config := {contextual := true}) only [↓bD, bL, stps, stpOf, ev, ofConst, AV.cells, AV.one, loadObj, TI.agg, fieldAddrA, indexAddrA, binP, binA, symA, intOp, unA, storeOk, putCells, elemTI, Option.or, hputs, ↓reduceIte, reduceCtorEq, Nat.reduceEqDiff, Nat.reduceLT, Nat.reduceAdd, fin, List.mapM_cons, List.mapM_nil, scalarN, plainN, C1_ty, ty4, ty9, ty35, ty107, pureF, Cl_3 (C := C1) (g := 126) (fn := Tryz.f126) rfl (fnBy_of Tryz.func126 rfl) rfl, hk, k0, k45, k46, hlt, hx, hw, hbar3, hg]
                    exact ⟨rem, by simp, k + 1, rfl, hd', by rw [ht', List.any_append, hz]; simp [hok], by rw [ht', List.any_append]; simp [hfo]⟩
                  | true =>
                    rw [hfo] at hg
                    simp (config := {contextual := true}) only [↓bD, bL, stps, stpOf, ev, ofConst, AV.cells, AV.one, loadObj, TI.agg, fieldAddrA, indexAddrA, binP, binA, symA, intOp, unA, storeOk, putCells, elemTI, Option.or, hputs, ↓reduceIte, reduceCtorEq, Nat.reduceEqDiff, Nat.reduceLT, Nat.reduceAdd, fin, List.mapM_cons, List.mapM_nil, scalarN, plainN, C1_ty, ty4, ty9, ty35, ty107, pureF, Cl_3 (C := C1) (g := 126) (fn := Tryz.f126) rfl (fnBy_of Tryz.func126 rfl) rfl, hk, k0, k45, k46, hlt, hx, hw, hbar3, hg, h7]
                    exact ⟨rem, by simp, k + 1, rfl, hd', by rw [ht', List.any_append, hz]; simp [hok], by rw [ht', List.any_append]; simp [hfo]⟩
            · rintro e T3 st3 he3 hF hc3 hb3 (⟨rfl, h6, h2⟩ | ⟨rfl, h6, h7⟩)
              · simp only [↓bD, bL, resA, ↓reduceIte, fin, Tryz.results106, h4, h5, h6, h2, h60]
              · simp only [↓bD, bL, stps, stpOf, ev, resA, ↓reduceIte, Nat.reduceLT, Nat.reduceAdd, fin, Tryz.ntmps106, Tryz.results106, h4, h5, h6, h7, h60]
theorem G_checkTree (t : List Entry) (ht : t.length ≤ 1099511627776) (hp : ∀ x ∈ t, x.path.length ≤ 1099511627776) : G3 C1 Tryz.f106 [.rows false (t.map Entry.cells)] = some (.int .i64 (checkTree t)) := G3_eq (R_checkTree t ht hp)
end Go.Ab.Seat
/- the document's paths. -/
namespace Go.Ab.Seat
open Go Go.Proofs
-- CFG C1
set_option linter.unusedSimpArgs false
set_option linter.unusedVariables false
set_option maxHeartbeats 4000000
set_option maxRecDepth 100000


-- REG R.NamesOf G_namesOf
theorem R_namesOf (p : Str) (hp : p.length ≤ 4398046511104) : Run3 C1 Tryz.f111 [.str p] (.rows false ((names p).map sCells)) := by
  refine Run3.mk (fn := Tryz.f111) rfl ?_
  simp only [↓bD, bL, stps, stpOf, ev, setT, ofConst, padT, List.replicate, Nat.reduceLT, Nat.reduceAdd, Nat.reduceSub, Tryz.ntmps111]
  refine X_loop (fun (rem : Str) T st => ∃ (k f : Nat) (v : AV) (ns : List Str), getT T 5 = .int .i64 (k : Nat) ∧ p.drop k = rem ∧ k ≤ p.length ∧ getT T 4 = .int .i64 (f : Nat) ∧ f ≤ k ∧ getT T 3 = v ∧ OwnT st.h st.c v ns ∧ ns.length ≤ k ∧ names (p.take k) = ns ++ [(p.take k).drop f]) List.length
    (fun e T st => e = .exit 0 ∧ ∃ (f : Nat) (v : AV) (ns : List Str), getT T 4 = .int .i64 (f : Nat) ∧ f ≤ p.length ∧ getT T 3 = v ∧ OwnT st.h st.c v ns ∧ ns.length ≤ p.length ∧ names p = ns ++ [p.drop f]) p
    ⟨0, 0, .rows true [], [], rfl, rfl, Nat.zero_le _, rfl, Nat.le_refl _, rfl, .inl ⟨rfl, rfl⟩, Nat.zero_le _, by simp [names]⟩ ?_ ?_
  · rintro rem T st hF hc hb ⟨k, f, v, ns, h5, hd, hkp0, h4, hf, h3, ho, hnl, hn⟩
    have h0 := hF 0 rfl
    simp only [getT] at h0
    clear hF
    have hbar : st.bar = 0 := hb
    cases rem with
    | nil =>
      have hnk := drop_nil_len hd
      have hlt : ¬ (k : Int) < (p.length : Int) := by omega
      rw [List.take_of_length_le hnk] at hn
      simp only [↓bD, bL, stps, stpOf, ev, binP, binA, symA, intOp, lenA, Option.or, ↓reduceIte, reduceCtorEq, Nat.reduceEqDiff, Nat.reduceLT, Nat.reduceAdd, C1_ty, ty9, Nat.add_assoc, h5, h4, h3, h0, hlt]
      have hkl : k ≤ p.length := hkp0
      exact ⟨f, v, ns, rfl, by omega, rfl, by simpa [hputs] using ho.up (by omega), by omega, hn⟩
    | cons x rem =>
      obtain ⟨hx, hlt0, hd', ht'⟩ := drop_cons_get hd
      have hlt : (k : Int) < (p.length : Int) := by omega
      have hw : IntKind.i64.wrap ((k : Int) + 1) = ((k + 1 : Nat) : Int) := by rw [Int.natCast_add]; exact wrap_i64 (by omega) (by omega)
      have hx47 : ((x.toNat : Int) = 47) ↔ x = 47 := by rw [show (47 : Int) = ((47 : UInt8).toNat : Int) from rfl, Int.ofNat_inj, UInt8.toNat_inj]
      have hfk : (f : Int) ≤ (k : Int) := by omega
      have hkp : (k : Int) ≤ (p.length : Int) := by omega
      by_cases hs : x = 47
      · rcases ho with ⟨rfl, rfl⟩ | ⟨hne, s, rfl, hsc, hg⟩
        · simp only [↓bD, bL, stps, stpOf, ev, ofConst, AV.cells, AV.one, indexA, binP, binA, symA, intOp, lenA, putCells, elemTI, List.replicate, Option.or, hputs, ↓reduceIte, reduceCtorEq, Nat.reduceEqDiff, Nat.reduceLT, Nat.reduceLeDiff, Nat.reduceAdd, bound, sliceA, buildSliceA, fillA, appendA, elemsOf, C1_ty, ty9, ty61, beqD, Nat.add_assoc, h5, h4, h3, h0, hlt, hx, hw, hbar, hx47, eq_true hs, hfk, hkp]
          refine ⟨rem, by simp, k + 1, k + 1, _, [List.drop f (List.take k p)], rfl, hd', by omega, rfl, Nat.le_refl _, rfl, .inr ⟨by simp, _, rfl, by simp, by rw [hget_hput, if_pos rfl]; rfl⟩, by simp, ?_⟩
          rw [ht', hs, names_snoc_sep, hn]; simp; omega
        · have hne1 : ∀ j, (st.c + j = s) = False := fun j => by simp; omega
          have hb1 : (ns.length + 1) * 16 ≤ 140737488355328 := by omega
          have hb2 : ns.length ≤ 9223372036854775806 := by omega
          simp only [↓bD, bL, stps, stpOf, ev, ofConst, AV.cells, AV.one, indexA, binP, binA, symA, intOp, lenA, putCells, elemTI, List.replicate, Option.or, hputs, ↓reduceIte, reduceCtorEq, Nat.reduceEqDiff, Nat.reduceLT, Nat.reduceLeDiff, Nat.reduceAdd, bound, sliceA, buildSliceA, fillA, appendA, elemsOf, C1_ty, ty9, ty61, beqD, Nat.add_assoc, h5, h4, h3, h0, hlt, hx, hw, hbar, hx47, eq_true hs, hfk, hkp, hne1, hg, hb1, hb2]
          refine ⟨rem, by simp, k + 1, k + 1, _, ns ++ [List.drop f (List.take k p)], rfl, hd', by omega, rfl, Nat.le_refl _, rfl, .inr ⟨by simp, st.c + 14, by simp, by omega, ?_⟩, by simp; omega, ?_⟩
          · rw [hget_hput, if_pos rfl]; simp
          · rw [ht', hs, names_snoc_sep, hn]; simp; omega
      · simp only [↓bD, bL, stps, stpOf, ev, ofConst, indexA, binP, binA, symA, intOp, lenA, Option.or, ↓reduceIte, reduceCtorEq, Nat.reduceEqDiff, Nat.reduceLT, Nat.reduceAdd, C1_ty, ty9, beqD, Nat.add_assoc, h5, h4, h3, h0, hlt, hx, hw, hbar, hx47, eq_false hs]
        refine ⟨rem, by simp, k + 1, f, v, ns, rfl, hd', by omega, rfl, by omega, rfl, ho.up (by omega), by omega, ?_⟩
        obtain ⟨ms, m, e1, e2⟩ := names_snoc (p.take k) x hs
        rw [hn] at e1
        obtain ⟨rfl, e3⟩ := List.append_inj' e1 rfl
        simp only [List.cons.injEq, and_true] at e3
        rw [ht', e2, ← e3, List.drop_append_of_le_length (by rw [List.length_take]; omega)]
  · rintro e T st he hF hc hb ⟨rfl, f, v, ns, h4, hf, h3, ho, hnl, hn⟩
    have h0 := hF 0 rfl
    simp only [getT] at h0
    clear hF
    have hbar : st.bar = 0 := hb
    have hfp : (f : Int) ≤ (p.length : Int) := by omega
    rw [hn]
    rcases ho with ⟨rfl, rfl⟩ | ⟨hne, s, rfl, hsc, hg⟩
    · simp only [↓bD, bL, stps, stpOf, ev, ofConst, AV.cells, AV.one, putCells, elemTI, resA, List.replicate, hputs, ↓reduceIte, reduceCtorEq, Nat.reduceEqDiff, Nat.reduceLT, Nat.reduceLeDiff, Nat.reduceAdd, fin, List.mapM_cons, List.mapM_nil, bound, sliceA, buildSliceA, fillA, chunks, appendA, elemsOf, C1_ty, ty9, ty61, Tryz.ntmps111, Tryz.results111, beqD, Nat.add_assoc, h4, h3, h0, hbar, hfp, List.take_length]
    · have hne1 : ∀ j, (st.c + j = s) = False := fun j => by simp; omega
      have hb1 : (ns.length + 1) * 16 ≤ 140737488355328 := by omega
      have hb2 : ns.length ≤ 9223372036854775806 := by omega
      simp only [↓bD, bL, stps, stpOf, ev, ofConst, AV.cells, AV.one, putCells, elemTI, resA, List.replicate, hputs, ↓reduceIte, reduceCtorEq, Nat.reduceEqDiff, Nat.reduceLT, Nat.reduceLeDiff, Nat.reduceAdd, bound, sliceA, buildSliceA, fillA, appendA, elemsOf, C1_ty, ty9, ty61, Tryz.ntmps111, Tryz.results111, Nat.add_assoc, h4, h3, h0, hbar, hfp, hne1, hg, hb1, hb2, List.take_length]
      refine fin_ownT (c := st.c + 7) (.inr ⟨by simp, st.c + 5, by simp, by omega, ?_⟩)
      rw [hget_hput, if_pos rfl]; simp
theorem G_namesOf (p : Str) (hp : p.length ≤ 4398046511104) : G3 C1 Tryz.f111 [.str p] = some (.rows false ((names p).map sCells)) := G3_eq (R_namesOf p hp)
end Go.Ab.Seat
/- the document's paths. -/
namespace Go.Ab.Seat
open Go Go.Proofs
-- CFG C1
set_option linter.unusedSimpArgs false
set_option linter.unusedVariables false
set_option maxHeartbeats 4000000
set_option maxRecDepth 100000



-- REG R.TooGreat G_tooGreat
theorem R_tooGreat (p : Str) (hp : p.length ≤ 4398046511104) : Run3 C1 Tryz.f112 [.str p] (.bool (great p)) := by
  refine Run3.mk (fn := Tryz.f112) rfl ?_
  rw [great_eq]
  have e1 : ((names p).length : Int) = ((names p).length : Nat) := rfl
  by_cases h1 : 6 < (names p).length
  · have h1' : (6 : Int) < ((names p).length : Nat) := by omega
    simp only [↓bD, bL, stps, stpOf, ev, getT, setT, ofConst, binP, binA, symA, intOp, lenA, resA, padT, List.replicate, Option.or, hputs, ↓reduceIte, Nat.reduceLT, Nat.reduceAdd, Nat.reduceSub, fin, List.mapM_cons, List.mapM_nil, scalarN, plainN, C1_ty, ty61, Tryz.ntmps112, Tryz.results112, Cl_3 (C := C1) (g := 111) (fn := Tryz.f111) rfl (fnBy_of Tryz.func111 rfl) rfl, pureF, G_namesOf, hp, eq_true h1, eq_true h1']
  · have h1' : ¬ (6 : Int) < ((names p).length : Nat) := by omega
    by_cases h2 : 80 < p.length
    · have h2' : (80 : Int) < (p.length : Nat) := by omega
      simp only [↓bD, bL, stps, stpOf, ev, getT, setT, ofConst, binP, binA, symA, intOp, lenA, resA, padT, List.replicate, Option.or, hputs, ↓reduceIte, Nat.reduceLT, Nat.reduceAdd, Nat.reduceSub, fin, List.mapM_cons, List.mapM_nil, scalarN, plainN, C1_ty, ty9, ty61, Tryz.ntmps112, Tryz.results112, Cl_3 (C := C1) (g := 111) (fn := Tryz.f111) rfl (fnBy_of Tryz.func111 rfl) rfl, pureF, G_namesOf, hp, eq_false h1, eq_false h1', eq_true h2, eq_true h2']
    · have h2' : ¬ (80 : Int) < (p.length : Nat) := by omega
      simp only [↓bD, bL, stps, stpOf, ev, getT, setT, ofConst, binP, binA, symA, intOp, lenA, resA, padT, List.replicate, Option.or, hputs, ↓reduceIte, Nat.reduceLT, Nat.reduceAdd, Nat.reduceSub, fin, List.mapM_cons, List.mapM_nil, scalarN, plainN, C1_ty, ty9, ty61, Tryz.ntmps112, Tryz.results112, Cl_3 (C := C1) (g := 111) (fn := Tryz.f111) rfl (fnBy_of Tryz.func111 rfl) rfl, pureF, G_namesOf, hp, eq_false h1, eq_false h1', eq_false h2, eq_false h2']
theorem G_tooGreat (p : Str) (hp : p.length ≤ 4398046511104) : G3 C1 Tryz.f112 [.str p] = some (.bool (great p)) := G3_eq (R_tooGreat p hp)
-- REG R.IsVersion G_rIsVersion
theorem R_rIsVersion (n : Int) : Run3 C1 Tryz.f64 [.int .i64 n] (.bool (isVersion n)) := by
  refine Run3.mk (fn := Tryz.f64) rfl ?_
  unfold isVersion
  by_cases h1 : 1 ≤ n
  · by_cases h2 : n ≤ 1000000
    · first | (exfalso; omega) | (simp (config := {maxSteps := 1000000}) only [↓bD, bL, stps, stpOf, ev, getT, setT, ofConst, binP, binA, symA, intOp, resA, padT, List.replicate, Option.or, ↓reduceIte, Nat.reduceLT, Nat.reduceAdd, Nat.reduceSub, fin, Tryz.ntmps64, Tryz.results64, eq_true h1, eq_true h2])
    · first | (exfalso; omega) | (simp (config := {maxSteps := 1000000}) only [↓bD, bL, stps, stpOf, ev, getT, setT, ofConst, binP, binA, symA, intOp, resA, padT, List.replicate, Option.or, ↓reduceIte, Nat.reduceLT, Nat.reduceAdd, Nat.reduceSub, fin, Tryz.ntmps64, Tryz.results64, eq_true h1, eq_false h2])
  · by_cases h2 : n ≤ 1000000
    · first | (exfalso; omega) | (simp (config := {maxSteps := 1000000}) only [↓bD, bL, stps, stpOf, ev, getT, setT, ofConst, binP, binA, symA, intOp, resA, padT, List.replicate, Option.or, ↓reduceIte, Nat.reduceLT, Nat.reduceAdd, Nat.reduceSub, fin, Tryz.ntmps64, Tryz.results64, eq_false h1, eq_true h2])
    · first | (exfalso; omega) | (simp (config := {maxSteps := 1000000}) only [↓bD, bL, stps, stpOf, ev, getT, setT, ofConst, AV.cells, notBad, AV.one, loadObj, TI.agg, fieldAddrA, fieldA, part, indexAddrA, indexA, convA, binP, binA, symA, intOp, strOp, eqOp, unA, lenA, storeOk, putCells, elemTI, resA, padT, List.replicate, Option.or, hputs, ↓reduceIte, reduceCtorEq, Nat.reduceEqDiff, Nat.reduceLT, Nat.reduceLeDiff, Nat.reduceAdd, Nat.reduceSub, Nat.reduceMul, String.reduceEq, fin, List.mapM_cons, List.mapM_nil, scalarN, plainN, hookLooks, looks1, bound, sliceA, buildSliceA, fillA, chunks, strOf, buildA, looks, keyTI, keyMatch, appendA, elemsOf, C1_ty, ty3, Tryz.ntmps64, Tryz.results64, beqD, bneD, Int.reduceLT, Int.reduceLE, Int.reduceEq, Int.reduceNe, Int.reduceAdd, Int.reduceSub, Int.reduceNeg, decide_not, Bool.decide_eq_true, Bool.decide_eq_false, Int.cast_ofNat_Int, List.cons_ne_nil, ite_eq_left_iff, Bool.not_not, Int.lt_irrefl, Nat.add_assoc, eq_false h1, eq_false h2])
theorem G_rIsVersion (n : Int) : G3 C1 Tryz.f64 [.int .i64 n] = some (.bool (isVersion n)) := G3_eq (R_rIsVersion n)
-- REG R.PathOf G_pathOf
theorem R_pathOf (l : List Str) (hl : l.length ≤ 4398046511104) (hp : (pathOf l).length ≤ 4398046511104) (hs : ∀ s ∈ l, s.length ≤ 4398046511104) : Run3 C1 Tryz.f114 [.rows false (l.map sCells)] (.str (pathOf l)) := by
  refine Run3.mk (fn := Tryz.f114) rfl ?_
  simp only [↓bD, bL, stps, stpOf, ev, setT, ofConst, padT, List.replicate, Nat.reduceLT, Nat.reduceAdd, Nat.reduceSub, Tryz.ntmps114]
  refine X_loop (fun (rem : List Str) T st => ∃ k : Nat, getT T 4 = .int .i64 (k : Nat) ∧ l.drop k = rem ∧ getT T 3 = .str (pathOf (l.take k))) List.length
    (fun e T st => e = .exit 0 ∧ getT T 3 = .str (pathOf l)) l ⟨0, rfl, rfl, rfl⟩ ?_ ?_
  · rintro rem T st hF hc hb ⟨k, hk, hd, h3⟩
    have h0 := hF 0 rfl
    simp only [getT] at h0
    clear hF
    cases rem with
    | nil =>
      have hn := drop_nil_len hd
      have hlt : ¬ (k : Int) < (l.length : Int) := by omega
      rw [List.take_of_length_le hn] at h3
      simp only [↓bD, bL, stps, stpOf, ev, binP, binA, symA, intOp, lenA, Option.or, ↓reduceIte, reduceCtorEq, Nat.reduceEqDiff, Nat.reduceLT, Nat.reduceAdd, C1_ty, ty61, Nat.add_assoc, hk, h0, hlt, h3]
    | cons x rem =>
      obtain ⟨hx, hlt0, hd', ht'⟩ := drop_cons_get hd
      have hlt : (k : Int) < (l.length : Int) := by omega
      have hw : IntKind.i64.wrap ((k : Int) + 1) = ((k + 1 : Nat) : Int) := by rw [Int.natCast_add]; exact wrap_i64 (by omega) (by omega)
      have hpt := pathOf_take l k
      have hxs := hs x (List.mem_of_getElem? hx)
      have hb1 : (pathOf (l.take k)).length + 1 ≤ 9223372036854775807 := by omega
      have hb2 : (pathOf (l.take k)).length + 1 + x.length ≤ 9223372036854775807 := by omega
      have hb3 : (pathOf (l.take k)).length + x.length ≤ 9223372036854775807 := by omega
      have hb4 : (pathOf (l.take k)).length + (1 + x.length) ≤ 9223372036854775807 := by omega
      cases k with
      | zero =>
        have hlt2 : (0 : Int) < (l.length : Int) := by simpa using hlt
        have hx2 : l[Int.toNat 0]? = some x := hx
        have hpt2 : pathOf (l.take 0) = [] := rfl
        have hpt2e : l.take 0 = [] := rfl
        have hb5 : ([] : Str).length + x.length ≤ 9223372036854775807 := by simp; omega
        have hpe : pathOf [] = [] := rfl
        have hb6 : (0 : Nat) + x.length ≤ 9223372036854775807 := by omega
        have hb7 : x.length ≤ 9223372036854775807 := by omega
        simp only [↓bD, bL, stps, stpOf, ev, ofConst, loadObj, TI.agg, indexAddrA, binP, binA, symA, intOp, strOp, lenA, elemTI, Option.or, ↓reduceIte, reduceCtorEq, Nat.reduceEqDiff, Nat.reduceLT, Nat.reduceAdd, C1_ty, ty9, ty61, Int.reduceAdd, Int.cast_ofNat_Int, Int.lt_irrefl, Nat.add_assoc, hk, h0, h3, hlt2, hx2, hpe, hb7]
        exact ⟨rem, by simp, 1, rfl, hd', by rw [ht', hpt2e]; simp [pathOf]⟩
      | succ k =>
        have hpos : (0 : Int) < ((k + 1 : Nat) : Int) := by omega
        simp only [↓bD, bL, stps, stpOf, ev, ofConst, loadObj, TI.agg, indexAddrA, binP, binA, symA, intOp, strOp, lenA, elemTI, Option.or, ↓reduceIte, reduceCtorEq, Nat.reduceEqDiff, Nat.reduceLT, Nat.reduceAdd, C1_ty, ty9, ty61, Nat.add_assoc, hk, h0, h3, hlt, hx, hw, hb1, hb4, hpos]
        exact ⟨rem, by simp, k+2, rfl, hd', by rw [ht', pathOf_snoc, if_neg (by rw [← List.length_eq_zero_iff, List.length_take]; omega)]; simp⟩
  · rintro e T st he hF hc hb ⟨rfl, h3⟩
    simp only [↓bD, bL, stps, stpOf, ev, resA, ↓reduceIte, Nat.reduceLT, Nat.reduceAdd, fin, Tryz.ntmps114, Tryz.results114, Nat.add_assoc, h3]
theorem G_pathOf (l : List Str) (hl : l.length ≤ 4398046511104) (hp : (pathOf l).length ≤ 4398046511104) (hs : ∀ s ∈ l, s.length ≤ 4398046511104) : G3 C1 Tryz.f114 [.rows false (l.map sCells)] = some (.str (pathOf l)) := G3_eq (R_pathOf l hl hp hs)
end Go.Ab.Seat
/- the document's names and paths. -/
namespace Go.Ab.Seat
open Go Go.Proofs
-- CFG C1
set_option linter.unusedSimpArgs false
set_option linter.unusedVariables false
set_option maxHeartbeats 4000000
set_option maxRecDepth 100000

theorem decP {P : Prop} [Decidable P] {b : Bool} (h : decide P = b) : P = (b = true) := by
  rw [← h]; simp
def rowB (c : UInt8) : List Bool := [decide ((97 : Int) ≤ c.toNat), decide ((c.toNat : Int) ≤ 122), decide ((65 : Int) ≤ c.toNat), decide ((c.toNat : Int) ≤ 90), decide ((48 : Int) ≤ c.toNat), decide ((c.toNat : Int) ≤ 57), decide ((c.toNat : Int) = 45), decide ((c.toNat : Int) = 95), decide ((c.toNat : Int) = 46), decide ((c.toNat : Int) = 40), decide ((c.toNat : Int) = 41), decide ((c.toNat : Int) = 32), okByte c]
theorem rowB_mem (c : UInt8) : rowB c = [false, true, false, true, false, true, false, false, false, false, false, false, false] ∨ rowB c = [false, true, false, true, false, true, false, false, false, false, false, true, true] ∨ rowB c = [false, true, false, true, false, true, false, false, false, false, false, false, false] ∨ rowB c = [false, true, false, true, false, true, false, false, false, true, false, false, true] ∨ rowB c = [false, true, false, true, false, true, false, false, false, false, true, false, true] ∨ rowB c = [false, true, false, true, false, true, true, false, false, false, false, false, true] ∨ rowB c = [false, true, false, true, false, true, false, false, true, false, false, false, true] ∨ rowB c = [false, true, false, true, true, true, false, false, false, false, false, false, true] ∨ rowB c = [false, true, false, true, true, false, false, false, false, false, false, false, false] ∨ rowB c = [false, true, true, true, true, false, false, false, false, false, false, false, true] ∨ rowB c = [false, true, true, false, true, false, false, false, false, false, false, false, false] ∨ rowB c = [false, true, true, false, true, false, false, true, false, false, false, false, true] ∨ rowB c = [true, true, true, false, true, false, false, false, false, false, false, false, true] ∨ rowB c = [true, false, true, false, true, false, false, false, false, false, false, false, false] :=
  byte_all (P := fun c => rowB c = [false, true, false, true, false, true, false, false, false, false, false, false, false] ∨ rowB c = [false, true, false, true, false, true, false, false, false, false, false, true, true] ∨ rowB c = [false, true, false, true, false, true, false, false, false, false, false, false, false] ∨ rowB c = [false, true, false, true, false, true, false, false, false, true, false, false, true] ∨ rowB c = [false, true, false, true, false, true, false, false, false, false, true, false, true] ∨ rowB c = [false, true, false, true, false, true, true, false, false, false, false, false, true] ∨ rowB c = [false, true, false, true, false, true, false, false, true, false, false, false, true] ∨ rowB c = [false, true, false, true, true, true, false, false, false, false, false, false, true] ∨ rowB c = [false, true, false, true, true, false, false, false, false, false, false, false, false] ∨ rowB c = [false, true, true, true, true, false, false, false, false, false, false, false, true] ∨ rowB c = [false, true, true, false, true, false, false, false, false, false, false, false, false] ∨ rowB c = [false, true, true, false, true, false, false, true, false, false, false, false, true] ∨ rowB c = [true, true, true, false, true, false, false, false, false, false, false, false, true] ∨ rowB c = [true, false, true, false, true, false, false, false, false, false, false, false, false]) (by decide +kernel) c
/-- What a name must be, byte for byte. -/
def nameB (s : Str) (k : Nat) : Prop := ∀ i x, i < k → s[i]? = some x → okByte x = true ∧ (x = 32 → i ≠ 0 ∧ i + 1 ≠ s.length)
theorem nameB_all {s : Str} (h : nameB s s.length) : s.all okByte = true ∧ s.head? ≠ some 32 ∧ s.getLast? ≠ some 32 := by
  refine ⟨?_, ?_, ?_⟩
  · rw [List.all_eq_true]
    intro x hx
    obtain ⟨i, hi, e⟩ := List.getElem_of_mem hx
    exact (h i x hi (by rw [List.getElem?_eq_getElem hi, e])).1
  · intro e
    rw [List.head?_eq_getElem?] at e
    have hl : 0 < s.length := (List.getElem?_eq_some_iff.1 e).1
    exact ((h 0 32 hl e).2 rfl).1 rfl
  · intro e
    rw [List.getLast?_eq_getElem?] at e
    have hl := (List.getElem?_eq_some_iff.1 e).1
    exact ((h _ 32 hl e).2 rfl).2 (by omega)
theorem nameB_not {s : Str} {i : Nat} {x : UInt8} (hx : s[i]? = some x) (h : ¬ (okByte x = true ∧ (x = 32 → i ≠ 0 ∧ i + 1 ≠ s.length))) : isName s = false := by
  have hl := (List.getElem?_eq_some_iff.1 hx).1
  by_cases hn : isName s = true
  · exfalso
    apply h
    unfold isName at hn
    simp only [Bool.and_eq_true, bne_iff_ne, ne_eq, List.all_eq_true] at hn
    obtain ⟨⟨⟨_, hh⟩, hg⟩, ha⟩ := hn
    refine ⟨ha x (List.mem_of_getElem? hx), fun e => ⟨fun e2 => hh ?_, fun e2 => hg ?_⟩⟩
    · rw [List.head?_eq_getElem?, ← e2, hx, e]
    · rw [List.getLast?_eq_getElem?, ← e2, Nat.add_sub_cancel, hx, e]
  · simpa using hn

-- REG R.IsName G_rIsName
theorem R_rIsName (s : Str) (hs : s.length ≤ 4398046511104) : Run3 C1 Tryz.f15 [.str s] (.bool (isName s)) := by
  refine Run3.mk (fn := Tryz.f15) rfl ?_
  simp only [↓bD, bL, stps, stpOf, ev, setT, ofConst, padT, List.replicate, Nat.reduceLT, Nat.reduceAdd, Nat.reduceSub, Tryz.ntmps15]
  refine X_loop (fun (rem : Str) T st => ∃ k : Nat, getT T 3 = .int .i64 (k : Nat) ∧ s.drop k = rem ∧ nameB s k) List.length
    (fun e T st => (e = .ret ∧ getT T 2 = .bool false ∧ isName s = false) ∨ (e = .exit 0 ∧ nameB s s.length)) s ⟨0, rfl, rfl, fun i x hi => absurd hi (Nat.not_lt_zero i)⟩ ?_ ?_
  · rintro rem T st hF hc hb ⟨k, hk, hd, hn⟩
    have h0 := hF 0 rfl
    simp only [getT] at h0
    clear hF
    cases rem with
    | nil =>
      have hnk := drop_nil_len hd
      have hlt : ¬ (k : Int) < (s.length : Int) := by omega
      have hn2 : nameB s s.length := fun i x hi => hn i x (by omega)
      simp only [↓bD, bL, stps, stpOf, ev, binP, binA, symA, intOp, lenA, Option.or, ↓reduceIte, reduceCtorEq, Nat.reduceEqDiff, Nat.reduceLT, Nat.reduceAdd, C1_ty, ty9, Nat.add_assoc, hk, h0, hlt, hn2]
    | cons x rem =>
      obtain ⟨hx, hlt0, hd', ht'⟩ := drop_cons_get hd
      have hlt : (k : Int) < (s.length : Int) := by omega
      have hw : IntKind.i64.wrap ((k : Int) + 1) = ((k + 1 : Nat) : Int) := by rw [Int.natCast_add]; exact wrap_i64 (by omega) (by omega)
      have hw1 : IntKind.i64.wrap ((s.length : Int) - 1) = (s.length : Int) - 1 := wrap_i64 (by omega) (by omega)
      have hx32 : ((x.toNat : Int) = 32) ↔ x = 32 := by rw [show (32 : Int) = ((32 : UInt8).toNat : Int) from rfl, Int.ofNat_inj, UInt8.toNat_inj]
      have hnot := nameB_not hx
      have hstep : okByte x = true ∧ (x = 32 → k ≠ 0 ∧ k + 1 ≠ s.length) → nameB s (k + 1) := by
        intro h i y hi hy
        rcases Nat.lt_succ_iff_lt_or_eq.1 hi with hi | rfl
        · exact hn i y hi hy
        · rw [hx] at hy; cases hy; exact h
      have hrow := rowB_mem x
      rcases hrow with hr | hr | hr | hr | hr | hr | hr | hr | hr | hr | hr | hr | hr | hr <;>
        (unfold rowB at hr; simp only [List.cons.injEq, and_true] at hr; obtain ⟨r1, r2, r3, r4, r5, r6, r7, r8, r9, r10, r11, r12, r13⟩ := hr)
      case inr.inl =>
        have e32 : x = 32 := hx32.1 (of_decide_eq_true r12)
        by_cases k0 : (k : Int) = 0
        · have hf := hnot (fun h => (h.2 e32).1 (by omega))
          simp only [↓bD, bL, stps, stpOf, ev, ofConst, indexA, binP, binA, symA, intOp, unA, lenA, Option.or, ↓reduceIte, reduceCtorEq, Nat.reduceEqDiff, Nat.reduceLT, Nat.reduceAdd, C1_ty, ty9, beqD, Nat.add_assoc, hk, h0, hlt, hx, decP r1, decP r3, decP r5, decP r7, decP r8, decP r9, decP r10, decP r11, decP r12, eq_true k0, hf]
        · by_cases k1 : (k : Int) = (s.length : Int) - 1
          · have hf := hnot (fun h => (h.2 e32).2 (by omega))
            simp only [↓bD, bL, stps, stpOf, ev, ofConst, indexA, binP, binA, symA, intOp, unA, lenA, Option.or, ↓reduceIte, reduceCtorEq, Nat.reduceEqDiff, Nat.reduceLT, Nat.reduceAdd, C1_ty, ty9, beqD, Nat.add_assoc, hk, h0, hlt, hx, hw1, decP r1, decP r3, decP r5, decP r7, decP r8, decP r9, decP r10, decP r11, decP r12, eq_false k0, eq_true k1, hf]
          · have hf := hstep ⟨r13, fun _ => by omega⟩
            simp only [↓bD, bL, stps, stpOf, ev, ofConst, indexA, binP, binA, symA, intOp, unA, lenA, Option.or, ↓reduceIte, reduceCtorEq, Nat.reduceEqDiff, Nat.reduceLT, Nat.reduceAdd, C1_ty, ty9, beqD, Nat.add_assoc, hk, h0, hlt, hx, hw, hw1, decP r1, decP r3, decP r5, decP r7, decP r8, decP r9, decP r10, decP r11, decP r12, eq_false k0, eq_false k1]
            exact ⟨rem, by simp, k + 1, rfl, hd', hf⟩
      all_goals
        have e32 : ¬ x = 32 := fun e => of_decide_eq_false r12 (hx32.2 e)
        simp only [↓bD, bL, stps, stpOf, ev, ofConst, indexA, binP, binA, symA, intOp, unA, lenA, Option.or, ↓reduceIte, reduceCtorEq, Nat.reduceEqDiff, Nat.reduceLT, Nat.reduceAdd, C1_ty, ty9, beqD, Nat.add_assoc, hk, h0, hlt, hx, hw, decP r1, decP r2, decP r3, decP r4, decP r5, decP r6, decP r7, decP r8, decP r9, decP r10, decP r11, decP r12]
        first
        | exact ⟨rem, by simp, k + 1, rfl, hd', hstep ⟨r13, fun e => absurd e e32⟩⟩
        | exact hnot (fun h => by rw [h.1] at r13; exact absurd r13 (by decide))
  · rintro e T st he hF hc hb (⟨rfl, h2, hn⟩ | ⟨rfl, hn⟩)
    · simp only [↓kseq_ret, ↓kblock_ret, List.toList_toArray, S_some, ↓end_ret, resA, tupOf_1, Option.map_some, fin, Tryz.results15, h2, hn]
    · have h0 := hF 0 rfl
      simp only [getT] at h0
      clear hF
      obtain ⟨a1, a2, a3⟩ := nameB_all hn
      have key : isName s = (!decide (s = []) && decide (s.length ≤ 20) && !decide (s = [46]) && !decide (s = [46, 46])) := by
        unfold isName
        rw [a1, bne_iff_ne.2 a2, bne_iff_ne.2 a3]
        simp [bneD]
      rw [key]
      by_cases c1 : s = []
      · simp only [↓bD, bL, stps, stpOf, ev, ofConst, binP, binA, symA, strOp, resA, Option.or, ↓reduceIte, Nat.reduceEqDiff, Nat.reduceLT, Nat.reduceAdd, fin, Tryz.ntmps15, Tryz.results15, beqD, Nat.add_assoc, h0, eq_true c1]
      · by_cases c2 : (s.length : Int) ≤ 20
        · have c2' : s.length ≤ 20 := by omega
          by_cases c3 : s = [46]
          · simp only [↓bD, bL, stps, stpOf, ev, ofConst, binP, binA, symA, intOp, strOp, lenA, resA, Option.or, ↓reduceIte, reduceCtorEq, Nat.reduceEqDiff, Nat.reduceLT, Nat.reduceAdd, fin, C1_ty, ty9, Tryz.ntmps15, Tryz.results15, beqD, Nat.add_assoc, h0, eq_false c1, eq_true c2, eq_true c2', eq_true c3]
          · simp only [↓bD, bL, stps, stpOf, ev, ofConst, binP, binA, symA, intOp, strOp, lenA, resA, Option.or, ↓reduceIte, reduceCtorEq, Nat.reduceEqDiff, Nat.reduceLT, Nat.reduceAdd, fin, C1_ty, ty9, Tryz.ntmps15, Tryz.results15, beqD, Nat.add_assoc, h0, eq_false c1, eq_true c2, eq_true c2', eq_false c3]
        · have c2' : ¬ s.length ≤ 20 := by omega
          simp only [↓bD, bL, stps, stpOf, ev, ofConst, binP, binA, symA, intOp, strOp, lenA, resA, Option.or, ↓reduceIte, reduceCtorEq, Nat.reduceEqDiff, Nat.reduceLT, Nat.reduceAdd, fin, C1_ty, ty9, Tryz.ntmps15, Tryz.results15, beqD, Nat.add_assoc, h0, eq_false c1, eq_false c2, eq_false c2']
theorem G_rIsName (s : Str) (hs : s.length ≤ 4398046511104) : G3 C1 Tryz.f15 [.str s] = some (.bool (isName s)) := G3_eq (R_rIsName s hs)
end Go.Ab.Seat
/- the document's paths, entries. -/
namespace Go.Ab.Seat
open Go Go.Proofs
-- CFG C1
set_option linter.unusedSimpArgs false
set_option linter.unusedVariables false
set_option maxHeartbeats 4000000
set_option maxRecDepth 100000

theorem names_mem_len (p : Str) : ∀ n ∈ names p, n.length ≤ p.length := by
  induction p with
  | nil => intro n hn; simp [names] at hn; simp [hn]
  | cons c r ih =>
    intro n hn
    unfold names at hn
    split at hn
    · rcases List.mem_cons.1 hn with rfl | hn
      · simp
      · have := ih n hn; simp; omega
    · split at hn
      · simp at hn; subst hn; simp
      · rename_i m ms e
        rw [e] at ih
        rcases List.mem_cons.1 hn with rfl | hn
        · have := ih m (by simp); simp; omega
        · have := ih n (by simp [hn]); simp; omega
theorem sliceOk_s (C : Cfg) (t : TI) {l : List Str} (h : l ≠ []) : sliceOk C t (Option.map (fun x => x.length) (l.map sCells).head?) = sliceOk C t (some 1) := by
  cases l with
  | nil => exact absurd rfl h
  | cons a l => rfl
theorem all_append_false {α : Type} {f : α → Bool} {l : List α} {k : Nat} {x : α} (hx : l[k]? = some x) (hf : f x = false) : l.all f = false := by
  rw [List.all_eq_false]; exact ⟨x, List.mem_of_getElem? hx, by rw [hf]; decide⟩

-- REG R.CheckPath G_rCheckPath
theorem R_rCheckPath (p : Str) (hp : p.length ≤ 4398046511103) : Run3 C1 Tryz.f87 [.str p] (.int .i64 (checkPath p)) := by
  have hp1 : p.length ≤ 4398046511104 := by omega
  have hnl : (names p).length ≤ 4398046511104 := by
    rw [names_len]; have := List.count_le_length (a := (47 : UInt8)) (l := p); omega
  refine Run3.mk (fn := Tryz.f87) rfl ?_
  simp only [↓bD, bL, stps, stpOf, ev, getT, setT, ofConst, padT, List.replicate, hputs, ↓reduceIte, Nat.reduceLT, Nat.reduceAdd, Nat.reduceSub, fin, List.mapM_cons, List.mapM_nil, scalarN, plainN, Tryz.ntmps87, pureF, Cl_3 (C := C1) (g := 111) (fn := Tryz.f111) rfl (fnBy_of Tryz.func111 rfl) rfl, G_namesOf, hp1]
  refine X_loop (fun (rem : List Str) T st => ∃ k : Nat, getT T 4 = .int .i64 (k : Nat) ∧ (names p).drop k = rem ∧ ((names p).take k).all isName = true) List.length
    (fun e T st => (e = .ret ∧ getT T 2 = .int .i64 1 ∧ (names p).all isName = false) ∨ (e = .exit 0 ∧ (names p).all isName = true)) (names p) ⟨0, rfl, rfl, rfl⟩ ?_ ?_
  · rintro rem T st hF hc hb ⟨k, hk, hd, hn⟩
    have h3 := hF 3 rfl
    simp only [getT_setT, getT] at h3
    clear hF
    cases rem with
    | nil =>
      have hnk := drop_nil_len hd
      have hlt : ¬ (k : Int) < ((names p).length : Int) := by omega
      rw [List.take_of_length_le hnk] at hn
      simp only [↓bD, bL, stps, stpOf, ev, binP, binA, symA, intOp, lenA, Option.or, ↓reduceIte, reduceCtorEq, Nat.reduceEqDiff, Nat.reduceLT, Nat.reduceAdd, C1_ty, ty61, Nat.add_assoc, hk, h3, hlt, hn]
    | cons x rem =>
      obtain ⟨hx, hlt0, hd', ht'⟩ := drop_cons_get hd
      have hlt : (k : Int) < ((names p).length : Int) := by omega
      have hw : IntKind.i64.wrap ((k : Int) + 1) = ((k + 1 : Nat) : Int) := by rw [Int.natCast_add]; exact wrap_i64 (by omega) (by omega)
      have hxl := names_mem_len p x (List.mem_of_getElem? hx)
      have hxl2 : x.length ≤ 4398046511104 := by omega
      by_cases hi : isName x = true
      · simp only [↓bD, bL, stps, stpOf, ev, ofConst, loadObj, TI.agg, indexAddrA, binP, binA, symA, intOp, unA, lenA, elemTI, Option.or, hputs, ↓reduceIte, Nat.reduceEqDiff, Nat.reduceLT, Nat.reduceAdd, fin, List.mapM_cons, List.mapM_nil, scalarN, plainN, C1_ty, ty9, ty61, Cl_3 (C := C1) (g := 15) (fn := Tryz.f15) rfl (fnBy_of Tryz.func15 rfl) rfl, pureF, G_rIsName, Nat.add_assoc, hk, h3, hlt, hx, hw, hxl2, hi]
        exact ⟨rem, by simp, k + 1, rfl, hd', by rw [ht']; simp [hn, hi]⟩
      · have hi' : isName x = false := by simpa using hi
        have hf := all_append_false hx hi'
        simp only [↓bD, bL, stps, stpOf, ev, ofConst, loadObj, TI.agg, indexAddrA, binP, binA, symA, intOp, unA, lenA, elemTI, Option.or, hputs, ↓reduceIte, reduceCtorEq, Nat.reduceEqDiff, Nat.reduceLT, Nat.reduceAdd, fin, List.mapM_cons, List.mapM_nil, scalarN, plainN, C1_ty, ty9, ty61, Cl_3 (C := C1) (g := 15) (fn := Tryz.f15) rfl (fnBy_of Tryz.func15 rfl) rfl, pureF, G_rIsName, Nat.add_assoc, hk, h3, hlt, hx, hxl2, hi', hf]
  · unfold checkPath
    rintro e T st he hF hc hb (⟨rfl, h2, hn⟩ | ⟨rfl, hn⟩)
    · simp only [↓bD, bL, resA, ↓reduceIte, fin, Tryz.results87, h2, hn]
    · have h0 := hF 0 rfl
      simp only [getT_setT, getT] at h0
      clear hF
      by_cases hg : great p = true
      · simp only [↓bD, bL, stps, stpOf, ev, ofConst, resA, hputs, ↓reduceIte, Nat.reduceLT, Nat.reduceAdd, fin, List.mapM_cons, List.mapM_nil, scalarN, plainN, Tryz.ntmps87, Tryz.results87, pureF, Cl_3 (C := C1) (g := 112) (fn := Tryz.f112) rfl (fnBy_of Tryz.func112 rfl) rfl, G_tooGreat, Nat.add_assoc, h0, hp1, hn, hg]
      · have hg' : great p = false := by simpa using hg
        simp only [↓bD, bL, stps, stpOf, ev, ofConst, resA, hputs, ↓reduceIte, Nat.reduceLT, Nat.reduceAdd, fin, List.mapM_cons, List.mapM_nil, scalarN, plainN, Tryz.ntmps87, Tryz.results87, pureF, Cl_3 (C := C1) (g := 112) (fn := Tryz.f112) rfl (fnBy_of Tryz.func112 rfl) rfl, G_tooGreat, Nat.add_assoc, h0, hp1, hn, hg']
theorem G_rCheckPath (p : Str) (hp : p.length ≤ 4398046511103) : G3 C1 Tryz.f87 [.str p] = some (.int .i64 (checkPath p)) := G3_eq (R_rCheckPath p hp)

-- REG R.ParentOf G_parentOf
theorem R_parentOf (p : Str) (hp : p.length ≤ 4398046511103) : Run3 C1 Tryz.f89 [.str p] (.str (parentOf p)) := by
  have hp1 : p.length ≤ 4398046511104 := by omega
  have hnl : (names p).length ≤ 4398046511104 := by
    rw [names_len]; have := List.count_le_length (a := (47 : UInt8)) (l := p); omega
  have hnp : 0 < (names p).length := by rw [names_len]; omega
  have hw : IntKind.i64.wrap (((names p).length : Int) - 1) = (((names p).length - 1 : Nat) : Int) := by rw [wrap_i64 (by omega) (by omega)]; omega
  have hle : ((((names p).length - 1 : Nat)) : Int) ≤ ((names p).length : Int) := by omega
  have hdl : (names p).dropLast = (names p).take ((names p).length - 1) := List.dropLast_eq_take
  have hpl : (pathOf ((names p).take ((names p).length - 1))).length ≤ p.length := by
    have := pathOf_take (names p) ((names p).length - 1); rw [pathOf_names] at this; exact this
  refine Run3.mk (fn := Tryz.f89) rfl ?_
  rw [parent_names, hdl]
  have hne := names_ne p
  have htl : (List.take ((names p).length - 1) (names p)).length ≤ 4398046511104 := by rw [List.length_take]; omega
  have hpl2 : (pathOf (List.take ((names p).length - 1) (names p))).length ≤ 4398046511104 := by omega
  have hal : ∀ s ∈ List.take ((names p).length - 1) (names p), s.length ≤ 4398046511104 := fun s hs => by have := names_mem_len p s (List.mem_of_mem_take hs); omega
  have hso : ∀ b z, sliceOk C1 { kind := TK.slice 9, size := 1, bytes := b, zero := z, fields := [] } (some 1) = true := fun b z => rfl
  have hmt : List.take ((names p).length - 1) (List.map sCells (names p)) = (List.take ((names p).length - 1) (names p)).map sCells := by rw [List.map_take]
  simp only [↓bD, bL, stps, stpOf, ev, getT, setT, ofConst, binP, binA, symA, intOp, lenA, resA, padT, List.replicate, Option.or, hputs, ↓reduceIte, Nat.reduceLT, Nat.reduceAdd, Nat.reduceSub, fin, List.mapM_cons, List.mapM_nil, scalarN, plainN, bound, sliceA, C1_ty, ty61, Tryz.ntmps89, Tryz.results89, Cl_3 (C := C1) (g := 111) (fn := Tryz.f111) rfl (fnBy_of Tryz.func111 rfl) rfl, pureF, G_namesOf, Cl_3 (C := C1) (g := 114) (fn := Tryz.f114) rfl (fnBy_of Tryz.func114 rfl) rfl, G_pathOf, beqD, hp1, hw, hle, sliceOk_s _ _ hne, hso, hmt, htl, hpl2, eq_true hal]
theorem G_parentOf (p : Str) (hp : p.length ≤ 4398046511103) : G3 C1 Tryz.f89 [.str p] = some (.str (parentOf p)) := G3_eq (R_parentOf p hp)


/-- The document's EntryAt. -/
def entryAt (t : List Entry) (p : Str) : Int := idxF' (fun x : Entry => decide (x.path = p)) t
-- REG R.EntryAt G_entryAt
theorem R_entryAt (t : List Entry) (p : Str) (ht : t.length ≤ 4398046511104) : Run3 C1 Tryz.f113 [.rows false (t.map Entry.cells), .str p] (.int .i64 (entryAt t p)) := by
  refine Run3.mk (fn := Tryz.f113) rfl ?_
  simp only [↓bD, bL, stps, stpOf, ev, setT, ofConst, padT, List.replicate, Nat.reduceLT, Nat.reduceAdd, Nat.reduceSub, Tryz.ntmps113]
  refine X_loop (fun (rem : List Entry) T st => ∃ k : Nat, getT T 5 = .int .i64 (k : Nat) ∧ t.drop k = rem ∧ (t.take k).any (fun x : Entry => decide (x.path = p)) = false) List.length
    (fun e T st => (e = .ret ∧ getT T 4 = .int .i64 (entryAt t p)) ∨ (e = .exit 0 ∧ entryAt t p = -1)) t ⟨0, rfl, rfl, rfl⟩ ?_ ?_
  · rintro rem T st hF hc hb ⟨k, hk, hd, hn⟩
    have h0 := hF 0 rfl
    have h1 := hF 1 rfl
    simp only [getT_setT, getT] at h0 h1
    clear hF
    cases rem with
    | nil =>
      have hnk := drop_nil_len hd
      have hlt : ¬ (k : Int) < (t.length : Int) := by omega
      rw [List.take_of_length_le hnk] at hn
      have he : entryAt t p = -1 := idxF_none hn
      simp only [↓bD, bL, stps, stpOf, ev, binP, binA, symA, intOp, lenA, Option.or, ↓reduceIte, reduceCtorEq, Nat.reduceEqDiff, Nat.reduceLT, Nat.reduceAdd, C1_ty, ty35, Int.reduceNeg, Nat.add_assoc, hk, h0, hlt, he]
    | cons x rem =>
      obtain ⟨hx, hlt0, hd', ht'⟩ := drop_cons_get hd
      have hlt : (k : Int) < (t.length : Int) := by omega
      have hw : IntKind.i64.wrap ((k : Int) + 1) = ((k + 1 : Nat) : Int) := by rw [Int.natCast_add]; exact wrap_i64 (by omega) (by omega)
      by_cases hi : x.path = p
      · have he : entryAt t p = (k : Int) := idxF_some hn hx (by simpa using hi)
        simp only [↓bD, bL, stps, stpOf, ev, loadObj, TI.agg, fieldAddrA, indexAddrA, binP, binA, symA, intOp, strOp, lenA, elemTI, Option.or, ↓reduceIte, reduceCtorEq, Nat.reduceEqDiff, Nat.reduceLT, Nat.reduceAdd, C1_ty, ty9, ty35, ty107, beqD, Int.reduceNeg, Nat.add_assoc, hk, h0, h1, hlt, hx, eq_true hi, he]
      · simp only [↓bD, bL, stps, stpOf, ev, ofConst, loadObj, TI.agg, fieldAddrA, indexAddrA, binP, binA, symA, intOp, strOp, lenA, elemTI, Option.or, ↓reduceIte, reduceCtorEq, Nat.reduceEqDiff, Nat.reduceLT, Nat.reduceAdd, C1_ty, ty9, ty35, ty107, beqD, Nat.add_assoc, hk, h0, h1, hlt, hx, hw, eq_false hi]
        exact ⟨rem, by simp, k + 1, rfl, hd', by rw [ht']; simp [hi, hn]⟩
  · rintro e T st he hF hc hb (⟨rfl, h2⟩ | ⟨rfl, hn⟩)
    · simp only [↓kseq_ret, ↓kblock_ret, List.toList_toArray, S_some, ↓end_ret, resA, tupOf_1, Option.map_some, fin, Tryz.results113, h2]
    · simp only [↓bD, bL, stps, stpOf, ev, ofConst, resA, ↓reduceIte, Nat.reduceLT, fin, Tryz.ntmps113, Tryz.results113, Int.reduceNeg, hn]
theorem G_entryAt (t : List Entry) (p : Str) (ht : t.length ≤ 4398046511104) : G3 C1 Tryz.f113 [.rows false (t.map Entry.cells), .str p] = some (.int .i64 (entryAt t p)) := G3_eq (R_entryAt t p ht)

/-- The document's IsFolder. -/
def folderE (t : List Entry) (p : Str) : Int := if p = [] then 0 else if entryAt t p < 0 then 5 else match t[(entryAt t p).toNat]? with
  | some x => if x.folder then 0 else 4
  | none => 0
theorem entryAt_lt (t : List Entry) (p : Str) : entryAt t p < t.length := by
  unfold entryAt idxF'
  split
  · rename_i k e
    have := (List.findIdx?_eq_some_iff_getElem.1 e).1
    omega
  · omega
-- REG R.IsFolder G_folderE
theorem R_folderE (t : List Entry) (p : Str) (ht : t.length ≤ 4398046511104) : Run3 C1 Tryz.f88 [.rows false (t.map Entry.cells), .str p] (.int .i64 (folderE t p)) := by
  have hl := entryAt_lt t p
  refine Run3.mk (fn := Tryz.f88) rfl ?_
  unfold folderE
  by_cases hp : p = []
  · simp only [↓bD, bL, stps, stpOf, ev, getT, setT, ofConst, binP, binA, symA, strOp, resA, padT, List.replicate, Option.or, ↓reduceIte, Nat.reduceLT, Nat.reduceAdd, Nat.reduceSub, fin, Tryz.ntmps88, Tryz.results88, beqD, eq_true hp]
  · by_cases h : entryAt t p < 0
    · simp only [↓bD, bL, stps, stpOf, ev, getT, setT, ofConst, binP, binA, symA, intOp, strOp, resA, padT, List.replicate, Option.or, hputs, ↓reduceIte, Nat.reduceLT, Nat.reduceAdd, Nat.reduceSub, fin, List.mapM_cons, List.mapM_nil, scalarN, plainN, Tryz.ntmps88, Tryz.results88, Cl_3 (C := C1) (g := 113) (fn := Tryz.f113) rfl (fnBy_of Tryz.func113 rfl) rfl, pureF, G_entryAt, beqD, eq_false hp, ht, h]
    · obtain ⟨k, hk⟩ : ∃ k : Nat, entryAt t p = (k : Int) := ⟨(entryAt t p).toNat, by omega⟩
      have hkl : k < t.length := by omega
      have hkl2 : (k : Int) < (t.length : Int) := by omega
      obtain ⟨x, hx⟩ : ∃ x, t[k]? = some x := ⟨t[k], by simp [hkl]⟩
      rw [hk] at h
      cases hxf : x.folder <;>
      simp only [↓bD, bL, stps, stpOf, ev, getT, setT, ofConst, loadObj, TI.agg, fieldAddrA, indexAddrA, binP, binA, symA, intOp, strOp, unA, elemTI, resA, padT, List.replicate, Option.or, hputs, ↓reduceIte, reduceCtorEq, Nat.reduceLT, Nat.reduceAdd, Nat.reduceSub, fin, List.mapM_cons, List.mapM_nil, scalarN, plainN, C1_ty, ty4, ty35, ty107, Tryz.ntmps88, Tryz.results88, Cl_3 (C := C1) (g := 113) (fn := Tryz.f113) rfl (fnBy_of Tryz.func113 rfl) rfl, pureF, G_entryAt, beqD, eq_false hp, ht, hk, h, hx, hxf, hkl2]
theorem G_folderE (t : List Entry) (p : Str) (ht : t.length ≤ 4398046511104) : G3 C1 Tryz.f88 [.rows false (t.map Entry.cells), .str p] = some (.int .i64 (folderE t p)) := G3_eq (R_folderE t p ht)
end Go.Ab.Seat
/- What the document's ChangeOf and AllOf answer, as plain functions. -/
namespace Go.Ab.Seat
open Go

/-- An entry of what is moved, at its new place. -/
def movedE (c : Change) (n : Int) (x : Entry) : Entry := ⟨pathOf (names c.to ++ (names x.path).drop (names c.path).length), x.folder, x.text, if x.path = c.path then n else x.version⟩
/-- All that is moved is put in; none: a path is too great. -/
def moveAll (c : Change) (n : Int) : List Entry → List Entry → Option (List Entry)
  | [], out => some out
  | x :: r, out => if within x.path c.path then (if great (movedE c n x).path then none else moveAll c n r (putE (movedE c n x) out)) else moveAll c n r out
/-- What is wrong with a change of a tree, its form aside. -/
def changeErr (t : List Entry) (c : Change) : Int :=
  if folderE t (parentOf (if c.kind = 3 then c.to else c.path)) ≠ 0 then folderE t (parentOf (if c.kind = 3 then c.to else c.path))
  else if c.kind = 1 ∧ 0 ≤ entryAt t c.path then 6
  else if c.kind = 2 ∧ 0 ≤ entryAt t c.path ∧ (∃ x, t[(entryAt t c.path).toNat]? = some x ∧ x.folder = true) then 4
  else if 3 ≤ c.kind ∧ entryAt t c.path < 0 then 5
  else if c.kind = 3 ∧ within c.to c.path = true then 3
  else if c.kind = 3 ∧ 0 ≤ entryAt t c.to then 6
  else if 0 ≤ c.base ∧ t.any (fun x => within x.path c.path && decide (c.base < x.version)) = true then 8 else 0
/-- The tree behind a change. -/
def changeTo (t : List Entry) (c : Change) (n : Int) : Option (List Entry) :=
  if c.kind = 1 then some (putE ⟨c.path, true, [], n⟩ t) else if c.kind = 2 then some (putE ⟨c.path, false, c.text, n⟩ t)
  else if c.kind = 3 then moveAll c n t (t.filter fun x => !within x.path c.path) else some (t.filter fun x => !within x.path c.path)
end Go.Ab.Seat
/- the document's IsKey. -/
namespace Go.Ab.Seat
open Go Go.Proofs
-- CFG C1
set_option linter.unusedSimpArgs false
set_option linter.unusedVariables false
set_option maxHeartbeats 4000000
set_option maxRecDepth 100000

def keyByte (c : UInt8) : Bool := (decide ((97 : Int) ≤ c.toNat) && decide ((c.toNat : Int) ≤ 122)) || (decide ((65 : Int) ≤ c.toNat) && decide ((c.toNat : Int) ≤ 90)) || (decide ((48 : Int) ≤ c.toNat) && decide ((c.toNat : Int) ≤ 57)) || decide ((c.toNat : Int) = 45)
/-- A request's key. -/
def isKey (s : Str) : Bool := decide (1 ≤ s.length) && decide (s.length ≤ 20) && s.all keyByte
theorem all_take {α : Type} {f : α → Bool} {l : List α} {k : Nat} {x : α} (h : (l.take k).all f = true) (ht : l.take (k + 1) = l.take k ++ [x]) (hf : f x = true) : (l.take (k + 1)).all f = true := by
  rw [ht]; simp [h, hf]

-- REG R.IsKey G_rIsKey
theorem R_rIsKey (s : Str) (hs : s.length ≤ 4398046511104) : Run3 C1 Tryz.f65 [.str s] (.bool (isKey s)) := by
  refine Run3.mk (fn := Tryz.f65) rfl ?_
  simp only [↓bD, bL, stps, stpOf, ev, setT, ofConst, padT, List.replicate, Nat.reduceLT, Nat.reduceAdd, Nat.reduceSub, Tryz.ntmps65]
  refine X_loop (fun (rem : Str) T st => ∃ k : Nat, getT T 3 = .int .i64 (k : Nat) ∧ s.drop k = rem ∧ (s.take k).all keyByte = true) List.length
    (fun e T st => (e = .ret ∧ getT T 2 = .bool false ∧ s.all keyByte = false) ∨ (e = .exit 0 ∧ s.all keyByte = true)) s ⟨0, rfl, rfl, rfl⟩ ?_ ?_
  · rintro rem T st hF hc hb ⟨k, hk, hd, hn⟩
    have h0 := hF 0 rfl
    simp only [getT] at h0
    clear hF
    cases rem with
    | nil =>
      have hnk := drop_nil_len hd
      have hlt : ¬ (k : Int) < (s.length : Int) := by omega
      rw [List.take_of_length_le hnk] at hn
      simp only [↓bD, bL, stps, stpOf, ev, binP, binA, symA, intOp, lenA, Option.or, ↓reduceIte, reduceCtorEq, Nat.reduceEqDiff, Nat.reduceLT, Nat.reduceAdd, C1_ty, ty9, Nat.add_assoc, hk, h0, hlt, hn]
    | cons x rem =>
      obtain ⟨hx, hlt0, hd', ht'⟩ := drop_cons_get hd
      have hlt : (k : Int) < (s.length : Int) := by omega
      have hw : IntKind.i64.wrap ((k : Int) + 1) = ((k + 1 : Nat) : Int) := by rw [Int.natCast_add]; exact wrap_i64 (by omega) (by omega)
      have hnot : keyByte x = false → s.all keyByte = false := fun h => by rw [List.all_eq_false]; exact ⟨x, List.mem_of_getElem? hx, by rw [h]; decide⟩
      have hstep := all_take hn ht'
      have hrow := rowB_mem x
      rcases hrow with hr | hr | hr | hr | hr | hr | hr | hr | hr | hr | hr | hr | hr | hr <;>
        (unfold rowB at hr; simp only [List.cons.injEq, and_true] at hr; obtain ⟨r1, r2, r3, r4, r5, r6, r7, r8, r9, r10, r11, r12, r13⟩ := hr)
      all_goals
        simp only [↓bD, bL, stps, stpOf, ev, ofConst, indexA, binP, binA, symA, intOp, unA, lenA, Option.or, ↓reduceIte, reduceCtorEq, Nat.reduceEqDiff, Nat.reduceLT, Nat.reduceAdd, C1_ty, ty9, beqD, Nat.add_assoc, hk, h0, hlt, hx, hw, decP r1, decP r2, decP r3, decP r4, decP r5, decP r6, decP r7]
        have hkb : keyByte x = keyByte x := rfl
        conv at hkb => rhs; unfold keyByte; rw [r1, r2, r3, r4, r5, r6, r7]
        first
        | exact ⟨rem, by simp, k + 1, rfl, hd', hstep hkb⟩
        | exact hnot hkb
  · rintro e T st he hF hc hb (⟨rfl, h2, hn⟩ | ⟨rfl, hn⟩)
    · have : isKey s = false := by unfold isKey; rw [hn, Bool.and_false]
      simp only [↓kseq_ret, ↓kblock_ret, List.toList_toArray, S_some, ↓end_ret, resA, tupOf_1, Option.map_some, fin, Tryz.results65, h2, this]
    · have h0 := hF 0 rfl
      simp only [getT] at h0
      clear hF
      have key : isKey s = (decide (1 ≤ s.length) && decide (s.length ≤ 20)) := by unfold isKey; rw [hn, Bool.and_true]
      rw [key]
      by_cases c1 : (1 : Int) ≤ (s.length : Int)
      · have c1' : 1 ≤ s.length := by omega
        by_cases c2 : (s.length : Int) ≤ 20
        · have c2' : s.length ≤ 20 := by omega
          simp only [↓bD, bL, stps, stpOf, ev, ofConst, binP, binA, symA, intOp, lenA, resA, Option.or, ↓reduceIte, reduceCtorEq, Nat.reduceEqDiff, Nat.reduceLT, Nat.reduceAdd, fin, C1_ty, ty9, Tryz.ntmps65, Tryz.results65, Nat.add_assoc, h0, eq_true c1, eq_true c1', eq_true c2, eq_true c2']
        · have c2' : ¬ s.length ≤ 20 := by omega
          simp only [↓bD, bL, stps, stpOf, ev, ofConst, binP, binA, symA, intOp, lenA, resA, Option.or, ↓reduceIte, reduceCtorEq, Nat.reduceEqDiff, Nat.reduceLT, Nat.reduceAdd, fin, C1_ty, ty9, Tryz.ntmps65, Tryz.results65, Nat.add_assoc, h0, eq_true c1, eq_true c1', eq_false c2, eq_false c2']
      · have c1' : ¬ 1 ≤ s.length := by omega
        simp only [↓bD, bL, stps, stpOf, ev, ofConst, binP, binA, symA, intOp, lenA, resA, Option.or, ↓reduceIte, Nat.reduceEqDiff, Nat.reduceLT, Nat.reduceAdd, fin, C1_ty, ty9, Tryz.ntmps65, Tryz.results65, Nat.add_assoc, h0, eq_false c1, eq_false c1']
theorem G_rIsKey (s : Str) (hs : s.length ≤ 4398046511104) : G3 C1 Tryz.f65 [.str s] = some (.bool (isKey s)) := G3_eq (R_rIsKey s hs)
end Go.Ab.Seat
