/- the document's CheckTree. -/
import Derived.Test.YtnmlmmakheckpaaGreatDoorAb11
import Derived.Test.YtnmlmmakheckpaaGreatDoorAb13
import Derived.Test.YtnmlmmakheckpaaGreatDoorAb09
namespace Go.Ab.Seat
open Go Go.Proofs
-- CFG C1
set_option linter.unusedSimpArgs false
set_option linter.unusedVariables false
set_option maxHeartbeats 4000000
set_option maxRecDepth 100000

theorem asc_find {t : List Entry} (h : ascBy lePath t = true) (q : Str) : (entryAt t q < 0 ∧ bsFind (fun x : Entry => cmpS x.path q) t = none) ∨ (∃ (k : Nat) (x : Entry), entryAt t q = (k : Int) ∧ t[k]? = some x ∧ x.path = q ∧ bsFind (fun x : Entry => cmpS x.path q) t = some x) := by
  have c0 : ∀ x : Entry, cmpS x.path q = 0 ↔ x.path = q := fun x => by
    unfold cmpS
    constructor
    · intro hh
      split at hh
      · exact absurd hh (by decide)
      · split at hh
        · assumption
        · exact absurd hh (by decide)
    · intro e
      rw [if_neg, if_pos e]
      rw [e, bytesLess_lt]; simp
  by_cases hn : entryAt t q < 0
  · left
    refine ⟨hn, ?_⟩
    have ha : t.any (fun x : Entry => decide (x.path = q)) = false := by
      have := idxF_nn (fun x : Entry => decide (x.path = q)) t
      unfold entryAt at hn
      cases hh : t.any (fun x : Entry => decide (x.path = q)) with
      | false => rfl
      | true => have := this.2 hh; omega
    unfold bsFind
    split
    · rename_i x e
      rw [if_neg]
      intro hh
      have := (c0 x).1 hh
      have hm := List.mem_of_getElem? e
      rw [List.any_eq_false] at ha
      exact ha x hm (by simpa using this)
    · rfl
  · right
    have hl := entryAt_lt t q
    obtain ⟨k, hk⟩ : ∃ k : Nat, entryAt t q = (k : Int) := ⟨(entryAt t q).toNat, by omega⟩
    have hk0 := hk
    unfold entryAt idxF' at hk
    split at hk
    · rename_i j e
      have : j = k := by omega
      subst this
      obtain ⟨hj, hp, hb⟩ := List.findIdx?_eq_some_iff_getElem.1 e
      have hx : t[j]? = some t[j] := List.getElem?_eq_getElem hj
      have hpq : t[j].path = q := by simpa using hp
      refine ⟨j, t[j], hk0, hx, hpq, ?_⟩
      have hb : bsI (fun x : Entry => cmpS x.path q) t = j := by
        apply bsI_eq (by omega)
        · intro i x hi hxi
          rw [cmpS_neg]
          have := asc_lt h i (j - i - 1) x t[j] hxi (by rw [show i + (j - i - 1) + 1 = j by omega]; exact hx)
          rwa [hpq] at this
        · intro x hxj
          rw [hx] at hxj; cases hxj
          rw [(c0 _).2 hpq]; decide
      unfold bsFind
      rw [hb, hx]
      simp only [(c0 _).2 hpq, if_true]
    · omega
theorem folder_parent {t : List Entry} (h : ascBy lePath t = true) (p : Str) : folderE t (parentOf p) = if !(parentE t p).2 then 5 else if !(parentE t p).1.folder then 4 else 0 := by
  unfold folderE parentE
  by_cases hp : parentOf p = []
  · simp [hp]
  · rw [if_neg hp, if_neg hp]
    rcases asc_find h (parentOf p) with ⟨h1, h2⟩ | ⟨k, x, h1, h2, h3, h4⟩
    · rw [if_pos h1, h2]; rfl
    · rw [h1, h4, if_neg (by omega), Int.toNat_natCast, h2]
      cases hf : x.folder <;> simp [hf]
theorem any_congr {α : Type} {f g : α → Bool} {l : List α} (h : ∀ x ∈ l, f x = g x) : l.any f = l.any g := by
  rw [Bool.eq_iff_iff, List.any_eq_true, List.any_eq_true]
  exact ⟨fun ⟨x, hx, hf⟩ => ⟨x, hx, by rwa [← h x hx]⟩, fun ⟨x, hx, hf⟩ => ⟨x, hx, by rwa [h x hx]⟩⟩
/-- Loops that look for the first that is wrong. -/
theorem any_take_all {α : Type} {f : α → Bool} {l : List α} (h : (l.take l.length).any f = false) : l.any f = false := by
  rwa [List.take_length] at h

-- REG R.CheckTree G_rCheckTree
theorem R_rCheckTree (t : List Entry) (ht : t.length ≤ 1099511627776) (hp : ∀ x ∈ t, x.path.length ≤ 1099511627776) : Run3 C1 Tryz.f63 [.rows false (t.map Entry.cells)] (.int .i64 (checkTree t)) := by
  refine Run3.mk (fn := Tryz.f63) rfl ?_
  unfold checkTree
  by_cases h60 : 60 < t.length
  · have h60' : (60 : Int) < (t.length : Int) := by omega
    simp only [↓bD, bL, stps, stpOf, ev, getT, setT, ofConst, binP, binA, symA, intOp, lenA, resA, padT, List.replicate, Option.or, ↓reduceIte, Nat.reduceLT, Nat.reduceAdd, Nat.reduceSub, fin, C1_ty, ty35, Tryz.ntmps63, Tryz.results63, h60, h60']
  · have h60' : ¬ (60 : Int) < (t.length : Int) := by omega
    have ht2 : t.length ≤ 4398046511104 := by omega
    simp only [↓bD, bL, stps, stpOf, ev, getT, setT, ofConst, binP, binA, symA, intOp, lenA, padT, List.replicate, Option.or, ↓reduceIte, Nat.reduceLT, Nat.reduceAdd, Nat.reduceSub, C1_ty, ty35, Tryz.ntmps63, h60']
    refine X_loop (fun (rem : List Entry) T st => ∃ k : Nat, getT T 3 = .int .i64 (k : Nat) ∧ t.drop k = rem ∧ firstErr checkEntry (t.take k) = 0) List.length
      (fun e T st => (e = .ret ∧ firstErr checkEntry t ≠ 0 ∧ getT T 2 = .int .i64 (firstErr checkEntry t)) ∨ (e = .exit 0 ∧ firstErr checkEntry t = 0)) t ⟨0, rfl, rfl, rfl⟩ ?_ ?_
    · rintro rem T st hF hc hb ⟨k, hk, hd, hz⟩
      have h0 := hF 0 rfl
      simp only [getT] at h0
      clear hF
      cases rem with
      | nil =>
        have hn := drop_nil_len hd
        have hlt : ¬ (k : Int) < (t.length : Int) := by omega
        rw [List.take_of_length_le hn] at hz
        simp only [↓bD, bL, stps, stpOf, ev, binP, binA, symA, intOp, lenA, Option.or, ↓reduceIte, reduceCtorEq, Nat.reduceEqDiff, Nat.reduceLT, Nat.reduceAdd, C1_ty, ty35, Nat.add_assoc, hk, h0, hlt, hz]
      | cons x rem =>
        obtain ⟨hx, hlt0, hd', ht'⟩ := drop_cons_get hd
        have hlt : (k : Int) < (t.length : Int) := by omega
        have hw : IntKind.i64.wrap ((k : Int) + 1) = ((k + 1 : Nat) : Int) := by rw [Int.natCast_add]; exact wrap_i64 (by omega) (by omega)
        have hpx := hp x (List.mem_of_getElem? hx)
        have hpx2 : x.path.length ≤ 4398046511103 := by omega
        have hfe : firstErr checkEntry t = firstErr checkEntry (x :: rem) := by
          rw [← List.take_append_drop k t, firstErr_append, hz, hd]; simp
        have hfe2 : firstErr checkEntry (t.take (k + 1)) = checkEntry x := by
          rw [ht', firstErr_append, hz]; simp only [firstErr, ne_eq, not_true_eq_false, if_false]
          split
          · rfl
          · rename_i q; exact (Classical.not_not.1 q).symm
        by_cases hce : checkEntry x = 0
        · have hn0 : firstErr checkEntry (t.take (k + 1)) = 0 := by rw [hfe2, hce]
          clear hfe hfe2
          unfold checkEntry at hce
          by_cases e1 : checkPath x.path = 0
          · rw [if_neg (by simp [e1])] at hce
            by_cases e2 : x.folder = true ∧ x.text ≠ []
            · rw [if_pos e2] at hce; exact absurd hce (by decide)
            · rw [if_neg e2] at hce
              by_cases e3 : 300 < x.text.length
              · rw [if_pos e3] at hce; exact absurd hce (by decide)
              · rw [if_neg e3] at hce
                have e3' : ¬ (300 : Int) < (x.text.length : Int) := by omega
                by_cases e4 : isVersion x.version = false
                · rw [if_pos e4] at hce; exact absurd hce (by decide)
                · have e4' : isVersion x.version = true := by simpa using e4
                  cases hf : x.folder
                  · simp only [↓bD, bL, stps, stpOf, ev, ofConst, loadObj, TI.agg, fieldAddrA, indexAddrA, binP, binA, symA, intOp, unA, lenA, elemTI, Option.or, hputs, ↓reduceIte, reduceCtorEq, Nat.reduceEqDiff, Nat.reduceLT, Nat.reduceAdd, fin, List.mapM_cons, List.mapM_nil, scalarN, plainN, C1_ty, ty3, ty4, ty9, ty35, ty107, Cl_3 (C := C1) (g := 64) (fn := Tryz.f64) rfl (fnBy_of Tryz.func64 rfl) rfl, pureF, G_rIsVersion, Cl_3 (C := C1) (g := 87) (fn := Tryz.f87) rfl (fnBy_of Tryz.func87 rfl) rfl, G_rCheckPath, Nat.add_assoc, hk, h0, hlt, hx, hw, hpx2, e1, hf, e3', e4']
                    exact ⟨rem, by simp, k + 1, rfl, hd', hn0⟩
                  · have e5 : x.text = [] := by simpa [hf] using e2
                    simp only [↓bD, bL, stps, stpOf, ev, ofConst, loadObj, TI.agg, fieldAddrA, indexAddrA, binP, binA, symA, intOp, strOp, unA, lenA, elemTI, Option.or, hputs, ↓reduceIte, reduceCtorEq, Nat.reduceEqDiff, Nat.reduceLT, Nat.reduceAdd, fin, List.mapM_cons, List.mapM_nil, scalarN, plainN, C1_ty, ty3, ty4, ty9, ty35, ty107, Cl_3 (C := C1) (g := 64) (fn := Tryz.f64) rfl (fnBy_of Tryz.func64 rfl) rfl, pureF, G_rIsVersion, Cl_3 (C := C1) (g := 87) (fn := Tryz.f87) rfl (fnBy_of Tryz.func87 rfl) rfl, G_rCheckPath, beqD, Nat.add_assoc, hk, h0, hlt, hx, hw, hpx2, e1, hf, eq_true e5, e3', e4']
                    exact ⟨rem, by simp, k + 1, rfl, hd', hn0⟩
          · rw [if_pos (by simpa using e1)] at hce; exact absurd hce e1
        · have hfe3 : firstErr checkEntry t = checkEntry x := by rw [hfe]; simp [firstErr, hce]
          clear hfe hfe2
          have hne : firstErr checkEntry t ≠ 0 := by rw [hfe3]; exact hce
          generalize hE : firstErr checkEntry t = E at hfe3 hne
          unfold checkEntry at hfe3
          by_cases e1 : checkPath x.path = 0
          · rw [if_neg (by simp [e1])] at hfe3
            by_cases e2 : x.folder = true ∧ x.text ≠ []
            · rw [if_pos e2] at hfe3; subst hfe3
              simp only [↓bD, bL, stps, stpOf, ev, ofConst, loadObj, TI.agg, fieldAddrA, indexAddrA, binP, binA, symA, intOp, strOp, lenA, elemTI, Option.or, hputs, ↓reduceIte, reduceCtorEq, Nat.reduceEqDiff, Nat.reduceLT, Nat.reduceAdd, fin, List.mapM_cons, List.mapM_nil, scalarN, plainN, C1_ty, ty4, ty9, ty35, ty107, pureF, Cl_3 (C := C1) (g := 87) (fn := Tryz.f87) rfl (fnBy_of Tryz.func87 rfl) rfl, G_rCheckPath, beqD, Int.reduceEq, Nat.add_assoc, hk, h0, hlt, hx, hpx2, e1, e2.1, eq_false e2.2]
            · rw [if_neg e2] at hfe3
              by_cases e3 : 300 < x.text.length
              · rw [if_pos e3] at hfe3; subst hfe3
                have e3' : (300 : Int) < (x.text.length : Int) := by omega
                cases hf : x.folder
                · simp only [↓bD, bL, stps, stpOf, ev, ofConst, loadObj, TI.agg, fieldAddrA, indexAddrA, binP, binA, symA, intOp, lenA, elemTI, Option.or, hputs, ↓reduceIte, reduceCtorEq, Nat.reduceEqDiff, Nat.reduceLT, Nat.reduceAdd, fin, List.mapM_cons, List.mapM_nil, scalarN, plainN, C1_ty, ty4, ty9, ty35, ty107, pureF, Cl_3 (C := C1) (g := 87) (fn := Tryz.f87) rfl (fnBy_of Tryz.func87 rfl) rfl, G_rCheckPath, Int.reduceEq, Nat.add_assoc, hk, h0, hlt, hx, hpx2, e1, hf, e3']
                · have e5 : x.text = [] := by simpa [hf] using e2
                  rw [e5] at e3; exact absurd e3 (by simp)
              · rw [if_neg e3] at hfe3
                have e3' : ¬ (300 : Int) < (x.text.length : Int) := by omega
                by_cases e4 : isVersion x.version = false
                · rw [if_pos e4] at hfe3; subst hfe3
                  cases hf : x.folder
                  · simp only [↓bD, bL, stps, stpOf, ev, ofConst, loadObj, TI.agg, fieldAddrA, indexAddrA, binP, binA, symA, intOp, unA, lenA, elemTI, Option.or, hputs, ↓reduceIte, reduceCtorEq, Nat.reduceEqDiff, Nat.reduceLT, Nat.reduceAdd, fin, List.mapM_cons, List.mapM_nil, scalarN, plainN, C1_ty, ty3, ty4, ty9, ty35, ty107, Cl_3 (C := C1) (g := 64) (fn := Tryz.f64) rfl (fnBy_of Tryz.func64 rfl) rfl, pureF, G_rIsVersion, Cl_3 (C := C1) (g := 87) (fn := Tryz.f87) rfl (fnBy_of Tryz.func87 rfl) rfl, G_rCheckPath, Int.reduceEq, Nat.add_assoc, hk, h0, hlt, hx, hpx2, e1, hf, e3', e4]
                  · have e5 : x.text = [] := by simpa [hf] using e2
                    simp only [↓bD, bL, stps, stpOf, ev, ofConst, loadObj, TI.agg, fieldAddrA, indexAddrA, binP, binA, symA, intOp, strOp, unA, lenA, elemTI, Option.or, hputs, ↓reduceIte, reduceCtorEq, Nat.reduceEqDiff, Nat.reduceLT, Nat.reduceAdd, fin, List.mapM_cons, List.mapM_nil, scalarN, plainN, C1_ty, ty3, ty4, ty9, ty35, ty107, Cl_3 (C := C1) (g := 64) (fn := Tryz.f64) rfl (fnBy_of Tryz.func64 rfl) rfl, pureF, G_rIsVersion, Cl_3 (C := C1) (g := 87) (fn := Tryz.f87) rfl (fnBy_of Tryz.func87 rfl) rfl, G_rCheckPath, beqD, Int.reduceEq, Nat.add_assoc, hk, h0, hlt, hx, hpx2, e1, hf, eq_true e5, e3', e4]
                · rw [if_neg e4] at hfe3; exact absurd hfe3 hne
          · rw [if_pos (by simpa using e1)] at hfe3; rw [hfe3]
            simp only [↓bD, bL, stps, stpOf, ev, ofConst, loadObj, TI.agg, fieldAddrA, indexAddrA, binP, binA, symA, intOp, lenA, elemTI, Option.or, hputs, ↓reduceIte, reduceCtorEq, Nat.reduceEqDiff, Nat.reduceLT, Nat.reduceAdd, fin, List.mapM_cons, List.mapM_nil, scalarN, plainN, C1_ty, ty9, ty35, ty107, pureF, Cl_3 (C := C1) (g := 87) (fn := Tryz.f87) rfl (fnBy_of Tryz.func87 rfl) rfl, G_rCheckPath, bneD, Nat.add_assoc, hk, h0, hlt, hx, hpx2, e1]
    · rintro e T st he hF hc hb (⟨rfl, h4, h2⟩ | ⟨rfl, h4⟩)
      · simp only [↓bD, bL, resA, ↓reduceIte, fin, Tryz.results63, h4, h2, h60]
      · have h0 := hF 0 rfl
        simp only [getT] at h0
        clear hF
        simp only [↓bD, bL, stps, stpOf, ev, ofConst, ↓reduceIte, Nat.reduceLT, Tryz.ntmps63]
        refine X_loop (fun (rem : List (Entry × Entry)) T st => ∃ k : Nat, getT T 5 = .int .i64 ((k + 1 : Nat) : Int) ∧ (t.zip t.tail).drop k = rem ∧ ((t.zip t.tail).take k).all (fun q => !lePath q.2 q.1) = true) List.length
          (fun e T st => (e = .ret ∧ ascBy lePath t = false ∧ getT T 2 = .int .i64 4) ∨ (e = .exit 3 ∧ ascBy lePath t = true)) (t.zip t.tail) ⟨0, by simp [getT_setT], rfl, by simp⟩ ?_ ?_
        · rintro rem T2 st2 hF hc2 hb2 ⟨k, hk, hd, hz⟩
          have g0 := hF 0 rfl
          simp only [getT_setT, h0] at g0
          clear hF
          have hlz := zip_tail_len t
          cases rem with
          | nil =>
            have hn := drop_nil_len hd
            have hlt : ¬ ((k + 1 : Nat) : Int) < (t.length : Int) := by omega
            rw [List.take_of_length_le hn] at hz
            simp only [↓bD, bL, stps, stpOf, ev, binP, binA, symA, intOp, lenA, Option.or, ↓reduceIte, reduceCtorEq, Nat.reduceEqDiff, Nat.reduceLT, Nat.reduceAdd, C1_ty, ty35, Nat.add_assoc, hk, g0, hlt]
            exact hz
          | cons q rem =>
            obtain ⟨hx, hlt0, hd', ht'⟩ := drop_cons_get hd
            obtain ⟨hx1, hx2⟩ := zip_tail_get hx
            have hlt : ((k + 1 : Nat) : Int) < (t.length : Int) := by omega
            have hw : IntKind.i64.wrap (((k + 1 : Nat) : Int) + 1) = ((k + 1 + 1 : Nat) : Int) := by rw [Int.natCast_add (k + 1)]; exact wrap_i64 (by omega) (by omega)
            have hw2 : IntKind.i64.wrap (((k + 1 : Nat) : Int) - 1) = (k : Int) := by rw [wrap_i64 (by omega) (by omega)]; omega
            have hlt2 : (k : Int) < (t.length : Int) := by omega
            cases hle : leS q.2.path q.1.path with
            | true =>
              have hfa : ascBy lePath t = false := all_append_false hx (by simp [lePath, hle])
              have hle' := hle
              unfold leS at hle'
              rw [beqD] at hle'
              simp only [↓bD, bL, stps, stpOf, ev, ofConst, loadObj, TI.agg, fieldAddrA, indexAddrA, binP, binA, symA, intOp, strOp, lenA, elemTI, Option.or, ↓reduceIte, reduceCtorEq, Nat.reduceEqDiff, Nat.reduceLT, Nat.reduceAdd, looks, C1_ty, ty9, ty35, ty107, beqD, Nat.add_assoc, hk, g0, hlt, hlt2, hx1, hx2, hw2, hle', hfa]
              kernel_rfl
            | false =>
              have hle' := hle
              unfold leS at hle'
              rw [beqD] at hle'
              simp only [↓bD, bL, stps, stpOf, ev, ofConst, loadObj, TI.agg, fieldAddrA, indexAddrA, binP, binA, symA, intOp, strOp, lenA, elemTI, Option.or, ↓reduceIte, reduceCtorEq, Nat.reduceEqDiff, Nat.reduceLT, Nat.reduceAdd, looks, C1_ty, ty9, ty35, ty107, beqD, Nat.add_assoc, hk, g0, hlt, hlt2, hx1, hx2, hw, hw2, hle']
              refine ⟨by kernel_rfl, ?_⟩
              exact ⟨rem, by simp, k + 1, rfl, hd', by rw [ht', List.all_append, hz]; simp [lePath, hle]⟩
        · rintro e2 T2 st2 he2 hF hc2 hb2 (⟨rfl, g4, g2⟩ | ⟨rfl, g4⟩)
          · simp only [↓bD, bL, resA, ↓reduceIte, fin, Tryz.results63, g4, g2, h4, h60]
          · have g0 := hF 0 rfl
            simp only [getT_setT, h0] at g0
            clear hF
            have h5 : t.any (fun x => !(parentE t x.path).2) = t.any (fun x => decide (folderE t (parentOf x.path) = 5)) := by
              congr 1; funext x; rw [folder_parent g4]
              cases (parentE t x.path).2 <;> cases (parentE t x.path).1.folder <;> rfl
            have h6 : t.any (fun x => decide (folderE t (parentOf x.path) = 5)) = false → t.any (fun x => !(parentE t x.path).1.folder) = t.any (fun x => !decide (folderE t (parentOf x.path) = 0)) := by
              intro h
              rw [List.any_eq_false] at h
              apply any_congr
              intro x hx
              have := h x hx
              revert this
              rw [folder_parent g4]
              cases (parentE t x.path).2 <;> cases (parentE t x.path).1.folder <;> simp
            simp only [h60, h4, g4, if_false, ne_eq, not_true_eq_false, Bool.true_eq_false]
            rw [h5]
            simp only [↓bD, bL, stps, stpOf, ev, ofConst, ↓reduceIte, Nat.reduceLT, Tryz.ntmps63]
            refine X_loop (fun (rem : List Entry) T st => ∃ k : Nat, getT T 6 = .int .i64 (k : Nat) ∧ t.drop k = rem ∧ (t.take k).any (fun x => decide (folderE t (parentOf x.path) = 5)) = false) List.length
              (fun e T st => (e = .ret ∧ t.any (fun x => decide (folderE t (parentOf x.path) = 5)) = true ∧ getT T 2 = .int .i64 5) ∨ (e = .exit 5 ∧ t.any (fun x => decide (folderE t (parentOf x.path) = 5)) = false)) t ⟨0, by simp [getT_setT], rfl, rfl⟩ ?_ ?_
            · rintro rem T3 st3 hF hc3 hb3 ⟨k, hk, hd, hz⟩
              have i0 := hF 0 rfl
              simp only [getT_setT, g0] at i0
              clear hF
              cases rem with
              | nil =>
                have hn := drop_nil_len hd
                have hlt : ¬ (k : Int) < (t.length : Int) := by omega
                rw [List.take_of_length_le hn] at hz
                simp only [↓bD, bL, stps, stpOf, ev, binP, binA, symA, intOp, lenA, Option.or, ↓reduceIte, reduceCtorEq, Nat.reduceEqDiff, Nat.reduceLT, Nat.reduceAdd, C1_ty, ty35, Nat.add_assoc, hk, i0, hlt, hz]
              | cons x rem =>
                obtain ⟨hx, hlt0, hd', ht'⟩ := drop_cons_get hd
                have hlt : (k : Int) < (t.length : Int) := by omega
                have hw : IntKind.i64.wrap ((k : Int) + 1) = ((k + 1 : Nat) : Int) := by rw [Int.natCast_add]; exact wrap_i64 (by omega) (by omega)
                have hpx := hp x (List.mem_of_getElem? hx)
                have hpx2 : x.path.length ≤ 4398046511103 := by omega
                by_cases hf : folderE t (parentOf x.path) = 5
                · have ha : t.any (fun x => decide (folderE t (parentOf x.path) = 5)) = true := by rw [List.any_eq_true]; exact ⟨x, List.mem_of_getElem? hx, by simpa using hf⟩
                  simp only [↓bD, bL, stps, stpOf, ev, ofConst, loadObj, TI.agg, fieldAddrA, indexAddrA, binP, binA, symA, intOp, lenA, elemTI, Option.or, hputs, ↓reduceIte, reduceCtorEq, Nat.reduceEqDiff, Nat.reduceLT, Nat.reduceAdd, fin, List.mapM_cons, List.mapM_nil, scalarN, plainN, C1_ty, ty9, ty35, ty107, pureF, Cl_3 (C := C1) (g := 88) (fn := Tryz.f88) rfl (fnBy_of Tryz.func88 rfl) rfl, G_folderE, Cl_3 (C := C1) (g := 89) (fn := Tryz.f89) rfl (fnBy_of Tryz.func89 rfl) rfl, G_parentOf, beqD, Nat.add_assoc, hk, i0, hlt, hx, hpx2, ht2, eq_true hf, ha]
                · simp only [↓bD, bL, stps, stpOf, ev, ofConst, loadObj, TI.agg, fieldAddrA, indexAddrA, binP, binA, symA, intOp, lenA, elemTI, Option.or, hputs, ↓reduceIte, reduceCtorEq, Nat.reduceEqDiff, Nat.reduceLT, Nat.reduceAdd, fin, List.mapM_cons, List.mapM_nil, scalarN, plainN, C1_ty, ty9, ty35, ty107, pureF, Cl_3 (C := C1) (g := 88) (fn := Tryz.f88) rfl (fnBy_of Tryz.func88 rfl) rfl, G_folderE, Cl_3 (C := C1) (g := 89) (fn := Tryz.f89) rfl (fnBy_of Tryz.func89 rfl) rfl, G_parentOf, beqD, Nat.add_assoc, hk, i0, hlt, hx, hw, hpx2, ht2, eq_false hf]
                  exact ⟨rem, by simp, k + 1, rfl, hd', by rw [ht', List.any_append, hz]; simp [hf]⟩
            · rintro e3 T3 st3 he3 hF hc3 hb3 (⟨rfl, i4, i2⟩ | ⟨rfl, i4⟩)
              · simp only [↓bD, bL, resA, ↓reduceIte, fin, Tryz.results63, i4, i2, h4, h60, g4]
              · have i0 := hF 0 rfl
                simp only [getT_setT, g0] at i0
                clear hF
                rw [h6 i4]
                simp only [↓bD, bL, stps, stpOf, ev, ofConst, ↓reduceIte, Nat.reduceLT, Tryz.ntmps63]
                refine X_loop (fun (rem : List Entry) T st => ∃ k : Nat, getT T 7 = .int .i64 (k : Nat) ∧ t.drop k = rem ∧ (t.take k).any (fun x => !decide (folderE t (parentOf x.path) = 0)) = false) List.length
                  (fun e T st => (e = .ret ∧ t.any (fun x => !decide (folderE t (parentOf x.path) = 0)) = true ∧ getT T 2 = .int .i64 4) ∨ (e = .exit 7 ∧ t.any (fun x => !decide (folderE t (parentOf x.path) = 0)) = false)) t ⟨0, by simp [getT_setT], rfl, rfl⟩ ?_ ?_
                · rintro rem T4 st4 hF hc4 hb4 ⟨k, hk, hd, hz⟩
                  have j0 := hF 0 rfl
                  simp only [getT_setT, i0] at j0
                  clear hF
                  cases rem with
                  | nil =>
                    have hn := drop_nil_len hd
                    have hlt : ¬ (k : Int) < (t.length : Int) := by omega
                    rw [List.take_of_length_le hn] at hz
                    simp only [↓bD, bL, stps, stpOf, ev, binP, binA, symA, intOp, lenA, Option.or, ↓reduceIte, reduceCtorEq, Nat.reduceEqDiff, Nat.reduceLT, Nat.reduceAdd, C1_ty, ty35, Nat.add_assoc, hk, j0, hlt, hz]
                  | cons x rem =>
                    obtain ⟨hx, hlt0, hd', ht'⟩ := drop_cons_get hd
                    have hlt : (k : Int) < (t.length : Int) := by omega
                    have hw : IntKind.i64.wrap ((k : Int) + 1) = ((k + 1 : Nat) : Int) := by rw [Int.natCast_add]; exact wrap_i64 (by omega) (by omega)
                    have hpx := hp x (List.mem_of_getElem? hx)
                    have hpx2 : x.path.length ≤ 4398046511103 := by omega
                    by_cases hf : folderE t (parentOf x.path) = 0
                    · simp only [↓bD, bL, stps, stpOf, ev, ofConst, loadObj, TI.agg, fieldAddrA, indexAddrA, binP, binA, symA, intOp, lenA, elemTI, Option.or, hputs, ↓reduceIte, reduceCtorEq, Nat.reduceEqDiff, Nat.reduceLT, Nat.reduceAdd, fin, List.mapM_cons, List.mapM_nil, scalarN, plainN, C1_ty, ty9, ty35, ty107, pureF, Cl_3 (C := C1) (g := 88) (fn := Tryz.f88) rfl (fnBy_of Tryz.func88 rfl) rfl, G_folderE, Cl_3 (C := C1) (g := 89) (fn := Tryz.f89) rfl (fnBy_of Tryz.func89 rfl) rfl, G_parentOf, bneD, Nat.add_assoc, hk, j0, hlt, hx, hw, hpx2, ht2, eq_true hf]
                      exact ⟨rem, by simp, k + 1, rfl, hd', by rw [ht', List.any_append, hz]; simp [hf]⟩
                    · have ha : t.any (fun x => !decide (folderE t (parentOf x.path) = 0)) = true := by rw [List.any_eq_true]; exact ⟨x, List.mem_of_getElem? hx, by simpa using hf⟩
                      simp only [↓bD, bL, stps, stpOf, ev, ofConst, loadObj, TI.agg, fieldAddrA, indexAddrA, binP, binA, symA, intOp, lenA, elemTI, Option.or, hputs, ↓reduceIte, reduceCtorEq, Nat.reduceEqDiff, Nat.reduceLT, Nat.reduceAdd, fin, List.mapM_cons, List.mapM_nil, scalarN, plainN, C1_ty, ty9, ty35, ty107, pureF, Cl_3 (C := C1) (g := 88) (fn := Tryz.f88) rfl (fnBy_of Tryz.func88 rfl) rfl, G_folderE, Cl_3 (C := C1) (g := 89) (fn := Tryz.f89) rfl (fnBy_of Tryz.func89 rfl) rfl, G_parentOf, bneD, Nat.add_assoc, hk, j0, hlt, hx, hpx2, ht2, eq_false hf, ha]
                · rintro e4 T4 st4 he4 hF hc4 hb4 (⟨rfl, j4, j2⟩ | ⟨rfl, j4⟩)
                  · simp only [↓bD, bL, resA, ↓reduceIte, fin, Tryz.results63, j4, j2, i4, h4, h60, g4]
                  · simp only [↓bD, bL, stps, stpOf, ev, ofConst, resA, ↓reduceIte, Nat.reduceLT, fin, Tryz.ntmps63, Tryz.results63, j4, i4, h4, h60, g4]
theorem G_rCheckTree (t : List Entry) (ht : t.length ≤ 1099511627776) (hp : ∀ x ∈ t, x.path.length ≤ 1099511627776) : G3 C1 Tryz.f63 [.rows false (t.map Entry.cells)] = some (.int .i64 (checkTree t)) := G3_eq (R_rCheckTree t ht hp)
end Go.Ab.Seat
/- the document's changes: their form; what lies in what. -/
namespace Go.Ab.Seat
open Go Go.Proofs
-- CFG C1
set_option linter.unusedSimpArgs false
set_option linter.unusedVariables false
set_option maxHeartbeats 4000000
set_option maxRecDepth 100000

theorem names_sep (b r : Str) : names (b ++ 47 :: r) = names b ++ names r := by
  induction b with
  | nil => simp [names]
  | cons c b ih =>
    by_cases hc : c = 47
    · simp only [List.cons_append, names, hc, if_true, ih]
    · simp only [List.cons_append, names, hc, if_false, ih]
      have hne := names_ne b
      cases hb : names b with
      | nil => exact absurd hb hne
      | cons n ns => simp
theorem names_inj {a b : Str} (h : names a = names b) : a = b := by
  rw [← pathOf_names a, ← pathOf_names b, h]
theorem pathOf_app (l m : List Str) (hl : l ≠ []) (hm : m ≠ []) : pathOf (l ++ m) = pathOf l ++ 47 :: pathOf m := by
  induction l with
  | nil => exact absurd rfl hl
  | cons a l ih =>
    by_cases h : l = []
    · subst h
      simp only [List.cons_append, List.nil_append]
      rw [pathOf_cons a hm]; simp [pathOf]
    · rw [List.cons_append, pathOf_cons a (by simp [h]), pathOf_cons a h, ih h]; simp
/-- One path lies within another: its names begin so. -/
theorem within_names (a b : Str) : within a b = decide ((names a).take (names b).length = names b) := by
  rw [Bool.eq_iff_iff, decide_eq_true_eq]
  unfold within isPre
  rw [Bool.or_eq_true, beq_iff_eq, beq_iff_eq]
  constructor
  · rintro (h | h)
    · rw [h, List.take_length]
    · have : a = b ++ 47 :: a.drop (b.length + 1) := by
        conv => lhs; rw [← List.take_append_drop (b ++ [47]).length a, h]
        simp
      rw [this, names_sep, List.take_left']
      rfl
  · intro h
    have e := List.take_append_drop (names b).length (names a)
    rw [h] at e
    by_cases hd : (names a).drop (names b).length = []
    · left; rw [hd, List.append_nil] at e; exact names_inj e.symm
    · right
      have e2 : a = b ++ 47 :: pathOf ((names a).drop (names b).length) := by
        have := pathOf_app (names b) _ (names_ne b) hd
        rw [e, pathOf_names, pathOf_names] at this
        exact this
      generalize pathOf ((names a).drop (names b).length) = r at e2
      rw [e2, show b ++ 47 :: r = (b ++ [47]) ++ r by simp, List.take_left']
      rfl
theorem take_eq_iff {α : Type} {l m : List α} (h : m.length ≤ l.length) : l.take m.length = m ↔ ∀ (i : Nat) (x : α), m[i]? = some x → l[i]? = some x := by
  constructor
  · intro e i x hx
    have hi := (List.getElem?_eq_some_iff.1 hx).1
    rw [← e, List.getElem?_take_of_lt hi] at hx
    exact hx
  · intro e
    apply List.ext_getElem?
    intro i
    by_cases hi : i < m.length
    · rw [List.getElem?_take_of_lt hi, List.getElem?_eq_getElem hi]
      exact e i _ (List.getElem?_eq_getElem hi)
    · rw [List.getElem?_eq_none (by rw [List.length_take]; omega), List.getElem?_eq_none (by omega)]

-- REG R.IsIn G_isIn
theorem R_isIn (a b : Str) (ha : a.length ≤ 4398046511103) (hb : b.length ≤ 4398046511103) : Run3 C1 Tryz.f116 [.str a, .str b] (.bool (within a b)) := by
  have ha1 : a.length ≤ 4398046511104 := by omega
  have hb1 : b.length ≤ 4398046511104 := by omega
  have hnb : (names b).length ≤ 4398046511104 := by
    rw [names_len]; have := List.count_le_length (a := (47 : UInt8)) (l := b); omega
  refine Run3.mk (fn := Tryz.f116) rfl ?_
  rw [within_names]
  by_cases hl : ((names a).length : Int) < ((names b).length : Int)
  · have : ¬ (names a).take (names b).length = names b := fun e => by have := congrArg List.length e; rw [List.length_take] at this; omega
    simp only [↓bD, bL, stps, stpOf, ev, getT, setT, ofConst, binP, binA, symA, intOp, lenA, resA, padT, List.replicate, Option.or, hputs, ↓reduceIte, Nat.reduceLT, Nat.reduceAdd, Nat.reduceSub, fin, List.mapM_cons, List.mapM_nil, scalarN, plainN, C1_ty, ty61, Tryz.ntmps116, Tryz.results116, Cl_3 (C := C1) (g := 111) (fn := Tryz.f111) rfl (fnBy_of Tryz.func111 rfl) rfl, pureF, G_namesOf, ha1, hb1, hl, eq_false this]
  · have hv : decide ((names a).take (names b).length = names b) = true ↔ ∀ (i : Nat) (x : Str), (names b)[i]? = some x → (names a)[i]? = some x := by
      rw [decide_eq_true_iff]; exact take_eq_iff (by omega)
    generalize decide ((names a).take (names b).length = names b) = v at hv ⊢
    simp only [↓bD, bL, stps, stpOf, ev, getT, setT, ofConst, binP, binA, symA, intOp, lenA, padT, List.replicate, Option.or, hputs, ↓reduceIte, Nat.reduceLT, Nat.reduceAdd, Nat.reduceSub, fin, List.mapM_cons, List.mapM_nil, scalarN, plainN, C1_ty, ty61, Tryz.ntmps116, Cl_3 (C := C1) (g := 111) (fn := Tryz.f111) rfl (fnBy_of Tryz.func111 rfl) rfl, pureF, G_namesOf, ha1, hb1, hl]
    refine X_loop (fun (rem : List Str) T st => ∃ k : Nat, getT T 7 = .int .i64 (k : Nat) ∧ (names b).drop k = rem ∧ ∀ (i : Nat) (x : Str), i < k → (names b)[i]? = some x → (names a)[i]? = some x) List.length
      (fun e T st => (e = .ret ∧ getT T 4 = .bool false ∧ v = false) ∨ (e = .exit 0 ∧ v = true)) (names b) ⟨0, rfl, rfl, fun i x hi => absurd hi (Nat.not_lt_zero i)⟩ ?_ ?_
    · rintro rem T st hF hc hbr ⟨k, hk, hd, hn⟩
      have h5 := hF 5 rfl
      have h6 := hF 6 rfl
      simp only [getT_setT, getT] at h5 h6
      clear hF
      cases rem with
      | nil =>
        have hnk := drop_nil_len hd
        have hlt : ¬ (k : Int) < ((names b).length : Int) := by omega
        have hv1 : v = true := by rw [hv]; exact fun i x hx => hn i x (by have := (List.getElem?_eq_some_iff.1 hx).1; omega) hx
        simp only [↓bD, bL, stps, stpOf, ev, binP, binA, symA, intOp, lenA, Option.or, ↓reduceIte, reduceCtorEq, Nat.reduceEqDiff, Nat.reduceLT, Nat.reduceAdd, C1_ty, ty61, Nat.add_assoc, hk, h6, hlt, hv1]
      | cons x rem =>
        obtain ⟨hx, hlt0, hd', ht'⟩ := drop_cons_get hd
        have hlt : (k : Int) < ((names b).length : Int) := by omega
        have hlt2 : (k : Int) < ((names a).length : Int) := by omega
        have hw : IntKind.i64.wrap ((k : Int) + 1) = ((k + 1 : Nat) : Int) := by rw [Int.natCast_add]; exact wrap_i64 (by omega) (by omega)
        obtain ⟨y, hy⟩ : ∃ y, (names a)[k]? = some y := ⟨(names a)[k], List.getElem?_eq_getElem (by omega)⟩
        by_cases hxy : y = x
        · simp only [↓bD, bL, stps, stpOf, ev, ofConst, loadObj, TI.agg, indexAddrA, binP, binA, symA, intOp, strOp, lenA, elemTI, Option.or, ↓reduceIte, Nat.reduceEqDiff, Nat.reduceLT, Nat.reduceAdd, looks, C1_ty, ty9, ty61, beqD, Nat.add_assoc, hk, h5, h6, hlt, hlt2, hx, hy, hw, eq_true hxy]
          refine ⟨by kernel_rfl, ?_⟩
          refine ⟨rem, by simp, k + 1, rfl, hd', ?_⟩
          intro i z hi hz
          rcases Nat.lt_succ_iff_lt_or_eq.1 hi with hi | rfl
          · exact hn i z hi hz
          · rw [hx] at hz; cases hz; rw [hy, hxy]
        · have hno : v = false := by
            cases hvv : v with
            | false => rfl
            | true => have h := hv.1 hvv k x hx; rw [hy] at h; cases h; exact absurd rfl hxy
          simp only [↓bD, bL, stps, stpOf, ev, ofConst, loadObj, TI.agg, indexAddrA, binP, binA, symA, intOp, strOp, lenA, elemTI, Option.or, ↓reduceIte, reduceCtorEq, Nat.reduceEqDiff, Nat.reduceLT, Nat.reduceAdd, looks, C1_ty, ty9, ty61, beqD, Nat.add_assoc, hk, h5, h6, hlt, hlt2, hx, hy, eq_false hxy, hno]
          kernel_rfl
    · rintro e T st he hF hc hbr (⟨rfl, h2, hn⟩ | ⟨rfl, hn⟩)
      · simp only [↓kseq_ret, ↓kblock_ret, List.toList_toArray, S_some, ↓end_ret, resA, tupOf_1, Option.map_some, fin, Tryz.results116, h2, hn]
      · simp only [↓bD, bL, stps, stpOf, ev, ofConst, resA, ↓reduceIte, Nat.reduceLT, fin, Tryz.ntmps116, Tryz.results116, hn]
theorem G_isIn (a b : Str) (ha : a.length ≤ 4398046511103) (hb : b.length ≤ 4398046511103) : G3 C1 Tryz.f116 [.str a, .str b] = some (.bool (within a b)) := G3_eq (R_isIn a b ha hb)
end Go.Ab.Seat
/- Trees that are right, as a proposition; paths. -/
namespace Go.Ab.Seat
open Go

def Asc (t : List Entry) : Prop := t.Pairwise fun x y => x.path < y.path
structure OkT (t : List Entry) : Prop where
  len : t.length ≤ 60
  ent : ∀ x ∈ t, checkEntry x = 0
  asc : Asc t
  par : ∀ x ∈ t, parentOf x.path = [] ∨ ∃ y ∈ t, y.path = parentOf x.path ∧ y.folder = true

theorem lt_tri (a b : Str) : a < b ∨ a = b ∨ b < a := by
  rcases Classical.em (a < b) with h | h
  · exact .inl h
  · rcases Classical.em (b < a) with h2 | h2
    · exact .inr (.inr h2)
    · exact .inr (.inl (List.le_antisymm (List.not_lt.1 h2) (List.not_lt.1 h)))

theorem asc_iff (t : List Entry) : ascBy lePath t = true ↔ Asc t := by
  constructor
  · intro h
    unfold Asc
    rw [List.pairwise_iff_getElem]
    intro i j hi hj hij
    have := asc_lt h i (j - i - 1) t[i] t[j] (by simp [hi]) (by rw [show i + (j - i - 1) + 1 = j by omega]; simp [hj])
    exact this
  · intro h
    unfold Asc at h
    rw [List.pairwise_iff_getElem] at h
    unfold ascBy
    rw [List.all_eq_true]
    intro q hq
    obtain ⟨i, hi⟩ := List.getElem?_of_mem hq
    obtain ⟨h1, h2⟩ := zip_tail_get hi
    obtain ⟨k1, e1⟩ := List.getElem?_eq_some_iff.1 h1
    obtain ⟨k2, e2⟩ := List.getElem?_eq_some_iff.1 h2
    have h3 := h i (i + 1) k1 k2 (by omega)
    rw [e1, e2] at h3
    cases hl : lePath q.2 q.1 with
    | false => rfl
    | true => exact absurd h3 ((leS_iff _ _).1 hl)

theorem firstErr_zero {α : Type} {f : α → Int} : ∀ {l : List α}, (∀ x ∈ l, f x = 0) → firstErr f l = 0
  | [], _ => rfl
  | a :: l, h => by
    simp only [firstErr]
    rw [if_neg (fun q => q (h a (by simp)))]
    exact firstErr_zero fun x hx => h x (by simp [hx])

theorem entryAt_neg {t : List Entry} {p : Str} : entryAt t p < 0 ↔ ∀ x ∈ t, x.path ≠ p := by
  have := idxF_nn (fun x : Entry => decide (x.path = p)) t
  unfold entryAt
  rw [← Int.not_le, this]
  simp
theorem entryAt_at {t : List Entry} {p : Str} (h : ¬ entryAt t p < 0) : ∃ (k : Nat) (x : Entry), entryAt t p = (k : Int) ∧ t[k]? = some x ∧ x.path = p := by
  unfold entryAt idxF' at h ⊢
  split at h
  · rename_i k e
    obtain ⟨h1, h2, _⟩ := List.findIdx?_eq_some_iff_getElem.1 e
    exact ⟨k, t[k], rfl, by simp [h1], by simpa using h2⟩
  · exact absurd (by decide) h
theorem asc_uniq {t : List Entry} (h : Asc t) {x y : Entry} (hx : x ∈ t) (hy : y ∈ t) (he : x.path = y.path) : x = y := by
  obtain ⟨i, hi, rfl⟩ := List.mem_iff_getElem.1 hx
  obtain ⟨j, hj, rfl⟩ := List.mem_iff_getElem.1 hy
  unfold Asc at h
  rw [List.pairwise_iff_getElem] at h
  rcases Nat.lt_trichotomy i j with h1 | h1 | h1
  · exact absurd (h i j hi hj h1) (by rw [he]; exact List.lt_irrefl _)
  · subst h1; rfl
  · exact absurd (h j i hj hi h1) (by rw [he]; exact List.lt_irrefl _)
theorem folderE_zero {t : List Entry} {q : Str} : folderE t q = 0 → q = [] ∨ ∃ x ∈ t, x.path = q ∧ x.folder = true := by
  unfold folderE
  intro h
  by_cases hq : q = []
  · exact .inl hq
  rw [if_neg hq] at h
  by_cases hn : entryAt t q < 0
  · rw [if_pos hn] at h; exact absurd h (by decide)
  rw [if_neg hn] at h
  obtain ⟨k, x, h1, h2, h3⟩ := entryAt_at hn
  rw [h1, Int.toNat_natCast, h2] at h
  simp only at h
  right
  refine ⟨x, List.mem_of_getElem? h2, h3, ?_⟩
  cases hf : x.folder with
  | true => rfl
  | false => rw [hf] at h; exact absurd h (by decide)
theorem folderE_of {t : List Entry} (ha : Asc t) {q : Str} (h : q = [] ∨ ∃ x ∈ t, x.path = q ∧ x.folder = true) : folderE t q = 0 := by
  unfold folderE
  by_cases hq : q = []
  · rw [if_pos hq]
  rw [if_neg hq]
  rcases h with h | ⟨x, hx, hp, hf⟩
  · exact absurd h hq
  have hn : ¬ entryAt t q < 0 := fun h => (entryAt_neg.1 h) x hx hp
  rw [if_neg hn]
  obtain ⟨k, y, h1, h2, h3⟩ := entryAt_at hn
  rw [h1, Int.toNat_natCast, h2]
  have := asc_uniq ha (List.mem_of_getElem? h2) hx (h3.trans hp.symm)
  subst this
  simp [hf]

theorem checkTree_ok (t : List Entry) : checkTree t = 0 ↔ OkT t := by
  unfold checkTree
  by_cases h1 : 60 < t.length
  · rw [if_pos h1]; exact ⟨fun h => absurd h (by decide), fun h => absurd h.len (by omega)⟩
  rw [if_neg h1]
  by_cases h2 : firstErr checkEntry t = 0
  rotate_left
  · rw [if_pos h2]; exact ⟨fun h => absurd h h2, fun h => absurd (firstErr_zero h.ent) h2⟩
  rw [if_neg (fun h => h h2)]
  by_cases h3 : ascBy lePath t = true
  rotate_left
  · rw [if_pos (by simpa using h3)]; exact ⟨fun h => absurd h (by decide), fun h => absurd ((asc_iff t).2 h.asc) h3⟩
  rw [if_neg (by simp [h3])]
  have ha := (asc_iff t).1 h3
  have key : ∀ x : Entry, folderE t (parentOf x.path) = 0 ↔ (parentOf x.path = [] ∨ ∃ y ∈ t, y.path = parentOf x.path ∧ y.folder = true) := fun x => ⟨folderE_zero, folderE_of ha⟩
  by_cases h4 : t.any (fun x => !(parentE t x.path).2) = true
  · rw [if_pos h4]
    refine ⟨fun h => absurd h (by decide), fun h => ?_⟩
    obtain ⟨x, hx, hp⟩ := List.any_eq_true.1 h4
    have := (key x).2 (h.par x hx)
    rw [folder_parent h3, if_pos hp] at this
    exact absurd this (by decide)
  rw [if_neg h4]
  by_cases h5 : t.any (fun x => !(parentE t x.path).1.folder) = true
  · rw [if_pos h5]
    refine ⟨fun h => absurd h (by decide), fun h => ?_⟩
    obtain ⟨x, hx, hp⟩ := List.any_eq_true.1 h5
    have := (key x).2 (h.par x hx)
    rw [folder_parent h3] at this
    split at this
    · exact absurd this (by decide)
    · exact absurd this (by decide)
  rw [if_neg h5]
  refine ⟨fun _ => ⟨by omega, firstErr_all h2, ha, fun x hx => (key x).1 ?_⟩, fun _ => rfl⟩
  rw [folder_parent h3]
  rw [if_neg (fun q => h4 (List.any_eq_true.2 ⟨x, hx, q⟩)), if_neg (fun q => h5 (List.any_eq_true.2 ⟨x, hx, q⟩))]

/-! Paths. -/
theorem lastIdx_append (a b : Str) (c : UInt8) : lastIdx (a ++ b) c = if 0 ≤ lastIdx b c then (a.length : Int) + lastIdx b c else lastIdx a c := by
  induction b using snoc_ind with
  | h0 => simp [lastIdx]
  | hs l x ih =>
    rw [← List.append_assoc, lastIdx_snoc, lastIdx_snoc]
    by_cases h : x = c
    · rw [if_pos h, if_pos h, if_pos (by omega), List.length_append]; omega
    · rw [if_neg h, if_neg h]; exact ih
theorem lastIdx_cut (p : Str) (c : UInt8) (h : 0 ≤ lastIdx p c) : p = p.take (lastIdx p c).toNat ++ c :: p.drop (lastIdx p c + 1).toNat := by
  induction p using snoc_ind with
  | h0 => simp [lastIdx] at h
  | hs l x ih =>
    rw [lastIdx_snoc] at h ⊢
    by_cases hx : x = c
    · rw [if_pos hx, Int.toNat_natCast, List.take_left' rfl, List.drop_eq_nil_of_le (by simp), hx]
    · rw [if_neg hx] at h ⊢
      have hr := lastIdx_range l c
      rw [List.take_append_of_le_length (by omega), List.drop_append_of_le_length (by omega)]
      conv => lhs; rw [ih h]
      simp
theorem parent_split {p : Str} (h : parentOf p ≠ []) : p = parentOf p ++ 47 :: lastOf p := by
  have hn : 0 ≤ lastIdx p 47 := by
    rcases Int.lt_or_le (lastIdx p 47) 0 with h1 | h1
    · exact absurd (by unfold parentOf; rw [Int.toNat_of_nonpos (by omega)]; rfl) h
    · exact h1
  exact lastIdx_cut p 47 hn
theorem parent_len {p : Str} (h : p ≠ []) : (parentOf p).length < p.length := by
  have := lastIdx_range p 47
  have hp : 0 < p.length := by cases p with
    | nil => exact absurd rfl h
    | cons _ _ => simp
  unfold parentOf
  rw [List.length_take]
  omega
theorem within_iff {p q : Str} : within p q = true ↔ p = q ∨ ∃ s, p = q ++ 47 :: s := by
  unfold within isPre
  rw [Bool.or_eq_true, beq_iff_eq, beq_iff_eq]
  constructor
  · rintro (h | h)
    · exact .inl h
    · right
      refine ⟨p.drop (q.length + 1), ?_⟩
      conv => lhs; rw [← List.take_append_drop (q ++ [47]).length p, h]
      simp
  · rintro (h | ⟨s, h⟩)
    · exact .inl h
    · right
      rw [h, show q ++ 47 :: s = (q ++ [47]) ++ s by simp, List.take_left' rfl]
theorem within_refl (p : Str) : within p p = true := within_iff.2 (.inl rfl)
theorem within_parent {p q : Str} (hp : parentOf p ≠ []) (h : within (parentOf p) q = true) : within p q = true := by
  have e := parent_split hp
  rcases within_iff.1 h with h1 | ⟨s, h1⟩
  · exact within_iff.2 (.inr ⟨lastOf p, by rw [← h1]; exact e⟩)
  · refine within_iff.2 (.inr ⟨s ++ 47 :: lastOf p, ?_⟩)
    conv => lhs; rw [e]
    rw [h1]
    simp
theorem parent_deep (q s : Str) : ∃ m : Nat, lastIdx (47 :: s) 47 = (m : Int) ∧ m ≤ s.length ∧ ∀ r : Str, parentOf (r ++ 47 :: s) = r ++ (47 :: s).take m := by
  have h0 : 0 ≤ lastIdx (47 :: s) 47 := by
    rw [show (47 : UInt8) :: s = [47] ++ s by rfl, lastIdx_append]
    split
    · simp only [List.length_cons, List.length_nil]; omega
    · simp [lastIdx]
  have h1 := lastIdx_range (47 :: s) 47
  refine ⟨(lastIdx (47 :: s) 47).toNat, by omega, by simp only [List.length_cons] at h1; omega, fun r => ?_⟩
  unfold parentOf
  rw [lastIdx_append, if_pos h0]
  obtain ⟨m, hm⟩ : ∃ m : Nat, lastIdx (47 :: s) 47 = (m : Int) := ⟨(lastIdx (47 :: s) 47).toNat, by omega⟩
  rw [hm, Int.toNat_natCast, show ((r.length : Int) + (m : Int)).toNat = r.length + m by omega, List.take_length_add_append]
theorem parent_under {q s : Str} (hq : q ≠ []) : parentOf (q ++ 47 :: s) ≠ [] ∧ within (parentOf (q ++ 47 :: s)) q = true := by
  obtain ⟨m, _, _, h⟩ := parent_deep q s
  rw [h q]
  refine ⟨by simp [hq], ?_⟩
  cases m with
  | zero => simp only [List.take_zero, List.append_nil]; exact within_refl q
  | succ m => exact within_iff.2 (.inr ⟨s.take m, by simp⟩)
theorem parent_moved {q s : Str} (r : Str) : parentOf (r ++ 47 :: s) = r ++ (parentOf (q ++ 47 :: s)).drop q.length := by
  obtain ⟨m, _, _, h⟩ := parent_deep q s
  rw [h r, h q, List.drop_left' rfl]
theorem checkPath_zero {p : Str} : checkPath p = 0 ↔ (names p).all isName = true ∧ great p = false := by
  unfold checkPath
  cases h : (names p).all isName <;> cases h2 : great p <;> simp
theorem checkPath_ne {p : Str} (h : checkPath p = 0) : p ≠ [] := by
  rintro rfl
  have := (checkPath_zero.1 h).1
  simp [names, isName] at this

/-- An entry of what is moved, its place in bytes. -/
theorem moved_path {c : Change} {n : Int} {x : Entry} (h : within x.path c.path = true) : (movedE c n x).path = c.to ++ x.path.drop c.path.length := by
  show pathOf (names c.to ++ (names x.path).drop (names c.path).length) = _
  rcases within_iff.1 h with h1 | ⟨s, h1⟩
  · rw [h1, List.drop_length, List.append_nil, pathOf_names, List.drop_length, List.append_nil]
  · rw [h1, names_sep, List.drop_left' rfl, pathOf_app _ _ (names_ne _) (names_ne _), pathOf_names, pathOf_names, List.drop_left' rfl]

/-! The document's PutEntry. -/
theorem putE_mem (e : Entry) : ∀ (t : List Entry) (y : Entry), y ∈ putE e t → y = e ∨ y ∈ t
  | [], y, h => by simp [putE] at h; exact .inl h
  | x :: r, y, h => by
    unfold putE at h
    split at h
    · rcases List.mem_cons.1 h with h | h
      · exact .inr (by simp [h])
      · rcases putE_mem e r y h with h | h
        · exact .inl h
        · exact .inr (by simp [h])
    · rcases List.mem_cons.1 h with h | h
      · exact .inl h
      · exact .inr (List.mem_filter.1 h).1
theorem putE_asc {e : Entry} : ∀ {t : List Entry}, Asc t → Asc (putE e t)
  | [], _ => by simp [putE, Asc]
  | x :: r, h => by
    obtain ⟨h1, h2⟩ := List.pairwise_cons.1 h
    unfold putE
    split
    · rename_i hl
      rw [bytesLess_lt, decide_eq_true_eq] at hl
      refine List.pairwise_cons.2 ⟨fun y hy => ?_, putE_asc h2⟩
      rcases putE_mem e r y hy with rfl | hy
      · exact hl
      · exact h1 y hy
    · rename_i hl
      rw [bytesLess_lt, decide_eq_true_eq] at hl
      refine List.pairwise_cons.2 ⟨fun y hy => ?_, List.Pairwise.filter _ h⟩
      obtain ⟨hm, hne⟩ := List.mem_filter.1 hy
      have hne : ¬ y.path = e.path := by simpa using hne
      rcases List.mem_cons.1 hm with rfl | hm
      · rcases lt_tri e.path y.path with h3 | h3 | h3
        · exact h3
        · exact absurd h3.symm hne
        · exact absurd h3 hl
      · have h4 := h1 y hm
        rcases lt_tri e.path x.path with h3 | h3 | h3
        · exact List.lt_trans h3 h4
        · rw [h3]; exact h4
        · exact absurd h3 hl
theorem putE_iff {e : Entry} {y : Entry} : ∀ {t : List Entry}, (y ∈ putE e t ↔ y = e ∨ (y ∈ t ∧ y.path ≠ e.path))
  | [] => by simp [putE]
  | x :: r => by
    unfold putE
    split
    · rename_i hl
      have hne := bytesLess_ne hl
      rw [List.mem_cons, putE_iff (t := r), List.mem_cons]
      constructor
      · rintro (rfl | h | ⟨h1, h2⟩)
        · exact .inr ⟨.inl rfl, hne⟩
        · exact .inl h
        · exact .inr ⟨.inr h1, h2⟩
      · rintro (h | ⟨h | h, h2⟩)
        · exact .inr (.inl h)
        · exact .inl h
        · exact .inr (.inr ⟨h, h2⟩)
    · rw [List.mem_cons, List.mem_filter]
      simp
end Go.Ab.Seat
/- A change of a tree that is right leaves one that is right. -/
namespace Go.Ab.Seat
open Go

/-- The document's ChangeOf. -/
def changeOf (t : List Entry) (c : Change) (n : Int) : List Entry × Int :=
  if changeForm c ≠ 0 then ([], changeForm c) else if changeErr t c ≠ 0 then ([], changeErr t c)
  else match changeTo t c n with
    | none => ([], 2)
    | some o => if 60 < o.length then ([], 2) else (o, 0)

structure FormOk (c : Change) : Prop where
  k1 : 1 ≤ c.kind
  k4 : c.kind ≤ 4
  path : checkPath c.path = 0
  to : c.kind = 3 → checkPath c.to = 0
  to0 : c.kind ≠ 3 → c.to = []
  text0 : c.kind ≠ 2 → c.text = []
  text : c.text.length ≤ 300
  base0 : -1 ≤ c.base
  base : c.base ≤ 1000000
theorem form_ok {c : Change} (h : changeForm c = 0) : FormOk c := by
  have rest : 1 ≤ c.kind → c.kind ≤ 4 → checkPath c.path = 0 → (c.kind = 3 → checkPath c.to = 0) → formRest c = 0 → FormOk c := fun a1 a2 a3 a4 h => by
    unfold formRest at h
    split at h
    · exact absurd h (by decide)
    rename_i b1
    split at h
    · exact absurd h (by decide)
    rename_i b2
    split at h
    · exact absurd h (by decide)
    rename_i b3
    split at h
    · exact absurd h (by decide)
    rename_i b4
    split at h
    · exact absurd h (by decide)
    rename_i b5
    exact ⟨a1, a2, a3, a4, fun q => Classical.byContradiction fun r => b1 ⟨q, r⟩, fun q => Classical.byContradiction fun r => b2 ⟨q, r⟩, by omega, by omega, by omega⟩
  unfold changeForm at h
  split at h
  · exact absurd h (by decide)
  rename_i a1
  split at h
  · exact absurd h (by decide)
  rename_i a2
  split at h
  · rename_i q; exact absurd h q
  rename_i a3
  have a3 := Classical.not_not.1 a3
  split at h
  · rename_i k3
    split at h
    · rename_i q; exact absurd h q
    · rename_i q
      exact rest (by omega) (by omega) a3 (fun _ => Classical.not_not.1 q) h
  · rename_i k3
    exact rest (by omega) (by omega) a3 (fun q => absurd q k3) h

structure ErrOk (t : List Entry) (c : Change) : Prop where
  par : folderE t (parentOf (if c.kind = 3 then c.to else c.path)) = 0
  e1 : c.kind = 1 → entryAt t c.path < 0
  e2 : c.kind = 2 → ∀ (k : Nat) (x : Entry), entryAt t c.path = (k : Int) → t[k]? = some x → x.folder = false
  e3 : 3 ≤ c.kind → 0 ≤ entryAt t c.path
  e4 : c.kind = 3 → within c.to c.path = false
  e5 : c.kind = 3 → entryAt t c.to < 0
  e6 : 0 ≤ c.base → t.any (fun x => within x.path c.path && decide (c.base < x.version)) = false
theorem err_ok {t : List Entry} {c : Change} (h : changeErr t c = 0) : ErrOk t c := by
  unfold changeErr at h
  have par : folderE t (parentOf (if c.kind = 3 then c.to else c.path)) = 0 := by
    generalize folderE t (parentOf (if c.kind = 3 then c.to else c.path)) = g at h
    split at h
    · rename_i q; exact absurd h q
    · rename_i q; exact Classical.not_not.1 q
  rw [if_neg (fun q => q par)] at h
  split at h
  · exact absurd h (by decide)
  rename_i a1
  split at h
  · exact absurd h (by decide)
  rename_i a2
  split at h
  · exact absurd h (by decide)
  rename_i a3
  split at h
  · exact absurd h (by decide)
  rename_i a4
  split at h
  · exact absurd h (by decide)
  rename_i a5
  split at h
  · exact absurd h (by decide)
  rename_i a6
  refine ⟨par, fun k => ?_, fun k i x hi hx => ?_, fun k => ?_, fun k => ?_, fun k => ?_, fun k => ?_⟩
  · rcases Int.lt_or_le (entryAt t c.path) 0 with q | q
    · exact q
    · exact absurd ⟨k, q⟩ a1
  · cases hf : x.folder with
    | false => rfl
    | true => exact absurd ⟨k, by omega, x, by rw [hi, Int.toNat_natCast]; exact hx, hf⟩ a2
  · rcases Int.lt_or_le (entryAt t c.path) 0 with q | q
    · exact absurd ⟨k, q⟩ a3
    · exact q
  · cases hw : within c.to c.path with
    | false => rfl
    | true => exact absurd ⟨k, hw⟩ a4
  · rcases Int.lt_or_le (entryAt t c.to) 0 with q | q
    · exact q
    · exact absurd ⟨k, q⟩ a5
  · cases hw : t.any (fun x => within x.path c.path && decide (c.base < x.version)) with
    | false => rfl
    | true => exact absurd ⟨k, hw⟩ a6

theorem changeOf_some {t o : List Entry} {c : Change} {n : Int} (h : changeOf t c n = (o, 0)) : changeForm c = 0 ∧ changeErr t c = 0 ∧ changeTo t c n = some o ∧ o.length ≤ 60 := by
  unfold changeOf at h
  split at h
  · rename_i q; exact absurd (congrArg Prod.snd h) q
  rename_i a1
  split at h
  · rename_i q; exact absurd (congrArg Prod.snd h) q
  rename_i a2
  split at h
  · exact absurd (congrArg Prod.snd h) (by simp)
  · rename_i o' e
    split at h
    · exact absurd (congrArg Prod.snd h) (by simp)
    · have := congrArg Prod.fst h
      simp only at this
      subst this
      exact ⟨Classical.not_not.1 a1, Classical.not_not.1 a2, e, by omega⟩

theorem moveAll_spec {c : Change} {n : Int} : ∀ {rem out res : List Entry}, moveAll c n rem out = some res → Asc out →
    (rem.Pairwise fun x y => within x.path c.path = true → within y.path c.path = true → (movedE c n x).path ≠ (movedE c n y).path) →
    Asc res ∧ (∀ x ∈ rem, within x.path c.path = true → great (movedE c n x).path = false) ∧
    ∀ y, y ∈ res ↔ (∃ x ∈ rem, within x.path c.path = true ∧ y = movedE c n x) ∨ (y ∈ out ∧ ∀ x ∈ rem, within x.path c.path = true → y.path ≠ (movedE c n x).path)
  | [], out, res, h, ha, _ => by
    simp only [moveAll, Option.some.injEq] at h
    subst h
    exact ⟨ha, by simp, by simp⟩
  | x :: r, out, res, h, ha, hp => by
    obtain ⟨hp1, hp2⟩ := List.pairwise_cons.1 hp
    unfold moveAll at h
    by_cases hw : within x.path c.path = true
    · rw [if_pos hw] at h
      by_cases hg : great (movedE c n x).path = true
      · rw [if_pos hg] at h; cases h
      rw [if_neg hg] at h
      obtain ⟨h1, h2, h3⟩ := moveAll_spec h (putE_asc ha) hp2
      refine ⟨h1, fun z hz hzw => ?_, fun y => ?_⟩
      · rcases List.mem_cons.1 hz with rfl | hz
        · simpa using hg
        · exact h2 z hz hzw
      · rw [h3 y, putE_iff]
        constructor
        · rintro (⟨z, hz, hzw, e⟩ | ⟨rfl | ⟨ho, hne⟩, hall⟩)
          · exact .inl ⟨z, by simp [hz], hzw, e⟩
          · exact .inl ⟨x, by simp, hw, rfl⟩
          · refine .inr ⟨ho, fun z hz hzw => ?_⟩
            rcases List.mem_cons.1 hz with rfl | hz
            · exact hne
            · exact hall z hz hzw
        · rintro (⟨z, hz, hzw, e⟩ | ⟨ho, hall⟩)
          · rcases List.mem_cons.1 hz with rfl | hz
            · exact .inr ⟨.inl e, fun z' hz' hzw' => by rw [e]; exact hp1 z' hz' hw hzw'⟩
            · exact .inl ⟨z, hz, hzw, e⟩
          · exact .inr ⟨.inr ⟨ho, hall x (by simp) hw⟩, fun z hz hzw => hall z (by simp [hz]) hzw⟩
    · rw [if_neg hw] at h
      obtain ⟨h1, h2, h3⟩ := moveAll_spec h ha hp2
      refine ⟨h1, fun z hz hzw => ?_, fun y => ?_⟩
      · rcases List.mem_cons.1 hz with rfl | hz
        · exact absurd hzw hw
        · exact h2 z hz hzw
      · rw [h3 y]
        constructor
        · rintro (⟨z, hz, hzw, e⟩ | ⟨ho, hall⟩)
          · exact .inl ⟨z, by simp [hz], hzw, e⟩
          · refine .inr ⟨ho, fun z hz hzw => ?_⟩
            rcases List.mem_cons.1 hz with rfl | hz
            · exact absurd hzw hw
            · exact hall z hz hzw
        · rintro (⟨z, hz, hzw, e⟩ | ⟨ho, hall⟩)
          · rcases List.mem_cons.1 hz with rfl | hz
            · exact absurd hzw hw
            · exact .inl ⟨z, hz, hzw, e⟩
          · exact .inr ⟨ho, fun z hz hzw => hall z (by simp [hz]) hzw⟩

theorem checkEntry_zero {x : Entry} : checkEntry x = 0 ↔ checkPath x.path = 0 ∧ (x.folder = true → x.text = []) ∧ x.text.length ≤ 300 ∧ isVersion x.version = true := by
  unfold checkEntry
  constructor
  · intro h
    split at h
    · rename_i q; exact absurd h q
    rename_i a1
    split at h
    · exact absurd h (by decide)
    rename_i a2
    split at h
    · exact absurd h (by decide)
    rename_i a3
    split at h
    · exact absurd h (by decide)
    rename_i a4
    exact ⟨Classical.not_not.1 a1, fun q => Classical.byContradiction fun r => a2 ⟨q, r⟩, by omega, by simpa using a4⟩
  · rintro ⟨h1, h2, h3, h4⟩
    rw [if_neg (fun q => q h1), if_neg (fun q => q.2 (h2 q.1)), if_neg (by omega), if_neg (by simp [h4])]

theorem anc {t : List Entry} (ht : OkT t) {q : Str} (hq : q ≠ []) : ∀ (k : Nat) (y : Entry), y ∈ t → y.path.length ≤ k → (∃ s, y.path = q ++ 47 :: s) → ∃ z ∈ t, z.path = q := by
  intro k
  induction k with
  | zero =>
    rintro y hy hk ⟨s, hs⟩
    rw [hs] at hk
    simp at hk
  | succ k ih =>
    rintro y hy hk ⟨s, hs⟩
    obtain ⟨h1, h2⟩ := parent_under (s := s) hq
    rw [← hs] at h1 h2
    rcases ht.par y hy with h3 | ⟨z, hz, hzp, _⟩
    · exact absurd h3 h1
    rw [← hzp] at h2
    have hl := parent_len (p := y.path) (by rw [hs]; simp)
    rw [← hzp] at hl
    rcases within_iff.1 h2 with h4 | h4
    · exact ⟨z, hz, h4⟩
    · exact ih z hz (by omega) h4

theorem asc_filter {t : List Entry} (h : Asc t) (f : Entry → Bool) : Asc (t.filter f) := List.Pairwise.filter _ h

/-- What is moved goes to other places than what stays, and each to one of its own. -/
theorem moved_inj {t : List Entry} {c : Change} {n : Int} (h : Asc t) : t.Pairwise fun x y => within x.path c.path = true → within y.path c.path = true → (movedE c n x).path ≠ (movedE c n y).path := by
  refine List.Pairwise.imp (fun {x y} hlt hx hy he => ?_) h
  rw [moved_path hx, moved_path hy, List.append_cancel_left_eq] at he
  have key : ∀ z : Str, within z c.path = true → z = c.path ++ z.drop c.path.length := fun z hz => by
    rcases within_iff.1 hz with e | ⟨s, e⟩
    · conv => rhs; rw [e]
      rw [List.drop_length, List.append_nil]; exact e
    · conv => rhs; rw [e, List.drop_left' rfl]
      exact e
  have := (key _ hx).trans ((congrArg (c.path ++ ·) he).trans (key _ hy).symm)
  rw [this] at hlt
  exact List.lt_irrefl _ hlt

theorem changeOf_okT {t o : List Entry} {c : Change} {n : Int} (ht : OkT t) (hn : isVersion n = true) (h : changeOf t c n = (o, 0)) : OkT o := by
  obtain ⟨hf, he, hto, hlen⟩ := changeOf_some h
  have hf := form_ok hf
  have he := err_ok he
  have hpe := checkPath_ne hf.path
  have put : ∀ e : Entry, e.path = c.path → checkEntry e = 0 → (c.kind ≠ 3) → (∀ x ∈ t, x.path = c.path → x.folder = false) → o = putE e t → OkT o := fun e e1 e2 k3 hnof ho => by
    subst ho
    refine ⟨hlen, fun y hy => ?_, putE_asc ht.asc, fun y hy => ?_⟩
    · rcases putE_iff.1 hy with rfl | ⟨hy, _⟩
      · exact e2
      · exact ht.ent y hy
    · have hp : parentOf y.path = [] ∨ ∃ z ∈ t, z.path = parentOf y.path ∧ z.folder = true := by
        rcases putE_iff.1 hy with rfl | ⟨hy, _⟩
        · have := he.par
          rw [if_neg k3] at this
          rw [e1]
          exact folderE_zero this
        · exact ht.par y hy
      rcases hp with hp | ⟨z, hz, hzp, hzf⟩
      · exact .inl hp
      · refine .inr ⟨z, putE_iff.2 (.inr ⟨hz, fun q => ?_⟩), hzp, hzf⟩
        rw [e1] at q
        rw [hnof z hz q] at hzf; cases hzf
  unfold changeTo at hto
  split at hto
  · rename_i k
    have h1 := entryAt_neg.1 (he.e1 k)
    refine put ⟨c.path, true, [], n⟩ rfl (checkEntry_zero.2 ⟨hf.path, fun _ => rfl, by simp, hn⟩) (by omega) (fun x hx hp => absurd hp (h1 x hx)) (Option.some.inj hto).symm
  split at hto
  · rename_i _ k
    refine put ⟨c.path, false, c.text, n⟩ rfl (checkEntry_zero.2 ⟨hf.path, fun q => by simp at q, hf.text, hn⟩) (by omega) (fun x hx hp => ?_) (Option.some.inj hto).symm
    have hnn : ¬ entryAt t c.path < 0 := fun q => entryAt_neg.1 q x hx hp
    obtain ⟨i, z, h1, h2, h3⟩ := entryAt_at hnn
    have := asc_uniq ht.asc (List.mem_of_getElem? h2) hx (h3.trans hp.symm)
    subst this
    exact he.e2 k i z h1 h2
  have stay : ∀ z ∈ t, ∀ y ∈ t, within y.path c.path = false → z.path = parentOf y.path → parentOf y.path ≠ [] → within z.path c.path = false := fun z hz y hy hw hzp hne => by
    cases hq : within z.path c.path with
    | false => rfl
    | true => rw [hzp] at hq; rw [within_parent hne hq] at hw; cases hw
  split at hto
  · -- what is moved
    rename_i _ _ k
    obtain ⟨h1, h2, h3⟩ := moveAll_spec hto (asc_filter ht.asc _) (moved_inj ht.asc)
    have hto0 := checkPath_ne (hf.to k)
    have hpar := folderE_zero he.par
    rw [if_pos k] at hpar
    -- nothing that stays lies in the way
    have free : ∀ y ∈ t, within y.path c.path = false → ∀ x ∈ t, within x.path c.path = true → y.path ≠ (movedE c n x).path := fun y hy hyw x hx hxw e => by
      rw [moved_path hxw] at e
      have hno := entryAt_neg.1 (he.e5 k)
      rcases within_iff.1 hxw with e2 | ⟨s, e2⟩
      · rw [e2, List.drop_length, List.append_nil] at e
        exact hno y hy e
      · rw [e2, List.drop_left' rfl] at e
        obtain ⟨z, hz, hzp⟩ := anc ht hto0 _ y hy (Nat.le_refl _) ⟨s, e⟩
        exact hno z hz hzp
    have memO : ∀ y ∈ t, within y.path c.path = false → y ∈ o := fun y hy hyw => (h3 y).2 (.inr ⟨List.mem_filter.2 ⟨hy, by simp [hyw]⟩, fun x hx hxw => free y hy hyw x hx hxw⟩)
    refine ⟨hlen, fun y hy => ?_, h1, fun y hy => ?_⟩
    · rcases (h3 y).1 hy with ⟨x, hx, hxw, rfl⟩ | ⟨hy, _⟩
      · obtain ⟨g1, g2, g3, g4⟩ := checkEntry_zero.1 (ht.ent x hx)
        refine checkEntry_zero.2 ⟨checkPath_zero.2 ⟨?_, h2 x hx hxw⟩, g2, g3, ?_⟩
        · rw [moved_path hxw]
          rcases within_iff.1 hxw with e2 | ⟨s, e2⟩
          · rw [e2, List.drop_length, List.append_nil]; exact (checkPath_zero.1 (hf.to k)).1
          · rw [e2, List.drop_left' rfl, names_sep, List.all_append, (checkPath_zero.1 (hf.to k)).1]
            have := (checkPath_zero.1 g1).1
            rw [e2, names_sep, List.all_append, Bool.and_eq_true] at this
            exact this.2
        · show isVersion (if x.path = c.path then n else x.version) = true
          split
          · exact hn
          · exact g4
      · exact ht.ent y (List.mem_filter.1 hy).1
    · rcases (h3 y).1 hy with ⟨x, hx, hxw, rfl⟩ | ⟨hy, _⟩
      · rw [moved_path hxw]
        rcases within_iff.1 hxw with e2 | ⟨s, e2⟩
        · rw [e2, List.drop_length, List.append_nil]
          rcases hpar with hp | ⟨z, hz, hzp, hzf⟩
          · exact .inl hp
          · refine .inr ⟨z, memO z hz ?_, hzp, hzf⟩
            cases hq : within z.path c.path with
            | false => rfl
            | true =>
              by_cases hne : parentOf c.to = []
              · rw [hzp, hne] at hq
                rcases within_iff.1 hq with q | ⟨s, q⟩
                · exact absurd q.symm hpe
                · have := congrArg List.length q; simp at this
              · rw [hzp] at hq
                have := within_parent hne hq
                rw [he.e4 k] at this; cases this
        · rw [e2, List.drop_left' rfl]
          right
          obtain ⟨q1, q2⟩ := parent_under (s := s) hpe
          rw [← e2] at q1 q2
          rcases ht.par x hx with hp | ⟨z, hz, hzp, hzf⟩
          · exact absurd hp q1
          refine ⟨movedE c n z, (h3 _).2 (.inl ⟨z, hz, by rw [hzp]; exact q2, rfl⟩), ?_, hzf⟩
          rw [moved_path (by rw [hzp]; exact q2), hzp, e2]
          exact (parent_moved (q := c.path) c.to).symm
      · obtain ⟨hy, hyw⟩ := List.mem_filter.1 hy
        have hyw : within y.path c.path = false := by simpa using hyw
        rcases ht.par y hy with hp | ⟨z, hz, hzp, hzf⟩
        · exact .inl hp
        · by_cases hne : parentOf y.path = []
          · exact .inl hne
          · exact .inr ⟨z, memO z hz (stay z hz y hy hyw hzp hne), hzp, hzf⟩
  · -- what is taken away
    obtain rfl := (Option.some.inj hto).symm
    refine ⟨hlen, fun y hy => ht.ent y (List.mem_filter.1 hy).1, asc_filter ht.asc _, fun y hy => ?_⟩
    obtain ⟨hy, hyw⟩ := List.mem_filter.1 hy
    have hyw : within y.path c.path = false := by simpa using hyw
    by_cases hne : parentOf y.path = []
    · exact .inl hne
    rcases ht.par y hy with hp | ⟨z, hz, hzp, hzf⟩
    · exact .inl hp
    · exact .inr ⟨z, List.mem_filter.2 ⟨hz, by simp [stay z hz y hy hyw hzp hne]⟩, hzp, hzf⟩
end Go.Ab.Seat
/- Many changes; journals: what the document says of them, as plain functions. -/
namespace Go.Ab.Seat
open Go

def allGo (n : Int) : List Entry → List Change → Nat → List Entry × Int × Int
  | t, [], i => (t, (i : Int), 0)
  | t, c :: r, i => if (changeOf t c n).2 ≠ 0 then ([], (i : Int), (changeOf t c n).2) else allGo n (changeOf t c n).1 r (i + 1)
/-- The document's AllOf. -/
def allOf (t : List Entry) (l : List Change) (n : Int) : List Entry × Int × Int :=
  if 20 < l.length then ([], 0, 2) else if l ≠ [] ∧ isVersion n = false then ([], 0, 3) else allGo n t l 0

theorem changeOf_pair {t : List Entry} {c : Change} {n : Int} (h : (changeOf t c n).2 = 0) : changeOf t c n = ((changeOf t c n).1, 0) := by
  rw [← h]
theorem allGo_okT {n : Int} (hn : isVersion n = true) : ∀ {l : List Change} {t : List Entry} {i : Nat}, OkT t → (allGo n t l i).2.2 = 0 → OkT (allGo n t l i).1
  | [], t, i, ht, _ => ht
  | c :: r, t, i, ht, h => by
    unfold allGo at h ⊢
    split at h
    · rename_i q; exact absurd h q
    · rename_i q
      rw [if_neg q]
      exact allGo_okT hn (changeOf_okT ht hn (changeOf_pair (Classical.not_not.1 q))) h
theorem allOf_okT {t : List Entry} {l : List Change} {n : Int} (ht : OkT t) (h : (allOf t l n).2.2 = 0) : OkT (allOf t l n).1 := by
  unfold allOf at h ⊢
  split at h
  · exact absurd h (by decide)
  rename_i a1
  split at h
  · exact absurd h (by decide)
  rename_i a2
  rw [if_neg a1, if_neg a2]
  cases l with
  | nil => exact ht
  | cons c r =>
    refine allGo_okT ?_ ht h
    cases hv : isVersion n with
    | true => rfl
    | false => exact absurd ⟨by simp, hv⟩ a2

/-- What is wrong with a commit at its place. -/
def commitErr (first : Int) (i : Nat) (c : Commit) : Int :=
  if ¬ c.number = first + (i : Int) then 4 else if 1000000 < c.number then 3 else if isKey c.key = false then 1 else if c.changes = [] then 1 else 0
/-- The trees behind each commit. -/
def openGo (first : Int) : List Entry → List Commit → Nat → List (List Entry) × Int
  | _, [], _ => ([], 0)
  | t, c :: r, i => if commitErr first i c ≠ 0 then ([], commitErr first i c) else if (allOf t c.changes c.number).2.2 ≠ 0 then ([], (allOf t c.changes c.number).2.2)
    else ((allOf t c.changes c.number).1 :: (openGo first (allOf t c.changes c.number).1 r (i + 1)).1, (openGo first (allOf t c.changes c.number).1 r (i + 1)).2)
/-- Is a key there twice? -/
def twice : List Commit → Bool
  | [] => false
  | c :: r => r.any (fun d => decide (d.key = c.key)) || twice r
/-- The document's OpenJournal. -/
def openJ (j : Journal) : List (List Entry) × Int :=
  if checkTree j.base ≠ 0 then ([], checkTree j.base) else if isVersion j.first = false then ([], 3) else if 30 < j.commits.length then ([], 2)
  else if (openGo j.first j.base j.commits 0).2 ≠ 0 then ([], (openGo j.first j.base j.commits 0).2) else if twice j.commits = true then ([], 6)
  else (j.base :: (openGo j.first j.base j.commits 0).1, 0)
end Go.Ab.Seat
namespace Go.Ab.Seat
open Go
theorem twice_iff (l : List Commit) : twice l = false ↔ (l.map Commit.key).Nodup := by
  induction l with
  | nil => simp [twice]
  | cons c r ih =>
    simp only [twice, Bool.or_eq_false_iff, ih, List.map_cons, List.nodup_cons, List.any_eq_false, List.mem_map, not_exists, not_and]
    constructor
    · rintro ⟨h1, h2⟩; exact ⟨fun d hd => by simpa using h1 d hd, h2⟩
    · rintro ⟨h1, h2⟩; exact ⟨fun d hd => by simpa using h1 d hd, h2⟩
theorem twice_take {l : List Commit} {k : Nat} (h : twice l = false) : twice (l.take k) = false := by
  rw [twice_iff] at h ⊢
  rw [List.map_take]
  exact h.sublist (List.take_sublist _ _)
theorem twice_snoc {l : List Commit} {c : Commit} : twice (l ++ [c]) = (twice l || l.any (fun d => decide (d.key = c.key))) := by
  rw [Bool.eq_iff_iff, ← Bool.not_eq_false, twice_iff, Bool.or_eq_true, ← Bool.not_eq_false, twice_iff, List.map_append, List.nodup_append]
  simp only [List.map_cons, List.map_nil, List.nodup_cons, List.not_mem_nil, not_false_eq_true, List.nodup_nil, and_true, true_and, List.mem_map, List.mem_singleton, List.any_eq_true, decide_eq_true_eq]
  constructor
  · intro h
    by_cases hn : (l.map Commit.key).Nodup
    · right
      apply Classical.byContradiction
      intro q
      exact h ⟨hn, fun a ⟨d, hd, e⟩ b hb hab => q ⟨d, hd, by rw [e, hab, hb]⟩⟩
    · exact .inl hn
  · rintro (h | ⟨d, hd, e⟩) ⟨h1, h2⟩
    · exact h h1
    · exact h2 d.key ⟨d, hd, rfl⟩ c.key rfl e
theorem openGo_one {f : Int} {t : List Entry} {c : Commit} {r : List Commit} {i : Nat} (h1 : commitErr f i c = 0) (h2 : (allOf t c.changes c.number).2.2 = 0) :
    openGo f t (c :: r) i = ((allOf t c.changes c.number).1 :: (openGo f (allOf t c.changes c.number).1 r (i + 1)).1, (openGo f (allOf t c.changes c.number).1 r (i + 1)).2) := by
  rw [openGo, if_neg (fun q => q h1), if_neg (fun q => q h2)]
end Go.Ab.Seat
/- The configuration of the second layer: what the first has told is a rule here. -/
namespace Go.Ab.Seat
open Go Go.Proofs
noncomputable def C2_hooks : List (Nat × (Heap → Nat → Nat → List AV → Option (AV × List (Nat × AObj)))) := [(10, pureF (G3 C1 Tryz.f10)), (12, pureF (G3 C1 Tryz.f12)), (14, pureF (G3 C1 Tryz.f14)), (15, pureF (G3 C1 Tryz.f15)), (17, pureF (G3 C1 Tryz.f17)), (18, pureF (G3 C1 Tryz.f18)), (19, pureF (G3 C1 Tryz.f19)), (20, pureF (G3 C1 Tryz.f20)), (25, pureF (G3 C1 Tryz.f25)), (26, pureF (G3 C1 Tryz.f26)), (28, pureF (G3 C1 Tryz.f28)), (29, pureF (G3 C1 Tryz.f29)), (30, pureF (G3 C1 Tryz.f30)), (31, pureF (G3 C1 Tryz.f31)), (32, pureF (G3 C1 Tryz.f32)), (33, pureF (G3 C1 Tryz.f33)), (35, pureF (G3 C1 Tryz.f35)), (36, pureF (G3 C1 Tryz.f36)), (37, pureF (G3 C1 Tryz.f37)), (39, cloneH CT 23), (40, cloneH CT 24), (54, pureF (G3 C1 Tryz.f54)), (55, cloneH CT 35), (56, idxF), (57, pureF (G3 C1 Tryz.f57)), (60, pureF (G3 C1 Tryz.f60)), (61, pureF (G3 C1 Tryz.f61)), (62, pureF (G3 C1 Tryz.f62)), (63, pureF (G3 C1 Tryz.f63)), (64, pureF (G3 C1 Tryz.f64)), (65, pureF (G3 C1 Tryz.f65)), (78, pureF (G3 C1 Tryz.f78)), (80, pureF (G3 C1 Tryz.f80)), (84, pureF (G3 C1 Tryz.f84)), (86, pureF (G3 C1 Tryz.f86)), (87, pureF (G3 C1 Tryz.f87)), (88, pureF (G3 C1 Tryz.f88)), (89, pureF (G3 C1 Tryz.f89)), (106, pureF (G3 C1 Tryz.f106)), (108, pureF (G3 C1 Tryz.f108)), (111, frzF (G3 C1 Tryz.f111)), (112, pureF (G3 C1 Tryz.f112)), (113, pureF (G3 C1 Tryz.f113)), (114, pureF (G3 C1 Tryz.f114)), (115, pureF (G3 C1 Tryz.f115)), (116, pureF (G3 C1 Tryz.f116)), (117, frzF (G3 C1 Tryz.f117)), (125, pureF (G3 C1 Tryz.f125)), (126, pureF (G3 C1 Tryz.f126)), (127, pureF (G3 C1 Tryz.f127)), (128, pureF (G3 C1 Tryz.f128)), (129, pureF (G3 C1 Tryz.f129)), (134, pureF (G3 C1 Tryz.f134)), (139, pureF (G3 C1 Tryz.f139)), (140, checkF), (141, pureF (G3 C1 Tryz.f141)), (142, pureF (G3 C1 Tryz.f142)), (143, pureF (G3 C1 Tryz.f143)), (148, pureF (G3 C1 Tryz.f148)), (150, pureF (G3 C1 Tryz.f150)), (152, pureF (G3 C1 Tryz.f152)), (155, cntF), (157, pureF (G3 C1 Tryz.f157))]
def C2_modes : List (Nat × Nat) := []
noncomputable def C2 : Cfg := { ty := tyBy tyTab, fn := fnBy Tryz.prog, mode := fun f => (look1 C2_modes f).getD 3, hook := fun f => look1 C2_hooks f }
theorem C2_ty : C2.ty = tyBy tyTab := rfl
theorem hk_C2_10 : C2.hook 10 = some (pureF (G3 C1 Tryz.f10)) := rfl
theorem hk_C2_12 : C2.hook 12 = some (pureF (G3 C1 Tryz.f12)) := rfl
theorem hk_C2_14 : C2.hook 14 = some (pureF (G3 C1 Tryz.f14)) := rfl
theorem hk_C2_15 : C2.hook 15 = some (pureF (G3 C1 Tryz.f15)) := rfl
theorem hk_C2_17 : C2.hook 17 = some (pureF (G3 C1 Tryz.f17)) := rfl
theorem hk_C2_18 : C2.hook 18 = some (pureF (G3 C1 Tryz.f18)) := rfl
theorem hk_C2_19 : C2.hook 19 = some (pureF (G3 C1 Tryz.f19)) := rfl
theorem hk_C2_20 : C2.hook 20 = some (pureF (G3 C1 Tryz.f20)) := rfl
theorem hk_C2_25 : C2.hook 25 = some (pureF (G3 C1 Tryz.f25)) := rfl
theorem hk_C2_26 : C2.hook 26 = some (pureF (G3 C1 Tryz.f26)) := rfl
theorem hk_C2_28 : C2.hook 28 = some (pureF (G3 C1 Tryz.f28)) := rfl
theorem hk_C2_29 : C2.hook 29 = some (pureF (G3 C1 Tryz.f29)) := rfl
theorem hk_C2_30 : C2.hook 30 = some (pureF (G3 C1 Tryz.f30)) := rfl
theorem hk_C2_31 : C2.hook 31 = some (pureF (G3 C1 Tryz.f31)) := rfl
theorem hk_C2_32 : C2.hook 32 = some (pureF (G3 C1 Tryz.f32)) := rfl
theorem hk_C2_33 : C2.hook 33 = some (pureF (G3 C1 Tryz.f33)) := rfl
theorem hk_C2_35 : C2.hook 35 = some (pureF (G3 C1 Tryz.f35)) := rfl
theorem hk_C2_36 : C2.hook 36 = some (pureF (G3 C1 Tryz.f36)) := rfl
theorem hk_C2_37 : C2.hook 37 = some (pureF (G3 C1 Tryz.f37)) := rfl
theorem hk_C2_39 : C2.hook 39 = some (cloneH CT 23) := rfl
theorem hk_C2_40 : C2.hook 40 = some (cloneH CT 24) := rfl
theorem hk_C2_54 : C2.hook 54 = some (pureF (G3 C1 Tryz.f54)) := rfl
theorem hk_C2_55 : C2.hook 55 = some (cloneH CT 35) := rfl
theorem hk_C2_56 : C2.hook 56 = some (idxF) := rfl
theorem hk_C2_57 : C2.hook 57 = some (pureF (G3 C1 Tryz.f57)) := rfl
theorem hk_C2_60 : C2.hook 60 = some (pureF (G3 C1 Tryz.f60)) := rfl
theorem hk_C2_61 : C2.hook 61 = some (pureF (G3 C1 Tryz.f61)) := rfl
theorem hk_C2_62 : C2.hook 62 = some (pureF (G3 C1 Tryz.f62)) := rfl
theorem hk_C2_63 : C2.hook 63 = some (pureF (G3 C1 Tryz.f63)) := rfl
theorem hk_C2_64 : C2.hook 64 = some (pureF (G3 C1 Tryz.f64)) := rfl
theorem hk_C2_65 : C2.hook 65 = some (pureF (G3 C1 Tryz.f65)) := rfl
theorem hk_C2_78 : C2.hook 78 = some (pureF (G3 C1 Tryz.f78)) := rfl
theorem hk_C2_80 : C2.hook 80 = some (pureF (G3 C1 Tryz.f80)) := rfl
theorem hk_C2_84 : C2.hook 84 = some (pureF (G3 C1 Tryz.f84)) := rfl
theorem hk_C2_86 : C2.hook 86 = some (pureF (G3 C1 Tryz.f86)) := rfl
theorem hk_C2_87 : C2.hook 87 = some (pureF (G3 C1 Tryz.f87)) := rfl
theorem hk_C2_88 : C2.hook 88 = some (pureF (G3 C1 Tryz.f88)) := rfl
theorem hk_C2_89 : C2.hook 89 = some (pureF (G3 C1 Tryz.f89)) := rfl
theorem hk_C2_106 : C2.hook 106 = some (pureF (G3 C1 Tryz.f106)) := rfl
theorem hk_C2_108 : C2.hook 108 = some (pureF (G3 C1 Tryz.f108)) := rfl
theorem hk_C2_111 : C2.hook 111 = some (frzF (G3 C1 Tryz.f111)) := rfl
theorem hk_C2_112 : C2.hook 112 = some (pureF (G3 C1 Tryz.f112)) := rfl
theorem hk_C2_113 : C2.hook 113 = some (pureF (G3 C1 Tryz.f113)) := rfl
theorem hk_C2_114 : C2.hook 114 = some (pureF (G3 C1 Tryz.f114)) := rfl
theorem hk_C2_115 : C2.hook 115 = some (pureF (G3 C1 Tryz.f115)) := rfl
theorem hk_C2_116 : C2.hook 116 = some (pureF (G3 C1 Tryz.f116)) := rfl
theorem hk_C2_117 : C2.hook 117 = some (frzF (G3 C1 Tryz.f117)) := rfl
theorem hk_C2_125 : C2.hook 125 = some (pureF (G3 C1 Tryz.f125)) := rfl
theorem hk_C2_126 : C2.hook 126 = some (pureF (G3 C1 Tryz.f126)) := rfl
theorem hk_C2_127 : C2.hook 127 = some (pureF (G3 C1 Tryz.f127)) := rfl
theorem hk_C2_128 : C2.hook 128 = some (pureF (G3 C1 Tryz.f128)) := rfl
theorem hk_C2_129 : C2.hook 129 = some (pureF (G3 C1 Tryz.f129)) := rfl
theorem hk_C2_134 : C2.hook 134 = some (pureF (G3 C1 Tryz.f134)) := rfl
theorem hk_C2_139 : C2.hook 139 = some (pureF (G3 C1 Tryz.f139)) := rfl
theorem hk_C2_140 : C2.hook 140 = some (checkF) := rfl
theorem hk_C2_141 : C2.hook 141 = some (pureF (G3 C1 Tryz.f141)) := rfl
theorem hk_C2_142 : C2.hook 142 = some (pureF (G3 C1 Tryz.f142)) := rfl
theorem hk_C2_143 : C2.hook 143 = some (pureF (G3 C1 Tryz.f143)) := rfl
theorem hk_C2_148 : C2.hook 148 = some (pureF (G3 C1 Tryz.f148)) := rfl
theorem hk_C2_150 : C2.hook 150 = some (pureF (G3 C1 Tryz.f150)) := rfl
theorem hk_C2_152 : C2.hook 152 = some (pureF (G3 C1 Tryz.f152)) := rfl
theorem hk_C2_155 : C2.hook 155 = some (cntF) := rfl
theorem hk_C2_157 : C2.hook 157 = some (pureF (G3 C1 Tryz.f157)) := rfl
end Go.Ab.Seat
/- the document's changes: their form; what lies in what. -/
namespace Go.Ab.Seat
open Go Go.Proofs
-- CFG C1
set_option linter.unusedSimpArgs false
set_option linter.unusedVariables false
set_option maxHeartbeats 4000000
set_option maxRecDepth 100000

-- REG R.ChangeForm G_rForm
theorem R_rForm (c : Change) (hp : c.path.length ≤ 4398046511103) (hto : c.to.length ≤ 4398046511103) : Run3 C1 Tryz.f115 [.agg [.int .i64 c.kind, .str c.path, .str c.to, .str c.text, .int .i64 c.base]] (.int .i64 (changeForm c)) := by
  refine Run3.mk (fn := Tryz.f115) rfl ?_
  unfold changeForm formRest
  refine (Classical.em (c.kind < 1)).elim (fun h1 => ?tg0) (fun h1 => ?tg1)
  case' tg1 => refine (Classical.em (4 < c.kind)).elim (fun h2 => ?tg2) (fun h2 => ?tg3)
  case' tg3 => refine (Classical.em (checkPath c.path = 0)).elim (fun h3 => ?tg4) (fun h3 => ?tg5)
  case' tg4 => refine (Classical.em (c.kind = 3)).elim (fun k3 => ?tg6) (fun k3 => ?tg7)
  case' tg6 => refine (Classical.em (checkPath c.to = 0)).elim (fun h4 => ?tg8) (fun h4 => ?tg9)
  case' tg8 => refine (Classical.em (c.to = [])).elim (fun h8 => ?tg10) (fun h8 => ?tg11)
  case' tg10 => refine (Classical.em (c.kind = 2)).elim (fun k2 => ?tg12) (fun k2 => ?tg13)
  case' tg12 => refine (Classical.em (c.text = [])).elim (fun h5 => ?tg14) (fun h5 => ?tg15)
  case' tg14 => refine (Classical.em ((300 : Int) < c.text.length)).elim (fun h9 => ?tg16) (fun h9 => ?tg17)
  case' tg17 => refine (Classical.em (c.base < -1)).elim (fun h6 => ?tg18) (fun h6 => ?tg19)
  case' tg19 => refine (Classical.em (1000000 < c.base)).elim (fun h7 => ?tg20) (fun h7 => ?tg21)
  case' tg15 => refine (Classical.em ((300 : Int) < c.text.length)).elim (fun h9 => ?tg22) (fun h9 => ?tg23)
  case' tg23 => refine (Classical.em (c.base < -1)).elim (fun h6 => ?tg24) (fun h6 => ?tg25)
  case' tg25 => refine (Classical.em (1000000 < c.base)).elim (fun h7 => ?tg26) (fun h7 => ?tg27)
  case' tg13 => refine (Classical.em (c.text = [])).elim (fun h5 => ?tg28) (fun h5 => ?tg29)
  case' tg28 => refine (Classical.em ((300 : Int) < c.text.length)).elim (fun h9 => ?tg30) (fun h9 => ?tg31)
  case' tg31 => refine (Classical.em (c.base < -1)).elim (fun h6 => ?tg32) (fun h6 => ?tg33)
  case' tg33 => refine (Classical.em (1000000 < c.base)).elim (fun h7 => ?tg34) (fun h7 => ?tg35)
  case' tg29 => refine (Classical.em ((300 : Int) < c.text.length)).elim (fun h9 => ?tg36) (fun h9 => ?tg37)
  case' tg37 => refine (Classical.em (c.base < -1)).elim (fun h6 => ?tg38) (fun h6 => ?tg39)
  case' tg39 => refine (Classical.em (1000000 < c.base)).elim (fun h7 => ?tg40) (fun h7 => ?tg41)
  case' tg11 => refine (Classical.em (c.kind = 2)).elim (fun k2 => ?tg42) (fun k2 => ?tg43)
  case' tg42 => refine (Classical.em (c.text = [])).elim (fun h5 => ?tg44) (fun h5 => ?tg45)
  case' tg44 => refine (Classical.em ((300 : Int) < c.text.length)).elim (fun h9 => ?tg46) (fun h9 => ?tg47)
  case' tg47 => refine (Classical.em (c.base < -1)).elim (fun h6 => ?tg48) (fun h6 => ?tg49)
  case' tg49 => refine (Classical.em (1000000 < c.base)).elim (fun h7 => ?tg50) (fun h7 => ?tg51)
  case' tg45 => refine (Classical.em ((300 : Int) < c.text.length)).elim (fun h9 => ?tg52) (fun h9 => ?tg53)
  case' tg53 => refine (Classical.em (c.base < -1)).elim (fun h6 => ?tg54) (fun h6 => ?tg55)
  case' tg55 => refine (Classical.em (1000000 < c.base)).elim (fun h7 => ?tg56) (fun h7 => ?tg57)
  case' tg43 => refine (Classical.em (c.text = [])).elim (fun h5 => ?tg58) (fun h5 => ?tg59)
  case' tg58 => refine (Classical.em ((300 : Int) < c.text.length)).elim (fun h9 => ?tg60) (fun h9 => ?tg61)
  case' tg61 => refine (Classical.em (c.base < -1)).elim (fun h6 => ?tg62) (fun h6 => ?tg63)
  case' tg63 => refine (Classical.em (1000000 < c.base)).elim (fun h7 => ?tg64) (fun h7 => ?tg65)
  case' tg59 => refine (Classical.em ((300 : Int) < c.text.length)).elim (fun h9 => ?tg66) (fun h9 => ?tg67)
  case' tg67 => refine (Classical.em (c.base < -1)).elim (fun h6 => ?tg68) (fun h6 => ?tg69)
  case' tg69 => refine (Classical.em (1000000 < c.base)).elim (fun h7 => ?tg70) (fun h7 => ?tg71)
  case' tg9 => refine (Classical.em (c.to = [])).elim (fun h8 => ?tg72) (fun h8 => ?tg73)
  case' tg72 => refine (Classical.em (c.kind = 2)).elim (fun k2 => ?tg74) (fun k2 => ?tg75)
  case' tg74 => refine (Classical.em (c.text = [])).elim (fun h5 => ?tg76) (fun h5 => ?tg77)
  case' tg76 => refine (Classical.em ((300 : Int) < c.text.length)).elim (fun h9 => ?tg78) (fun h9 => ?tg79)
  case' tg79 => refine (Classical.em (c.base < -1)).elim (fun h6 => ?tg80) (fun h6 => ?tg81)
  case' tg81 => refine (Classical.em (1000000 < c.base)).elim (fun h7 => ?tg82) (fun h7 => ?tg83)
  case' tg77 => refine (Classical.em ((300 : Int) < c.text.length)).elim (fun h9 => ?tg84) (fun h9 => ?tg85)
  case' tg85 => refine (Classical.em (c.base < -1)).elim (fun h6 => ?tg86) (fun h6 => ?tg87)
  case' tg87 => refine (Classical.em (1000000 < c.base)).elim (fun h7 => ?tg88) (fun h7 => ?tg89)
  case' tg75 => refine (Classical.em (c.text = [])).elim (fun h5 => ?tg90) (fun h5 => ?tg91)
  case' tg90 => refine (Classical.em ((300 : Int) < c.text.length)).elim (fun h9 => ?tg92) (fun h9 => ?tg93)
  case' tg93 => refine (Classical.em (c.base < -1)).elim (fun h6 => ?tg94) (fun h6 => ?tg95)
  case' tg95 => refine (Classical.em (1000000 < c.base)).elim (fun h7 => ?tg96) (fun h7 => ?tg97)
  case' tg91 => refine (Classical.em ((300 : Int) < c.text.length)).elim (fun h9 => ?tg98) (fun h9 => ?tg99)
  case' tg99 => refine (Classical.em (c.base < -1)).elim (fun h6 => ?tg100) (fun h6 => ?tg101)
  case' tg101 => refine (Classical.em (1000000 < c.base)).elim (fun h7 => ?tg102) (fun h7 => ?tg103)
  case' tg73 => refine (Classical.em (c.kind = 2)).elim (fun k2 => ?tg104) (fun k2 => ?tg105)
  case' tg104 => refine (Classical.em (c.text = [])).elim (fun h5 => ?tg106) (fun h5 => ?tg107)
  case' tg106 => refine (Classical.em ((300 : Int) < c.text.length)).elim (fun h9 => ?tg108) (fun h9 => ?tg109)
  case' tg109 => refine (Classical.em (c.base < -1)).elim (fun h6 => ?tg110) (fun h6 => ?tg111)
  case' tg111 => refine (Classical.em (1000000 < c.base)).elim (fun h7 => ?tg112) (fun h7 => ?tg113)
  case' tg107 => refine (Classical.em ((300 : Int) < c.text.length)).elim (fun h9 => ?tg114) (fun h9 => ?tg115)
  case' tg115 => refine (Classical.em (c.base < -1)).elim (fun h6 => ?tg116) (fun h6 => ?tg117)
  case' tg117 => refine (Classical.em (1000000 < c.base)).elim (fun h7 => ?tg118) (fun h7 => ?tg119)
  case' tg105 => refine (Classical.em (c.text = [])).elim (fun h5 => ?tg120) (fun h5 => ?tg121)
  case' tg120 => refine (Classical.em ((300 : Int) < c.text.length)).elim (fun h9 => ?tg122) (fun h9 => ?tg123)
  case' tg123 => refine (Classical.em (c.base < -1)).elim (fun h6 => ?tg124) (fun h6 => ?tg125)
  case' tg125 => refine (Classical.em (1000000 < c.base)).elim (fun h7 => ?tg126) (fun h7 => ?tg127)
  case' tg121 => refine (Classical.em ((300 : Int) < c.text.length)).elim (fun h9 => ?tg128) (fun h9 => ?tg129)
  case' tg129 => refine (Classical.em (c.base < -1)).elim (fun h6 => ?tg130) (fun h6 => ?tg131)
  case' tg131 => refine (Classical.em (1000000 < c.base)).elim (fun h7 => ?tg132) (fun h7 => ?tg133)
  case' tg7 => refine (Classical.em (checkPath c.to = 0)).elim (fun h4 => ?tg134) (fun h4 => ?tg135)
  case' tg134 => refine (Classical.em (c.to = [])).elim (fun h8 => ?tg136) (fun h8 => ?tg137)
  case' tg136 => refine (Classical.em (c.kind = 2)).elim (fun k2 => ?tg138) (fun k2 => ?tg139)
  case' tg138 => refine (Classical.em (c.text = [])).elim (fun h5 => ?tg140) (fun h5 => ?tg141)
  case' tg140 => refine (Classical.em ((300 : Int) < c.text.length)).elim (fun h9 => ?tg142) (fun h9 => ?tg143)
  case' tg143 => refine (Classical.em (c.base < -1)).elim (fun h6 => ?tg144) (fun h6 => ?tg145)
  case' tg145 => refine (Classical.em (1000000 < c.base)).elim (fun h7 => ?tg146) (fun h7 => ?tg147)
  case' tg141 => refine (Classical.em ((300 : Int) < c.text.length)).elim (fun h9 => ?tg148) (fun h9 => ?tg149)
  case' tg149 => refine (Classical.em (c.base < -1)).elim (fun h6 => ?tg150) (fun h6 => ?tg151)
  case' tg151 => refine (Classical.em (1000000 < c.base)).elim (fun h7 => ?tg152) (fun h7 => ?tg153)
  case' tg139 => refine (Classical.em (c.text = [])).elim (fun h5 => ?tg154) (fun h5 => ?tg155)
  case' tg154 => refine (Classical.em ((300 : Int) < c.text.length)).elim (fun h9 => ?tg156) (fun h9 => ?tg157)
  case' tg157 => refine (Classical.em (c.base < -1)).elim (fun h6 => ?tg158) (fun h6 => ?tg159)
  case' tg159 => refine (Classical.em (1000000 < c.base)).elim (fun h7 => ?tg160) (fun h7 => ?tg161)
  case' tg155 => refine (Classical.em ((300 : Int) < c.text.length)).elim (fun h9 => ?tg162) (fun h9 => ?tg163)
  case' tg163 => refine (Classical.em (c.base < -1)).elim (fun h6 => ?tg164) (fun h6 => ?tg165)
  case' tg165 => refine (Classical.em (1000000 < c.base)).elim (fun h7 => ?tg166) (fun h7 => ?tg167)
  case' tg137 => refine (Classical.em (c.kind = 2)).elim (fun k2 => ?tg168) (fun k2 => ?tg169)
  case' tg168 => refine (Classical.em (c.text = [])).elim (fun h5 => ?tg170) (fun h5 => ?tg171)
  case' tg170 => refine (Classical.em ((300 : Int) < c.text.length)).elim (fun h9 => ?tg172) (fun h9 => ?tg173)
  case' tg173 => refine (Classical.em (c.base < -1)).elim (fun h6 => ?tg174) (fun h6 => ?tg175)
  case' tg175 => refine (Classical.em (1000000 < c.base)).elim (fun h7 => ?tg176) (fun h7 => ?tg177)
  case' tg171 => refine (Classical.em ((300 : Int) < c.text.length)).elim (fun h9 => ?tg178) (fun h9 => ?tg179)
  case' tg179 => refine (Classical.em (c.base < -1)).elim (fun h6 => ?tg180) (fun h6 => ?tg181)
  case' tg181 => refine (Classical.em (1000000 < c.base)).elim (fun h7 => ?tg182) (fun h7 => ?tg183)
  case' tg169 => refine (Classical.em (c.text = [])).elim (fun h5 => ?tg184) (fun h5 => ?tg185)
  case' tg184 => refine (Classical.em ((300 : Int) < c.text.length)).elim (fun h9 => ?tg186) (fun h9 => ?tg187)
  case' tg187 => refine (Classical.em (c.base < -1)).elim (fun h6 => ?tg188) (fun h6 => ?tg189)
  case' tg189 => refine (Classical.em (1000000 < c.base)).elim (fun h7 => ?tg190) (fun h7 => ?tg191)
  case' tg185 => refine (Classical.em ((300 : Int) < c.text.length)).elim (fun h9 => ?tg192) (fun h9 => ?tg193)
  case' tg193 => refine (Classical.em (c.base < -1)).elim (fun h6 => ?tg194) (fun h6 => ?tg195)
  case' tg195 => refine (Classical.em (1000000 < c.base)).elim (fun h7 => ?tg196) (fun h7 => ?tg197)
  case' tg135 => refine (Classical.em (c.to = [])).elim (fun h8 => ?tg198) (fun h8 => ?tg199)
  case' tg198 => refine (Classical.em (c.kind = 2)).elim (fun k2 => ?tg200) (fun k2 => ?tg201)
  case' tg200 => refine (Classical.em (c.text = [])).elim (fun h5 => ?tg202) (fun h5 => ?tg203)
  case' tg202 => refine (Classical.em ((300 : Int) < c.text.length)).elim (fun h9 => ?tg204) (fun h9 => ?tg205)
  case' tg205 => refine (Classical.em (c.base < -1)).elim (fun h6 => ?tg206) (fun h6 => ?tg207)
  case' tg207 => refine (Classical.em (1000000 < c.base)).elim (fun h7 => ?tg208) (fun h7 => ?tg209)
  case' tg203 => refine (Classical.em ((300 : Int) < c.text.length)).elim (fun h9 => ?tg210) (fun h9 => ?tg211)
  case' tg211 => refine (Classical.em (c.base < -1)).elim (fun h6 => ?tg212) (fun h6 => ?tg213)
  case' tg213 => refine (Classical.em (1000000 < c.base)).elim (fun h7 => ?tg214) (fun h7 => ?tg215)
  case' tg201 => refine (Classical.em (c.text = [])).elim (fun h5 => ?tg216) (fun h5 => ?tg217)
  case' tg216 => refine (Classical.em ((300 : Int) < c.text.length)).elim (fun h9 => ?tg218) (fun h9 => ?tg219)
  case' tg219 => refine (Classical.em (c.base < -1)).elim (fun h6 => ?tg220) (fun h6 => ?tg221)
  case' tg221 => refine (Classical.em (1000000 < c.base)).elim (fun h7 => ?tg222) (fun h7 => ?tg223)
  case' tg217 => refine (Classical.em ((300 : Int) < c.text.length)).elim (fun h9 => ?tg224) (fun h9 => ?tg225)
  case' tg225 => refine (Classical.em (c.base < -1)).elim (fun h6 => ?tg226) (fun h6 => ?tg227)
  case' tg227 => refine (Classical.em (1000000 < c.base)).elim (fun h7 => ?tg228) (fun h7 => ?tg229)
  case' tg199 => refine (Classical.em (c.kind = 2)).elim (fun k2 => ?tg230) (fun k2 => ?tg231)
  case' tg230 => refine (Classical.em (c.text = [])).elim (fun h5 => ?tg232) (fun h5 => ?tg233)
  case' tg232 => refine (Classical.em ((300 : Int) < c.text.length)).elim (fun h9 => ?tg234) (fun h9 => ?tg235)
  case' tg235 => refine (Classical.em (c.base < -1)).elim (fun h6 => ?tg236) (fun h6 => ?tg237)
  case' tg237 => refine (Classical.em (1000000 < c.base)).elim (fun h7 => ?tg238) (fun h7 => ?tg239)
  case' tg233 => refine (Classical.em ((300 : Int) < c.text.length)).elim (fun h9 => ?tg240) (fun h9 => ?tg241)
  case' tg241 => refine (Classical.em (c.base < -1)).elim (fun h6 => ?tg242) (fun h6 => ?tg243)
  case' tg243 => refine (Classical.em (1000000 < c.base)).elim (fun h7 => ?tg244) (fun h7 => ?tg245)
  case' tg231 => refine (Classical.em (c.text = [])).elim (fun h5 => ?tg246) (fun h5 => ?tg247)
  case' tg246 => refine (Classical.em ((300 : Int) < c.text.length)).elim (fun h9 => ?tg248) (fun h9 => ?tg249)
  case' tg249 => refine (Classical.em (c.base < -1)).elim (fun h6 => ?tg250) (fun h6 => ?tg251)
  case' tg251 => refine (Classical.em (1000000 < c.base)).elim (fun h7 => ?tg252) (fun h7 => ?tg253)
  case' tg247 => refine (Classical.em ((300 : Int) < c.text.length)).elim (fun h9 => ?tg254) (fun h9 => ?tg255)
  case' tg255 => refine (Classical.em (c.base < -1)).elim (fun h6 => ?tg256) (fun h6 => ?tg257)
  case' tg257 => refine (Classical.em (1000000 < c.base)).elim (fun h7 => ?tg258) (fun h7 => ?tg259)
  all_goals first | (exfalso; omega) | ((first | replace h1 := eq_false h1 | replace h1 := eq_true h1 | skip); (first | replace h2 := eq_false h2 | replace h2 := eq_true h2 | skip); (first | replace h3 := eq_false h3 | replace h3 := eq_true h3 | skip); (first | replace k3 := eq_false k3 | replace k3 := eq_true k3 | skip); (first | replace h4 := eq_false h4 | replace h4 := eq_true h4 | skip); (first | replace h8 := eq_false h8 | replace h8 := eq_true h8 | skip); (first | replace k2 := eq_false k2 | replace k2 := eq_true k2 | skip); (first | replace h5 := eq_false h5 | replace h5 := eq_true h5 | skip); (first | replace h9 := eq_false h9 | replace h9 := eq_true h9 | skip); (first | replace h6 := eq_false h6 | replace h6 := eq_true h6 | skip); (first | replace h7 := eq_false h7 | replace h7 := eq_true h7 | skip); simp (config := {maxSteps := 1000000}) only [↓bD, bL, stps, stpOf, ev, getT, setT, ofConst, AV.cells, notBad, loadObj, TI.agg, fieldAddrA, binP, binA, symA, intOp, strOp, lenA, resA, padT, List.replicate, Option.or, hputs, ↓reduceIte, Nat.reduceLT, Nat.reduceAdd, Nat.reduceSub, fin, List.mapM_cons, List.mapM_nil, scalarN, plainN, C1_ty, ty3, ty9, ty47, Tryz.ntmps115, Tryz.results115, Cl_3 (C := C1) (g := 87) (fn := Tryz.f87) rfl (fnBy_of Tryz.func87 rfl) rfl, pureF, G_rCheckPath, beqD, bneD, Int.reduceNeg, hp, hto, *])
theorem G_rForm (c : Change) (hp : c.path.length ≤ 4398046511103) (hto : c.to.length ≤ 4398046511103) : G3 C1 Tryz.f115 [.agg [.int .i64 c.kind, .str c.path, .str c.to, .str c.text, .int .i64 c.base]] = some (.int .i64 (changeForm c)) := G3_eq (R_rForm c hp hto)

end Go.Ab.Seat
/- the document's PutEntry. -/
namespace Go.Ab.Seat
open Go Go.Proofs
-- CFG C1
set_option linter.unusedSimpArgs false
set_option linter.unusedVariables false
set_option maxHeartbeats 4000000
set_option maxRecDepth 100000

/-- What is still to come. -/
def putR (e : Entry) (b : Bool) (rem : List Entry) : List Entry := if b then rem.filter (fun y => !decide (y.path = e.path)) else putE e rem

-- REG R.PutEntry G_putE
theorem R_putE (t : List Entry) (e : Entry) (ht : t.length ≤ 1099511627776) : Run3 C1 Tryz.f117 [.rows false (t.map Entry.cells), .agg [.str e.path, .bool e.folder, .str e.text, .int .i64 e.version]] (.rows false ((putE e t).map Entry.cells)) := by
  refine Run3.mk (fn := Tryz.f117) rfl ?_
  simp only [↓bD, bL, stps, stpOf, ev, getT, setT, ofConst, AV.cells, notBad, padT, List.replicate, Nat.reduceLT, Nat.reduceAdd, Nat.reduceSub, Tryz.ntmps117]
  refine X_loop (fun (rem : List Entry) T st => ∃ (k : Nat) (b : Bool) (v : AV) (o : List Entry), getT T 7 = .int .i64 (k : Nat) ∧ t.drop k = rem ∧ k ≤ t.length ∧ getT T 6 = .bool b ∧ getT T 5 = v ∧ OwnR 4 Entry.cells 5 st.h st.c v o ∧ o.length ≤ k + (if b then 1 else 0) ∧ hget st.h 0 = some (.cells [.str e.path, .bool e.folder, .str e.text, .int .i64 e.version]) ∧ o ++ putR e b rem = putE e t) List.length
    (fun x T st => x = .exit 0 ∧ ∃ (b : Bool) (v : AV) (o : List Entry), getT T 6 = .bool b ∧ getT T 5 = v ∧ OwnR 4 Entry.cells 5 st.h st.c v o ∧ o.length ≤ t.length + 1 ∧ hget st.h 0 = some (.cells [.str e.path, .bool e.folder, .str e.text, .int .i64 e.version]) ∧ o ++ putR e b [] = putE e t) t ⟨0, false, _, [], rfl, rfl, Nat.zero_le _, rfl, rfl, .inl ⟨rfl, rfl⟩, Nat.zero_le _, rfl, rfl⟩ ?_ ?_
  · rintro rem T st hF hc hb ⟨k, b, v, o, h7, hd, hkt, h6, h5, ho, hol, he, hp⟩
    have h0 := hF 0 rfl
    have h3 := hF 3 rfl
    simp only [getT_setT, getT] at h0 h3
    clear hF
    have hbar : st.bar = 0 := hb
    have hc5 : 5 ≤ st.c := hc
    cases rem with
    | nil =>
      have hnk := drop_nil_len hd
      have hlt : ¬ (k : Int) < (t.length : Int) := by omega
      simp only [↓bD, bL, stps, stpOf, ev, binP, binA, symA, intOp, lenA, Option.or, ↓reduceIte, reduceCtorEq, Nat.reduceEqDiff, Nat.reduceLT, Nat.reduceAdd, C1_ty, ty35, Nat.add_assoc, h7, h6, h5, h0, hlt]
      exact ⟨b, v, o, rfl, rfl, ho.up (by simp), by revert hol; cases b <;> simp <;> omega, he, hp⟩
    | cons x rem =>
      obtain ⟨hx, hlt0, hd', ht'⟩ := drop_cons_get hd
      have hlt : (k : Int) < (t.length : Int) := by omega
      have hw : IntKind.i64.wrap ((k : Int) + 1) = ((k + 1 : Nat) : Int) := by rw [Int.natCast_add]; exact wrap_i64 (by omega) (by omega)
      have hc0 : ∀ j, (st.c + j = 0) = False := fun j => eq_false (by have : 5 ≤ st.c := hc; omega)
      have hc0' : (st.c = 0) = False := eq_false (by have : 5 ≤ st.c := hc; omega)
      have hp2 : putR e true (x :: rem) = if x.path = e.path then putR e true rem else x :: putR e true rem := by
        unfold putR; simp only [if_true, List.filter_cons]
        by_cases h : x.path = e.path <;> simp [h]
      rcases ho with ⟨rfl, rfl⟩ | ⟨hne, s, rfl, hs5, hsc, hg⟩
      · cases b with
        | true =>
          by_cases hq : x.path = e.path
          · simp only [↓bD, bL, stps, stpOf, ev, ofConst, loadObj, TI.agg, fieldAddrA, indexAddrA, binP, binA, symA, intOp, strOp, unA, lenA, elemTI, Option.or, ↓reduceIte, reduceCtorEq, Nat.reduceEqDiff, Nat.reduceLT, Nat.reduceAdd, looks, C1_ty, ty9, ty35, ty107, beqD, Nat.add_assoc, h7, h6, h5, h0, h3, hlt, hx, hw, hbar, he, eq_true hq]
            repeat (refine ⟨(by kernel_rfl : (_ : Bool) = true), ?_⟩)
            exact ⟨rem, by simp, k + 1, true, _, [], rfl, hd', by omega, rfl, rfl, .inl ⟨rfl, rfl⟩, (by first | (simp; done) | (have hh := hol; simp at hh ⊢; omega) | (have hh := hol; simpa using hh)), by rw [← hp, hp2, if_pos hq]⟩
          · simp only [↓bD, bL, stps, stpOf, ev, ofConst, AV.cells, AV.one, loadObj, TI.agg, fieldAddrA, indexAddrA, binP, binA, symA, intOp, strOp, unA, lenA, putCells, elemTI, List.replicate, Option.or, hputs, ↓reduceIte, reduceCtorEq, Nat.reduceEqDiff, Nat.reduceLT, Nat.reduceLeDiff, Nat.reduceAdd, Nat.reduceMul, buildSliceA, fillA, looks, appendA, elemsOf, C1_ty, ty9, ty35, ty107, beqD, Nat.add_assoc, h7, h6, h5, h0, h3, hlt, hx, hw, hbar, he, hc0, eq_false hq]
            repeat (refine ⟨(by kernel_rfl : (_ : Bool) = true), ?_⟩)
            refine ⟨rem, by simp, k + 1, true, _, [] ++ [x], rfl, hd', by omega, rfl, rfl, ?_, (by first | (simp; done) | (have hh := hol; simp at hh ⊢; omega) | (have hh := hol; simpa using hh)), by rw [← hp, hp2, if_neg hq]; simp⟩
            exact OwnR.mk' (by simp) (by omega) (by omega) (by simp) (by rw [hget_hput, if_pos rfl]; simp [Entry.cells_eq])
        | false =>
          cases hle : Op.bytesLess x.path e.path with
          | true =>
            have hq := bytesLess_ne hle
            have hp3 : putR e false (x :: rem) = x :: putR e false rem := by unfold putR; simp [putE, hle]
            simp only [↓bD, bL, stps, stpOf, ev, ofConst, AV.cells, AV.one, loadObj, TI.agg, fieldAddrA, indexAddrA, binP, binA, symA, intOp, strOp, unA, lenA, putCells, elemTI, List.replicate, Option.or, hputs, ↓reduceIte, reduceCtorEq, Nat.reduceEqDiff, Nat.reduceLT, Nat.reduceLeDiff, Nat.reduceAdd, Nat.reduceMul, buildSliceA, fillA, looks, appendA, elemsOf, C1_ty, ty9, ty35, ty107, beqD, Nat.add_assoc, h7, h6, h5, h0, h3, hlt, hx, hw, hbar, he, hc0, hle, eq_false hq]
            repeat (refine ⟨(by kernel_rfl : (_ : Bool) = true), ?_⟩)
            refine ⟨rem, by simp, k + 1, false, _, [] ++ [x], rfl, hd', by omega, rfl, rfl, ?_, (by first | (simp; done) | (have hh := hol; simp at hh ⊢; omega) | (have hh := hol; simpa using hh)), by rw [← hp, hp3]; simp⟩
            exact OwnR.mk' (by simp) (by omega) (by omega) (by simp) (by rw [hget_hput, if_pos rfl]; simp [Entry.cells_eq])
          | false =>
            have hp3 : putR e false (x :: rem) = e :: putR e true (x :: rem) := by unfold putR; simp [putE, hle]
            by_cases hq : x.path = e.path
            · simp only [↓bD, bL, stps, stpOf, ev, ofConst, AV.cells, AV.one, loadObj, TI.agg, fieldAddrA, indexAddrA, binP, binA, symA, intOp, strOp, unA, lenA, putCells, elemTI, List.replicate, Option.or, hputs, ↓reduceIte, reduceCtorEq, Nat.reduceEqDiff, Nat.reduceLT, Nat.reduceLeDiff, Nat.reduceAdd, Nat.reduceMul, buildSliceA, fillA, looks, appendA, elemsOf, C1_ty, ty9, ty35, ty107, beqD, Nat.add_assoc, h7, h6, h5, h0, h3, hlt, hx, hw, hbar, he, hc0, hle, eq_true hq]
              repeat (refine ⟨(by kernel_rfl : (_ : Bool) = true), ?_⟩)
              refine ⟨rem, by simp, k + 1, true, _, [] ++ [e], rfl, hd', by omega, rfl, rfl, ?_, (by first | (simp; done) | (have hh := hol; simp at hh ⊢; omega) | (have hh := hol; simpa using hh)), by rw [← hp, hp3, hp2, if_pos hq]; simp⟩
              exact OwnR.mk' (by simp) (by omega) (by omega) (by simp) (by rw [hget_hput, if_pos rfl]; simp [Entry.cells_eq])
            · simp only [↓bD, bL, stps, stpOf, ev, ofConst, AV.cells, AV.one, loadObj, TI.agg, fieldAddrA, indexAddrA, binP, binA, symA, intOp, strOp, unA, lenA, putCells, elemTI, List.replicate, Option.or, hputs, ↓reduceIte, reduceCtorEq, Nat.reduceEqDiff, Nat.reduceLT, Nat.reduceLeDiff, Nat.reduceAdd, Nat.reduceMul, buildSliceA, fillA, looks, appendA, elemsOf, C1_ty, ty9, ty35, ty107, beqD, Nat.add_assoc, h7, h6, h5, h0, h3, hlt, hx, hw, hbar, he, hc0, hle, eq_false hq]
              repeat (refine ⟨(by kernel_rfl : (_ : Bool) = true), ?_⟩)
              refine ⟨rem, by simp, k + 1, true, _, [] ++ [e, x], rfl, hd', by omega, rfl, rfl, ?_, (by first | (simp; done) | (have hh := hol; simp at hh ⊢; omega) | (have hh := hol; simpa using hh)), by rw [← hp, hp3, hp2, if_neg hq]; simp⟩
              exact OwnR.mk' (by simp) (by omega) (by omega) (by simp) (by rw [hget_hput, if_pos rfl]; simp [Entry.cells_eq])
      · have hne1 : ∀ j, (st.c + j = s) = False := fun j => by simp; omega
        have hs0 : ¬ s = 0 := by omega
        obtain ⟨hol2, hb1, hb3, hb2, hb4⟩ := own_bds hol hlt0 ht
        have hfl : o.length * 4 = (List.flatMap Entry.cells o).length := (flat_len (f := Entry.cells) (w := 4) len_entry o).symm
        have hfl2 : (o.length + 1) * 4 = (List.flatMap Entry.cells o).length + 4 := by rw [Nat.add_mul, hfl]
        cases b with
        | true =>
          by_cases hq : x.path = e.path
          · simp only [↓bD, bL, stps, stpOf, ev, ofConst, loadObj, TI.agg, fieldAddrA, indexAddrA, binP, binA, symA, intOp, strOp, unA, lenA, elemTI, Option.or, ↓reduceIte, reduceCtorEq, Nat.reduceEqDiff, Nat.reduceLT, Nat.reduceAdd, looks, C1_ty, ty9, ty35, ty107, beqD, Nat.add_assoc, h7, h6, h5, h0, h3, hlt, hx, hw, hbar, he, eq_true hq]
            repeat (refine ⟨(by kernel_rfl : (_ : Bool) = true), ?_⟩)
            exact ⟨rem, by simp, k + 1, true, _, o, rfl, hd', by omega, rfl, rfl, .inr ⟨hne, s, rfl, hs5, by omega, hg⟩, (by first | (simp; done) | (have hh := hol; simp at hh ⊢; omega) | (have hh := hol; simpa using hh)), by rw [← hp, hp2, if_pos hq]⟩
          · simp only [↓bD, bL, stps, stpOf, ev, ofConst, AV.cells, AV.one, loadObj, TI.agg, fieldAddrA, indexAddrA, binP, binA, symA, intOp, strOp, unA, lenA, putCells, elemTI, List.replicate, Option.or, hputs, ↓reduceIte, reduceCtorEq, Nat.reduceEqDiff, Nat.reduceLT, Nat.reduceLeDiff, Nat.reduceAdd, Nat.reduceMul, buildSliceA, fillA, looks, appendA, elemsOf, C1_ty, ty9, ty35, ty107, beqD, Nat.add_assoc, h7, h6, h5, h0, h3, hlt, hx, hw, hbar, he, hc0, eq_false hs0, hne1, hg, hb1, hb2, eq_true hfl, eq_false hq]
            repeat (refine ⟨(by kernel_rfl : (_ : Bool) = true), ?_⟩)
            refine ⟨rem, by simp, k + 1, true, _, o ++ [x], rfl, hd', by omega, rfl, rfl, ?_, (by first | (simp; done) | (have hh := hol; simp at hh ⊢; omega) | (have hh := hol; simpa using hh)), by rw [← hp, hp2, if_neg hq]; simp⟩
            exact OwnR.mk' (by simp) (by omega) (by omega) (by simp) (by rw [hget_hput, if_pos rfl]; simp [Entry.cells_eq])
        | false =>
          cases hle : Op.bytesLess x.path e.path with
          | true =>
            have hq := bytesLess_ne hle
            have hp3 : putR e false (x :: rem) = x :: putR e false rem := by unfold putR; simp [putE, hle]
            simp only [↓bD, bL, stps, stpOf, ev, ofConst, AV.cells, AV.one, loadObj, TI.agg, fieldAddrA, indexAddrA, binP, binA, symA, intOp, strOp, unA, lenA, putCells, elemTI, List.replicate, Option.or, hputs, ↓reduceIte, reduceCtorEq, Nat.reduceEqDiff, Nat.reduceLT, Nat.reduceLeDiff, Nat.reduceAdd, Nat.reduceMul, buildSliceA, fillA, looks, appendA, elemsOf, C1_ty, ty9, ty35, ty107, beqD, Nat.add_assoc, h7, h6, h5, h0, h3, hlt, hx, hw, hbar, he, hc0, eq_false hs0, hne1, hg, hb1, hb2, eq_true hfl, hle, eq_false hq]
            repeat (refine ⟨(by kernel_rfl : (_ : Bool) = true), ?_⟩)
            refine ⟨rem, by simp, k + 1, false, _, o ++ [x], rfl, hd', by omega, rfl, rfl, ?_, (by first | (simp; done) | (have hh := hol; simp at hh ⊢; omega) | (have hh := hol; simpa using hh)), by rw [← hp, hp3]; simp⟩
            exact OwnR.mk' (by simp) (by omega) (by omega) (by simp) (by rw [hget_hput, if_pos rfl]; simp [Entry.cells_eq])
          | false =>
            have hp3 : putR e false (x :: rem) = e :: putR e true (x :: rem) := by unfold putR; simp [putE, hle]
            by_cases hq : x.path = e.path
            · simp only [↓bD, bL, stps, stpOf, ev, ofConst, AV.cells, AV.one, loadObj, TI.agg, fieldAddrA, indexAddrA, binP, binA, symA, intOp, strOp, unA, lenA, putCells, elemTI, List.replicate, Option.or, hputs, ↓reduceIte, reduceCtorEq, Nat.reduceEqDiff, Nat.reduceLT, Nat.reduceLeDiff, Nat.reduceAdd, Nat.reduceMul, buildSliceA, fillA, looks, appendA, elemsOf, C1_ty, ty9, ty35, ty107, beqD, Nat.add_assoc, h7, h6, h5, h0, h3, hlt, hx, hw, hbar, he, hc0, eq_false hs0, hne1, hg, hb1, hb2, eq_true hfl, hle, eq_true hq]
              repeat (refine ⟨(by kernel_rfl : (_ : Bool) = true), ?_⟩)
              refine ⟨rem, by simp, k + 1, true, _, o ++ [e], rfl, hd', by omega, rfl, rfl, ?_, (by first | (simp; done) | (have hh := hol; simp at hh ⊢; omega) | (have hh := hol; simpa using hh)), by rw [← hp, hp3, hp2, if_pos hq]; simp⟩
              exact OwnR.mk' (by simp) (by omega) (by omega) (by simp) (by rw [hget_hput, if_pos rfl]; simp [Entry.cells_eq])
            · simp only [↓bD, bL, stps, stpOf, ev, ofConst, AV.cells, AV.one, loadObj, TI.agg, fieldAddrA, indexAddrA, binP, binA, symA, intOp, strOp, unA, lenA, putCells, elemTI, List.replicate, Option.or, hputs, ↓reduceIte, reduceCtorEq, Nat.reduceEqDiff, Nat.reduceLT, Nat.reduceLeDiff, Nat.reduceAdd, Nat.reduceMul, buildSliceA, fillA, looks, appendA, elemsOf, C1_ty, ty9, ty35, ty107, beqD, Nat.add_assoc, h7, h6, h5, h0, h3, hlt, hx, hw, hbar, he, hc0, eq_false hs0, hne1, hg, hb1, hb2, hb3, hb4, eq_true hfl, eq_true hfl2, hle, eq_false hq]
              repeat (refine ⟨(by kernel_rfl : (_ : Bool) = true), ?_⟩)
              refine ⟨rem, by simp, k + 1, true, _, o ++ [e, x], rfl, hd', by omega, rfl, rfl, ?_, (by first | (simp; done) | (have hh := hol; simp at hh ⊢; omega) | (have hh := hol; simpa using hh)), by rw [← hp, hp3, hp2, if_neg hq]; simp⟩
              exact OwnR.mk' (by simp) (by omega) (by omega) (by simp) (by rw [hget_hput, if_pos rfl]; simp [Entry.cells_eq])
  · rintro x T st he hF hc hb ⟨rfl, b, v, o, h6, h5, ho, hol, he, hp⟩
    have h3 := hF 3 rfl
    simp only [getT_setT, getT] at h3
    clear hF
    have hbar : st.bar = 0 := hb
    have hc5 : 5 ≤ st.c := hc
    have hc0 : ∀ j, (st.c + j = 0) = False := fun j => eq_false (by omega)
    have hc0' : (st.c = 0) = False := eq_false (by omega)
    rw [← hp]
    cases b with
    | true =>
      have hr : o ++ putR e true [] = o := by simp [putR]
      rw [hr]
      simp only [↓bD, bL, stps, stpOf, ev, unA, resA, ↓reduceIte, Nat.reduceEqDiff, Nat.reduceLT, Nat.reduceAdd, Tryz.ntmps117, Tryz.results117, Nat.add_assoc, h6, h5, hbar]
      exact fin_ownR len_entry finOk_entry ho 6
    | false =>
      have hr : o ++ putR e false [] = o ++ [e] := rfl
      rw [hr]
      rcases ho with ⟨rfl, rfl⟩ | ⟨hne, s, rfl, hs5, hsc, hg⟩
      · simp only [↓bD, bL, stps, stpOf, ev, ofConst, AV.cells, AV.one, loadObj, TI.agg, unA, putCells, elemTI, resA, List.replicate, hputs, ↓reduceIte, reduceCtorEq, Nat.reduceEqDiff, Nat.reduceLT, Nat.reduceLeDiff, Nat.reduceAdd, Nat.reduceMul, buildSliceA, fillA, appendA, elemsOf, C1_ty, ty35, ty107, Tryz.ntmps117, Tryz.results117, beqD, Nat.add_assoc, h6, h5, h3, hbar, he]
        refine fin_ownR (v := .osl 4 (st.c + 5) 0 1 1) (l := [e]) (c := st.c + 6) (b := 5) len_entry finOk_entry (OwnR.mk' (by simp) (by omega) (by omega) rfl ?_) 6
        rw [hget_hput, if_pos rfl]; rfl
      · have hne1 : ∀ j, (st.c + j = s) = False := fun j => by simp; omega
        have hs0 : ¬ s = 0 := by omega
        have hb1 : (o.length + 1) * 48 ≤ 140737488355328 := by clear hp; omega
        have hb2 : o.length ≤ 9223372036854775806 := by clear hp; omega
        have hfl : o.length * 4 = (List.flatMap Entry.cells o).length := (flat_len (f := Entry.cells) (w := 4) len_entry o).symm
        simp only [↓bD, bL, stps, stpOf, ev, ofConst, AV.cells, AV.one, loadObj, TI.agg, unA, putCells, elemTI, resA, List.replicate, hputs, ↓reduceIte, reduceCtorEq, Nat.reduceEqDiff, Nat.reduceLT, Nat.reduceLeDiff, Nat.reduceAdd, Nat.reduceMul, buildSliceA, fillA, appendA, elemsOf, C1_ty, ty35, ty107, Tryz.ntmps117, Tryz.results117, Nat.add_assoc, h6, h5, h3, hbar, he, hne1, hg, hb1, hb2, eq_true hfl]
        refine fin_ownR (v := .osl 4 (st.c + 5) 0 (o.length + 1) (o.length + 1)) (l := o ++ [e]) (c := st.c + 6) (b := 5) len_entry finOk_entry (OwnR.mk' (by simp) (by omega) (by omega) (by simp) ?_) 6
        rw [hget_hput, if_pos rfl]; simp [Entry.cells_eq]
theorem G_putE (t : List Entry) (e : Entry) (ht : t.length ≤ 1099511627776) : G3 C1 Tryz.f117 [.rows false (t.map Entry.cells), .agg [.str e.path, .bool e.folder, .str e.text, .int .i64 e.version]] = some (.rows false ((putE e t).map Entry.cells)) := G3_eq (R_putE t e ht)
end Go.Ab.Seat
/- the document's ChangeOf, in the second configuration (begun: the errors ahead of the walk over the tree). -/
namespace Go.Ab.Seat
open Go Go.Proofs
-- CFG C2
set_option linter.unusedSimpArgs false
set_option linter.unusedVariables false
set_option maxHeartbeats 4000000
set_option maxRecDepth 100000

theorem R_changeOf1 (t : List Entry) (c : Change) (n : Int) (ht : t.length ≤ 1099511627776) (hp : c.path.length ≤ 4398046511103) (hto : c.to.length ≤ 4398046511103) (hf : ¬ changeForm c = 0) :
    Run3 C2 Tryz.f90 [.rows false (t.map Entry.cells), .agg [.int .i64 c.kind, .str c.path, .str c.to, .str c.text, .int .i64 c.base], .int .i64 n] (.tuple [.rows false [], .int .i64 (changeForm c)]) := by
  refine Run3.mk (fn := Tryz.f90) rfl ?_
  simp only [↓bD, bL, stps, stpOf, ev, getT, setT, ofConst, AV.cells, notBad, loadObj, TI.agg, binP, binA, symA, intOp, resA, padT, List.replicate, Option.or, hputs, ↓reduceIte, Nat.reduceLT, Nat.reduceAdd, Nat.reduceSub, fin, List.mapM_cons, List.mapM_nil, scalarN, plainN, hookLooks, looks1, C2_ty, ty47, Tryz.ntmps90, Tryz.results90, pureF, Cl_hook (hk_C2_115), G_rForm, bneD, hp, hto, eq_false hf]

theorem R_changeOf2 (t : List Entry) (c : Change) (n : Int) (ht : t.length ≤ 1099511627776) (hp : c.path.length ≤ 4398046511103) (hto : c.to.length ≤ 4398046511103) (hf : changeForm c = 0) (k3 : c.kind = 3) (he : ¬ folderE t (parentOf c.to) = 0) :
    Run3 C2 Tryz.f90 [.rows false (t.map Entry.cells), .agg [.int .i64 c.kind, .str c.path, .str c.to, .str c.text, .int .i64 c.base], .int .i64 n] (.tuple [.rows false [], .int .i64 (folderE t (parentOf c.to))]) := by
  have ht2 : t.length ≤ 4398046511104 := by omega
  refine Run3.mk (fn := Tryz.f90) rfl ?_
  simp only [↓bD, bL, stps, stpOf, ev, getT, setT, ofConst, AV.cells, notBad, loadObj, TI.agg, fieldAddrA, binP, binA, symA, intOp, resA, padT, List.replicate, Option.or, hputs, ↓reduceIte, Nat.reduceLT, Nat.reduceAdd, Nat.reduceSub, fin, List.mapM_cons, List.mapM_nil, scalarN, plainN, hookLooks, looks1, C2_ty, ty3, ty9, ty47, Tryz.ntmps90, Tryz.results90, Cl_hook (hk_C2_88), pureF, G_folderE, Cl_hook (hk_C2_89), G_parentOf, Cl_hook (hk_C2_115), G_rForm, beqD, bneD, hp, hto, ht2, hf, eq_true k3, eq_false he]

theorem R_changeOf3 (t : List Entry) (c : Change) (n : Int) (ht : t.length ≤ 1099511627776) (hp : c.path.length ≤ 4398046511103) (hto : c.to.length ≤ 4398046511103) (hf : changeForm c = 0) (k3 : ¬ c.kind = 3) (he : ¬ folderE t (parentOf c.path) = 0) :
    Run3 C2 Tryz.f90 [.rows false (t.map Entry.cells), .agg [.int .i64 c.kind, .str c.path, .str c.to, .str c.text, .int .i64 c.base], .int .i64 n] (.tuple [.rows false [], .int .i64 (folderE t (parentOf c.path))]) := by
  have ht2 : t.length ≤ 4398046511104 := by omega
  refine Run3.mk (fn := Tryz.f90) rfl ?_
  simp only [↓bD, bL, stps, stpOf, ev, getT, setT, ofConst, AV.cells, notBad, loadObj, TI.agg, fieldAddrA, binP, binA, symA, intOp, resA, padT, List.replicate, Option.or, hputs, ↓reduceIte, Nat.reduceLT, Nat.reduceAdd, Nat.reduceSub, fin, List.mapM_cons, List.mapM_nil, scalarN, plainN, hookLooks, looks1, C2_ty, ty3, ty9, ty47, Tryz.ntmps90, Tryz.results90, Cl_hook (hk_C2_88), pureF, G_folderE, Cl_hook (hk_C2_89), G_parentOf, Cl_hook (hk_C2_115), G_rForm, beqD, bneD, hp, hto, ht2, hf, eq_false k3, eq_false he]

theorem R_changeOf4 (t : List Entry) (c : Change) (n : Int) (ht : t.length ≤ 1099511627776) (hp : c.path.length ≤ 4398046511103) (hto : c.to.length ≤ 4398046511103) (hf : changeForm c = 0) (k1 : c.kind = 1) (he : folderE t (parentOf c.path) = 0) (ha : 0 ≤ entryAt t c.path) :
    Run3 C2 Tryz.f90 [.rows false (t.map Entry.cells), .agg [.int .i64 c.kind, .str c.path, .str c.to, .str c.text, .int .i64 c.base], .int .i64 n] (.tuple [.rows false [], .int .i64 6]) := by
  have ht2 : t.length ≤ 4398046511104 := by omega
  have k3 : ¬ c.kind = 3 := by omega
  refine Run3.mk (fn := Tryz.f90) rfl ?_
  simp only [↓bD, bL, stps, stpOf, ev, getT, setT, ofConst, AV.cells, notBad, loadObj, TI.agg, fieldAddrA, binP, binA, symA, intOp, resA, padT, List.replicate, Option.or, hputs, ↓reduceIte, Nat.reduceLT, Nat.reduceAdd, Nat.reduceSub, fin, List.mapM_cons, List.mapM_nil, scalarN, plainN, hookLooks, looks1, C2_ty, ty3, ty9, ty47, Tryz.ntmps90, Tryz.results90, Cl_hook (hk_C2_88), pureF, G_folderE, Cl_hook (hk_C2_89), G_parentOf, Cl_hook (hk_C2_113), G_entryAt, Cl_hook (hk_C2_115), G_rForm, beqD, hp, hto, ht2, hf, eq_true k1, eq_false k3, he, eq_true ha]
theorem R_changeOf5 (t : List Entry) (c : Change) (n : Int) (ht : t.length ≤ 1099511627776) (hp : c.path.length ≤ 4398046511103) (hto : c.to.length ≤ 4398046511103) (hf : changeForm c = 0) (k2 : c.kind = 2) (he : folderE t (parentOf c.path) = 0) (k : Nat) (x : Entry) (ha : entryAt t c.path = (k : Int)) (hx : t[k]? = some x) (hfo : x.folder = true) :
    Run3 C2 Tryz.f90 [.rows false (t.map Entry.cells), .agg [.int .i64 c.kind, .str c.path, .str c.to, .str c.text, .int .i64 c.base], .int .i64 n] (.tuple [.rows false [], .int .i64 4]) := by
  have ht2 : t.length ≤ 4398046511104 := by omega
  have k3 : ¬ c.kind = 3 := by omega
  have k1 : ¬ c.kind = 1 := by omega
  have hk0 : (0 : Int) ≤ (k : Int) := by omega
  have hkl : (k : Int) < (t.length : Int) := by have := (List.getElem?_eq_some_iff.1 hx).1; omega
  refine Run3.mk (fn := Tryz.f90) rfl ?_
  simp only [↓bD, bL, stps, stpOf, ev, getT, setT, ofConst, AV.cells, notBad, loadObj, TI.agg, fieldAddrA, indexAddrA, binP, binA, symA, intOp, elemTI, resA, padT, List.replicate, Option.or, hputs, ↓reduceIte, reduceCtorEq, Nat.reduceLT, Nat.reduceAdd, Nat.reduceSub, fin, List.mapM_cons, List.mapM_nil, scalarN, plainN, hookLooks, looks1, C2_ty, ty3, ty4, ty9, ty35, ty47, ty107, Tryz.ntmps90, Tryz.results90, Cl_hook (hk_C2_88), pureF, G_folderE, Cl_hook (hk_C2_89), G_parentOf, Cl_hook (hk_C2_113), G_entryAt, Cl_hook (hk_C2_115), G_rForm, beqD, hp, hto, ht2, hf, eq_false k1, eq_true k2, eq_false k3, he, ha, hk0, hkl, hx, hfo]
theorem R_changeOf6 (t : List Entry) (c : Change) (n : Int) (ht : t.length ≤ 1099511627776) (hp : c.path.length ≤ 4398046511103) (hto : c.to.length ≤ 4398046511103) (hf : changeForm c = 0) (k4 : 3 ≤ c.kind) (he : folderE t (parentOf (if c.kind = 3 then c.to else c.path)) = 0) (ha : entryAt t c.path < 0) :
    Run3 C2 Tryz.f90 [.rows false (t.map Entry.cells), .agg [.int .i64 c.kind, .str c.path, .str c.to, .str c.text, .int .i64 c.base], .int .i64 n] (.tuple [.rows false [], .int .i64 5]) := by
  have ht2 : t.length ≤ 4398046511104 := by omega
  have k1 : ¬ c.kind = 1 := by omega
  have k2 : ¬ c.kind = 2 := by omega
  have hk0 : ¬ (0 : Int) ≤ entryAt t c.path := by omega
  by_cases k3 : c.kind = 3
  · rw [if_pos k3] at he
    refine Run3.mk (fn := Tryz.f90) rfl ?_
    simp only [↓bD, bL, stps, stpOf, ev, getT, setT, ofConst, AV.cells, notBad, loadObj, TI.agg, fieldAddrA, binP, binA, symA, intOp, resA, padT, List.replicate, Option.or, hputs, ↓reduceIte, Nat.reduceLT, Nat.reduceAdd, Nat.reduceSub, fin, List.mapM_cons, List.mapM_nil, scalarN, plainN, hookLooks, looks1, C2_ty, ty3, ty9, ty47, Tryz.ntmps90, Tryz.results90, Cl_hook (hk_C2_88), pureF, G_folderE, Cl_hook (hk_C2_89), G_parentOf, Cl_hook (hk_C2_113), G_entryAt, Cl_hook (hk_C2_115), G_rForm, beqD, hp, hto, ht2, hf, eq_false k1, eq_false k2, eq_true k3, eq_true k4, he, ha]
  rw [if_neg k3] at he
  refine Run3.mk (fn := Tryz.f90) rfl ?_
  simp only [↓bD, bL, stps, stpOf, ev, getT, setT, ofConst, AV.cells, notBad, loadObj, TI.agg, fieldAddrA, binP, binA, symA, intOp, resA, padT, List.replicate, Option.or, hputs, ↓reduceIte, Nat.reduceLT, Nat.reduceAdd, Nat.reduceSub, fin, List.mapM_cons, List.mapM_nil, scalarN, plainN, hookLooks, looks1, C2_ty, ty3, ty9, ty47, Tryz.ntmps90, Tryz.results90, Cl_hook (hk_C2_88), pureF, G_folderE, Cl_hook (hk_C2_89), G_parentOf, Cl_hook (hk_C2_113), G_entryAt, Cl_hook (hk_C2_115), G_rForm, beqD, hp, hto, ht2, hf, eq_false k1, eq_false k2, eq_false k3, eq_true k4, he, ha]

theorem R_changeOf7 (t : List Entry) (c : Change) (n : Int) (ht : t.length ≤ 1099511627776) (hp : c.path.length ≤ 4398046511103) (hto : c.to.length ≤ 4398046511103) (hf : changeForm c = 0) (k3 : c.kind = 3) (he : folderE t (parentOf c.to) = 0) (ha : 0 ≤ entryAt t c.path) (hw : within c.to c.path = true) :
    Run3 C2 Tryz.f90 [.rows false (t.map Entry.cells), .agg [.int .i64 c.kind, .str c.path, .str c.to, .str c.text, .int .i64 c.base], .int .i64 n] (.tuple [.rows false [], .int .i64 3]) := by
  have ht2 : t.length ≤ 4398046511104 := by omega
  have k1 : ¬ c.kind = 1 := by omega
  have k2 : ¬ c.kind = 2 := by omega
  have k4 : 3 ≤ c.kind := by omega
  have hn : ¬ entryAt t c.path < 0 := by omega
  refine Run3.mk (fn := Tryz.f90) rfl ?_
  simp only [↓bD, bL, stps, stpOf, ev, getT, setT, ofConst, AV.cells, notBad, loadObj, TI.agg, fieldAddrA, binP, binA, symA, intOp, resA, padT, List.replicate, Option.or, hputs, ↓reduceIte, Nat.reduceLT, Nat.reduceAdd, Nat.reduceSub, fin, List.mapM_cons, List.mapM_nil, scalarN, plainN, hookLooks, looks1, C2_ty, ty3, ty9, ty47, Tryz.ntmps90, Tryz.results90, Cl_hook (hk_C2_88), pureF, G_folderE, Cl_hook (hk_C2_89), G_parentOf, Cl_hook (hk_C2_113), G_entryAt, Cl_hook (hk_C2_115), G_rForm, Cl_hook (hk_C2_116), G_isIn, beqD, hp, hto, ht2, hf, eq_false k1, eq_false k2, eq_true k3, eq_true k4, he, eq_false hn, hw]
theorem R_changeOf8 (t : List Entry) (c : Change) (n : Int) (ht : t.length ≤ 1099511627776) (hp : c.path.length ≤ 4398046511103) (hto : c.to.length ≤ 4398046511103) (hf : changeForm c = 0) (k3 : c.kind = 3) (he : folderE t (parentOf c.to) = 0) (ha : 0 ≤ entryAt t c.path) (hw : within c.to c.path = false) (ha2 : 0 ≤ entryAt t c.to) :
    Run3 C2 Tryz.f90 [.rows false (t.map Entry.cells), .agg [.int .i64 c.kind, .str c.path, .str c.to, .str c.text, .int .i64 c.base], .int .i64 n] (.tuple [.rows false [], .int .i64 6]) := by
  have ht2 : t.length ≤ 4398046511104 := by omega
  have k1 : ¬ c.kind = 1 := by omega
  have k2 : ¬ c.kind = 2 := by omega
  have k4 : 3 ≤ c.kind := by omega
  have hn : ¬ entryAt t c.path < 0 := by omega
  refine Run3.mk (fn := Tryz.f90) rfl ?_
  simp only [↓bD, bL, stps, stpOf, ev, getT, setT, ofConst, AV.cells, notBad, loadObj, TI.agg, fieldAddrA, binP, binA, symA, intOp, resA, padT, List.replicate, Option.or, hputs, ↓reduceIte, Nat.reduceLT, Nat.reduceAdd, Nat.reduceSub, fin, List.mapM_cons, List.mapM_nil, scalarN, plainN, hookLooks, looks1, C2_ty, ty3, ty9, ty47, Tryz.ntmps90, Tryz.results90, Cl_hook (hk_C2_88), pureF, G_folderE, Cl_hook (hk_C2_89), G_parentOf, Cl_hook (hk_C2_113), G_entryAt, Cl_hook (hk_C2_115), G_rForm, Cl_hook (hk_C2_116), G_isIn, beqD, hp, hto, ht2, hf, eq_false k1, eq_false k2, eq_true k3, eq_true k4, he, eq_false hn, hw, eq_true ha2]
end Go.Ab.Seat
/- the document's FolderAt. -/
namespace Go.Ab.Seat
open Go Go.Proofs
-- CFG C1
set_option linter.unusedSimpArgs false
set_option linter.unusedVariables false
set_option maxHeartbeats 4000000
set_option maxRecDepth 100000

/-- Where a folder's journal is. -/
def folderAt (l : List Shared) (f : Str) : Int := idxF' (fun x : Shared => decide (x.name = f)) l
-- REG R.FolderAt G_folderAt
theorem R_folderAt (h : Hub) (f : Str) (hl : h.folders.length ≤ 1099511627776) : Run3 C1 Tryz.f18 [.agg h.cells, .str f] (.int .i64 (folderAt h.folders f)) := by
  rw [Hub.cells_eq]
  refine Run3.mk (fn := Tryz.f18) rfl ?_
  simp only [↓bD, bL, stps, stpOf, ev, getT, setT, ofConst, AV.cells, notBad, padT, List.replicate, Nat.reduceLT, Nat.reduceAdd, Nat.reduceSub, Tryz.ntmps18]
  generalize hl0 : h.folders = t at hl
  refine X_loop (fun (rem : List Shared) T st => ∃ k : Nat, getT T 5 = .int .i64 (k : Nat) ∧ t.drop k = rem ∧ (t.take k).any (fun x : Shared => decide (x.name = f)) = false ∧ hget st.h 0 = some (.cells [AV.rows false (List.map Shared.cells t), AV.rows false (List.map Grant.cells h.grants), AV.rows false (List.map Session.cells h.uploads.sessions), AV.int IntKind.i64 h.uploads.next, AV.int IntKind.i64 h.uploads.lasts, AV.int IntKind.i64 h.uploads.room, AV.int IntKind.i64 h.now])) List.length
    (fun e T st => (e = .ret ∧ getT T 4 = .int .i64 (folderAt t f)) ∨ (e = .exit 0 ∧ folderAt t f = -1)) t ⟨0, rfl, rfl, rfl, rfl⟩ ?_ ?_
  · rintro rem T st hF hc hb ⟨k, hk, hd, hn, hh⟩
    have h2 := hF 2 rfl
    have h1 := hF 1 rfl
    simp only [getT_setT, getT] at h2 h1
    clear hF
    cases rem with
    | nil =>
      have hnk := drop_nil_len hd
      have hlt : ¬ (k : Int) < (t.length : Int) := by omega
      rw [List.take_of_length_le hnk] at hn
      have he : folderAt t f = -1 := idxF_none hn
      simp only [↓bD, bL, stps, stpOf, ev, loadObj, TI.agg, fieldAddrA, binP, binA, symA, intOp, lenA, Option.or, ↓reduceIte, reduceCtorEq, Nat.reduceEqDiff, Nat.reduceLT, Nat.reduceAdd, C1_ty, ty22, ty28, Int.reduceNeg, Nat.add_assoc, hk, h2, hh, hlt, he]
    | cons x rem =>
      obtain ⟨hx, hlt0, hd', ht'⟩ := drop_cons_get hd
      have hlt : (k : Int) < (t.length : Int) := by omega
      have hw : IntKind.i64.wrap ((k : Int) + 1) = ((k + 1 : Nat) : Int) := by rw [Int.natCast_add]; exact wrap_i64 (by omega) (by omega)
      by_cases hi : x.name = f
      · have he : folderAt t f = (k : Int) := idxF_some hn hx (by simpa using hi)
        simp only [↓bD, bL, stps, stpOf, ev, loadObj, TI.agg, fieldAddrA, indexAddrA, binP, binA, symA, intOp, strOp, lenA, elemTI, Option.or, ↓reduceIte, reduceCtorEq, Nat.reduceEqDiff, Nat.reduceLT, Nat.reduceAdd, C1_ty, ty9, ty22, ty28, ty53, beqD, Int.reduceNeg, Nat.add_assoc, hk, h2, h1, hh, hlt, hx, eq_true hi, he]
      · have ha : (t.take (k + 1)).any (fun x : Shared => decide (x.name = f)) = false := by rw [ht']; simp [hi, hn]
        simp only [↓bD, bL, stps, stpOf, ev, ofConst, loadObj, TI.agg, fieldAddrA, indexAddrA, binP, binA, symA, intOp, strOp, lenA, elemTI, Option.or, ↓reduceIte, reduceCtorEq, Nat.reduceEqDiff, Nat.reduceLT, Nat.reduceAdd, C1_ty, ty9, ty22, ty28, ty53, beqD, Nat.add_assoc, hk, h2, h1, hh, hlt, hx, hw, eq_false hi]
        exact ⟨rem, by simp, k + 1, rfl, hd', ha⟩
  · rintro e T st he hF hc hb (⟨rfl, h2⟩ | ⟨rfl, hn⟩)
    · simp only [↓kseq_ret, ↓kblock_ret, List.toList_toArray, S_some, ↓end_ret, resA, tupOf_1, Option.map_some, fin, Tryz.results18, h2]
    · simp only [↓bD, bL, stps, stpOf, ev, ofConst, resA, ↓reduceIte, Nat.reduceLT, fin, Tryz.ntmps18, Tryz.results18, Int.reduceNeg, hn]
theorem G_folderAt (h : Hub) (f : Str) (hl : h.folders.length ≤ 1099511627776) : G3 C1 Tryz.f18 [.agg h.cells, .str f] = some (.int .i64 (folderAt h.folders f)) := G3_eq (R_folderAt h f hl)
end Go.Ab.Seat
