/- the document's ChangeOf: the pieces ahead of its walks. -/
import Derived.Test.YtnmlmmakheckpaaGreatDoorAb11
import Derived.Test.YtnmlmmakheckpaaGreatDoorAb21
import Derived.Test.YtnmlmmakheckpaaGreatDoorAb09
import Derived.Test.YtnmlmmakheckpaaGreatDoorAb13
namespace Go.Ab.Seat
open Go Go.Proofs
-- CFG C2
set_option linter.unusedSimpArgs false
set_option linter.unusedVariables false
set_option maxHeartbeats 4000000
set_option maxRecDepth 100000

/-- What is known between the pieces. -/
def chJ (t : List Entry) (c : Change) (n : Int) (T : List AV) (st : St) : Prop :=
  getT T 0 = .rows false (t.map Entry.cells) ∧ getT T 2 = .int .i64 n ∧ getT T 4 = .ptr 0 0 ∧ hget st.h 0 = some (.cells [.int .i64 c.kind, .str c.path, .str c.to, .str c.text, .int .i64 c.base]) ∧ 0 < st.c ∧ st.bar = 0
def chQ (r : AV) : KE := endW C2 Tryz.f90.results.toList fun r1 st' => fin st'.h 0 false 8 r1 = some r

/-- The walk over versions. -/
theorem ch_stale (t : List Entry) (c : Change) (n : Int) (T : List AV) (st : St) (r : AV) (ht : t.length ≤ 1099511627776) (hpt : ∀ x ∈ t, x.path.length ≤ 4398046511103) (hp : c.path.length ≤ 4398046511103) (hJ : chJ t c n T st)
    (hs : (0 ≤ c.base ∧ t.any (fun x => within x.path c.path && decide (c.base < x.version)) = true) → r = .tuple [.rows false [], .int .i64 8])
    (hn : ¬ (0 ≤ c.base ∧ t.any (fun x => within x.path c.path && decide (c.base < x.version)) = true) → ∀ T st, chJ t c n T st → X C2 Tryz.f90.ntmps (restC 10 (bodyC Tryz.f90)) T st (Q := ⟨chQ r⟩)) :
    X C2 Tryz.f90.ntmps (restC 9 (bodyC Tryz.f90)) T st (Q := ⟨chQ r⟩) := by
  obtain ⟨j0, j2, j4, jh, jc, jb⟩ := hJ
  refine (?_ : X C2 Tryz.f90.ntmps (.seq _ (restC 10 (bodyC Tryz.f90))) T st (Q := ⟨chQ r⟩))
  refine X_cut (fun T st => hget st.h 0 = some (.cells [.int .i64 c.kind, .str c.path, .str c.to, .str c.text, .int .i64 c.base]) ∧ ¬ (0 ≤ c.base ∧ t.any (fun x => within x.path c.path && decide (c.base < x.version)) = true)) ?_ ?_
  · by_cases hb0 : 0 ≤ c.base
    · simp only [↓bD, bL, stps, stpOf, ev, ofConst, Nat.reduceLT, Tryz.ntmps90, jb]
      refine X_loop (fun (rem : List Entry) T st => ∃ k : Nat, getT T 11 = .int .i64 (k : Nat) ∧ t.drop k = rem ∧ (t.take k).any (fun x => within x.path c.path && decide (c.base < x.version)) = false ∧ hget st.h 0 = some (.cells [.int .i64 c.kind, .str c.path, .str c.to, .str c.text, .int .i64 c.base])) List.length
        (fun e T st => (e = .ret ∧ getT T 6 = .rows true [] ∧ getT T 7 = .int .i64 8 ∧ t.any (fun x => within x.path c.path && decide (c.base < x.version)) = true) ∨ (e = .exit 1 ∧ t.any (fun x => within x.path c.path && decide (c.base < x.version)) = false ∧ hget st.h 0 = some (.cells [.int .i64 c.kind, .str c.path, .str c.to, .str c.text, .int .i64 c.base]))) t ⟨0, by rw [getT_setT, if_pos rfl]; rfl, rfl, rfl, jh⟩ ?_ ?_
      · rintro rem T1 st1 hF hc hb ⟨k, hk, hd, hnn, hh⟩
        have h0 := hF 0 rfl
        have h4 := hF 4 rfl
        simp only [getT_setT, getT, j0, j4, Nat.reduceEqDiff, if_false] at h0 h4
        clear hF
        have hbar : st1.bar = 0 := hb
        cases rem with
        | nil =>
          have hnk := drop_nil_len hd
          have hlt : ¬ (k : Int) < (t.length : Int) := by omega
          rw [List.take_of_length_le hnk] at hnn
          simp only [↓bD, bL, stps, stpOf, ev, ofConst, binP, binA, symA, intOp, lenA, Option.or, ↓reduceIte, reduceCtorEq, Nat.reduceEqDiff, Nat.reduceLT, Nat.reduceAdd, C2_ty, ty35, Nat.add_assoc, hk, h0, hh, hlt, hnn]
        | cons x rem =>
          obtain ⟨hx, hlt0, hd', ht'⟩ := drop_cons_get hd
          have hlt : (k : Int) < (t.length : Int) := by omega
          have hw : IntKind.i64.wrap ((k : Int) + 1) = ((k + 1 : Nat) : Int) := by rw [Int.natCast_add]; exact wrap_i64 (by omega) (by omega)
          have hxp := hpt x (List.mem_of_getElem? hx)
          cases q1 : within x.path c.path with
          | false =>
            have hs : (t.take (k + 1)).any (fun x => within x.path c.path && decide (c.base < x.version)) = false := by rw [ht', List.any_append, hnn]; simp [q1]
            simp only [↓bD, bL, stps, stpOf, ev, ofConst, loadObj, TI.agg, fieldAddrA, indexAddrA, binP, binA, symA, intOp, lenA, elemTI, Option.or, hputs, ↓reduceIte, reduceCtorEq, Nat.reduceEqDiff, Nat.reduceLT, Nat.reduceAdd, fin, List.mapM_cons, List.mapM_nil, scalarN, plainN, hookLooks, looks1, looks, C2_ty, ty3, ty9, ty35, ty47, ty107, pureF, Cl_hook (hk_C2_116), G_isIn, Nat.add_assoc, hk, h0, h4, hh, hlt, hx, hw, hp, hxp, hb0, q1]
            (repeat (refine ⟨(by kernel_rfl : (_ : Bool) = true), ?_⟩))
            exact ⟨rem, by simp, k + 1, rfl, hd', hs⟩
          | true =>
            by_cases q2 : c.base < x.version
            · have hs : t.any (fun x => within x.path c.path && decide (c.base < x.version)) = true := List.any_eq_true.2 ⟨x, List.mem_of_getElem? hx, by simp [q1, q2]⟩
              simp only [↓bD, bL, stps, stpOf, ev, ofConst, loadObj, TI.agg, fieldAddrA, indexAddrA, binP, binA, symA, intOp, lenA, elemTI, Option.or, hputs, ↓reduceIte, reduceCtorEq, Nat.reduceEqDiff, Nat.reduceLT, Nat.reduceAdd, fin, List.mapM_cons, List.mapM_nil, scalarN, plainN, hookLooks, looks1, looks, C2_ty, ty3, ty9, ty35, ty47, ty107, pureF, Cl_hook (hk_C2_116), G_isIn, Nat.add_assoc, hk, h0, h4, hh, hlt, hx, hp, hxp, hb0, q1, eq_true q2, hs]
              kernel_rfl
            · have hs : (t.take (k + 1)).any (fun x => within x.path c.path && decide (c.base < x.version)) = false := by rw [ht', List.any_append, hnn]; simp [q2]
              simp only [↓bD, bL, stps, stpOf, ev, ofConst, loadObj, TI.agg, fieldAddrA, indexAddrA, binP, binA, symA, intOp, lenA, elemTI, Option.or, hputs, ↓reduceIte, reduceCtorEq, Nat.reduceEqDiff, Nat.reduceLT, Nat.reduceAdd, fin, List.mapM_cons, List.mapM_nil, scalarN, plainN, hookLooks, looks1, looks, C2_ty, ty3, ty9, ty35, ty47, ty107, pureF, Cl_hook (hk_C2_116), G_isIn, Nat.add_assoc, hk, h0, h4, hh, hlt, hx, hw, hp, hxp, hb0, q1, eq_false q2]
              (repeat (refine ⟨(by kernel_rfl : (_ : Bool) = true), ?_⟩))
              exact ⟨rem, by simp, k + 1, rfl, hd', hs⟩
      · rintro e T1 st1 he2 hF hc hb (⟨rfl, h6, h7, hany⟩ | ⟨rfl, hany, hh⟩)
        · rw [hs ⟨hb0, hany⟩]
          simp only [↓bD, bL, resA, fin, List.mapM_cons, List.mapM_nil, Tryz.results90, h6, h7, chQ]
        · simp only [↓kseq_normal, ↓kblock_exit, and_false, not_false_eq_true, ↓reduceIte, Bool.false_eq_true, and_self, hh, hany]
    · simp only [↓bD, bL, stps, stpOf, ev, ofConst, Nat.reduceLT, Tryz.ntmps90, jb]
      refine (Ex_loop.2 (?_ : X _ _ _ _ _ (Q := ⟨_⟩)))
      by_cases hl : (0 : Int) < (t.length : Int)
      · simp only [↓bD, bL, stps, stpOf, ev, ofConst, loadObj, TI.agg, fieldAddrA, binP, binA, symA, intOp, lenA, Option.or, ↓reduceIte, reduceCtorEq, Nat.reduceEqDiff, Nat.reduceLT, Nat.reduceAdd, C2_ty, ty3, ty35, ty47, Nat.add_assoc, j0, j4, jh, eq_false hb0, eq_true hl]
      · simp only [↓bD, bL, stps, stpOf, ev, ofConst, binP, binA, symA, intOp, lenA, Option.or, ↓reduceIte, reduceCtorEq, Nat.reduceEqDiff, Nat.reduceLT, Nat.reduceAdd, C2_ty, ty35, Nat.add_assoc, j0, jh, eq_false hb0, eq_false hl]
  · rintro T1 st1 hF hc hb ⟨hh, hst⟩
    exact hn hst T1 st1 ⟨(hF 0 rfl).trans j0, (hF 2 rfl).trans j2, (hF 4 rfl).trans j4, hh, by omega, hb.trans jb⟩
end Go.Ab.Seat
/- the document's ChangeOf: its endings. -/
namespace Go.Ab.Seat
open Go Go.Proofs
-- CFG C2
set_option linter.unusedSimpArgs false
set_option linter.unusedVariables false
set_option maxHeartbeats 4000000
set_option maxRecDepth 100000

theorem only_nil (h : Heap) : only h [] = [] := by simp [only]
theorem fin_pair {h : Heap} {v r : AV} {k : IntKind} {n : Int} (e : fin h 0 false 7 v = some r) : fin h 0 false 8 (.tuple [v, .int k n]) = some (.tuple [r, .int k n]) := by
  simp [fin, List.mapM_cons, e]
/-- A list of entries, plain or the call's own. -/
def chOut (h : Heap) (c : Nat) (v : AV) (o : List Entry) : Prop := v = .rows false (o.map Entry.cells) ∨ OwnR 4 Entry.cells 1 h c v o
theorem fin_chOut {h : Heap} {c : Nat} {v : AV} {o : List Entry} (ho : chOut h c v o) : fin h 0 false 7 v = some (.rows false (o.map Entry.cells)) := by
  rcases ho with rfl | ho
  · rfl
  · exact fin_ownR len_entry finOk_entry ho 5
theorem len_chOut {h : Heap} {c : Nat} {v : AV} {o : List Entry} (ho : chOut h c v o) (k : Nat) {ti : TI} (hk : ti.kind = .slice k) : lenA ti h v = some o.length := by
  rcases ho with rfl | ⟨rfl, rfl⟩ | ⟨_, s, rfl, _⟩ <;> simp [lenA, hk]

def chR (o : List Entry) : AV := if 60 < o.length then .tuple [.rows false [], .int .i64 2] else .tuple [.rows false (o.map Entry.cells), .int .i64 0]
theorem ch_fin (T : List AV) (st : St) (v : AV) (o : List Entry) (h12 : getT T 12 = v) (hv : chOut st.h st.c v o) : X C2 Tryz.f90.ntmps (restC 12 (bodyC Tryz.f90)) T st (Q := ⟨chQ (chR o)⟩) := by
  refine (?_ : X C2 Tryz.f90.ntmps (.seq _ (.seq _ .ret)) T st (Q := ⟨chQ (chR o)⟩))
  unfold chR
  by_cases hl : 60 < o.length
  · have hl2 : (60 : Int) < (o.length : Int) := by omega
    rcases hv with rfl | ⟨rfl, rfl⟩ | ⟨_, s, rfl, _⟩
    · simp only [↓bD, bL, stps, stpOf, ev, ofConst, binP, binA, symA, intOp, lenA, resA, Option.or, ↓reduceIte, Nat.reduceEqDiff, Nat.reduceLT, Nat.reduceAdd, fin, List.mapM_cons, List.mapM_nil, C2_ty, ty35, Tryz.ntmps90, Tryz.results90, Nat.add_assoc, h12, chQ, hl, hl2]
    · simp at hl
    · simp only [↓bD, bL, stps, stpOf, ev, ofConst, binP, binA, symA, intOp, lenA, resA, Option.or, ↓reduceIte, Nat.reduceEqDiff, Nat.reduceLT, Nat.reduceAdd, fin, List.mapM_cons, List.mapM_nil, C2_ty, ty35, Tryz.ntmps90, Tryz.results90, Nat.add_assoc, h12, chQ, hl, hl2]
  · have hl2 : ¬ (60 : Int) < (o.length : Int) := by omega
    have hf := fin_chOut hv
    rcases hv with rfl | ⟨rfl, rfl⟩ | ⟨_, s, rfl, _⟩
    · simp only [↓bD, bL, stps, stpOf, ev, ofConst, binP, binA, symA, intOp, lenA, resA, Option.or, ↓reduceIte, Nat.reduceEqDiff, Nat.reduceLT, Nat.reduceAdd, C2_ty, ty35, Tryz.ntmps90, Tryz.results90, Nat.add_assoc, h12, chQ, hl, hl2]
      exact fin_pair hf
    · simp only [↓bD, bL, stps, stpOf, ev, ofConst, binP, binA, symA, intOp, lenA, resA, Option.or, ↓reduceIte, Nat.reduceEqDiff, Nat.reduceLT, Nat.reduceAdd, C2_ty, ty35, Tryz.ntmps90, Tryz.results90, Int.reduceLT, Int.cast_ofNat_Int, Nat.add_assoc, h12, chQ]
      exact fin_pair hf
    · simp only [↓bD, bL, stps, stpOf, ev, ofConst, binP, binA, symA, intOp, lenA, resA, Option.or, ↓reduceIte, Nat.reduceEqDiff, Nat.reduceLT, Nat.reduceAdd, C2_ty, ty35, Tryz.ntmps90, Tryz.results90, Nat.add_assoc, h12, chQ, hl, hl2]
      exact fin_pair hf

theorem G_putE' (t : List Entry) (ht : t.length ≤ 1099511627776) (p : Str) (f : Bool) (x : Str) (v : Int) : G3 C1 Tryz.f117 [.rows false (t.map Entry.cells), .agg [.str p, .bool f, .str x, .int .i64 v]] = some (.rows false ((putE ⟨p, f, x, v⟩ t).map Entry.cells)) := G_putE t ⟨p, f, x, v⟩ ht

theorem ch_end1 (t : List Entry) (c : Change) (n : Int) (T : List AV) (st : St) (ht : t.length ≤ 1099511627776) (hJ : chJ t c n T st) (k : c.kind = 1) :
    X C2 Tryz.f90.ntmps (restC 10 (bodyC Tryz.f90)) T st (Q := ⟨chQ (chR (putE ⟨c.path, true, [], n⟩ t))⟩) := by
  obtain ⟨j0, j2, j4, jh, jc, jb⟩ := hJ
  refine (?_ : X C2 Tryz.f90.ntmps (.seq _ (.seq _ (restC 12 (bodyC Tryz.f90)))) T st (Q := ⟨chQ _⟩))
  rw [X_assoc]
  refine X_cut (fun T st => getT T 12 = .rows false ((putE ⟨c.path, true, [], n⟩ t).map Entry.cells)) ?_ fun T st _ _ _ h => ch_fin T st _ _ h (.inl rfl)
  simp only [↓bD, bL, stps, stpOf, ev, ofConst, AV.cells, loadObj, TI.agg, fieldAddrA, binP, binA, symA, intOp, putCells, Option.or, hputs, ↓reduceIte, reduceCtorEq, Nat.reduceEqDiff, Nat.reduceLT, Nat.reduceLeDiff, Nat.reduceAdd, fin, List.mapM_cons, List.mapM_nil, hookLooks, looks1, fillA, buildA, C2_ty, ty3, ty9, ty47, ty107, Tryz.ntmps90, frzF, Cl_hook (hk_C2_117), beqD, Nat.add_assoc, j0, j2, j4, jh, jb, eq_true k, only_nil, G_putE' t ht]
theorem ch_end2 (t : List Entry) (c : Change) (n : Int) (T : List AV) (st : St) (ht : t.length ≤ 1099511627776) (hJ : chJ t c n T st) (k : c.kind = 2) :
    X C2 Tryz.f90.ntmps (restC 10 (bodyC Tryz.f90)) T st (Q := ⟨chQ (chR (putE ⟨c.path, false, c.text, n⟩ t))⟩) := by
  obtain ⟨j0, j2, j4, jh, jc, jb⟩ := hJ
  have k1 : ¬ c.kind = 1 := by omega
  refine (?_ : X C2 Tryz.f90.ntmps (.seq _ (.seq _ (restC 12 (bodyC Tryz.f90)))) T st (Q := ⟨chQ _⟩))
  rw [X_assoc]
  refine X_cut (fun T st => getT T 12 = .rows false ((putE ⟨c.path, false, c.text, n⟩ t).map Entry.cells)) ?_ fun T st _ _ _ h => ch_fin T st _ _ h (.inl rfl)
  simp only [↓bD, bL, stps, stpOf, ev, ofConst, AV.cells, loadObj, TI.agg, fieldAddrA, binP, binA, symA, intOp, putCells, Option.or, hputs, ↓reduceIte, reduceCtorEq, Nat.reduceEqDiff, Nat.reduceLT, Nat.reduceLeDiff, Nat.reduceAdd, fin, List.mapM_cons, List.mapM_nil, hookLooks, looks1, fillA, buildA, C2_ty, ty3, ty9, ty47, ty107, Tryz.ntmps90, frzF, Cl_hook (hk_C2_117), beqD, Nat.add_assoc, j0, j2, j4, jh, jb, eq_false k1, eq_true k, only_nil, G_putE' t ht]
end Go.Ab.Seat
/- the document's ChangeOf: what is taken away, and what is moved. -/
namespace Go.Ab.Seat
open Go Go.Proofs
-- CFG C2
set_option linter.unusedSimpArgs false
set_option linter.unusedVariables false
set_option maxHeartbeats 4000000
set_option maxRecDepth 100000

theorem chOut.up {h : Heap} {c : Nat} {v : AV} {o : List Entry} (ho : chOut h c v o) {c' : Nat} (hc : c ≤ c') : chOut h c' v o := by
  rcases ho with h1 | h1
  · exact .inl h1
  · exact .inr (h1.up hc)
theorem all_s (l : List Str) : ((l.map sCells).all fun x => decide (x.length = 1)) = true := by simp [sCells]
theorem flat_s (l : List Str) : (l.map sCells).flatten = l.map AV.str := by
  induction l with
  | nil => rfl
  | cons a l ih => simp [ih, sCells]
theorem one_s (l : List Str) : (l.map AV.str).all AV.one = true := by simp [AV.one]
theorem all_tt {α : Type} (l : List α) : (l.all fun _ => true) = true := by simp
theorem putE_len (e : Entry) : ∀ t : List Entry, (putE e t).length ≤ t.length + 1
  | [] => by simp [putE]
  | x :: r => by
    unfold putE
    split
    · have := putE_len e r; simp only [List.length_cons]; omega
    · have := List.length_filter_le (fun y => !decide (y.path = e.path)) (x :: r); simp only [List.length_cons] at this ⊢; omega
theorem hget_deads {H H' : Heap} {s s' : Nat} (hs : ¬ s = s') : hget (hputs H (List.map (fun x => (x, AObj.dead)) (List.map (fun x => x.fst) (only H' [s])))) s' = hget H s' := by
  have : ∀ (l : List Nat) (H : Heap), (∀ x ∈ l, x = s) → hget (hputs H (List.map (fun x => (x, AObj.dead)) l)) s' = hget H s' := by
    intro l
    induction l with
    | nil => intro H _; rfl
    | cons a l ih =>
      intro H hl
      simp only [List.map_cons, hputs]
      rw [ih _ (fun x hx => hl x (by simp [hx])), hget_hput, if_neg (by rw [hl a (by simp)]; exact hs)]
  refine this _ H fun x hx => ?_
  obtain ⟨p, hp, rfl⟩ := List.mem_map.1 hx
  have := (List.mem_filter.1 hp).2
  simpa using this
theorem fin_entries (h : Heap) (c0 n : Nat) (inn : Bool) (l : List Entry) : (l.map Entry.cells).mapM (fun r => r.mapM (fin h c0 inn (n + 1))) = some (l.map Entry.cells) :=
  mapM_id fun r hr => by
    obtain ⟨x, _, rfl⟩ := List.mem_map.1 hr
    exact mapM_id fun y hy => finOk_entry x y hy h c0 inn n
def chA : Option (List Entry) → AV
  | none => .tuple [.rows false [], .int .i64 2]
  | some o => chR o
theorem ch_end34 (t : List Entry) (c : Change) (n : Int) (T : List AV) (st : St) (ht : t.length ≤ 549755813888) (hpt : ∀ x ∈ t, x.path.length ≤ 1099511627776) (hp : c.path.length ≤ 1099511627776) (hto : c.to.length ≤ 1099511627776) (hJ : chJ t c n T st) (k1 : ¬ c.kind = 1) (k2 : ¬ c.kind = 2) :
    X C2 Tryz.f90.ntmps (restC 10 (bodyC Tryz.f90)) T st (Q := ⟨chQ (chA (if c.kind = 3 then moveAll c n t (t.filter fun x => !within x.path c.path) else some (t.filter fun x => !within x.path c.path)))⟩) := by
  obtain ⟨j0, j2, j4, jh, jc, jb⟩ := hJ
  have hp1 : c.path.length ≤ 4398046511103 := by omega
  refine (?_ : X C2 Tryz.f90.ntmps (.seq _ (.seq _ (restC 12 (bodyC Tryz.f90)))) T st (Q := ⟨chQ _⟩))
  rw [X_assoc]
  refine X_cut (fun T st => ∃ v o, (if c.kind = 3 then moveAll c n t (t.filter fun x => !within x.path c.path) else some (t.filter fun x => !within x.path c.path)) = some o ∧ getT T 12 = v ∧ chOut st.h st.c v o) ?_ ?_
  rotate_left
  · rintro T st _ _ _ ⟨v, o, e, h12, ho⟩
    rw [e]
    exact ch_fin T st v o h12 ho
  simp only [↓bD, bL, stps, stpOf, ev, ofConst, loadObj, TI.agg, fieldAddrA, binP, binA, symA, intOp, Option.or, ↓reduceIte, Nat.reduceEqDiff, Nat.reduceLT, Nat.reduceAdd, C2_ty, ty3, ty47, Tryz.ntmps90, beqD, Nat.add_assoc, j4, jh, jb, eq_false k1, eq_false k2]
  refine X_loop (fun (rem : List Entry) T st => ∃ (k : Nat) (v : AV) (o : List Entry), getT T 13 = .int .i64 (k : Nat) ∧ t.drop k = rem ∧ k ≤ t.length ∧ getT T 12 = v ∧ OwnR 4 Entry.cells 1 st.h st.c v o ∧ o.length ≤ k ∧ hget st.h 0 = some (.cells [.int .i64 c.kind, .str c.path, .str c.to, .str c.text, .int .i64 c.base]) ∧ o ++ rem.filter (fun x => !within x.path c.path) = t.filter (fun x => !within x.path c.path)) List.length
    (fun x T st => x = .exit 4 ∧ ∃ (v : AV), getT T 12 = v ∧ OwnR 4 Entry.cells 1 st.h st.c v (t.filter fun x => !within x.path c.path) ∧ hget st.h 0 = some (.cells [.int .i64 c.kind, .str c.path, .str c.to, .str c.text, .int .i64 c.base])) t ⟨0, _, [], by rw [getT_setT, if_pos rfl]; rfl, rfl, Nat.zero_le _, rfl, .inl ⟨rfl, by simp [getT_setT]⟩, Nat.le_refl _, jh, rfl⟩ ?_ ?_
  · rintro rem T1 st1 hF hc hb ⟨k, v, o, h13, hd, hkt, h12, ho, hol, hh, hfil⟩
    have h0 := hF 0 rfl
    have h4 := hF 4 rfl
    simp only [getT_setT, getT, j0, j4, Nat.reduceEqDiff, if_false] at h0 h4
    clear hF
    have hbar : st1.bar = 0 := hb
    have hc1 : st.c < st1.c := by simp only at hc; omega
    have hc0 : ∀ j, (st1.c + j = 0) = False := fun j => eq_false (by omega)
    have hc0' : (st1.c = 0) = False := eq_false (by omega)
    cases rem with
    | nil =>
      have hnk := drop_nil_len hd
      have hlt : ¬ (k : Int) < (t.length : Int) := by omega
      rw [List.filter_nil, List.append_nil] at hfil
      simp only [↓bD, bL, stps, stpOf, ev, binP, binA, symA, intOp, lenA, Option.or, ↓reduceIte, reduceCtorEq, Nat.reduceEqDiff, Nat.reduceLT, Nat.reduceAdd, C2_ty, ty35, Nat.add_assoc, h13, h12, h0, hh, hlt]
      rw [← hfil]
      exact ⟨v, rfl, ho.up (Nat.le_add_right _ _)⟩
    | cons x rem =>
      obtain ⟨hx, hlt0, hd', ht'⟩ := drop_cons_get hd
      have hlt : (k : Int) < (t.length : Int) := by omega
      have hw : IntKind.i64.wrap ((k : Int) + 1) = ((k + 1 : Nat) : Int) := by rw [Int.natCast_add]; exact wrap_i64 (by omega) (by omega)
      have hxp : x.path.length ≤ 4398046511103 := by have := hpt x (List.mem_of_getElem? hx); omega
      cases q1 : within x.path c.path with
      | true =>
        have hf2 : List.filter (fun x => !within x.path c.path) (x :: rem) = List.filter (fun x => !within x.path c.path) rem := by rw [List.filter_cons, if_neg (by simp [q1])]
        rw [hf2] at hfil
        simp only [↓bD, bL, stps, stpOf, ev, ofConst, loadObj, TI.agg, fieldAddrA, indexAddrA, binP, binA, symA, intOp, unA, lenA, elemTI, Option.or, hputs, ↓reduceIte, reduceCtorEq, Nat.reduceEqDiff, Nat.reduceLT, Nat.reduceAdd, fin, List.mapM_cons, List.mapM_nil, scalarN, plainN, hookLooks, looks1, looks, C2_ty, ty9, ty35, ty47, ty107, pureF, Cl_hook (hk_C2_116), G_isIn, Nat.add_assoc, h13, h12, h0, h4, hh, hlt, hx, hw, hp1, hxp, q1, hbar]
        (repeat (refine ⟨(by kernel_rfl : (_ : Bool) = true), ?_⟩))
        exact ⟨rem, by simp, k + 1, v, o, rfl, hd', by omega, rfl, ho.up (Nat.le_add_right _ _), by omega, hfil⟩
      | false =>
        have hf2 : List.filter (fun x => !within x.path c.path) (x :: rem) = x :: List.filter (fun x => !within x.path c.path) rem := by rw [List.filter_cons, if_pos (by simp [q1])]
        rw [hf2] at hfil
        rcases ho with ⟨rfl, rfl⟩ | ⟨hne, s, rfl, hs1, hsc, hg⟩
        · simp only [↓bD, bL, stps, stpOf, ev, ofConst, AV.cells, AV.one, loadObj, TI.agg, fieldAddrA, indexAddrA, binP, binA, symA, intOp, unA, lenA, putCells, elemTI, List.replicate, Option.or, hputs, ↓reduceIte, reduceCtorEq, Nat.reduceEqDiff, Nat.reduceLT, Nat.reduceLeDiff, Nat.reduceAdd, Nat.reduceMul, fin, List.mapM_cons, List.mapM_nil, scalarN, plainN, hookLooks, looks1, buildSliceA, fillA, looks, appendA, elemsOf, C2_ty, ty9, ty35, ty47, ty107, pureF, Cl_hook (hk_C2_116), G_isIn, beqD, Nat.add_assoc, h13, h12, h0, h4, hh, hlt, hx, hw, hp1, hxp, q1, hbar, hc0]
          (repeat (refine ⟨(by kernel_rfl : (_ : Bool) = true), ?_⟩))
          refine ⟨rem, by simp, k + 1, _, [] ++ [x], rfl, hd', by omega, rfl, ?_, by simp, by rw [← hfil]; simp⟩
          exact OwnR.mk' (by simp) (by omega) (by omega) (by simp) (by rw [hget_hput, if_pos rfl]; simp [Entry.cells_eq])
        · have hne1 : ∀ j, (st1.c + j = s) = False := fun j => by simp; omega
          have hs0 : ¬ s = 0 := by omega
          obtain ⟨hol2, hb1, hb3, hb2, hb4⟩ := own_bds (b := false) (by simpa using hol) hlt0 (by omega)
          have hfl : o.length * 4 = (List.flatMap Entry.cells o).length := (flat_len (f := Entry.cells) (w := 4) len_entry o).symm
          simp only [↓bD, bL, stps, stpOf, ev, ofConst, AV.cells, AV.one, loadObj, TI.agg, fieldAddrA, indexAddrA, binP, binA, symA, intOp, unA, lenA, putCells, elemTI, List.replicate, Option.or, hputs, ↓reduceIte, reduceCtorEq, Nat.reduceEqDiff, Nat.reduceLT, Nat.reduceLeDiff, Nat.reduceAdd, Nat.reduceMul, fin, List.mapM_cons, List.mapM_nil, scalarN, plainN, hookLooks, looks1, buildSliceA, fillA, looks, appendA, elemsOf, C2_ty, ty9, ty35, ty47, ty107, pureF, Cl_hook (hk_C2_116), G_isIn, Nat.add_assoc, h13, h12, h0, h4, hh, hlt, hx, hw, hp1, hxp, q1, hbar, hc0, eq_false hs0, hne1, hg, hb1, hb2, eq_true hfl]
          (repeat (refine ⟨(by kernel_rfl : (_ : Bool) = true), ?_⟩))
          refine ⟨rem, by simp, k + 1, _, o ++ [x], rfl, hd', by omega, rfl, ?_, by simp; omega, by rw [← hfil]; simp⟩
          exact OwnR.mk' (by simp) (by omega) (by omega) (by simp) (by rw [hget_hput, if_pos rfl]; simp [Entry.cells_eq])
  · rintro e T1 st1 he2 hF hc hb ⟨rfl, v, h12, ho, hh⟩
    have h0 := hF 0 rfl
    have h2 := hF 2 rfl
    have h4 := hF 4 rfl
    simp only [getT_setT, getT, j0, j2, j4, Nat.reduceEqDiff, if_false] at h0 h2 h4
    clear hF
    have hbar : st1.bar = 0 := hb
    have hc1 : st.c < st1.c := by simp only at hc; omega
    by_cases k3 : c.kind = 3
    · rw [if_pos k3]
      simp only [↓bD, bL, stps, stpOf, ev, ofConst, ↓reduceIte, Nat.reduceLT, Tryz.ntmps90, hbar]
      generalize hM : moveAll c n t (t.filter fun x => !within x.path c.path) = M
      have hfl0 : (t.filter fun x => !within x.path c.path).length ≤ t.length := List.length_filter_le _ _
      refine X_loop (fun (rem : List Entry) T st => ∃ (k : Nat) (v : AV) (o : List Entry), getT T 14 = .int .i64 (k : Nat) ∧ t.drop k = rem ∧ k ≤ t.length ∧ getT T 12 = v ∧ chOut st.h st.c v o ∧ o.length ≤ t.length + k ∧ hget st.h 0 = some (.cells [.int .i64 c.kind, .str c.path, .str c.to, .str c.text, .int .i64 c.base]) ∧ moveAll c n rem o = M) List.length
        (fun x T st => (x = .ret ∧ M = none ∧ getT T 6 = .rows true [] ∧ getT T 7 = .int .i64 2) ∨ (x = .exit 6 ∧ ∃ (v : AV) (o : List Entry), M = some o ∧ getT T 12 = v ∧ chOut st.h st.c v o)) t ⟨0, v, _, by rw [getT_setT, if_pos rfl]; rfl, rfl, Nat.zero_le _, by rw [getT_setT, if_neg (by decide)]; exact h12, .inr (ho.up (Nat.le_add_right _ _)), by simpa using hfl0, hh, hM⟩ ?_ ?_
      · rintro rem T2 st2 hF hc hb ⟨k, v, o, h14, hd, hkt, h12, ho, hol, hh, hm⟩
        have g0 := hF 0 rfl
        have g2 := hF 2 rfl
        have g4 := hF 4 rfl
        simp only [getT_setT, getT, h0, h2, h4, Nat.reduceEqDiff, if_false] at g0 g2 g4
        clear hF
        have hbar : st2.bar = 0 := hb
        have hc1 : st.c < st2.c := by simp only at hc; omega
        have hc0 : ∀ j, (st2.c + j = 0) = False := fun j => eq_false (by omega)
        have hc0' : (st2.c = 0) = False := eq_false (by omega)
        cases rem with
        | nil =>
          have hnk := drop_nil_len hd
          have hlt : ¬ (k : Int) < (t.length : Int) := by omega
          simp only [moveAll] at hm
          subst hm
          simp only [↓bD, bL, stps, stpOf, ev, ofConst, binP, binA, symA, intOp, lenA, Option.or, ↓reduceIte, reduceCtorEq, Nat.reduceEqDiff, Nat.reduceLT, Nat.reduceAdd, C2_ty, ty35, Nat.add_assoc, h14, h12, g0, hlt]
          exact ⟨v, o, rfl, rfl, ho.up (Nat.le_add_right _ _)⟩
        | cons x rem =>
          obtain ⟨hx, hlt0, hd', ht'⟩ := drop_cons_get hd
          have hlt : (k : Int) < (t.length : Int) := by omega
          have hw : IntKind.i64.wrap ((k : Int) + 1) = ((k + 1 : Nat) : Int) := by rw [Int.natCast_add]; exact wrap_i64 (by omega) (by omega)
          have hxp0 := hpt x (List.mem_of_getElem? hx)
          have hxp : x.path.length ≤ 4398046511103 := by omega
          unfold moveAll at hm
          cases q1 : within x.path c.path with
          | false =>
            rw [if_neg (by simp [q1])] at hm
            simp only [↓bD, bL, stps, stpOf, ev, ofConst, loadObj, TI.agg, fieldAddrA, indexAddrA, binP, binA, symA, intOp, unA, lenA, elemTI, Option.or, hputs, ↓reduceIte, reduceCtorEq, Nat.reduceEqDiff, Nat.reduceLT, Nat.reduceAdd, fin, List.mapM_cons, List.mapM_nil, scalarN, plainN, hookLooks, looks1, looks, C2_ty, ty3, ty9, ty35, ty47, ty107, pureF, Cl_hook (hk_C2_116), G_isIn, beqD, Nat.add_assoc, h14, h12, g0, g4, hh, hlt, hx, hw, hp1, hxp, q1, hbar, eq_true k3]
            (repeat (refine ⟨(by kernel_rfl : (_ : Bool) = true), ?_⟩))
            exact ⟨rem, by simp, k + 1, v, o, rfl, hd', by omega, rfl, ho.up (Nat.le_add_right _ _), by omega, hm⟩
          | true =>
            rw [if_pos q1] at hm
            have hto1 : c.to.length ≤ 4398046511104 := by omega
            have hp2 : c.path.length ≤ 4398046511104 := by omega
            have hxp2 : x.path.length ≤ 4398046511104 := by omega
            have hso : ∀ b z, sliceOk C2 { kind := TK.slice 9, size := 1, bytes := b, zero := z, fields := [] } (some 1) = true := fun b z => rfl
            have hnle : (names c.path).length ≤ (names x.path).length := by
              rw [within_names, decide_eq_true_eq] at q1
              have := congrArg List.length q1
              rw [List.length_take] at this; omega
            have hnle2 : ((names c.path).length : Int) ≤ ((names x.path).length : Int) := by omega
            have hnxp : ¬ ((names x.path).length : Int) < 0 := by omega
            have hnl1 : (names c.to).length ≤ 1099511627777 := by rw [names_len]; have := List.count_le_length (a := (47 : UInt8)) (l := c.to); omega
            have hnl2 : (names x.path).length ≤ 1099511627777 := by rw [names_len]; have := List.count_le_length (a := (47 : UInt8)) (l := x.path); omega
            have hb1 : (names c.to).length * 16 ≤ 140737488355328 := by omega
            have hb2 : (names c.to).length ≤ 9223372036854775807 := by omega
            have hb3 : ((names c.to).length + (List.drop (names c.path).length (names x.path)).length) * 16 ≤ 140737488355328 := by rw [List.length_drop]; omega
            have hb4 : (names c.to).length + (List.drop (names c.path).length (names x.path)).length ≤ 9223372036854775807 := by rw [List.length_drop]; omega
            have hdt : List.drop (names c.path).length (List.take (names x.path).length (List.map sCells (names x.path))) = (List.drop (names c.path).length (names x.path)).map sCells := by
              rw [List.take_of_length_le (by simp), List.map_drop]
            have hch : chunks 1 ((names c.to).length + (List.drop (names c.path).length (names x.path)).length) (List.map AV.str (names c.to) ++ List.map AV.str (List.drop (names c.path).length (names x.path))) = (names c.to ++ List.drop (names c.path).length (names x.path)).map sCells := by
              rw [← List.map_append, ← List.length_append]; exact chunks_map _
            have hmp : (pathOf (names c.to ++ List.drop (names c.path).length (names x.path))).length ≤ 2199023255552 := by
              have := moved_path (n := n) q1
              rw [show pathOf (names c.to ++ List.drop (names c.path).length (names x.path)) = (movedE c n x).path from rfl, this, List.length_append, List.length_drop]; omega
            have hq1 : (names c.to ++ List.drop (names c.path).length (names x.path)).length ≤ 4398046511104 := by rw [List.length_append, List.length_drop]; omega
            have hq2 : (pathOf (names c.to ++ List.drop (names c.path).length (names x.path))).length ≤ 4398046511104 := by omega
            have hq3 : ∀ s ∈ (names c.to ++ List.drop (names c.path).length (names x.path)), s.length ≤ 4398046511104 := fun s hs => by
              rcases List.mem_append.1 hs with hs | hs
              · have := names_mem_len _ s hs; omega
              · have := names_mem_len _ s (List.mem_of_mem_drop hs); omega
            have hol3 : o.length ≤ 1099511627776 := by omega
            have hpl : (putE (movedE c n x) o).length ≤ t.length + (k + 1) := by have := putE_len (movedE c n x) o; omega
            have hmm : movedE c n x = ⟨pathOf (names c.to ++ List.drop (names c.path).length (names x.path)), x.folder, x.text, if x.path = c.path then n else x.version⟩ := rfl
            by_cases q3 : great (pathOf (names c.to ++ List.drop (names c.path).length (names x.path))) = true
            · rw [if_pos (by exact q3)] at hm
              subst hm
              by_cases q2 : x.path = c.path
              · simp only [↓bD, bL, stps, stpOf, ev, ofConst, AV.cells, AV.one, loadObj, TI.agg, fieldAddrA, indexAddrA, binP, binA, symA, intOp, strOp, unA, lenA, storeOk, putCells, elemTI, Option.or, hputs, ↓reduceIte, reduceCtorEq, Nat.reduceEqDiff, Nat.reduceLT, Nat.reduceLeDiff, Nat.reduceAdd, fin, List.mapM_cons, List.mapM_nil, scalarN, plainN, hookLooks, looks1, bound, sliceA, buildSliceA, looks, appendA, elemsOf, C2_ty, ty3, ty9, ty35, ty47, ty61, ty107, pureF, Cl_hook (hk_C2_111), frzF, G_namesOf, Cl_hook (hk_C2_112), G_tooGreat, Cl_hook (hk_C2_114), Cl_hook (hk_C2_116), G_isIn, beqD, Nat.add_assoc, h14, h12, g0, g4, hh, hlt, hx, hp1, hp2, hto1, hxp, hxp2, q1, hbar, eq_true k3, g2, hc0, only_nil, sliceOk_s _ _ (names_ne _), hso, hnle2, all_s, flat_s, one_s, hb1, hb2, hb3, hb4, hdt, hch, fin_strs, G_pathOf _ hq1 hq2 hq3, hq2, eq_true q2, eq_true q3]
                refine ⟨(by kernel_rfl : (_ : Bool) = true), ?_⟩
                exact (drawOk_open [(0, 1), (0, 2), (0, 3), (0, 5), (1, 5), (2, 5), (3, 5), (4, 5), (0, 6), (1, 6), (2, 6), (3, 6), (4, 6), (0, 8), (1, 8), (2, 8), (3, 8), (4, 8), (5, 8), (6, 8), (7, 8), (0, 9), (1, 9), (2, 9), (3, 9), (4, 9), (5, 9), (6, 9), (7, 9)] rfl (by decide +kernel) (by decide +kernel) (by decide +kernel) (by simp (config := {decide := true}) only [bL, allP, footAt, Foot.free, disj, List.contains_cons, List.contains_nil, beq_eq_false_iff_ne, Nat.add_left_cancel_iff, Bool.not_eq_true', hc0]))
              · simp only [↓bD, bL, stps, stpOf, ev, ofConst, AV.cells, AV.one, loadObj, TI.agg, fieldAddrA, indexAddrA, binP, binA, symA, intOp, strOp, unA, lenA, storeOk, putCells, elemTI, Option.or, hputs, ↓reduceIte, reduceCtorEq, Nat.reduceEqDiff, Nat.reduceLT, Nat.reduceLeDiff, Nat.reduceAdd, fin, List.mapM_cons, List.mapM_nil, scalarN, plainN, hookLooks, looks1, bound, sliceA, buildSliceA, looks, appendA, elemsOf, C2_ty, ty3, ty9, ty35, ty47, ty61, ty107, pureF, Cl_hook (hk_C2_111), frzF, G_namesOf, Cl_hook (hk_C2_112), G_tooGreat, Cl_hook (hk_C2_114), Cl_hook (hk_C2_116), G_isIn, beqD, Nat.add_assoc, h14, h12, g0, g4, hh, hlt, hx, hp1, hp2, hto1, hxp, hxp2, q1, hbar, eq_true k3, hc0, only_nil, sliceOk_s _ _ (names_ne _), hso, hnle2, all_s, flat_s, one_s, hb1, hb2, hb3, hb4, hdt, hch, fin_strs, G_pathOf _ hq1 hq2 hq3, hq2, eq_false q2, eq_true q3]
                refine ⟨(by kernel_rfl : (_ : Bool) = true), ?_⟩
                exact (drawOk_open [(0, 1), (0, 2), (0, 3), (0, 5), (1, 5), (2, 5), (3, 5), (4, 5), (0, 6), (1, 6), (2, 6), (3, 6), (4, 6), (0, 8), (1, 8), (2, 8), (3, 8), (4, 8), (5, 8), (6, 8), (7, 8), (0, 9), (1, 9), (2, 9), (3, 9), (4, 9), (5, 9), (6, 9), (7, 9)] rfl (by decide +kernel) (by decide +kernel) (by decide +kernel) (by simp (config := {decide := true}) only [bL, allP, footAt, Foot.free, disj, List.contains_cons, List.contains_nil, beq_eq_false_iff_ne, Nat.add_left_cancel_iff, Bool.not_eq_true', hc0]))
            · rw [if_neg (by exact q3)] at hm
              have q3 : great (pathOf (names c.to ++ List.drop (names c.path).length (names x.path))) = false := by simpa using q3
              rcases ho with rfl | ⟨rfl, rfl⟩ | ⟨hne, s, rfl, hs1, hsc, hg⟩
              · by_cases q2 : x.path = c.path
                · rw [if_pos q2] at hmm
                  rw [hmm] at hm hpl
                  simp only [↓bD, bL, stps, stpOf, ev, ofConst, AV.cells, AV.one, loadObj, TI.agg, fieldAddrA, indexAddrA, binP, binA, symA, intOp, strOp, unA, lenA, storeOk, putCells, elemTI, Option.or, hputs, ↓reduceIte, reduceCtorEq, Nat.reduceEqDiff, Nat.reduceLT, Nat.reduceLeDiff, Nat.reduceAdd, fin, List.mapM_cons, List.mapM_nil, scalarN, plainN, hookLooks, looks1, bound, sliceA, buildSliceA, looks, appendA, elemsOf, C2_ty, ty3, ty9, ty35, ty47, ty61, ty107, pureF, Cl_hook (hk_C2_111), frzF, G_namesOf, Cl_hook (hk_C2_112), G_tooGreat, Cl_hook (hk_C2_114), Cl_hook (hk_C2_116), G_isIn, Cl_hook (hk_C2_117), beqD, Nat.add_assoc, h14, h12, g0, g4, hh, hlt, hx, hw, hp1, hp2, hto1, hxp, hxp2, q1, hbar, eq_true k3, g2, hc0, only_nil, sliceOk_s _ _ (names_ne _), hso, hnle2, all_s, flat_s, one_s, hb1, hb2, hb3, hb4, hdt, hch, fin_strs, G_pathOf _ hq1 hq2 hq3, hq2, eq_true q2, q3, G_putE' o hol3]
                  refine ⟨(by kernel_rfl : (_ : Bool) = true), ?_⟩
                  refine ⟨drawOk_open [(0, 1), (0, 2), (0, 3), (0, 5), (1, 5), (2, 5), (3, 5), (4, 5), (0, 6), (1, 6), (2, 6), (3, 6), (4, 6), (0, 8), (1, 8), (2, 8), (3, 8), (4, 8), (5, 8), (6, 8), (7, 8), (0, 9), (1, 9), (2, 9), (3, 9), (4, 9), (5, 9), (6, 9), (7, 9)] rfl (by decide +kernel) (by decide +kernel) (by decide +kernel) (by simp (config := {decide := true}) only [bL, allP, footAt, Foot.free, disj, List.contains_cons, List.contains_nil, beq_eq_false_iff_ne, Nat.add_left_cancel_iff, Bool.not_eq_true', hc0]), ?_⟩
                  exact ⟨rem, by simp, k + 1, _, _, rfl, hd', by omega, rfl, .inl rfl, hpl, hm⟩
                · rw [if_neg q2] at hmm
                  rw [hmm] at hm hpl
                  simp only [↓bD, bL, stps, stpOf, ev, ofConst, AV.cells, AV.one, loadObj, TI.agg, fieldAddrA, indexAddrA, binP, binA, symA, intOp, strOp, unA, lenA, storeOk, putCells, elemTI, Option.or, hputs, ↓reduceIte, reduceCtorEq, Nat.reduceEqDiff, Nat.reduceLT, Nat.reduceLeDiff, Nat.reduceAdd, fin, List.mapM_cons, List.mapM_nil, scalarN, plainN, hookLooks, looks1, bound, sliceA, buildSliceA, looks, appendA, elemsOf, C2_ty, ty3, ty9, ty35, ty47, ty61, ty107, pureF, Cl_hook (hk_C2_111), frzF, G_namesOf, Cl_hook (hk_C2_112), G_tooGreat, Cl_hook (hk_C2_114), Cl_hook (hk_C2_116), G_isIn, Cl_hook (hk_C2_117), beqD, Nat.add_assoc, h14, h12, g0, g4, hh, hlt, hx, hw, hp1, hp2, hto1, hxp, hxp2, q1, hbar, eq_true k3, hc0, only_nil, sliceOk_s _ _ (names_ne _), hso, hnle2, all_s, flat_s, one_s, hb1, hb2, hb3, hb4, hdt, hch, fin_strs, G_pathOf _ hq1 hq2 hq3, hq2, eq_false q2, q3, G_putE' o hol3]
                  refine ⟨(by kernel_rfl : (_ : Bool) = true), ?_⟩
                  refine ⟨drawOk_open [(0, 1), (0, 2), (0, 3), (0, 5), (1, 5), (2, 5), (3, 5), (4, 5), (0, 6), (1, 6), (2, 6), (3, 6), (4, 6), (0, 8), (1, 8), (2, 8), (3, 8), (4, 8), (5, 8), (6, 8), (7, 8), (0, 9), (1, 9), (2, 9), (3, 9), (4, 9), (5, 9), (6, 9), (7, 9)] rfl (by decide +kernel) (by decide +kernel) (by decide +kernel) (by simp (config := {decide := true}) only [bL, allP, footAt, Foot.free, disj, List.contains_cons, List.contains_nil, beq_eq_false_iff_ne, Nat.add_left_cancel_iff, Bool.not_eq_true', hc0]), ?_⟩
                  exact ⟨rem, by simp, k + 1, _, _, rfl, hd', by omega, rfl, .inl rfl, hpl, hm⟩
              · have hno := G_putE' ([] : List Entry) (by simp)
                simp only [List.map_nil] at hno
                by_cases q2 : x.path = c.path
                · rw [if_pos q2] at hmm
                  rw [hmm] at hm hpl
                  simp only [↓bD, bL, stps, stpOf, ev, ofConst, AV.cells, AV.one, loadObj, TI.agg, fieldAddrA, indexAddrA, binP, binA, symA, intOp, strOp, unA, lenA, storeOk, putCells, elemTI, Option.or, hputs, ↓reduceIte, reduceCtorEq, Nat.reduceEqDiff, Nat.reduceLT, Nat.reduceLeDiff, Nat.reduceAdd, fin, List.mapM_cons, List.mapM_nil, scalarN, plainN, hookLooks, looks1, bound, sliceA, buildSliceA, looks, appendA, elemsOf, C2_ty, ty3, ty9, ty35, ty47, ty61, ty107, pureF, Cl_hook (hk_C2_111), frzF, G_namesOf, Cl_hook (hk_C2_112), G_tooGreat, Cl_hook (hk_C2_114), Cl_hook (hk_C2_116), G_isIn, Cl_hook (hk_C2_117), beqD, Nat.add_assoc, h14, h12, g0, g4, hh, hlt, hx, hw, hp1, hp2, hto1, hxp, hxp2, q1, hbar, eq_true k3, g2, hc0, only_nil, sliceOk_s _ _ (names_ne _), hso, hnle2, all_s, flat_s, one_s, hb1, hb2, hb3, hb4, hdt, hch, fin_strs, G_pathOf _ hq1 hq2 hq3, hq2, eq_true q2, q3, hno]
                  refine ⟨(by kernel_rfl : (_ : Bool) = true), ?_⟩
                  refine ⟨drawOk_open [(0, 1), (0, 2), (0, 3), (0, 5), (1, 5), (2, 5), (3, 5), (4, 5), (0, 6), (1, 6), (2, 6), (3, 6), (4, 6), (0, 8), (1, 8), (2, 8), (3, 8), (4, 8), (5, 8), (6, 8), (7, 8), (0, 9), (1, 9), (2, 9), (3, 9), (4, 9), (5, 9), (6, 9), (7, 9)] rfl (by decide +kernel) (by decide +kernel) (by decide +kernel) (by simp (config := {decide := true}) only [bL, allP, footAt, Foot.free, disj, List.contains_cons, List.contains_nil, beq_eq_false_iff_ne, Nat.add_left_cancel_iff, Bool.not_eq_true', hc0]), ?_⟩
                  exact ⟨rem, by simp, k + 1, _, _, rfl, hd', by omega, rfl, .inl rfl, hpl, hm⟩
                · rw [if_neg q2] at hmm
                  rw [hmm] at hm hpl
                  simp only [↓bD, bL, stps, stpOf, ev, ofConst, AV.cells, AV.one, loadObj, TI.agg, fieldAddrA, indexAddrA, binP, binA, symA, intOp, strOp, unA, lenA, storeOk, putCells, elemTI, Option.or, hputs, ↓reduceIte, reduceCtorEq, Nat.reduceEqDiff, Nat.reduceLT, Nat.reduceLeDiff, Nat.reduceAdd, fin, List.mapM_cons, List.mapM_nil, scalarN, plainN, hookLooks, looks1, bound, sliceA, buildSliceA, looks, appendA, elemsOf, C2_ty, ty3, ty9, ty35, ty47, ty61, ty107, pureF, Cl_hook (hk_C2_111), frzF, G_namesOf, Cl_hook (hk_C2_112), G_tooGreat, Cl_hook (hk_C2_114), Cl_hook (hk_C2_116), G_isIn, Cl_hook (hk_C2_117), beqD, Nat.add_assoc, h14, h12, g0, g4, hh, hlt, hx, hw, hp1, hp2, hto1, hxp, hxp2, q1, hbar, eq_true k3, hc0, only_nil, sliceOk_s _ _ (names_ne _), hso, hnle2, all_s, flat_s, one_s, hb1, hb2, hb3, hb4, hdt, hch, fin_strs, G_pathOf _ hq1 hq2 hq3, hq2, eq_false q2, q3, hno]
                  refine ⟨(by kernel_rfl : (_ : Bool) = true), ?_⟩
                  refine ⟨drawOk_open [(0, 1), (0, 2), (0, 3), (0, 5), (1, 5), (2, 5), (3, 5), (4, 5), (0, 6), (1, 6), (2, 6), (3, 6), (4, 6), (0, 8), (1, 8), (2, 8), (3, 8), (4, 8), (5, 8), (6, 8), (7, 8), (0, 9), (1, 9), (2, 9), (3, 9), (4, 9), (5, 9), (6, 9), (7, 9)] rfl (by decide +kernel) (by decide +kernel) (by decide +kernel) (by simp (config := {decide := true}) only [bL, allP, footAt, Foot.free, disj, List.contains_cons, List.contains_nil, beq_eq_false_iff_ne, Nat.add_left_cancel_iff, Bool.not_eq_true', hc0]), ?_⟩
                  exact ⟨rem, by simp, k + 1, _, _, rfl, hd', by omega, rfl, .inl rfl, hpl, hm⟩
              · have hne1 : ∀ j, (st2.c + j = s) = False := fun j => by simp; omega
                have hs0 : ¬ s = 0 := by omega
                have hfle : o.length * 4 ≤ (List.flatMap Entry.cells o).length := by rw [flat_len (f := Entry.cells) (w := 4) len_entry o]; exact Nat.le_refl _
                by_cases q2 : x.path = c.path
                · rw [if_pos q2] at hmm
                  rw [hmm] at hm hpl
                  simp only [↓bD, bL, stps, stpOf, ev, ofConst, AV.cells, AV.one, loadObj, TI.agg, fieldAddrA, indexAddrA, binP, binA, symA, intOp, strOp, unA, lenA, storeOk, putCells, elemTI, Option.or, hputs, ↓reduceIte, reduceCtorEq, Nat.reduceEqDiff, Nat.reduceLT, Nat.reduceLeDiff, Nat.reduceAdd, fin, List.mapM_cons, List.mapM_nil, scalarN, plainN, hookLooks, looks1, bound, sliceA, buildSliceA, looks, appendA, elemsOf, C2_ty, ty3, ty9, ty35, ty47, ty61, ty107, pureF, Cl_hook (hk_C2_111), frzF, G_namesOf, Cl_hook (hk_C2_112), G_tooGreat, Cl_hook (hk_C2_114), Cl_hook (hk_C2_116), G_isIn, Cl_hook (hk_C2_117), beqD, Nat.add_assoc, h14, h12, g0, g4, hh, hlt, hx, hw, hp1, hp2, hto1, hxp, hxp2, q1, hbar, eq_true k3, g2, hc0, only_nil, sliceOk_s _ _ (names_ne _), hso, hnle2, all_s, flat_s, one_s, hb1, hb2, hb3, hb4, hdt, hch, fin_strs, G_pathOf _ hq1 hq2 hq3, hq2, eq_true q2, q3, G_putE' o hol3, hg, hne1, eq_true hfle, hget_deads, eq_false hs0, chunks_flat len_entry, fin_entries, all_tt]
                  refine ⟨(by kernel_rfl : (_ : Bool) = true), ?_⟩
                  refine ⟨drawOk_open [(0, 1), (0, 2), (0, 3), (0, 5), (1, 5), (2, 5), (3, 5), (4, 5), (0, 6), (1, 6), (2, 6), (3, 6), (4, 6), (0, 8), (1, 8), (2, 8), (3, 8), (4, 8), (5, 8), (6, 8), (7, 8), (0, 9), (1, 9), (2, 9), (3, 9), (4, 9), (5, 9), (6, 9), (7, 9)] rfl (by decide +kernel) (by decide +kernel) (by decide +kernel) (by simp (config := {decide := true}) only [bL, allP, footAt, Foot.free, disj, List.contains_cons, List.contains_nil, beq_eq_false_iff_ne, Nat.add_left_cancel_iff, Bool.not_eq_true', hc0]), ?_⟩
                  exact ⟨rem, by simp, k + 1, _, _, rfl, hd', by omega, rfl, .inl rfl, hpl, hm⟩
                · rw [if_neg q2] at hmm
                  rw [hmm] at hm hpl
                  simp only [↓bD, bL, stps, stpOf, ev, ofConst, AV.cells, AV.one, loadObj, TI.agg, fieldAddrA, indexAddrA, binP, binA, symA, intOp, strOp, unA, lenA, storeOk, putCells, elemTI, Option.or, hputs, ↓reduceIte, reduceCtorEq, Nat.reduceEqDiff, Nat.reduceLT, Nat.reduceLeDiff, Nat.reduceAdd, fin, List.mapM_cons, List.mapM_nil, scalarN, plainN, hookLooks, looks1, bound, sliceA, buildSliceA, looks, appendA, elemsOf, C2_ty, ty3, ty9, ty35, ty47, ty61, ty107, pureF, Cl_hook (hk_C2_111), frzF, G_namesOf, Cl_hook (hk_C2_112), G_tooGreat, Cl_hook (hk_C2_114), Cl_hook (hk_C2_116), G_isIn, Cl_hook (hk_C2_117), beqD, Nat.add_assoc, h14, h12, g0, g4, hh, hlt, hx, hw, hp1, hp2, hto1, hxp, hxp2, q1, hbar, eq_true k3, hc0, only_nil, sliceOk_s _ _ (names_ne _), hso, hnle2, all_s, flat_s, one_s, hb1, hb2, hb3, hb4, hdt, hch, fin_strs, G_pathOf _ hq1 hq2 hq3, hq2, eq_false q2, q3, G_putE' o hol3, hg, hne1, eq_true hfle, hget_deads, eq_false hs0, chunks_flat len_entry, fin_entries, all_tt]
                  refine ⟨(by kernel_rfl : (_ : Bool) = true), ?_⟩
                  refine ⟨drawOk_open [(0, 1), (0, 2), (0, 3), (0, 5), (1, 5), (2, 5), (3, 5), (4, 5), (0, 6), (1, 6), (2, 6), (3, 6), (4, 6), (0, 8), (1, 8), (2, 8), (3, 8), (4, 8), (5, 8), (6, 8), (7, 8), (0, 9), (1, 9), (2, 9), (3, 9), (4, 9), (5, 9), (6, 9), (7, 9)] rfl (by decide +kernel) (by decide +kernel) (by decide +kernel) (by simp (config := {decide := true}) only [bL, allP, footAt, Foot.free, disj, List.contains_cons, List.contains_nil, beq_eq_false_iff_ne, Nat.add_left_cancel_iff, Bool.not_eq_true', hc0]), ?_⟩
                  exact ⟨rem, by simp, k + 1, _, _, rfl, hd', by omega, rfl, .inl rfl, hpl, hm⟩
      · rintro e T2 st2 he2 hF hc hb (⟨rfl, rfl, h6, h7⟩ | ⟨rfl, v, o, rfl, h12, ho⟩)
        · simp only [↓bD, bL, resA, fin, List.mapM_cons, List.mapM_nil, Tryz.results90, h6, h7, chQ, chA]
        · simp only [↓kseq_normal, ↓kblock_normal, ↓kblock_exit, ↓reduceIte, h12]
          exact ⟨v, o, rfl, rfl, ho⟩
    · rw [if_neg k3]
      simp only [↓bD, bL, stps, stpOf, ev, ofConst, ↓reduceIte, Nat.reduceLT, Tryz.ntmps90, hbar]
      refine (Ex_loop.2 (?_ : X _ _ _ _ _ (Q := ⟨_⟩)))
      by_cases hl : (0 : Int) < (t.length : Int)
      · simp only [↓bD, bL, stps, stpOf, ev, ofConst, loadObj, TI.agg, fieldAddrA, binP, binA, symA, intOp, lenA, Option.or, ↓reduceIte, reduceCtorEq, Nat.reduceEqDiff, Nat.reduceLT, Nat.reduceAdd, C2_ty, ty3, ty35, ty47, beqD, Nat.add_assoc, h12, h0, h4, hh, eq_false k3, eq_true hl]
        exact ⟨v, _, rfl, rfl, .inr (ho.up (Nat.le_add_right _ _))⟩
      · simp only [↓bD, bL, stps, stpOf, ev, ofConst, binP, binA, symA, intOp, lenA, Option.or, ↓reduceIte, reduceCtorEq, Nat.reduceEqDiff, Nat.reduceLT, Nat.reduceAdd, C2_ty, ty35, Nat.add_assoc, h12, h0, eq_false hl]
        exact ⟨v, _, rfl, rfl, .inr (ho.up (Nat.le_add_right _ _))⟩
end Go.Ab.Seat
/- package tree: Check; the form of a change. -/
namespace Go.Ab.Seat
open Go Go.Proofs
-- CFG C1
set_option linter.unusedSimpArgs false
set_option linter.unusedVariables false
set_option maxHeartbeats 1000000
set_option maxRecDepth 100000

-- REG tree.check G_treeCheck1
theorem R_treeCheck1 (t : List Entry) (ht : t.length ≤ 1099511627776) (hp : ∀ x ∈ t, x.path.length ≤ 1099511627776) : Run3 C1 Tryz.f80 [.rows false [[.rows false (t.map Entry.cells)]]] (.int .i64 (checkTree t)) := by
  refine Run3.mk (fn := Tryz.f80) rfl ?_
  have hg := G_checkTree t ht hp
  have hw : IntKind.i64.wrap (0 + 1) = 1 := wrap_i64 (by omega) (by omega)
  have hw1 : IntKind.i64.wrap 1 = 1 := wrap_i64 (by omega) (by omega)
  by_cases h : checkTree t = 0
  · rw [h] at hg ⊢
    simp (config := {contextual := true}) only [↓bD, bL, stps, stpOf, ev, getT, setT, ofConst, lenA, padT, List.replicate, Nat.reduceLT, Nat.reduceAdd, Nat.reduceSub, C1_ty, ty86, Tryz.ntmps80]
    refine (Ex_loop.2 (?_ : X _ _ _ _ _ (Q := ⟨_⟩)))
    simp (config := {contextual := true}) only [↓bD, bL, stps, stpOf, ev, getT, setT, ofConst, loadObj, TI.agg, indexAddrA, binP, binA, symA, intOp, elemTI, resA, Option.or, hputs, ↓reduceIte, Nat.reduceLT, Nat.reduceAdd, fin, List.mapM_cons, List.mapM_nil, scalarN, plainN, C1_ty, ty35, ty86, Tryz.ntmps80, Tryz.results80, Cl_3 (C := C1) (g := 106) (fn := Tryz.f106) rfl (fnBy_of Tryz.func106 rfl) rfl, pureF, hg, hw1, Int.reduceLT, Int.toNat_zero, Int.cast_ofNat_Int, Int.reduceAdd]
    refine (Ex_loop.2 (?_ : X _ _ _ _ _ (Q := ⟨_⟩)))
    simp (config := {contextual := true}) only [↓bD, bL, stps, stpOf, ev, getT, setT, binP, binA, symA, intOp, Option.or, ↓reduceIte, Nat.reduceLT, Nat.reduceAdd, Int.reduceLT]
  · simp (config := {contextual := true}) only [↓bD, bL, stps, stpOf, ev, getT, setT, ofConst, lenA, padT, List.replicate, Nat.reduceLT, Nat.reduceAdd, Nat.reduceSub, C1_ty, ty86, Tryz.ntmps80]
    refine (Ex_loop.2 (?_ : X _ _ _ _ _ (Q := ⟨_⟩)))
    simp (config := {contextual := true}) only [↓bD, bL, stps, stpOf, ev, getT, setT, ofConst, loadObj, TI.agg, indexAddrA, binP, binA, symA, intOp, elemTI, resA, Option.or, hputs, ↓reduceIte, Nat.reduceLT, Nat.reduceAdd, fin, List.mapM_cons, List.mapM_nil, scalarN, plainN, C1_ty, ty35, ty86, Tryz.results80, Cl_3 (C := C1) (g := 106) (fn := Tryz.f106) rfl (fnBy_of Tryz.func106 rfl) rfl, pureF, hg, Int.reduceLT, Int.toNat_zero, Int.cast_ofNat_Int, h]
theorem G_treeCheck1 (t : List Entry) (ht : t.length ≤ 1099511627776) (hp : ∀ x ∈ t, x.path.length ≤ 1099511627776) : G3 C1 Tryz.f80 [.rows false [[.rows false (t.map Entry.cells)]]] = some (.int .i64 (checkTree t)) := G3_eq (R_treeCheck1 t ht hp)
-- REG tree.Check G_treeCheck
theorem R_treeCheck (t : List Entry) (ht : t.length ≤ 1099511627776) (hp : ∀ x ∈ t, x.path.length ≤ 1099511627776) : Run3 C1 Tryz.f57 [.rows false (t.map Entry.cells)] (.int .i64 (checkTree t)) := by
  refine Run3.mk (fn := Tryz.f57) rfl ?_
  have hg := G_treeCheck1 t ht hp
  simp (config := {contextual := true}) only [↓bD, bL, stps, stpOf, ev, getT, setT, ofConst, AV.cells, putCells, elemTI, resA, padT, List.replicate, hputs, ↓reduceIte, Nat.reduceLT, Nat.reduceLeDiff, Nat.reduceAdd, Nat.reduceSub, fin, List.mapM_cons, List.mapM_nil, scalarN, plainN, buildSliceA, fillA, chunks, C1_ty, ty35, ty86, Tryz.ntmps57, Tryz.results57, Cl_3 (C := C1) (g := 80) (fn := Tryz.f80) rfl (fnBy_of Tryz.func80 rfl) rfl, pureF, hg]
theorem G_treeCheck (t : List Entry) (ht : t.length ≤ 1099511627776) (hp : ∀ x ∈ t, x.path.length ≤ 1099511627776) : G3 C1 Tryz.f57 [.rows false (t.map Entry.cells)] = some (.int .i64 (checkTree t)) := G3_eq (R_treeCheck t ht hp)
-- REG tree.form G_form
theorem R_form (c : Change) (hp : c.path.length ≤ 1099511627776) (hto : c.to.length ≤ 1099511627776) : Run3 C1 Tryz.f108 [.agg [.int .i64 c.kind, .str c.path, .str c.to, .str c.text, .int .i64 c.base]] (.int .i64 (changeForm c)) := by
  refine Run3.mk (fn := Tryz.f108) rfl ?_
  unfold changeForm formRest
  refine (Classical.em (c.kind < 1)).elim (fun h1 => ?tg0) (fun h1 => ?tg1)
  case' tg1 => refine (Classical.em (4 < c.kind)).elim (fun h2 => ?tg2) (fun h2 => ?tg3)
  case' tg3 => refine (Classical.em (checkPath c.path = 0)).elim (fun h3 => ?tg4) (fun h3 => ?tg5)
  case' tg4 => refine (Classical.em (c.kind = 3)).elim (fun k3 => ?tg6) (fun k3 => ?tg7)
  case' tg6 => refine (Classical.em (checkPath c.to = 0)).elim (fun h4 => ?tg8) (fun h4 => ?tg9)
  case' tg8 => refine (Classical.em (c.to = [])).elim (fun h8 => ?tg10) (fun h8 => ?tg11)
  case' tg10 => refine (Classical.em (c.kind = 2)).elim (fun k2 => ?tg12) (fun k2 => ?tg13)
  case' tg12 => refine (Classical.em (c.text = [])).elim (fun h5 => ?tg14) (fun h5 => ?tg15)
  case' tg14 => refine (Classical.em ((300 : Int) < c.text.length)).elim (fun h9 => ?tg16) (fun h9 => ?tg17)
  case' tg17 => refine (Classical.em (c.base < -1)).elim (fun h6 => ?tg18) (fun h6 => ?tg19)
  case' tg19 => refine (Classical.em (1000000 < c.base)).elim (fun h7 => ?tg20) (fun h7 => ?tg21)
  case' tg15 => refine (Classical.em ((300 : Int) < c.text.length)).elim (fun h9 => ?tg22) (fun h9 => ?tg23)
  case' tg23 => refine (Classical.em (c.base < -1)).elim (fun h6 => ?tg24) (fun h6 => ?tg25)
  case' tg25 => refine (Classical.em (1000000 < c.base)).elim (fun h7 => ?tg26) (fun h7 => ?tg27)
  case' tg13 => refine (Classical.em (c.text = [])).elim (fun h5 => ?tg28) (fun h5 => ?tg29)
  case' tg28 => refine (Classical.em ((300 : Int) < c.text.length)).elim (fun h9 => ?tg30) (fun h9 => ?tg31)
  case' tg31 => refine (Classical.em (c.base < -1)).elim (fun h6 => ?tg32) (fun h6 => ?tg33)
  case' tg33 => refine (Classical.em (1000000 < c.base)).elim (fun h7 => ?tg34) (fun h7 => ?tg35)
  case' tg29 => refine (Classical.em ((300 : Int) < c.text.length)).elim (fun h9 => ?tg36) (fun h9 => ?tg37)
  case' tg37 => refine (Classical.em (c.base < -1)).elim (fun h6 => ?tg38) (fun h6 => ?tg39)
  case' tg39 => refine (Classical.em (1000000 < c.base)).elim (fun h7 => ?tg40) (fun h7 => ?tg41)
  case' tg11 => refine (Classical.em (c.kind = 2)).elim (fun k2 => ?tg42) (fun k2 => ?tg43)
  case' tg42 => refine (Classical.em (c.text = [])).elim (fun h5 => ?tg44) (fun h5 => ?tg45)
  case' tg44 => refine (Classical.em ((300 : Int) < c.text.length)).elim (fun h9 => ?tg46) (fun h9 => ?tg47)
  case' tg47 => refine (Classical.em (c.base < -1)).elim (fun h6 => ?tg48) (fun h6 => ?tg49)
  case' tg49 => refine (Classical.em (1000000 < c.base)).elim (fun h7 => ?tg50) (fun h7 => ?tg51)
  case' tg45 => refine (Classical.em ((300 : Int) < c.text.length)).elim (fun h9 => ?tg52) (fun h9 => ?tg53)
  case' tg53 => refine (Classical.em (c.base < -1)).elim (fun h6 => ?tg54) (fun h6 => ?tg55)
  case' tg55 => refine (Classical.em (1000000 < c.base)).elim (fun h7 => ?tg56) (fun h7 => ?tg57)
  case' tg43 => refine (Classical.em (c.text = [])).elim (fun h5 => ?tg58) (fun h5 => ?tg59)
  case' tg58 => refine (Classical.em ((300 : Int) < c.text.length)).elim (fun h9 => ?tg60) (fun h9 => ?tg61)
  case' tg61 => refine (Classical.em (c.base < -1)).elim (fun h6 => ?tg62) (fun h6 => ?tg63)
  case' tg63 => refine (Classical.em (1000000 < c.base)).elim (fun h7 => ?tg64) (fun h7 => ?tg65)
  case' tg59 => refine (Classical.em ((300 : Int) < c.text.length)).elim (fun h9 => ?tg66) (fun h9 => ?tg67)
  case' tg67 => refine (Classical.em (c.base < -1)).elim (fun h6 => ?tg68) (fun h6 => ?tg69)
  case' tg69 => refine (Classical.em (1000000 < c.base)).elim (fun h7 => ?tg70) (fun h7 => ?tg71)
  case' tg9 => refine (Classical.em (c.to = [])).elim (fun h8 => ?tg72) (fun h8 => ?tg73)
  case' tg72 => refine (Classical.em (c.kind = 2)).elim (fun k2 => ?tg74) (fun k2 => ?tg75)
  case' tg74 => refine (Classical.em (c.text = [])).elim (fun h5 => ?tg76) (fun h5 => ?tg77)
  case' tg76 => refine (Classical.em ((300 : Int) < c.text.length)).elim (fun h9 => ?tg78) (fun h9 => ?tg79)
  case' tg79 => refine (Classical.em (c.base < -1)).elim (fun h6 => ?tg80) (fun h6 => ?tg81)
  case' tg81 => refine (Classical.em (1000000 < c.base)).elim (fun h7 => ?tg82) (fun h7 => ?tg83)
  case' tg77 => refine (Classical.em ((300 : Int) < c.text.length)).elim (fun h9 => ?tg84) (fun h9 => ?tg85)
  case' tg85 => refine (Classical.em (c.base < -1)).elim (fun h6 => ?tg86) (fun h6 => ?tg87)
  case' tg87 => refine (Classical.em (1000000 < c.base)).elim (fun h7 => ?tg88) (fun h7 => ?tg89)
  case' tg75 => refine (Classical.em (c.text = [])).elim (fun h5 => ?tg90) (fun h5 => ?tg91)
  case' tg90 => refine (Classical.em ((300 : Int) < c.text.length)).elim (fun h9 => ?tg92) (fun h9 => ?tg93)
  case' tg93 => refine (Classical.em (c.base < -1)).elim (fun h6 => ?tg94) (fun h6 => ?tg95)
  case' tg95 => refine (Classical.em (1000000 < c.base)).elim (fun h7 => ?tg96) (fun h7 => ?tg97)
  case' tg91 => refine (Classical.em ((300 : Int) < c.text.length)).elim (fun h9 => ?tg98) (fun h9 => ?tg99)
  case' tg99 => refine (Classical.em (c.base < -1)).elim (fun h6 => ?tg100) (fun h6 => ?tg101)
  case' tg101 => refine (Classical.em (1000000 < c.base)).elim (fun h7 => ?tg102) (fun h7 => ?tg103)
  case' tg73 => refine (Classical.em (c.kind = 2)).elim (fun k2 => ?tg104) (fun k2 => ?tg105)
  case' tg104 => refine (Classical.em (c.text = [])).elim (fun h5 => ?tg106) (fun h5 => ?tg107)
  case' tg106 => refine (Classical.em ((300 : Int) < c.text.length)).elim (fun h9 => ?tg108) (fun h9 => ?tg109)
  case' tg109 => refine (Classical.em (c.base < -1)).elim (fun h6 => ?tg110) (fun h6 => ?tg111)
  case' tg111 => refine (Classical.em (1000000 < c.base)).elim (fun h7 => ?tg112) (fun h7 => ?tg113)
  case' tg107 => refine (Classical.em ((300 : Int) < c.text.length)).elim (fun h9 => ?tg114) (fun h9 => ?tg115)
  case' tg115 => refine (Classical.em (c.base < -1)).elim (fun h6 => ?tg116) (fun h6 => ?tg117)
  case' tg117 => refine (Classical.em (1000000 < c.base)).elim (fun h7 => ?tg118) (fun h7 => ?tg119)
  case' tg105 => refine (Classical.em (c.text = [])).elim (fun h5 => ?tg120) (fun h5 => ?tg121)
  case' tg120 => refine (Classical.em ((300 : Int) < c.text.length)).elim (fun h9 => ?tg122) (fun h9 => ?tg123)
  case' tg123 => refine (Classical.em (c.base < -1)).elim (fun h6 => ?tg124) (fun h6 => ?tg125)
  case' tg125 => refine (Classical.em (1000000 < c.base)).elim (fun h7 => ?tg126) (fun h7 => ?tg127)
  case' tg121 => refine (Classical.em ((300 : Int) < c.text.length)).elim (fun h9 => ?tg128) (fun h9 => ?tg129)
  case' tg129 => refine (Classical.em (c.base < -1)).elim (fun h6 => ?tg130) (fun h6 => ?tg131)
  case' tg131 => refine (Classical.em (1000000 < c.base)).elim (fun h7 => ?tg132) (fun h7 => ?tg133)
  case' tg7 => refine (Classical.em (checkPath c.to = 0)).elim (fun h4 => ?tg134) (fun h4 => ?tg135)
  case' tg134 => refine (Classical.em (c.to = [])).elim (fun h8 => ?tg136) (fun h8 => ?tg137)
  case' tg136 => refine (Classical.em (c.kind = 2)).elim (fun k2 => ?tg138) (fun k2 => ?tg139)
  case' tg138 => refine (Classical.em (c.text = [])).elim (fun h5 => ?tg140) (fun h5 => ?tg141)
  case' tg140 => refine (Classical.em ((300 : Int) < c.text.length)).elim (fun h9 => ?tg142) (fun h9 => ?tg143)
  case' tg143 => refine (Classical.em (c.base < -1)).elim (fun h6 => ?tg144) (fun h6 => ?tg145)
  case' tg145 => refine (Classical.em (1000000 < c.base)).elim (fun h7 => ?tg146) (fun h7 => ?tg147)
  case' tg141 => refine (Classical.em ((300 : Int) < c.text.length)).elim (fun h9 => ?tg148) (fun h9 => ?tg149)
  case' tg149 => refine (Classical.em (c.base < -1)).elim (fun h6 => ?tg150) (fun h6 => ?tg151)
  case' tg151 => refine (Classical.em (1000000 < c.base)).elim (fun h7 => ?tg152) (fun h7 => ?tg153)
  case' tg139 => refine (Classical.em (c.text = [])).elim (fun h5 => ?tg154) (fun h5 => ?tg155)
  case' tg154 => refine (Classical.em ((300 : Int) < c.text.length)).elim (fun h9 => ?tg156) (fun h9 => ?tg157)
  case' tg157 => refine (Classical.em (c.base < -1)).elim (fun h6 => ?tg158) (fun h6 => ?tg159)
  case' tg159 => refine (Classical.em (1000000 < c.base)).elim (fun h7 => ?tg160) (fun h7 => ?tg161)
  case' tg155 => refine (Classical.em ((300 : Int) < c.text.length)).elim (fun h9 => ?tg162) (fun h9 => ?tg163)
  case' tg163 => refine (Classical.em (c.base < -1)).elim (fun h6 => ?tg164) (fun h6 => ?tg165)
  case' tg165 => refine (Classical.em (1000000 < c.base)).elim (fun h7 => ?tg166) (fun h7 => ?tg167)
  case' tg137 => refine (Classical.em (c.kind = 2)).elim (fun k2 => ?tg168) (fun k2 => ?tg169)
  case' tg168 => refine (Classical.em (c.text = [])).elim (fun h5 => ?tg170) (fun h5 => ?tg171)
  case' tg170 => refine (Classical.em ((300 : Int) < c.text.length)).elim (fun h9 => ?tg172) (fun h9 => ?tg173)
  case' tg173 => refine (Classical.em (c.base < -1)).elim (fun h6 => ?tg174) (fun h6 => ?tg175)
  case' tg175 => refine (Classical.em (1000000 < c.base)).elim (fun h7 => ?tg176) (fun h7 => ?tg177)
  case' tg171 => refine (Classical.em ((300 : Int) < c.text.length)).elim (fun h9 => ?tg178) (fun h9 => ?tg179)
  case' tg179 => refine (Classical.em (c.base < -1)).elim (fun h6 => ?tg180) (fun h6 => ?tg181)
  case' tg181 => refine (Classical.em (1000000 < c.base)).elim (fun h7 => ?tg182) (fun h7 => ?tg183)
  case' tg169 => refine (Classical.em (c.text = [])).elim (fun h5 => ?tg184) (fun h5 => ?tg185)
  case' tg184 => refine (Classical.em ((300 : Int) < c.text.length)).elim (fun h9 => ?tg186) (fun h9 => ?tg187)
  case' tg187 => refine (Classical.em (c.base < -1)).elim (fun h6 => ?tg188) (fun h6 => ?tg189)
  case' tg189 => refine (Classical.em (1000000 < c.base)).elim (fun h7 => ?tg190) (fun h7 => ?tg191)
  case' tg185 => refine (Classical.em ((300 : Int) < c.text.length)).elim (fun h9 => ?tg192) (fun h9 => ?tg193)
  case' tg193 => refine (Classical.em (c.base < -1)).elim (fun h6 => ?tg194) (fun h6 => ?tg195)
  case' tg195 => refine (Classical.em (1000000 < c.base)).elim (fun h7 => ?tg196) (fun h7 => ?tg197)
  case' tg135 => refine (Classical.em (c.to = [])).elim (fun h8 => ?tg198) (fun h8 => ?tg199)
  case' tg198 => refine (Classical.em (c.kind = 2)).elim (fun k2 => ?tg200) (fun k2 => ?tg201)
  case' tg200 => refine (Classical.em (c.text = [])).elim (fun h5 => ?tg202) (fun h5 => ?tg203)
  case' tg202 => refine (Classical.em ((300 : Int) < c.text.length)).elim (fun h9 => ?tg204) (fun h9 => ?tg205)
  case' tg205 => refine (Classical.em (c.base < -1)).elim (fun h6 => ?tg206) (fun h6 => ?tg207)
  case' tg207 => refine (Classical.em (1000000 < c.base)).elim (fun h7 => ?tg208) (fun h7 => ?tg209)
  case' tg203 => refine (Classical.em ((300 : Int) < c.text.length)).elim (fun h9 => ?tg210) (fun h9 => ?tg211)
  case' tg211 => refine (Classical.em (c.base < -1)).elim (fun h6 => ?tg212) (fun h6 => ?tg213)
  case' tg213 => refine (Classical.em (1000000 < c.base)).elim (fun h7 => ?tg214) (fun h7 => ?tg215)
  case' tg201 => refine (Classical.em (c.text = [])).elim (fun h5 => ?tg216) (fun h5 => ?tg217)
  case' tg216 => refine (Classical.em ((300 : Int) < c.text.length)).elim (fun h9 => ?tg218) (fun h9 => ?tg219)
  case' tg219 => refine (Classical.em (c.base < -1)).elim (fun h6 => ?tg220) (fun h6 => ?tg221)
  case' tg221 => refine (Classical.em (1000000 < c.base)).elim (fun h7 => ?tg222) (fun h7 => ?tg223)
  case' tg217 => refine (Classical.em ((300 : Int) < c.text.length)).elim (fun h9 => ?tg224) (fun h9 => ?tg225)
  case' tg225 => refine (Classical.em (c.base < -1)).elim (fun h6 => ?tg226) (fun h6 => ?tg227)
  case' tg227 => refine (Classical.em (1000000 < c.base)).elim (fun h7 => ?tg228) (fun h7 => ?tg229)
  case' tg199 => refine (Classical.em (c.kind = 2)).elim (fun k2 => ?tg230) (fun k2 => ?tg231)
  case' tg230 => refine (Classical.em (c.text = [])).elim (fun h5 => ?tg232) (fun h5 => ?tg233)
  case' tg232 => refine (Classical.em ((300 : Int) < c.text.length)).elim (fun h9 => ?tg234) (fun h9 => ?tg235)
  case' tg235 => refine (Classical.em (c.base < -1)).elim (fun h6 => ?tg236) (fun h6 => ?tg237)
  case' tg237 => refine (Classical.em (1000000 < c.base)).elim (fun h7 => ?tg238) (fun h7 => ?tg239)
  case' tg233 => refine (Classical.em ((300 : Int) < c.text.length)).elim (fun h9 => ?tg240) (fun h9 => ?tg241)
  case' tg241 => refine (Classical.em (c.base < -1)).elim (fun h6 => ?tg242) (fun h6 => ?tg243)
  case' tg243 => refine (Classical.em (1000000 < c.base)).elim (fun h7 => ?tg244) (fun h7 => ?tg245)
  case' tg231 => refine (Classical.em (c.text = [])).elim (fun h5 => ?tg246) (fun h5 => ?tg247)
  case' tg246 => refine (Classical.em ((300 : Int) < c.text.length)).elim (fun h9 => ?tg248) (fun h9 => ?tg249)
  case' tg249 => refine (Classical.em (c.base < -1)).elim (fun h6 => ?tg250) (fun h6 => ?tg251)
  case' tg251 => refine (Classical.em (1000000 < c.base)).elim (fun h7 => ?tg252) (fun h7 => ?tg253)
  case' tg247 => refine (Classical.em ((300 : Int) < c.text.length)).elim (fun h9 => ?tg254) (fun h9 => ?tg255)
  case' tg255 => refine (Classical.em (c.base < -1)).elim (fun h6 => ?tg256) (fun h6 => ?tg257)
  case' tg257 => refine (Classical.em (1000000 < c.base)).elim (fun h7 => ?tg258) (fun h7 => ?tg259)
  all_goals first | (exfalso; omega) | ((first | replace h1 := eq_false h1 | replace h1 := eq_true h1 | skip); (first | replace h2 := eq_false h2 | replace h2 := eq_true h2 | skip); (first | replace h3 := eq_false h3 | replace h3 := eq_true h3 | skip); (first | replace k3 := eq_false k3 | replace k3 := eq_true k3 | skip); (first | replace h4 := eq_false h4 | replace h4 := eq_true h4 | skip); (first | replace h8 := eq_false h8 | replace h8 := eq_true h8 | skip); (first | replace k2 := eq_false k2 | replace k2 := eq_true k2 | skip); (first | replace h5 := eq_false h5 | replace h5 := eq_true h5 | skip); (first | replace h9 := eq_false h9 | replace h9 := eq_true h9 | skip); (first | replace h6 := eq_false h6 | replace h6 := eq_true h6 | skip); (first | replace h7 := eq_false h7 | replace h7 := eq_true h7 | skip); simp (config := {maxSteps := 1000000}) only [↓bD, bL, stps, stpOf, ev, getT, setT, ofConst, AV.cells, notBad, loadObj, TI.agg, fieldAddrA, binP, binA, symA, intOp, strOp, lenA, resA, padT, List.replicate, Option.or, hputs, ↓reduceIte, Nat.reduceLT, Nat.reduceAdd, Nat.reduceSub, fin, List.mapM_cons, List.mapM_nil, scalarN, plainN, C1_ty, ty3, ty9, ty47, Tryz.ntmps108, Tryz.results108, Cl_3 (C := C1) (g := 127) (fn := Tryz.f127) rfl (fnBy_of Tryz.func127 rfl) rfl, pureF, G_check, beqD, bneD, Int.reduceNeg, hp, hto, *])
theorem G_form (c : Change) (hp : c.path.length ≤ 1099511627776) (hto : c.to.length ≤ 1099511627776) : G3 C1 Tryz.f108 [.agg [.int .i64 c.kind, .str c.path, .str c.to, .str c.text, .int .i64 c.base]] = some (.int .i64 (changeForm c)) := G3_eq (R_form c hp hto)
end Go.Ab.Seat
/- the document's ChangeOf. -/
namespace Go.Ab.Seat
open Go Go.Proofs
-- CFG C2
set_option linter.unusedSimpArgs false
set_option linter.unusedVariables false
set_option maxHeartbeats 4000000
set_option maxRecDepth 100000

theorem changeOf_err {t : List Entry} {c : Change} {n : Int} (hf : changeForm c = 0) {k : Int} (he : changeErr t c = k) (hk : k ≠ 0) : changeOf t c n = ([], k) := by
  unfold changeOf
  rw [if_neg (fun q => q hf), he, if_pos hk]
theorem changeOf_to {t : List Entry} {c : Change} {n : Int} (hf : changeForm c = 0) (he : changeErr t c = 0) :
    AV.tuple [.rows false ((changeOf t c n).1.map Entry.cells), .int .i64 (changeOf t c n).2] = chA (changeTo t c n) := by
  unfold changeOf
  rw [if_neg (fun q => q hf), if_neg (fun q => q he)]
  cases changeTo t c n with
  | none => rfl
  | some o =>
    simp only [chA, chR]
    split <;> rfl

/-- Ahead of the walks, where nothing is wrong. -/
theorem ch_pre (t : List Entry) (c : Change) (n : Int) (r : AV) (ht : t.length ≤ 549755813888) (hp : c.path.length ≤ 1099511627776) (hto : c.to.length ≤ 1099511627776) (hf : changeForm c = 0)
    (a0 : folderE t (parentOf (if c.kind = 3 then c.to else c.path)) = 0) (a1 : ¬ (c.kind = 1 ∧ 0 ≤ entryAt t c.path)) (a2 : ¬ (c.kind = 2 ∧ 0 ≤ entryAt t c.path ∧ (∃ x, t[(entryAt t c.path).toNat]? = some x ∧ x.folder = true)))
    (a3 : ¬ (3 ≤ c.kind ∧ entryAt t c.path < 0)) (a4 : ¬ (c.kind = 3 ∧ within c.to c.path = true)) (a5 : ¬ (c.kind = 3 ∧ 0 ≤ entryAt t c.to))
    (hgo : ∀ T st, chJ t c n T st → X C2 Tryz.f90.ntmps (restC 9 (bodyC Tryz.f90)) T st (Q := ⟨chQ r⟩)) :
    Run3 C2 Tryz.f90 [.rows false (t.map Entry.cells), .agg [.int .i64 c.kind, .str c.path, .str c.to, .str c.text, .int .i64 c.base], .int .i64 n] r := by
  have ht2 : t.length ≤ 4398046511104 := by omega
  have hp1 : c.path.length ≤ 4398046511103 := by omega
  have hto1 : c.to.length ≤ 4398046511103 := by omega
  have hk := form_ok hf
  have hk1 := hk.k1
  have hk4 := hk.k4
  refine Run3.mk (fn := Tryz.f90) rfl ?_
  refine (?_ : X C2 Tryz.f90.ntmps (.seq _ (.seq _ (.seq _ (.seq _ (.seq _ (.seq _ (.seq _ (.seq _ (.seq _ (restC 9 (bodyC Tryz.f90))))))))))) _ _ (Q := ⟨chQ r⟩))
  rw [X_assoc, X_assoc, X_assoc, X_assoc, X_assoc, X_assoc, X_assoc, X_assoc]
  refine X_cut (chJ t c n) ?_ fun T st _ _ _ h => hgo T st h
  unfold chJ
  by_cases k1 : c.kind = 1
  · have k2 : ¬ c.kind = 2 := by omega
    have k3 : ¬ c.kind = 3 := by omega
    have k4 : ¬ 3 ≤ c.kind := by omega
    have hn : ¬ 0 ≤ entryAt t c.path := fun q => a1 ⟨k1, q⟩
    have hn2 : entryAt t c.path < 0 := by omega
    rw [if_neg k3] at a0
    simp only [↓bD, bL, stps, stpOf, ev, getT, setT, ofConst, AV.cells, notBad, loadObj, TI.agg, fieldAddrA, binP, binA, symA, intOp, padT, List.replicate, Option.or, hputs, ↓reduceIte, Nat.reduceLT, Nat.reduceAdd, Nat.reduceSub, fin, List.mapM_cons, List.mapM_nil, scalarN, plainN, hookLooks, looks1, C2_ty, ty3, ty9, ty47, Tryz.ntmps90, Cl_hook (hk_C2_88), pureF, G_folderE, Cl_hook (hk_C2_89), G_parentOf, Cl_hook (hk_C2_113), G_entryAt, Cl_hook (hk_C2_115), G_rForm, beqD, hp1, hto1, ht2, hf, eq_true k1, eq_false k2, eq_false k3, eq_false k4, a0, eq_false hn]
  by_cases k2 : c.kind = 2
  · have k3 : ¬ c.kind = 3 := by omega
    have k4 : ¬ 3 ≤ c.kind := by omega
    rw [if_neg k3] at a0
    by_cases hn : 0 ≤ entryAt t c.path
    · obtain ⟨i, x, h1, h2, h3⟩ := entryAt_at (t := t) (p := c.path) (by omega)
      have hi : (i : Int) < (t.length : Int) := by have := (List.getElem?_eq_some_iff.1 h2).1; omega
      have h0 : (0 : Int) ≤ (i : Int) := by omega
      have hxf : x.folder = false := by
        cases hq : x.folder with
        | false => rfl
        | true => exact absurd ⟨k2, hn, x, by rw [h1, Int.toNat_natCast]; exact h2, hq⟩ a2
      simp only [↓bD, bL, stps, stpOf, ev, getT, setT, ofConst, AV.cells, notBad, loadObj, TI.agg, fieldAddrA, indexAddrA, binP, binA, symA, intOp, elemTI, padT, List.replicate, Option.or, hputs, ↓reduceIte, reduceCtorEq, Nat.reduceLT, Nat.reduceAdd, Nat.reduceSub, fin, List.mapM_cons, List.mapM_nil, scalarN, plainN, hookLooks, looks1, C2_ty, ty3, ty4, ty9, ty35, ty47, ty107, Tryz.ntmps90, Cl_hook (hk_C2_88), pureF, G_folderE, Cl_hook (hk_C2_89), G_parentOf, Cl_hook (hk_C2_113), G_entryAt, Cl_hook (hk_C2_115), G_rForm, beqD, hp1, hto1, ht2, hf, eq_false k1, eq_true k2, eq_false k3, eq_false k4, a0, h1, h2, h0, hi, hxf]
    · have hn2 : entryAt t c.path < 0 := by omega
      simp only [↓bD, bL, stps, stpOf, ev, getT, setT, ofConst, AV.cells, notBad, loadObj, TI.agg, fieldAddrA, binP, binA, symA, intOp, padT, List.replicate, Option.or, hputs, ↓reduceIte, Nat.reduceLT, Nat.reduceAdd, Nat.reduceSub, fin, List.mapM_cons, List.mapM_nil, scalarN, plainN, hookLooks, looks1, C2_ty, ty3, ty9, ty47, Tryz.ntmps90, Cl_hook (hk_C2_88), pureF, G_folderE, Cl_hook (hk_C2_89), G_parentOf, Cl_hook (hk_C2_113), G_entryAt, Cl_hook (hk_C2_115), G_rForm, beqD, hp1, hto1, ht2, hf, eq_false k1, eq_true k2, eq_false k3, eq_false k4, a0, eq_false hn]
  have k4 : 3 ≤ c.kind := by omega
  have hn2 : ¬ entryAt t c.path < 0 := fun q => a3 ⟨k4, q⟩
  have hn : 0 ≤ entryAt t c.path := by omega
  by_cases k3 : c.kind = 3
  · have hw : within c.to c.path = false := by
      cases hq : within c.to c.path with
      | false => rfl
      | true => exact absurd ⟨k3, hq⟩ a4
    have hnt : ¬ 0 ≤ entryAt t c.to := fun q => a5 ⟨k3, q⟩
    rw [if_pos k3] at a0
    simp only [↓bD, bL, stps, stpOf, ev, getT, setT, ofConst, AV.cells, notBad, loadObj, TI.agg, fieldAddrA, binP, binA, symA, intOp, padT, List.replicate, Option.or, hputs, ↓reduceIte, Nat.reduceLT, Nat.reduceAdd, Nat.reduceSub, fin, List.mapM_cons, List.mapM_nil, scalarN, plainN, hookLooks, looks1, C2_ty, ty3, ty9, ty47, Tryz.ntmps90, Cl_hook (hk_C2_88), pureF, G_folderE, Cl_hook (hk_C2_89), G_parentOf, Cl_hook (hk_C2_113), G_entryAt, Cl_hook (hk_C2_115), G_rForm, Cl_hook (hk_C2_116), G_isIn, beqD, hp1, hto1, ht2, hf, eq_false k1, eq_false k2, eq_true k3, eq_true k4, a0, eq_false hn2, hw, eq_false hnt]
  · rw [if_neg k3] at a0
    simp only [↓bD, bL, stps, stpOf, ev, getT, setT, ofConst, AV.cells, notBad, loadObj, TI.agg, fieldAddrA, binP, binA, symA, intOp, padT, List.replicate, Option.or, hputs, ↓reduceIte, Nat.reduceLT, Nat.reduceAdd, Nat.reduceSub, fin, List.mapM_cons, List.mapM_nil, scalarN, plainN, hookLooks, looks1, C2_ty, ty3, ty9, ty47, Tryz.ntmps90, Cl_hook (hk_C2_88), pureF, G_folderE, Cl_hook (hk_C2_89), G_parentOf, Cl_hook (hk_C2_113), G_entryAt, Cl_hook (hk_C2_115), G_rForm, beqD, hp1, hto1, ht2, hf, eq_false k1, eq_false k2, eq_false k3, eq_true k4, a0, eq_false hn2]

-- REG R.ChangeOf G_changeOf
theorem R_changeOf (t : List Entry) (c : Change) (n : Int) (ht : t.length ≤ 549755813888) (hpt : ∀ x ∈ t, x.path.length ≤ 1099511627776) (hp : c.path.length ≤ 1099511627776) (hto : c.to.length ≤ 1099511627776) : Run3 C2 Tryz.f90 [.rows false (t.map Entry.cells), .agg [.int .i64 c.kind, .str c.path, .str c.to, .str c.text, .int .i64 c.base], .int .i64 n] (.tuple [.rows false ((changeOf t c n).1.map Entry.cells), .int .i64 (changeOf t c n).2]) := by
  have ht1 : t.length ≤ 1099511627776 := by omega
  have hp1 : c.path.length ≤ 4398046511103 := by omega
  have hto1 : c.to.length ≤ 4398046511103 := by omega
  by_cases hf : changeForm c = 0
  rotate_left
  · rw [show changeOf t c n = ([], changeForm c) from if_pos hf]
    exact R_changeOf1 t c n ht1 hp1 hto1 hf
  by_cases a0 : folderE t (parentOf (if c.kind = 3 then c.to else c.path)) = 0
  rotate_left
  · rw [changeOf_err hf (k := folderE t (parentOf (if c.kind = 3 then c.to else c.path))) (by unfold changeErr; rw [if_pos a0]) a0]
    by_cases k3 : c.kind = 3
    · rw [if_pos k3] at a0 ⊢
      exact R_changeOf2 t c n ht1 hp1 hto1 hf k3 a0
    · rw [if_neg k3] at a0 ⊢
      exact R_changeOf3 t c n ht1 hp1 hto1 hf k3 a0
  by_cases a1 : c.kind = 1 ∧ 0 ≤ entryAt t c.path
  · rw [changeOf_err hf (k := 6) (by unfold changeErr; rw [if_neg (fun q => q a0), if_pos a1]) (by decide)]
    rw [if_neg (by omega)] at a0
    exact R_changeOf4 t c n ht1 hp1 hto1 hf a1.1 a0 a1.2
  by_cases a2 : c.kind = 2 ∧ 0 ≤ entryAt t c.path ∧ (∃ x, t[(entryAt t c.path).toNat]? = some x ∧ x.folder = true)
  · rw [changeOf_err hf (k := 4) (by unfold changeErr; rw [if_neg (fun q => q a0), if_neg a1, if_pos a2]) (by decide)]
    obtain ⟨k2, hn, x, hx, hxf⟩ := a2
    rw [if_neg (by omega)] at a0
    exact R_changeOf5 t c n ht1 hp1 hto1 hf k2 a0 (entryAt t c.path).toNat x (by omega) hx hxf
  by_cases a3 : 3 ≤ c.kind ∧ entryAt t c.path < 0
  · rw [changeOf_err hf (k := 5) (by unfold changeErr; rw [if_neg (fun q => q a0), if_neg a1, if_neg a2, if_pos a3]) (by decide)]
    exact R_changeOf6 t c n ht1 hp1 hto1 hf a3.1 a0 a3.2
  by_cases a4 : c.kind = 3 ∧ within c.to c.path = true
  · rw [changeOf_err hf (k := 3) (by unfold changeErr; rw [if_neg (fun q => q a0), if_neg a1, if_neg a2, if_neg a3, if_pos a4]) (by decide)]
    rw [if_pos a4.1] at a0
    exact R_changeOf7 t c n ht1 hp1 hto1 hf a4.1 a0 (by have := a4.1; omega) a4.2
  by_cases a5 : c.kind = 3 ∧ 0 ≤ entryAt t c.to
  · rw [changeOf_err hf (k := 6) (by unfold changeErr; rw [if_neg (fun q => q a0), if_neg a1, if_neg a2, if_neg a3, if_neg a4, if_pos a5]) (by decide)]
    rw [if_pos a5.1] at a0
    have hw : within c.to c.path = false := by
      cases hq : within c.to c.path with
      | false => rfl
      | true => exact absurd ⟨a5.1, hq⟩ a4
    exact R_changeOf8 t c n ht1 hp1 hto1 hf a5.1 a0 (by have := a5.1; omega) hw a5.2
  refine ch_pre t c n _ ht hp hto hf a0 a1 a2 a3 a4 a5 fun T st hJ => ?_
  refine ch_stale t c n T st _ ht1 (fun x hx => by have := hpt x hx; omega) hp1 hJ (fun q => ?_) fun q T st hJ => ?_
  · rw [changeOf_err hf (k := 8) (by unfold changeErr; rw [if_neg (fun q => q a0), if_neg a1, if_neg a2, if_neg a3, if_neg a4, if_neg a5, if_pos q]) (by decide)]
    rfl
  · rw [changeOf_to hf (by unfold changeErr; rw [if_neg (fun q => q a0), if_neg a1, if_neg a2, if_neg a3, if_neg a4, if_neg a5, if_neg q])]
    unfold changeTo
    by_cases k1 : c.kind = 1
    · rw [if_pos k1]; exact ch_end1 t c n T st ht1 hJ k1
    rw [if_neg k1]
    by_cases k2 : c.kind = 2
    · rw [if_pos k2]; exact ch_end2 t c n T st ht1 hJ k2
    rw [if_neg k2]
    exact ch_end34 t c n T st ht hpt hp hto hJ k1 k2
theorem G_changeOf (t : List Entry) (c : Change) (n : Int) (ht : t.length ≤ 549755813888) (hpt : ∀ x ∈ t, x.path.length ≤ 1099511627776) (hp : c.path.length ≤ 1099511627776) (hto : c.to.length ≤ 1099511627776) : G3 C2 Tryz.f90 [.rows false (t.map Entry.cells), .agg [.int .i64 c.kind, .str c.path, .str c.to, .str c.text, .int .i64 c.base], .int .i64 n] = some (.tuple [.rows false ((changeOf t c n).1.map Entry.cells), .int .i64 (changeOf t c n).2]) := G3_eq (R_changeOf t c n ht hpt hp hto)
end Go.Ab.Seat
/- the document's AllOf. -/
namespace Go.Ab.Seat
open Go Go.Proofs
-- CFG C2
set_option linter.unusedSimpArgs false
set_option linter.unusedVariables false
set_option maxHeartbeats 4000000
set_option maxRecDepth 100000

theorem okT_path {t : List Entry} (h : OkT t) : ∀ x ∈ t, x.path.length ≤ 80 := fun x hx => by
  have := (checkPath_zero.1 (checkEntry_zero.1 (h.ent x hx)).1).2
  unfold great at this
  simp only [Bool.or_eq_false_iff, decide_eq_false_iff_not] at this
  omega
/-- Changes whose paths are not too long for the machine. -/
def FitC (l : List Change) : Prop := l.length ≤ 1099511627776 ∧ ∀ c ∈ l, c.path.length ≤ 1099511627776 ∧ c.to.length ≤ 1099511627776 ∧ c.text.length ≤ 1099511627776
theorem allGo_one {n : Int} {t : List Entry} {c : Change} {r : List Change} {i : Nat} (h : (changeOf t c n).2 = 0) : allGo n t (c :: r) i = allGo n (changeOf t c n).1 r (i + 1) := by
  rw [allGo, if_neg (fun q => q h)]

-- REG R.AllOf G_rAllOf
theorem R_rAllOf (t : List Entry) (l : List Change) (n : Int) (ht : OkT t) (hl : FitC l) : Run3 C2 Tryz.f66 [.rows false (t.map Entry.cells), .rows false (l.map Change.cells), .int .i64 n] (.tuple [.rows false ((allOf t l n).1.map Entry.cells), .int .i64 (allOf t l n).2.1, .int .i64 (allOf t l n).2.2]) := by
  obtain ⟨hl1, hl2⟩ := hl
  refine Run3.mk (fn := Tryz.f66) rfl ?_
  by_cases h20 : 20 < l.length
  · have h20' : (20 : Int) < (l.length : Int) := by omega
    rw [show allOf t l n = ([], 0, 2) from if_pos h20]
    simp only [↓bD, bL, stps, stpOf, ev, getT, setT, ofConst, binP, binA, symA, intOp, lenA, resA, padT, List.replicate, Option.or, ↓reduceIte, Nat.reduceLT, Nat.reduceAdd, Nat.reduceSub, fin, List.mapM_cons, List.mapM_nil, C2_ty, ty43, Tryz.ntmps66, Tryz.results66, h20']
  have h20' : ¬ (20 : Int) < (l.length : Int) := by omega
  unfold allOf
  rw [if_neg h20]
  by_cases hv : l ≠ [] ∧ isVersion n = false
  · rw [if_pos hv]
    have h0 : (0 : Int) < (l.length : Int) := by have := List.length_pos_iff.2 hv.1; omega
    simp only [↓bD, bL, stps, stpOf, ev, getT, setT, ofConst, binP, binA, symA, intOp, unA, lenA, resA, padT, List.replicate, Option.or, hputs, ↓reduceIte, Nat.reduceLT, Nat.reduceAdd, Nat.reduceSub, fin, List.mapM_cons, List.mapM_nil, scalarN, plainN, hookLooks, looks1, C2_ty, ty43, Tryz.ntmps66, Tryz.results66, Cl_hook (hk_C2_64), pureF, G_rIsVersion, h20', h0, hv.2]
  rw [if_neg hv]
  have hv2 : l ≠ [] → isVersion n = true := fun q => by
    cases hq : isVersion n with
    | true => rfl
    | false => exact absurd ⟨q, hq⟩ hv
  have key : ∀ T st, getT T 0 = .rows false (t.map Entry.cells) → getT T 1 = .rows false (l.map Change.cells) → getT T 2 = .int .i64 n → X C2 Tryz.f66.ntmps (restC 3 (bodyC Tryz.f66)) T st (Q := ⟨endW C2 Tryz.f66.results.toList fun r1 st' => fin st'.h 0 false 8 r1 = some (.tuple [.rows false ((allGo n t l 0).1.map Entry.cells), .int .i64 (allGo n t l 0).2.1, .int .i64 (allGo n t l 0).2.2])⟩) := by
    intro T st g0 g1 g2
    refine (?_ : X C2 Tryz.f66.ntmps (.seq _ (.seq _ .ret)) T st (Q := ⟨_⟩))
    simp only [↓bD, bL, stps, stpOf, ev, ofConst, Nat.reduceLT, Tryz.ntmps66]
    refine X_loop (fun (rem : List Change) T st => ∃ (k : Nat) (cur : List Entry), getT T 9 = .int .i64 (k : Nat) ∧ l.drop k = rem ∧ k ≤ l.length ∧ getT T 0 = .rows false (cur.map Entry.cells) ∧ OkT cur ∧ allGo n cur rem k = allGo n t l 0) List.length
      (fun e T st => (e = .ret ∧ getT T 6 = .rows true [] ∧ getT T 7 = .int .i64 (allGo n t l 0).2.1 ∧ getT T 8 = .int .i64 (allGo n t l 0).2.2 ∧ (allGo n t l 0).1 = []) ∨ (e = .exit 0 ∧ ∃ cur : List Entry, getT T 0 = .rows false (cur.map Entry.cells) ∧ (allGo n t l 0) = (cur, (l.length : Int), 0))) l ⟨0, t, by rw [getT_setT, if_pos rfl]; rfl, rfl, Nat.zero_le _, by rw [getT_setT, if_neg (by decide)]; exact g0, ht, rfl⟩ ?_ ?_
    · rintro rem T1 st1 hF hc hb ⟨k, cur, hk, hd, hkl, h0, hok, hgo⟩
      have h1 := hF 1 rfl
      have h2 := hF 2 rfl
      simp only [getT_setT, getT, g1, g2, Nat.reduceEqDiff, if_false] at h1 h2
      clear hF
      cases rem with
      | nil =>
        have hnk := drop_nil_len hd
        have hlt : ¬ (k : Int) < (l.length : Int) := by omega
        simp only [↓bD, bL, stps, stpOf, ev, binP, binA, symA, intOp, lenA, Option.or, ↓reduceIte, reduceCtorEq, Nat.reduceEqDiff, Nat.reduceLT, Nat.reduceAdd, C2_ty, ty43, Nat.add_assoc, hk, h0, h1, hlt]
        refine ⟨cur, rfl, ?_⟩
        rw [← hgo, show l.length = k by omega]
        rfl
      | cons c rem =>
        obtain ⟨hx, hlt0, hd', ht'⟩ := drop_cons_get hd
        have hlt : (k : Int) < (l.length : Int) := by omega
        have hw : IntKind.i64.wrap ((k : Int) + 1) = ((k + 1 : Nat) : Int) := by rw [Int.natCast_add]; exact wrap_i64 (by omega) (by omega)
        obtain ⟨hcp, hct, _⟩ := hl2 c (List.mem_of_getElem? hx)
        have hG := G_changeOf cur c n (by have := hok.len; omega) (fun x hx => by have := okT_path hok x hx; omega) hcp hct
        by_cases he : (changeOf cur c n).2 = 0
        · have hok2 := changeOf_okT hok (hv2 (fun q => by subst q; simp at hlt0)) (changeOf_pair he)
          rw [allGo_one he] at hgo
          simp only [↓bD, bL, stps, stpOf, ev, ofConst, loadObj, TI.agg, indexAddrA, binP, binA, symA, intOp, lenA, elemTI, Option.or, hputs, ↓reduceIte, reduceCtorEq, Nat.reduceEqDiff, Nat.reduceLT, Nat.reduceAdd, fin, List.mapM_cons, List.mapM_nil, scalarN, plainN, C2_ty, ty43, ty47, pureF, Cl_3 (C := C2) (g := 90) (fn := Tryz.f90) rfl (fnBy_of Tryz.func90 rfl) rfl, Nat.add_assoc, hk, h0, h1, h2, hlt, hx, hw, hG, he]
          exact ⟨rem, by simp, k + 1, _, rfl, hd', by omega, rfl, hok2, hgo⟩
        · have hgo2 : allGo n t l 0 = ([], (k : Int), (changeOf cur c n).2) := by rw [← hgo, allGo, if_pos he]
          simp only [↓bD, bL, stps, stpOf, ev, ofConst, loadObj, TI.agg, indexAddrA, binP, binA, symA, intOp, lenA, elemTI, Option.or, hputs, ↓reduceIte, reduceCtorEq, Nat.reduceEqDiff, Nat.reduceLT, Nat.reduceAdd, fin, List.mapM_cons, List.mapM_nil, scalarN, plainN, C2_ty, ty43, ty47, pureF, Cl_3 (C := C2) (g := 90) (fn := Tryz.f90) rfl (fnBy_of Tryz.func90 rfl) rfl, bneD, Nat.add_assoc, hk, h0, h1, h2, hlt, hx, hG, eq_false he, hgo2]
    · rintro e T1 st1 he2 hF hc hb (⟨rfl, h6, h7, h8, h9⟩ | ⟨rfl, cur, h0, hgo⟩)
      · simp only [↓bD, bL, resA, fin, List.mapM_cons, List.mapM_nil, Tryz.results66, h6, h7, h8, h9]
      · have h1 := hF 1 rfl
        simp only [getT_setT, getT, g1, Nat.reduceEqDiff, if_false] at h1
        clear hF
        simp only [↓bD, bL, stps, stpOf, ev, ofConst, lenA, resA, ↓reduceIte, Nat.reduceEqDiff, Nat.reduceLT, Nat.reduceAdd, fin, List.mapM_cons, List.mapM_nil, C2_ty, ty43, Tryz.ntmps66, Tryz.results66, Nat.add_assoc, h0, h1, hgo]
  have hpos : l ≠ [] → (0 : Int) < (l.length : Int) := fun q => by have := List.length_pos_iff.2 q; omega
  refine (?_ : X C2 Tryz.f66.ntmps (.seq _ (.seq _ (.seq _ (restC 3 (bodyC Tryz.f66))))) _ _ (Q := ⟨_⟩))
  rw [X_assoc, X_assoc]
  refine X_cut (fun T st => getT T 0 = .rows false (t.map Entry.cells) ∧ getT T 1 = .rows false (l.map Change.cells) ∧ getT T 2 = .int .i64 n) ?_ fun T st _ _ _ h => key T st h.1 h.2.1 h.2.2
  by_cases hne : l = []
  · have h0 : ¬ (0 : Int) < (l.length : Int) := by rw [hne]; simp
    simp only [↓bD, bL, stps, stpOf, ev, getT, setT, ofConst, binP, binA, symA, intOp, lenA, padT, List.replicate, Option.or, ↓reduceIte, Nat.reduceLT, Nat.reduceAdd, Nat.reduceSub, C2_ty, ty43, Tryz.ntmps66, h20', h0]
  · simp only [↓bD, bL, stps, stpOf, ev, getT, setT, ofConst, binP, binA, symA, intOp, unA, lenA, padT, List.replicate, Option.or, hputs, ↓reduceIte, Nat.reduceLT, Nat.reduceAdd, Nat.reduceSub, fin, List.mapM_cons, List.mapM_nil, scalarN, plainN, hookLooks, looks1, C2_ty, ty43, Tryz.ntmps66, Cl_hook (hk_C2_64), pureF, G_rIsVersion, h20', hpos hne, hv2 hne]
theorem G_rAllOf (t : List Entry) (l : List Change) (n : Int) (ht : OkT t) (hl : FitC l) : G3 C2 Tryz.f66 [.rows false (t.map Entry.cells), .rows false (l.map Change.cells), .int .i64 n] = some (.tuple [.rows false ((allOf t l n).1.map Entry.cells), .int .i64 (allOf t l n).2.1, .int .i64 (allOf t l n).2.2]) := G3_eq (R_rAllOf t l n ht hl)
end Go.Ab.Seat
/- the document's OpenJournal. -/
namespace Go.Ab.Seat
open Go Go.Proofs
-- CFG C2
set_option linter.unusedSimpArgs false
set_option linter.unusedVariables false
set_option maxHeartbeats 4000000
set_option maxRecDepth 100000

def tCells (t : List Entry) : List AV := [.rows false (t.map Entry.cells)]
theorem tCells_eq (t : List Entry) : tCells t = [.rows false (t.map Entry.cells)] := rfl
theorem len_t (t : List Entry) : (tCells t).length = 1 := rfl
theorem finOk_t : FinOk tCells := by
  intro x c hc h c0 inn n
  simp only [tCells, List.mem_cons, List.not_mem_nil, or_false] at hc
  subst hc; rfl
structure FitT (t : List Entry) : Prop where
  len : t.length ≤ 1099511627776
  path : ∀ x ∈ t, x.path.length ≤ 1099511627776
structure FitJ (j : Journal) : Prop where
  base : FitT j.base
  len : j.commits.length ≤ 1099511627776
  com : ∀ c ∈ j.commits, FitC c.changes ∧ c.key.length ≤ 1099511627776

def ojQ (r : AV) : KE := endW C2 Tryz.f34.results.toList fun r1 st' => fin st'.h 0 false 8 r1 = some r
def ojH (j : Journal) : Option AObj := some (.cells [.rows false (j.base.map Entry.cells), .int .i64 j.first, .rows false (j.commits.map Commit.cells)])

/-- The walk over commits. -/
theorem oj_walk (j : Journal) (hj : FitJ j) (ht : OkT j.base) (hv : isVersion j.first = true) (h30 : ¬ 30 < j.commits.length) (T : List AV) (st : St) (r : AV) (v : AV) (g1 : getT T 1 = .ptr 0 0) (g5 : getT T 5 = v) (g6 : getT T 6 = .rows false (j.base.map Entry.cells)) (hh : hget st.h 0 = ojH j)
    (ho : OwnR 1 tCells 1 st.h st.c v [j.base]) (hc0 : 0 < st.c) (hb : st.bar = 0)
    (herr : (openGo j.first j.base j.commits 0).2 ≠ 0 → r = .tuple [.rows false [], .int .i64 (openGo j.first j.base j.commits 0).2])
    (hok : (openGo j.first j.base j.commits 0).2 = 0 → ∀ T st v, getT T 1 = .ptr 0 0 → getT T 5 = v → hget st.h 0 = ojH j → OwnR 1 tCells 1 st.h st.c v (j.base :: (openGo j.first j.base j.commits 0).1) → 0 < st.c → st.bar = 0 → X C2 Tryz.f34.ntmps (restC 8 (bodyC Tryz.f34)) T st (Q := ⟨ojQ r⟩)) :
    X C2 Tryz.f34.ntmps (restC 7 (bodyC Tryz.f34)) T st (Q := ⟨ojQ r⟩) := by
  have hv1 : 1 ≤ j.first ∧ j.first ≤ 1000000 := by simpa [isVersion] using hv
  refine (?_ : X C2 Tryz.f34.ntmps (.seq _ (restC 8 (bodyC Tryz.f34))) T st (Q := ⟨ojQ r⟩))
  refine X_cut (fun T st => (openGo j.first j.base j.commits 0).2 = 0 ∧ hget st.h 0 = ojH j ∧ ∃ v, getT T 5 = v ∧ OwnR 1 tCells 1 st.h st.c v (j.base :: (openGo j.first j.base j.commits 0).1)) ?_ ?_
  rotate_left
  · rintro T1 st1 hF hc hb1 ⟨e, hh, v, h5, ho⟩
    exact hok e T1 st1 v ((hF 1 rfl).trans g1) h5 hh ho (by omega) (hb1.trans hb)
  simp only [↓bD, bL, stps, stpOf, ev, ofConst, Nat.reduceLT, Tryz.ntmps34, hb]
  refine X_loop (fun (rem : List Commit) T st => ∃ (k : Nat) (cur : List Entry) (ts : List (List Entry)) (v : AV), getT T 7 = .int .i64 (k : Nat) ∧ j.commits.drop k = rem ∧ k ≤ j.commits.length ∧ getT T 6 = .rows false (cur.map Entry.cells) ∧ OkT cur ∧ getT T 5 = v ∧ OwnR 1 tCells 1 st.h st.c v ts ∧ ts.length = k + 1 ∧ hget st.h 0 = ojH j ∧
      (openGo j.first j.base j.commits 0).2 = (openGo j.first cur rem k).2 ∧ j.base :: (openGo j.first j.base j.commits 0).1 = ts ++ (openGo j.first cur rem k).1) List.length
    (fun e T st => (e = .ret ∧ (openGo j.first j.base j.commits 0).2 ≠ 0 ∧ getT T 2 = .rows true [] ∧ getT T 3 = .int .i64 (openGo j.first j.base j.commits 0).2) ∨
      (e = .exit 0 ∧ (openGo j.first j.base j.commits 0).2 = 0 ∧ hget st.h 0 = ojH j ∧ ∃ v, getT T 5 = v ∧ OwnR 1 tCells 1 st.h st.c v (j.base :: (openGo j.first j.base j.commits 0).1))) j.commits
    ⟨0, j.base, [j.base], v, by rw [getT_setT, if_pos rfl]; rfl, rfl, Nat.zero_le _, by rw [getT_setT, if_neg (by decide)]; exact g6, ht, by rw [getT_setT, if_neg (by decide)]; exact g5, ho.up (Nat.le_add_right _ _), rfl, hh, rfl, rfl⟩ ?_ ?_
  · rintro rem T1 st1 hF hc hb1 ⟨k, cur, ts, v, hk, hd, hkl, h6, hok1, h5, ho, htl, hh, hgo2, hgo1⟩
    have h1 := hF 1 rfl
    simp only [getT_setT, getT, g1, Nat.reduceEqDiff, if_false] at h1
    clear hF
    have hbar : st1.bar = 0 := hb1
    have hc1 : st.c < st1.c := by simp only at hc; omega
    have hz : ∀ i, (st1.c + i = 0) = False := fun i => eq_false (by omega)
    have hz' : (st1.c = 0) = False := eq_false (by omega)
    unfold ojH at hh
    cases rem with
    | nil =>
      have hnk := drop_nil_len hd
      have hlt : ¬ (k : Int) < (j.commits.length : Int) := by omega
      simp only [openGo, List.append_nil] at hgo1 hgo2
      simp only [↓bD, bL, stps, stpOf, ev, loadObj, TI.agg, fieldAddrA, binP, binA, symA, intOp, lenA, Option.or, ↓reduceIte, reduceCtorEq, Nat.reduceEqDiff, Nat.reduceLT, Nat.reduceAdd, C2_ty, ty36, ty51, Nat.add_assoc, hk, h1, h5, hh, hlt, hgo2, hgo1]
      exact ⟨rfl, v, rfl, ho.up (Nat.le_add_right _ _)⟩
    | cons c rem =>
      obtain ⟨hx, hlt0, hd', ht'⟩ := drop_cons_get hd
      have hlt : (k : Int) < (j.commits.length : Int) := by omega
      have hw : IntKind.i64.wrap ((k : Int) + 1) = ((k + 1 : Nat) : Int) := by rw [Int.natCast_add]; exact wrap_i64 (by omega) (by omega)
      have hw2 : IntKind.i64.wrap (j.first + (k : Int)) = j.first + (k : Int) := wrap_i64 (by omega) (by omega)
      obtain ⟨hcf, hck⟩ := hj.com c (List.mem_of_getElem? hx)
      have hck2 : c.key.length ≤ 4398046511104 := by omega
      rcases ho with ⟨rfl, rfl⟩ | ⟨hne, s, rfl, hs1, hsc, hg⟩
      · simp at htl
      have hne1 : ∀ i, (st1.c + i = s) = False := fun i => by simp; omega
      have hs0 : ¬ s = 0 := by omega
      have hG := G_rAllOf cur c.changes c.number hok1 hcf
      have hce : ∀ e, commitErr j.first k c = e → e ≠ 0 → (openGo j.first j.base j.commits 0).2 = e := fun e q1 q2 => by rw [hgo2, openGo, q1, if_pos q2]
      by_cases e1 : c.number = j.first + (k : Int)
      rotate_left
      · have hgo3 := hce 4 (by unfold commitErr; rw [if_pos e1]) (by decide)
        simp only [↓bD, bL, stps, stpOf, ev, ofConst, AV.cells, AV.one, loadObj, TI.agg, fieldAddrA, indexAddrA, binP, binA, symA, intOp, lenA, storeOk, putCells, elemTI, Option.or, ↓reduceIte, reduceCtorEq, Nat.reduceEqDiff, Nat.reduceLT, Nat.reduceAdd, C2_ty, ty3, ty36, ty51, ty112, bneD, Int.reduceEq, Nat.add_assoc, hk, h1, h5, hh, hlt, hx, hw2, hbar, hz, eq_false e1, hgo3]
      by_cases e2 : 1000000 < c.number
      · have hgo3 := hce 3 (by unfold commitErr; rw [if_neg (fun q => q e1), if_pos e2]) (by decide)
        simp only [↓bD, bL, stps, stpOf, ev, ofConst, AV.cells, AV.one, loadObj, TI.agg, fieldAddrA, indexAddrA, binP, binA, symA, intOp, lenA, storeOk, putCells, elemTI, Option.or, ↓reduceIte, reduceCtorEq, Nat.reduceEqDiff, Nat.reduceLT, Nat.reduceAdd, C2_ty, ty3, ty36, ty51, ty112, bneD, Int.reduceEq, Nat.add_assoc, hk, h1, h5, hh, hlt, hx, hw2, hbar, hz, eq_true e1, eq_true e2, hgo3]
      cases e3 : isKey c.key with
      | false =>
        have hgo3 := hce 1 (by unfold commitErr; rw [if_neg (fun q => q e1), if_neg e2, if_pos e3]) (by decide)
        simp only [↓bD, bL, stps, stpOf, ev, ofConst, AV.cells, AV.one, loadObj, TI.agg, fieldAddrA, indexAddrA, binP, binA, symA, intOp, unA, lenA, storeOk, putCells, elemTI, Option.or, hputs, ↓reduceIte, reduceCtorEq, Nat.reduceEqDiff, Nat.reduceLT, Nat.reduceAdd, fin, List.mapM_cons, List.mapM_nil, scalarN, plainN, hookLooks, looks1, C2_ty, ty3, ty9, ty36, ty51, ty112, pureF, Cl_hook (hk_C2_65), G_rIsKey, bneD, Int.reduceEq, Nat.add_assoc, hk, h1, h5, hh, hlt, hx, hw2, hbar, hz, eq_true e1, eq_false e2, e3, hck2, hgo3]
      | true =>
      have e3' : ¬ isKey c.key = false := by rw [e3]; decide
      by_cases e4 : c.changes = []
      · have hgo3 := hce 1 (by unfold commitErr; rw [if_neg (fun q => q e1), if_neg e2, if_neg e3', if_pos e4]) (by decide)
        have hcl : ((c.changes.length : Int) = 0) = True := eq_true (by rw [e4]; rfl)
        simp only [↓bD, bL, stps, stpOf, ev, ofConst, AV.cells, AV.one, loadObj, TI.agg, fieldAddrA, indexAddrA, binP, binA, symA, intOp, unA, lenA, storeOk, putCells, elemTI, Option.or, hputs, ↓reduceIte, reduceCtorEq, Nat.reduceEqDiff, Nat.reduceLT, Nat.reduceAdd, fin, List.mapM_cons, List.mapM_nil, scalarN, plainN, hookLooks, looks1, C2_ty, ty3, ty9, ty36, ty43, ty51, ty112, pureF, Cl_hook (hk_C2_65), G_rIsKey, beqD, bneD, Int.reduceEq, Nat.add_assoc, hk, h1, h5, hh, hlt, hx, hw2, hbar, hz, eq_true e1, eq_false e2, e3, hck2, hcl, hgo3]
      have hcl : ((c.changes.length : Int) = 0) = False := eq_false (by have := List.length_pos_iff.2 e4; omega)
      have hc00 : commitErr j.first k c = 0 := by unfold commitErr; rw [if_neg (fun q => q e1), if_neg e2, if_neg e3', if_neg e4]
      by_cases e5 : (allOf cur c.changes c.number).2.2 = 0
      · rw [openGo_one hc00 e5] at hgo1 hgo2
        have hok2 := allOf_okT hok1 e5
        have hb1 : (ts.length + 1) * 24 ≤ 140737488355328 := by omega
        have hb2 : ts.length + 1 ≤ 9223372036854775807 := by omega
        have hfl : ts.length * 1 = (List.flatMap tCells ts).length := (flat_len (f := tCells) (w := 1) len_t ts).symm
        have hfl2 : ts.length = (List.flatMap tCells ts).length := by rw [← hfl, Nat.mul_one]
        simp only [↓bD, bL, stps, stpOf, ev, ofConst, AV.cells, AV.one, loadObj, TI.agg, fieldAddrA, indexAddrA, binP, binA, symA, intOp, unA, lenA, storeOk, putCells, elemTI, List.replicate, Option.or, hputs, ↓reduceIte, reduceCtorEq, Nat.reduceEqDiff, Nat.reduceLT, Nat.reduceLeDiff, Nat.reduceAdd, fin, List.mapM_cons, List.mapM_nil, scalarN, plainN, hookLooks, looks1, buildSliceA, fillA, appendA, elemsOf, C2_ty, ty3, ty9, ty35, ty36, ty43, ty51, ty86, ty112, pureF, Cl_hook (hk_C2_65), G_rIsKey, Cl_3 (C := C2) (g := 66) (fn := Tryz.f66) rfl (fnBy_of Tryz.func66 rfl) rfl, beqD, bneD, Nat.add_assoc, hk, h1, h5, h6, hh, hlt, hx, hw, hw2, hbar, hz, hne1, eq_false hs0, eq_true e1, eq_false e2, e3, hck2, hcl, hG, e5, hg, hb1, hb2, eq_true hfl2]
        refine ⟨rem, by simp, k + 1, _, ts ++ [(allOf cur c.changes c.number).1], _, rfl, hd', by omega, rfl, hok2, rfl, ?_, by simp [htl], rfl, hgo2, by rw [hgo1]; simp⟩
        exact OwnR.mk' (by simp) (by omega) (by omega) (by simp) (by rw [hget_hput, if_pos rfl]; simp [tCells_eq])
      · have hgo3 : (openGo j.first j.base j.commits 0).2 = (allOf cur c.changes c.number).2.2 := by rw [hgo2, openGo, if_neg (fun q => q hc00), if_pos e5]
        simp only [↓bD, bL, stps, stpOf, ev, ofConst, AV.cells, AV.one, loadObj, TI.agg, fieldAddrA, indexAddrA, binP, binA, symA, intOp, unA, lenA, storeOk, putCells, elemTI, Option.or, hputs, ↓reduceIte, reduceCtorEq, Nat.reduceEqDiff, Nat.reduceLT, Nat.reduceAdd, fin, List.mapM_cons, List.mapM_nil, scalarN, plainN, hookLooks, looks1, C2_ty, ty3, ty9, ty36, ty43, ty51, ty112, pureF, Cl_hook (hk_C2_65), G_rIsKey, Cl_3 (C := C2) (g := 66) (fn := Tryz.f66) rfl (fnBy_of Tryz.func66 rfl) rfl, beqD, bneD, Nat.add_assoc, hk, h1, h5, h6, hh, hlt, hx, hw2, hbar, hz, eq_true e1, eq_false e2, e3, hck2, hcl, hG, eq_false e5, hgo3]
  · rintro e T1 st1 he2 hF hc hb1 (⟨rfl, hne, h2, h3⟩ | ⟨rfl, h0, hh, v, h5, ho⟩)
    · rw [herr hne]
      simp only [↓bD, bL, resA, fin, List.mapM_cons, List.mapM_nil, Tryz.results34, h2, h3, ojQ]
    · simp only [↓kseq_normal, ↓kblock_exit, true_and, ↓reduceIte, h0, hh, h5]
      exact ⟨v, rfl, ho⟩

/-- The walk over keys. -/
theorem oj_keys (j : Journal) (hj : FitJ j) (T : List AV) (st : St) (ts : List (List Entry)) (v : AV) (g1 : getT T 1 = .ptr 0 0) (g5 : getT T 5 = v) (hh : hget st.h 0 = ojH j) (ho : OwnR 1 tCells 1 st.h st.c v ts) (hne : ts ≠ []) (hb : st.bar = 0) :
    X C2 Tryz.f34.ntmps (restC 8 (bodyC Tryz.f34)) T st (Q := ⟨ojQ (if twice j.commits = true then .tuple [.rows false [], .int .i64 6] else .tuple [.rows false (ts.map tCells), .int .i64 0])⟩) := by
  have hlen := hj.len
  refine (?_ : X C2 Tryz.f34.ntmps (.seq _ (restC 9 (bodyC Tryz.f34))) T st (Q := ⟨ojQ _⟩))
  unfold ojH at hh
  refine X_cut (fun T st => twice j.commits = false ∧ OwnR 1 tCells 1 st.h st.c v ts) ?_ ?_
  rotate_left
  · rintro T1 st1 hF hc hb1 ⟨e, ho⟩
    have h5 := (hF 5 rfl).trans g5
    clear hF
    rw [if_neg (by rw [e]; decide)]
    refine (?_ : X C2 Tryz.f34.ntmps (.seq _ .ret) T1 st1 (Q := ⟨ojQ _⟩))
    have hf := fin_ownR len_t finOk_t ho 5
    rcases ho with ⟨rfl, rfl⟩ | ⟨_, s, rfl, _⟩
    · exact absurd rfl hne
    · simp only [↓bD, bL, stps, stpOf, ev, ofConst, resA, ↓reduceIte, Nat.reduceEqDiff, Nat.reduceLT, Nat.reduceAdd, Tryz.ntmps34, Tryz.results34, Nat.add_assoc, h5, ojQ]
      exact fin_pair hf
  simp only [↓bD, bL, stps, stpOf, ev, ofConst, Nat.reduceLT, Tryz.ntmps34, hb]
  refine X_loop (fun (rem : List Commit) T st => ∃ (k : Nat), getT T 9 = .int .i64 (k : Nat) ∧ j.commits.drop k = rem ∧ twice (j.commits.take k) = false ∧ hget st.h 0 = ojH j ∧ OwnR 1 tCells 1 st.h st.c v ts) List.length
    (fun e T st => (e = .ret ∧ twice j.commits = true ∧ getT T 2 = .rows true [] ∧ getT T 3 = .int .i64 6) ∨ (e = .exit 3 ∧ twice j.commits = false ∧ OwnR 1 tCells 1 st.h st.c v ts)) j.commits
    ⟨0, by rw [getT_setT, if_pos rfl]; rfl, rfl, rfl, hh, ho.up (Nat.le_add_right _ _)⟩ ?_ ?_
  · rintro rem T1 st1 hF hc hb1 ⟨k, hk, hd, htw, hh, ho⟩
    have h1 := hF 1 rfl
    simp only [getT_setT, getT, g1, Nat.reduceEqDiff, if_false] at h1
    clear hF
    have hbar : st1.bar = 0 := hb1
    unfold ojH at hh
    cases rem with
    | nil =>
      have hnk := drop_nil_len hd
      have hlt : ¬ (k : Int) < (j.commits.length : Int) := by omega
      rw [List.take_of_length_le hnk] at htw
      simp only [↓bD, bL, stps, stpOf, ev, loadObj, TI.agg, fieldAddrA, binP, binA, symA, intOp, lenA, Option.or, ↓reduceIte, reduceCtorEq, Nat.reduceEqDiff, Nat.reduceLT, Nat.reduceAdd, C2_ty, ty36, ty51, Nat.add_assoc, hk, h1, hh, hlt, htw]
      exact ho.up (Nat.le_add_right _ _)
    | cons c rem =>
      obtain ⟨hx, hlt0, hd', ht'⟩ := drop_cons_get hd
      have hlt : (k : Int) < (j.commits.length : Int) := by omega
      have hw : IntKind.i64.wrap ((k : Int) + 1) = ((k + 1 : Nat) : Int) := by rw [Int.natCast_add]; exact wrap_i64 (by omega) (by omega)
      simp only [↓bD, bL, stps, stpOf, ev, ofConst, loadObj, TI.agg, fieldAddrA, binP, binA, symA, intOp, lenA, Option.or, ↓reduceIte, Nat.reduceEqDiff, Nat.reduceLT, Nat.reduceAdd, C2_ty, ty36, ty51, Nat.add_assoc, hk, h1, hh, hlt]
      refine X_loop (fun (rm : Nat) T st => ∃ (m : Nat), getT T 10 = .int .i64 (m : Nat) ∧ m + rm = k ∧ (j.commits.take m).any (fun d => decide (d.key = c.key)) = false ∧ hget st.h 0 = ojH j ∧ OwnR 1 tCells 1 st.h st.c v ts) id
        (fun e T st => (e = .ret ∧ twice j.commits = true ∧ getT T 2 = .rows true [] ∧ getT T 3 = .int .i64 6) ∨ (e = .exit 5 ∧ (j.commits.take k).any (fun d => decide (d.key = c.key)) = false ∧ hget st.h 0 = ojH j ∧ OwnR 1 tCells 1 st.h st.c v ts)) k
        ⟨0, by rw [getT_setT, if_pos rfl]; rfl, by omega, rfl, hh, ho.up (Nat.le_add_right _ _)⟩ ?_ ?_
      · rintro rm T2 st2 hF2 hc2 hb2 ⟨m, hm, hmk, hany, hh2, ho2⟩
        have k1 := hF2 1 rfl
        have k9 := hF2 9 rfl
        simp only [getT_setT, getT, h1, hk, Nat.reduceEqDiff, if_false] at k1 k9
        clear hF2
        have hbar2 : st2.bar = 0 := hb2.trans hbar
        unfold ojH at hh2
        by_cases hmk2 : m < k
        · have hlt2 : (m : Int) < (k : Int) := by omega
          have hml : (m : Int) < (j.commits.length : Int) := by omega
          have hw2 : IntKind.i64.wrap ((m : Int) + 1) = ((m + 1 : Nat) : Int) := by rw [Int.natCast_add]; exact wrap_i64 (by omega) (by omega)
          have hmg : j.commits[m]? = some (j.commits[m]'(by omega)) := List.getElem?_eq_getElem _
          have htm : j.commits.take (m + 1) = j.commits.take m ++ [j.commits[m]'(by omega)] := by rw [List.take_succ_eq_append_getElem (by omega)]
          generalize j.commits[m]'(by omega) = d at hmg htm
          by_cases hq : d.key = c.key
          · have htw2 : twice j.commits = true := by
              cases hq2 : twice j.commits with
              | true => rfl
              | false =>
                have h3 := twice_take (k := k + 1) hq2
                rw [ht', twice_snoc, Bool.or_eq_false_iff] at h3
                have : (j.commits.take k).any (fun d => decide (d.key = c.key)) = true := List.any_eq_true.2 ⟨d, List.mem_of_getElem? (i := m) (by rw [List.getElem?_take_of_lt hmk2]; exact hmg), by simpa using hq⟩
                rw [this] at h3; cases h3.2
            simp only [↓bD, bL, stps, stpOf, ev, ofConst, loadObj, TI.agg, fieldAddrA, indexAddrA, binP, binA, symA, intOp, strOp, elemTI, Option.or, ↓reduceIte, reduceCtorEq, Nat.reduceEqDiff, Nat.reduceLT, Nat.reduceAdd, looks, C2_ty, ty9, ty36, ty51, ty112, beqD, Nat.add_assoc, hm, k1, k9, hh2, hlt, hlt2, hml, hmg, hx, eq_true hq, htw2]
            kernel_rfl
          · have hany2 : (j.commits.take (m + 1)).any (fun d => decide (d.key = c.key)) = false := by rw [htm, List.any_append, hany]; simpa using hq
            simp only [↓bD, bL, stps, stpOf, ev, ofConst, loadObj, TI.agg, fieldAddrA, indexAddrA, binP, binA, symA, intOp, strOp, elemTI, Option.or, ↓reduceIte, reduceCtorEq, Nat.reduceEqDiff, Nat.reduceLT, Nat.reduceAdd, looks, C2_ty, ty9, ty36, ty51, ty112, beqD, Nat.add_assoc, hm, k1, k9, hh2, hlt, hlt2, hml, hmg, hx, hw2, eq_false hq]
            (repeat (refine ⟨(by kernel_rfl : (_ : Bool) = true), ?_⟩))
            exact ⟨rm - 1, by simp; omega, m + 1, rfl, by omega, hany2, rfl, ho2.up (Nat.le_add_right _ _)⟩
        · have hlt2 : ¬ (m : Int) < (k : Int) := by omega
          have hmk3 : m = k := by omega
          subst hmk3
          simp only [↓bD, bL, stps, stpOf, ev, binP, binA, symA, intOp, Option.or, ↓reduceIte, reduceCtorEq, Nat.reduceEqDiff, Nat.reduceLT, Nat.reduceAdd, Nat.add_assoc, hm, k9, hh2, hlt2, hany]
          exact ⟨rfl, ho2.up (Nat.le_add_right _ _)⟩
      · rintro e T2 st2 he2 hF2 hc2 hb2 (⟨rfl, htw2, h2, h3⟩ | ⟨rfl, hany, hh2, ho2⟩)
        · simp only [↓kseq_ret, ↓kblock_ret, false_and, or_false, reduceCtorEq, Bool.true_eq_false, and_self, h2, h3, htw2]
        · have k9 := hF2 9 rfl
          simp only [getT_setT, getT, hk, Nat.reduceEqDiff, if_false] at k9
          clear hF2
          have htw3 : twice (j.commits.take (k + 1)) = false := by rw [ht', twice_snoc, htw, hany]; rfl
          simp only [↓bD, bL, stps, stpOf, ev, ofConst, binP, binA, symA, intOp, Option.or, ↓reduceIte, Nat.reduceLT, Nat.reduceAdd, Nat.add_assoc, k9, hw, hh2]
          exact ⟨rem, by simp, k + 1, rfl, hd', htw3, ho2.up (Nat.le_add_right _ _)⟩
  · rintro e T1 st1 he2 hF hc hb1 (⟨rfl, htw, h2, h3⟩ | ⟨rfl, htw, ho⟩)
    · rw [if_pos htw]
      simp only [↓bD, bL, resA, fin, List.mapM_cons, List.mapM_nil, Tryz.results34, h2, h3, ojQ]
    · simp only [↓kseq_normal, ↓kblock_exit, true_and, ↓reduceIte, htw]
      exact ho

-- REG R.OpenJournal G_rOpenJ
theorem R_rOpenJ (j : Journal) (hj : FitJ j) : Run3 C2 Tryz.f34 [.agg [.rows false (j.base.map Entry.cells), .int .i64 j.first, .rows false (j.commits.map Commit.cells)]] (.tuple [.rows false ((openJ j).1.map tCells), .int .i64 (openJ j).2]) := by
  have hb1 := hj.base.len
  have hb2 := hj.base.path
  refine Run3.mk (fn := Tryz.f34) rfl ?_
  by_cases e1 : checkTree j.base = 0
  rotate_left
  · rw [show openJ j = ([], checkTree j.base) from if_pos e1]
    simp only [↓bD, bL, stps, stpOf, ev, getT, setT, ofConst, AV.cells, notBad, loadObj, TI.agg, fieldAddrA, binP, binA, symA, intOp, resA, padT, List.replicate, Option.or, hputs, ↓reduceIte, Nat.reduceLT, Nat.reduceAdd, Nat.reduceSub, fin, List.mapM_cons, List.mapM_nil, scalarN, plainN, hookLooks, looks1, C2_ty, ty35, ty51, Tryz.ntmps34, Tryz.results34, Cl_hook (hk_C2_63), pureF, G_rCheckTree, bneD, hb1, eq_true hb2, eq_false e1]
  unfold openJ
  rw [if_neg (fun q => q e1)]
  cases e2 : isVersion j.first with
  | false =>
    rw [if_pos rfl]
    simp only [↓bD, bL, stps, stpOf, ev, getT, setT, ofConst, AV.cells, notBad, loadObj, TI.agg, fieldAddrA, binP, binA, symA, intOp, unA, resA, padT, List.replicate, Option.or, hputs, ↓reduceIte, Nat.reduceLT, Nat.reduceAdd, Nat.reduceSub, fin, List.mapM_cons, List.mapM_nil, scalarN, plainN, hookLooks, looks1, C2_ty, ty3, ty35, ty51, Tryz.ntmps34, Tryz.results34, Cl_hook (hk_C2_63), pureF, G_rCheckTree, Cl_hook (hk_C2_64), G_rIsVersion, hb1, eq_true hb2, e1, e2]
  | true =>
  rw [if_neg (by decide)]
  by_cases e3 : 30 < j.commits.length
  · rw [if_pos e3]
    have e3' : (30 : Int) < (j.commits.length : Int) := by omega
    simp only [↓bD, bL, stps, stpOf, ev, getT, setT, ofConst, AV.cells, notBad, loadObj, TI.agg, fieldAddrA, binP, binA, symA, intOp, unA, lenA, resA, padT, List.replicate, Option.or, hputs, ↓reduceIte, Nat.reduceLT, Nat.reduceAdd, Nat.reduceSub, fin, List.mapM_cons, List.mapM_nil, scalarN, plainN, hookLooks, looks1, C2_ty, ty3, ty35, ty36, ty51, Tryz.ntmps34, Tryz.results34, Cl_hook (hk_C2_63), pureF, G_rCheckTree, Cl_hook (hk_C2_64), G_rIsVersion, hb1, eq_true hb2, e1, e2, e3']
  rw [if_neg e3]
  have e3' : ¬ (30 : Int) < (j.commits.length : Int) := by omega
  refine (?_ : X C2 Tryz.f34.ntmps (.seq _ (.seq _ (.seq _ (.seq _ (.seq _ (.seq _ (.seq _ (restC 7 (bodyC Tryz.f34))))))))) _ _ (Q := ⟨ojQ _⟩))
  rw [X_assoc, X_assoc, X_assoc, X_assoc, X_assoc, X_assoc]
  refine X_cut (fun T st => ∃ v, getT T 1 = .ptr 0 0 ∧ getT T 5 = v ∧ getT T 6 = .rows false (j.base.map Entry.cells) ∧ hget st.h 0 = ojH j ∧ OwnR 1 tCells 1 st.h st.c v [j.base] ∧ 0 < st.c ∧ st.bar = 0) ?_ ?_
  · simp only [↓bD, bL, stps, stpOf, ev, getT, setT, ofConst, AV.cells, notBad, loadObj, TI.agg, fieldAddrA, binP, binA, symA, intOp, unA, lenA, putCells, elemTI, padT, List.replicate, Option.or, hputs, ↓reduceIte, reduceCtorEq, Nat.reduceLT, Nat.reduceLeDiff, Nat.reduceAdd, Nat.reduceSub, fin, List.mapM_cons, List.mapM_nil, scalarN, plainN, hookLooks, looks1, buildSliceA, fillA, C2_ty, ty3, ty35, ty36, ty51, ty86, Tryz.ntmps34, Cl_hook (hk_C2_63), pureF, G_rCheckTree, Cl_hook (hk_C2_64), G_rIsVersion, hb1, eq_true hb2, e1, e2, e3']
    refine ⟨_, rfl, rfl, OwnR.mk' (by simp) (by omega) (by omega) rfl ?_⟩
    rw [hget_hput, if_pos rfl]; rfl
  · rintro T st _ _ _ ⟨v, g1, g5, g6, hh, ho, hc0, hb⟩
    refine oj_walk j hj ((checkTree_ok _).1 e1) e2 e3 T st _ v g1 g5 g6 hh ho hc0 hb (fun q => ?_) fun q T st v g1 g5 hh ho hc0 hb => ?_
    · rw [if_pos q]; rfl
    · have := oj_keys j hj T st _ v g1 g5 hh ho (by simp) hb
      rw [if_neg (fun q2 => q2 q)]
      refine (congrArg (fun r => X C2 Tryz.f34.ntmps (restC 8 (bodyC Tryz.f34)) T st (Q := ⟨ojQ r⟩)) ?_).mp this
      split <;> rfl
theorem G_rOpenJ (j : Journal) (hj : FitJ j) : G3 C2 Tryz.f34 [.agg [.rows false (j.base.map Entry.cells), .int .i64 j.first, .rows false (j.commits.map Commit.cells)]] = some (.tuple [.rows false ((openJ j).1.map tCells), .int .i64 (openJ j).2]) := G3_eq (R_rOpenJ j hj)

-- REG R.CheckJournal G_rCheckJ
theorem R_rCheckJ (j : Journal) (hj : FitJ j) : Run3 C2 Tryz.f16 [.agg [.rows false (j.base.map Entry.cells), .int .i64 j.first, .rows false (j.commits.map Commit.cells)]] (.int .i64 (openJ j).2) := by
  refine Run3.mk (fn := Tryz.f16) rfl ?_
  simp only [↓bD, bL, stps, stpOf, ev, getT, setT, ofConst, AV.cells, notBad, loadObj, TI.agg, resA, padT, List.replicate, hputs, ↓reduceIte, Nat.reduceLT, Nat.reduceAdd, Nat.reduceSub, fin, List.mapM_cons, List.mapM_nil, scalarN, plainN, C2_ty, ty51, Tryz.ntmps16, Tryz.results16, Cl_3 (C := C2) (g := 34) (fn := Tryz.f34) rfl (fnBy_of Tryz.func34 rfl) rfl, pureF, G_rOpenJ j hj]
theorem G_rCheckJ (j : Journal) (hj : FitJ j) : G3 C2 Tryz.f16 [.agg [.rows false (j.base.map Entry.cells), .int .i64 j.first, .rows false (j.commits.map Commit.cells)]] = some (.int .i64 (openJ j).2) := G3_eq (R_rCheckJ j hj)
end Go.Ab.Seat
/- the document's Owned, CheckGrants. -/
namespace Go.Ab.Seat
open Go Go.Proofs
-- CFG C1
set_option linter.unusedSimpArgs false
set_option linter.unusedVariables false
set_option maxHeartbeats 4000000
set_option maxRecDepth 100000

/-- The document's Owned. -/
def ownedF (l : List Grant) (f : Str) : Bool := l.any fun g => decide (g.folder = f) && decide (g.right = 3)
theorem any_get {α : Type} {f : α → Bool} {l : List α} {k : Nat} {x : α} (hx : l[k]? = some x) (hf : f x = true) : l.any f = true := by
  rw [List.any_eq_true]; exact ⟨x, List.mem_of_getElem? hx, hf⟩
theorem any_snoc {α : Type} {f : α → Bool} {l : List α} {k : Nat} {x : α} (h : (l.take k).any f = false) (ht : l.take (k + 1) = l.take k ++ [x]) (hf : f x = false) : (l.take (k + 1)).any f = false := by
  rw [ht, List.any_append, h]; simp [hf]
-- REG R.Owned G_rOwned
theorem R_rOwned (l : List Grant) (f : Str) (hl : l.length ≤ 4398046511104) : Run3 C1 Tryz.f35 [.rows false (l.map Grant.cells), .str f] (.bool (ownedF l f)) := by
  refine Run3.mk (fn := Tryz.f35) rfl ?_
  unfold ownedF
  simp only [↓bD, bL, stps, stpOf, ev, setT, ofConst, padT, List.replicate, Nat.reduceLT, Nat.reduceAdd, Nat.reduceSub, Tryz.ntmps35]
  refine X_loop (fun (rem : List Grant) T st => ∃ k : Nat, getT T 5 = .int .i64 (k : Nat) ∧ l.drop k = rem ∧ (l.take k).any (fun g => decide (g.folder = f) && decide (g.right = 3)) = false) List.length
    (fun e T st => (e = .ret ∧ getT T 4 = .bool true ∧ l.any (fun g => decide (g.folder = f) && decide (g.right = 3)) = true) ∨ (e = .exit 0 ∧ l.any (fun g => decide (g.folder = f) && decide (g.right = 3)) = false)) l ⟨0, rfl, rfl, rfl⟩ ?_ ?_
  · rintro rem T st hF hc hb ⟨k, hk, hd, hn⟩
    have h0 := hF 0 rfl
    have h1 := hF 1 rfl
    simp only [getT_setT, getT] at h0 h1
    clear hF
    cases rem with
    | nil =>
      have hnk := drop_nil_len hd
      have hlt : ¬ (k : Int) < (l.length : Int) := by omega
      rw [List.take_of_length_le hnk] at hn
      simp only [↓bD, bL, stps, stpOf, ev, binP, binA, symA, intOp, lenA, Option.or, ↓reduceIte, reduceCtorEq, Nat.reduceEqDiff, Nat.reduceLT, Nat.reduceAdd, C1_ty, ty23, Nat.add_assoc, hk, h0, hlt, hn]
    | cons x rem =>
      obtain ⟨hx, hlt0, hd', ht'⟩ := drop_cons_get hd
      have hlt : (k : Int) < (l.length : Int) := by omega
      have hw : IntKind.i64.wrap ((k : Int) + 1) = ((k + 1 : Nat) : Int) := by rw [Int.natCast_add]; exact wrap_i64 (by omega) (by omega)
      by_cases h2 : x.folder = f
      · by_cases h3 : x.right = 3
        · have ha : l.any (fun g => decide (g.folder = f) && decide (g.right = 3)) = true := any_get hx (by simp [h2, h3])
          simp only [↓bD, bL, stps, stpOf, ev, ofConst, loadObj, TI.agg, fieldAddrA, indexAddrA, binP, binA, symA, intOp, strOp, lenA, elemTI, Option.or, ↓reduceIte, reduceCtorEq, Nat.reduceEqDiff, Nat.reduceLT, Nat.reduceAdd, C1_ty, ty3, ty9, ty23, ty60, beqD, Nat.add_assoc, hk, h0, h1, hlt, hx, eq_true h2, eq_true h3, ha]
        · have ha := any_snoc hn ht' (by simp [h3])
          simp only [↓bD, bL, stps, stpOf, ev, ofConst, loadObj, TI.agg, fieldAddrA, indexAddrA, binP, binA, symA, intOp, strOp, lenA, elemTI, Option.or, ↓reduceIte, reduceCtorEq, Nat.reduceEqDiff, Nat.reduceLT, Nat.reduceAdd, C1_ty, ty3, ty9, ty23, ty60, beqD, Nat.add_assoc, hk, h0, h1, hlt, hx, hw, eq_true h2, eq_false h3]
          exact ⟨rem, by simp, k + 1, rfl, hd', ha⟩
      · have ha := any_snoc hn ht' (by simp [h2])
        simp only [↓bD, bL, stps, stpOf, ev, ofConst, loadObj, TI.agg, fieldAddrA, indexAddrA, binP, binA, symA, intOp, strOp, lenA, elemTI, Option.or, ↓reduceIte, reduceCtorEq, Nat.reduceEqDiff, Nat.reduceLT, Nat.reduceAdd, C1_ty, ty9, ty23, ty60, beqD, Nat.add_assoc, hk, h0, h1, hlt, hx, hw, eq_false h2]
        exact ⟨rem, by simp, k + 1, rfl, hd', ha⟩
  · rintro e T st he hF hc hb (⟨rfl, h2, hn⟩ | ⟨rfl, hn⟩)
    · simp only [↓kseq_ret, ↓kblock_ret, List.toList_toArray, S_some, ↓end_ret, resA, tupOf_1, Option.map_some, fin, Tryz.results35, h2, hn]
    · simp only [↓bD, bL, stps, stpOf, ev, ofConst, resA, ↓reduceIte, Nat.reduceLT, fin, Tryz.ntmps35, Tryz.results35, hn]
theorem G_rOwned (l : List Grant) (f : Str) (hl : l.length ≤ 4398046511104) : G3 C1 Tryz.f35 [.rows false (l.map Grant.cells), .str f] = some (.bool (ownedF l f)) := G3_eq (R_rOwned l f hl)

/- lists without repeats -/
theorem setAdd_mem (l : List Str) (k x : Str) : x ∈ setAdd l k ↔ x ∈ l ∨ x = k := by
  unfold setAdd
  split
  · rename_i h; constructor
    · exact .inl
    · rintro (h2 | rfl)
      · exact h2
      · exact h
  · simp
theorem setAdd_nodup {l : List Str} (h : l.Nodup) (k : Str) : (setAdd l k).Nodup := by
  unfold setAdd
  split
  · exact h
  · rename_i hk
    rw [List.nodup_append]
    refine ⟨h, by simp, fun a ha b hb => ?_⟩
    simp at hb; subst hb
    exact fun e => hk (e ▸ ha)
theorem setOf_nodup (l : List Str) : (setOf l).Nodup := by
  induction l using snoc_ind with
  | h0 => simp [setOf]
  | hs l b ih => rw [setOf_snoc]; exact setAdd_nodup ih b
theorem setOf_mem (l : List Str) (x : Str) : x ∈ setOf l ↔ x ∈ l := by
  induction l using snoc_ind with
  | h0 => simp [setOf]
  | hs l b ih => rw [setOf_snoc, setAdd_mem, ih]; simp
theorem nodup_len {s l : List Str} (hs : s.Nodup) (h : ∀ x ∈ s, x ∈ l) : s.length ≤ l.length := by
  induction s generalizing l with
  | nil => simp
  | cons a s ih =>
    have ha : a ∈ l := h a (by simp)
    rw [List.nodup_cons] at hs
    have := ih (l := l.erase a) hs.2 fun x hx => (List.mem_erase_of_ne (fun e => by subst e; exact hs.1 hx)).2 (h x (by simp [hx]))
    rw [List.length_erase_of_mem ha] at this
    have hp := List.length_pos_of_mem ha
    simp only [List.length_cons]; omega
theorem nodup_len_eq {s l : List Str} (hs : s.Nodup) (h : ∀ x ∈ s, x ∈ l) (he : s.length = l.length) : ∀ x ∈ l, x ∈ s := by
  intro x hx
  by_cases hm : x ∈ s
  · exact hm
  · have := nodup_len (l := l.erase x) hs fun y hy => (List.mem_erase_of_ne (fun e => by subst e; exact hm hy)).2 (h y hy)
    rw [List.length_erase_of_mem hx] at this
    have hp := List.length_pos_of_mem hx
    omega
theorem ownedB_eq (l : List Grant) : ownedB l = !l.any (fun g => !ownedF l g.folder) := by
  unfold ownedB
  rw [Bool.eq_iff_iff, decide_eq_true_eq, Bool.not_eq_true', List.any_eq_false]
  have hsub : ∀ x ∈ setOf ((l.filter fun g => decide (g.right = 3)).map Grant.folder), x ∈ setOf (l.map Grant.folder) := by
    intro x hx
    rw [setOf_mem] at hx ⊢
    obtain ⟨g, hg, rfl⟩ := List.mem_map.1 hx
    exact List.mem_map.2 ⟨g, (List.mem_filter.1 hg).1, rfl⟩
  constructor
  · intro he g hg
    have := nodup_len_eq (setOf_nodup _) hsub he g.folder (by rw [setOf_mem]; exact List.mem_map.2 ⟨g, hg, rfl⟩)
    rw [setOf_mem] at this
    obtain ⟨g2, hg2, e⟩ := List.mem_map.1 this
    have : ownedF l g.folder = true := by
      unfold ownedF
      rw [List.any_eq_true]
      have := List.mem_filter.1 hg2
      exact ⟨g2, this.1, by simp [e]; simpa using this.2⟩
    simp [this]
  · intro h
    apply Nat.le_antisymm
    · exact nodup_len (setOf_nodup _) hsub
    · refine nodup_len (setOf_nodup _) fun x hx => ?_
      rw [setOf_mem] at hx ⊢
      obtain ⟨g, hg, rfl⟩ := List.mem_map.1 hx
      have := h g hg
      have ho : ownedF l g.folder = true := by simpa using this
      unfold ownedF at ho
      rw [List.any_eq_true] at ho
      obtain ⟨g2, h2, h3⟩ := ho
      simp at h3
      exact List.mem_map.2 ⟨g2, List.mem_filter.2 ⟨h2, by simp [h3.2]⟩, h3.1⟩
theorem cmpS_nn (a b : Str) : decide (0 ≤ cmpS a b) = (Op.bytesLess b a || decide (b = a)) := by
  have h := leS_iff b a
  unfold leS at h
  rw [beqD] at h
  rw [Bool.eq_iff_iff, h, decide_eq_true_eq, ← cmpS_neg]; omega
theorem cmpS_zero (a b : Str) : cmpS a b = 0 ↔ a = b := by
  unfold cmpS
  constructor
  · intro h
    split at h
    · exact absurd h (by decide)
    · split at h
      · assumption
      · exact absurd h (by decide)
  · rintro rfl
    rw [if_neg (by rw [bytesLess_lt]; simp), if_pos rfl]
/-- The document's order of grants. -/
theorem leG_eq (x y : Grant) : leG x y = (Op.bytesLess x.folder y.folder || (decide (x.folder = y.folder) && (Op.bytesLess x.who y.who || decide (x.who = y.who)))) := by
  unfold leG orderG
  by_cases h : y.folder = x.folder
  · have h0 : cmpS y.folder x.folder = 0 := (cmpS_zero _ _).2 h
    have hl : Op.bytesLess x.folder y.folder = false := by rw [h, bytesLess_lt]; simp
    simp only [h0, ne_eq, not_true_eq_false, if_false]
    rw [cmpS_nn, hl]
    simp [h]
  · have h0 : ¬ cmpS y.folder x.folder = 0 := fun e => h ((cmpS_zero _ _).1 e)
    have h' : ¬ x.folder = y.folder := fun e => h e.symm
    simp only [ne_eq, h0, not_false_eq_true, if_true]
    rw [cmpS_nn]
    simp [h']
end Go.Ab.Seat
