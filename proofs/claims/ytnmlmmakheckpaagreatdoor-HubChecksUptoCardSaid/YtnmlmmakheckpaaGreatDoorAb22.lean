/- tree.put. -/
import Derived.Test.YtnmlmmakheckpaaGreatDoorAb11
import Derived.Test.YtnmlmmakheckpaaGreatDoorAb20
import Derived.Test.YtnmlmmakheckpaaGreatDoorAb21
import Derived.Test.YtnmlmmakheckpaaGreatDoorAb13
import Derived.Test.YtnmlmmakheckpaaGreatDoorAb09
namespace Go.Ab.Seat
open Go Go.Proofs
-- CFG C3
set_option linter.unusedSimpArgs false
set_option linter.unusedVariables false
set_option maxHeartbeats 4000000
set_option maxRecDepth 100000

theorem cmpS_zero' (a b : Str) : cmpS a b = 0 ↔ a = b := by
  unfold cmpS
  constructor
  · intro h
    split at h
    · exact absurd h (by decide)
    · split at h
      · assumption
      · exact absurd h (by decide)
  · rintro rfl
    rw [bytesLess_lt]
    simp [List.lt_irrefl]
/-- The document's PutEntry and the program's, on a list in order. -/
theorem putE_bs (e : Entry) : ∀ {t : List Entry}, Asc t → (bsF (fun x : Entry => cmpS x.path e.path) t = true → bsI (fun x : Entry => cmpS x.path e.path) t < t.length ∧ putE e t = t.set (bsI (fun x : Entry => cmpS x.path e.path) t) e) ∧
    (bsF (fun x : Entry => cmpS x.path e.path) t = false → putE e t = t.take (bsI (fun x : Entry => cmpS x.path e.path) t) ++ e :: t.drop (bsI (fun x : Entry => cmpS x.path e.path) t))
  | [], _ => by simp [bsF, bsI, putE]
  | x :: r, h => by
    obtain ⟨h1, h2⟩ := List.pairwise_cons.1 h
    obtain ⟨i1, i2⟩ := putE_bs e h2
    by_cases hl : Op.bytesLess x.path e.path = true
    · have hneg : cmpS x.path e.path < 0 := by unfold cmpS; rw [if_pos hl]; decide
      have hb : bsI (fun x : Entry => cmpS x.path e.path) (x :: r) = bsI (fun x : Entry => cmpS x.path e.path) r + 1 := by
        unfold bsI; rw [List.takeWhile_cons]; simp [hneg]
      have hf : bsF (fun x : Entry => cmpS x.path e.path) (x :: r) = bsF (fun x : Entry => cmpS x.path e.path) r := by
        unfold bsF; rw [hb, List.getElem?_cons_succ]
      rw [hb, hf]
      have hp : putE e (x :: r) = x :: putE e r := by rw [putE, if_pos hl]
      rw [hp]
      refine ⟨fun q => ⟨by have := (i1 q).1; simp; omega, by rw [(i1 q).2]; simp⟩, fun q => by rw [i2 q]; simp⟩
    · have hneg : ¬ cmpS x.path e.path < 0 := by unfold cmpS; rw [if_neg hl]; split <;> decide
      have hb : bsI (fun x : Entry => cmpS x.path e.path) (x :: r) = 0 := by
        unfold bsI; rw [List.takeWhile_cons]; simp [hneg]
      have hf : bsF (fun x : Entry => cmpS x.path e.path) (x :: r) = (cmpS x.path e.path == 0) := by
        unfold bsF; rw [hb]; rfl
      rw [hb, hf]
      have hp : putE e (x :: r) = e :: (x :: r).filter (fun y => !decide (y.path = e.path)) := by rw [putE, if_neg hl]
      rw [hp]
      rw [bytesLess_lt, decide_eq_true_eq] at hl
      have hr : ∀ y ∈ r, ¬ y.path = e.path := fun y hy q => by
        have h3 := h1 y hy
        rw [q] at h3
        exact hl h3
      have hfr : r.filter (fun y => !decide (y.path = e.path)) = r := List.filter_eq_self.2 fun y hy => by simp [hr y hy]
      refine ⟨fun q => ⟨by simp, ?_⟩, fun q => ?_⟩
      · have : x.path = e.path := (cmpS_zero' _ _).1 (by simpa using q)
        rw [List.filter_cons, if_neg (by simp [this]), hfr]; rfl
      · have : ¬ x.path = e.path := fun w => by rw [(cmpS_zero' _ _).2 w] at q; simp at q
        rw [List.filter_cons, if_pos (by simp [this]), hfr]; rfl
theorem hget_onlyc (h : Heap) (ss : List Nat) (s : Nat) : hget (only h ss) s = if ss.contains s = true then hget h s else none := by
  unfold only
  rw [hget_filter (fun k => ss.contains k)]
theorem one_E (l : List Entry) : (l.flatMap Entry.cells).all AV.one = true := by
  rw [List.all_eq_true]
  intro c hc
  obtain ⟨x, _, hx⟩ := List.mem_flatMap.1 hc
  rw [Entry.cells_eq] at hx
  simp only [List.mem_cons, List.not_mem_nil, or_false] at hx
  rcases hx with rfl | rfl | rfl | rfl <;> rfl
theorem fin_E (h : Heap) (c0 n : Nat) (inn : Bool) (l : List Entry) : (l.map Entry.cells).mapM (fun r => r.mapM (fin h c0 inn (n + 1))) = some (l.map Entry.cells) :=
  mapM_id fun r hr => by
    obtain ⟨x, _, rfl⟩ := List.mem_map.1 hr
    exact mapM_id fun y hy => finOk_entry x y hy h c0 inn n

theorem C_put (t : List Entry) (e : Entry) (s : Nat) (v : AV) (st : St) (ht : t.length ≤ 549755813888) (ha : Asc t) (ho : OwnS 4 Entry.cells s st.h v t) (hs : s < st.c) (hb : st.bar ≤ s) :
    Ca C3 132 [v, .agg [.str e.path, .bool e.folder, .str e.text, .int .i64 e.version]] st fun r st' => ∃ s', OwnS 4 Entry.cells s' st'.h r (putE e t) ∧ (s' = s ∨ st.c ≤ s') ∧ s' < st'.c ∧ Keep s st st' := by
  have hm := asc_mono ((asc_iff t).2 ha) e.path
  have hat := G_at t e.path (by omega) hm
  obtain ⟨hp1, hp2⟩ := putE_bs e ha
  have hbl := bsI_le (fun x : Entry => cmpS x.path e.path) t
  generalize bsI (fun x : Entry => cmpS x.path e.path) t = i at hat hp1 hp2 hbl
  obtain ⟨cp, junk, rfl, hcp, hg⟩ := ho
  have hfle := flat_le len_entry t junk
  rw [List.length_append] at hfle
  have hch := chunks_junk len_entry junk t
  have hss : ∀ j, (st.c + j = s) = False := fun j => eq_false (by omega)
  have hss' : (st.c = s) = False := eq_false (by omega)
  have hs2 : ∀ j, (s = st.c + j) = False := fun j => eq_false (by omega)
  have hs2' : (s = st.c) = False := eq_false (by omega)
  have hbc : st.bar ≤ st.c := by omega
  have hbcj : ∀ j, st.bar ≤ st.c + j := fun j => by omega
  have i0 : (0 : Int) ≤ (i : Int) := by omega
  refine (Ca_mode2 (fn := Tryz.f132) (fnBy_of Tryz.func132 rfl) rfl rfl).2 ?_
  refine (?_ : X C3 Tryz.f132.ntmps _ _ _ (Q := ⟨_⟩))
  cases hf : bsF (fun x : Entry => cmpS x.path e.path) t with
  | true =>
    obtain ⟨hil, hpe⟩ := hp1 hf
    have hput := put_one len_entry t junk hil e
    rw [Entry.cells_eq] at hput
    have hil2 : (i : Int) < (t.length : Int) := by omega
    rw [hf] at hat
    rw [hpe]
    have hile : i * 4 + 4 ≤ (List.flatMap Entry.cells t).length + junk.length := by rw [flat_len len_entry]; omega
    have heq : List.take (i * 4) (List.flatMap Entry.cells t ++ junk) ++ AV.str e.path :: AV.bool e.folder :: AV.str e.text :: AV.int IntKind.i64 e.version :: List.drop (i * 4 + 4) (List.flatMap Entry.cells t ++ junk) = (t.set i e).flatMap Entry.cells ++ junk := by
      unfold putCells at hput
      rw [if_pos (by simpa using hile)] at hput
      simpa using hput
    simp only [↓bD, bL, stps, stpOf, ev, getT, setT, ofConst, AV.cells, notBad, AV.one, loadObj, TI.agg, fieldAddrA, indexAddrA, storeOk, putCells, elemTI, resA, padT, List.replicate, hputs, ↓reduceIte, Nat.reduceLT, Nat.reduceAdd, Nat.reduceSub, fin, List.mapM_cons, List.mapM_nil, scalarN, plainN, hookLooks, looks1, C3_ty, ty9, ty35, ty107, Tryz.ntmps132, Tryz.results132, Cl_hook (hk_C3_128), pureF, Nat.add_assoc, hat, hfle, hch, hg, fin_E, hss', hil2, hile, hb, heq]
    refine ⟨s, ⟨cp, junk, by rw [List.length_set]; rfl, by simpa using hcp, by rw [hget_hput, if_pos rfl]⟩, .inl rfl, by omega, ⟨Nat.le_add_right _ _, rfl, fun k hk hks => ?_⟩⟩
    rw [hget_hput, if_neg (fun q => hks q.symm), hget_hput, if_neg (by omega)]
  | false =>
    have hpe := hp2 hf
    rw [hf] at hat
    rw [hpe]
    have hin : (i : Int) ≤ (t.length : Int) := by omega
    have hz1 : (t.length + 1) * 48 ≤ 140737488355328 := by omega
    have hz2 : t.length ≤ 9223372036854775806 := by omega
    simp only [↓bD, bL, stps, stpOf, ev, getT, setT, ofConst, AV.cells, notBad, AV.one, loadObj, TI.agg, fieldAddrA, putCells, elemTI, resA, padT, List.replicate, hputs, ↓reduceIte, reduceCtorEq, Nat.reduceLT, Nat.reduceLeDiff, Nat.reduceAdd, Nat.reduceSub, Nat.reduceMul, fin, List.mapM_cons, List.mapM_nil, scalarN, plainN, hookLooks, looks1, buildSliceA, fillA, C3_ty, ty9, ty35, ty107, Tryz.ntmps132, Tryz.results132, Cl_hook (hk_C3_128), pureF, Cl_hook (hk_C3_145), insH, CT_ty, beqD, Nat.add_assoc, hat, hfle, hch, hg, fin_E, hss, hss', hs2, hb, hin, hz1, hz2, hget_onlyc, List.contains_cons, List.contains_nil, one_E, flat_junk_take len_entry, flat_take len_entry, flat_drop len_entry]
    have hlen : (List.take i t ++ e :: List.drop i t).length = t.length + 1 := by simp; omega
    refine ⟨st.c + 16, ⟨t.length + 1, [], by rw [hlen]; rfl, by rw [hlen]; exact Nat.le_refl _, ?_⟩, .inr (Nat.le_add_right _ _), by simp, ⟨Nat.le_add_right _ _, rfl, fun k hk hks => ?_⟩⟩
    · rw [hget_hput, if_pos rfl]; simp [Entry.cells_eq]
    · rw [hget_hput, if_neg (by omega), hget_hput, if_neg (fun q => hks q.symm), hget_hput, if_neg (by omega), hget_hput, if_neg (by omega)]
end Go.Ab.Seat
/- tree.without. -/
namespace Go.Ab.Seat
open Go Go.Proofs
-- CFG C3
set_option linter.unusedSimpArgs false
set_option linter.unusedVariables false
set_option maxHeartbeats 4000000
set_option maxRecDepth 100000

theorem put4 (a b c d e f g h : AV) : putCells [a, b, c, d] 0 [e, f, g, h] = some [e, f, g, h] := rfl
theorem set_take {α : Type} (l : List α) (i : Nat) (x : α) (hi : i < l.length) : (l.set i x).take (i + 1) = l.take i ++ [x] := by
  apply List.ext_getElem?
  intro k
  rw [List.getElem?_take, List.getElem?_set, List.getElem?_append, List.length_take, Nat.min_eq_left (by omega)]
  rcases Nat.lt_trichotomy k i with h | h | h
  · rw [if_pos (by omega), if_neg (by omega), if_pos h, List.getElem?_take_of_lt h]
  · subst h; rw [if_pos (by omega), if_pos rfl, if_pos hi, if_neg (by omega)]; simp
  · rw [if_neg (by omega), if_neg (by omega), List.getElem?_eq_none (by simp; omega)]
theorem set_drop {α : Type} (l : List α) (i j : Nat) (x : α) (hi : i < j) : (l.set i x).drop j = l.drop j := by
  apply List.ext_getElem?
  intro k
  rw [List.getElem?_drop, List.getElem?_drop, List.getElem?_set, if_neg (by omega)]
theorem zeros_len (n : Nat) (z : List AV) : (List.replicate n z).flatten.length = n * z.length := by simp
theorem C_without (t : List Entry) (p : Str) (s : Nat) (v : AV) (st : St) (ht : t.length ≤ 549755813888) (hpt : ∀ x ∈ t, x.path.length ≤ 1099511627776) (hp : p.length ≤ 1099511627776) (ho : OwnS 4 Entry.cells s st.h v t) (hs : s < st.c) (hb : st.bar ≤ s) :
    Ca C3 133 [v, .str p] st fun r st' => OwnS 4 Entry.cells s st'.h r (t.filter fun x => !within x.path p) ∧ Keep s st st' := by
  obtain ⟨cp, junk, rfl, hcp, hg⟩ := ho
  have hss : ∀ j, (st.c + j = s) = False := fun j => eq_false (by omega)
  have hss' : (st.c = s) = False := eq_false (by omega)
  have hs2 : ∀ j, (s = st.c + j) = False := fun j => eq_false (by omega)
  have hs2' : (s = st.c) = False := eq_false (by omega)
  refine (Ca_mode2 (fn := Tryz.f133) (fnBy_of Tryz.func133 rfl) rfl rfl).2 ?_
  refine (?_ : X C3 Tryz.f133.ntmps _ _ _ (Q := ⟨_⟩))
  simp only [↓bD, bL, stps, stpOf, ev, getT, setT, ofConst, AV.cells, notBad, lenA, padT, List.replicate, Nat.reduceLT, Nat.reduceAdd, Nat.reduceSub, C3_ty, ty35, Tryz.ntmps133, Cl_2 (C := C3) (g := 146) (fn := Tryz.f146) rfl (fnBy_of Tryz.func146 rfl) rfl rfl, Tryz.ntmps146, Cl_0 (C := C3) (g := 144) (fn := Tryz.f144) rfl (fnBy_of Tryz.func144 rfl) rfl rfl, Tryz.ntmps144, Nat.add_assoc]
  refine X_loop (fun (rem : List Entry) T st1 => ∃ k : Nat, getT T 8 = .int .i64 (k : Nat) ∧ t.drop k = rem ∧ (t.take k).any (fun x => within x.path p) = false ∧ hget st1.h s = some (.cells (List.flatMap Entry.cells t ++ junk)) ∧ hget st1.h st.c = some (.cells [.str p])) List.length
    (fun e T st1 => (e = .ret ∧ ∃ (i : Nat) (x : Entry), getT T 4 = .int .i64 (i : Nat) ∧ t[i]? = some x ∧ within x.path p = true ∧ (t.take i).any (fun x => within x.path p) = false) ∨ (e = .exit 0 ∧ t.any (fun x => within x.path p) = false)) t ⟨0, rfl, rfl, by simp, by simp [hget_hput, hss', hg], by simp [hget_hput]⟩ ?_ ?_
  · rintro rem T1 st1 hF hc hb1 ⟨k, hk, hd, hz, hh, hbx⟩
    have h0 := hF 0 rfl
    have h1 := hF 1 rfl
    have h7 := hF 7 rfl
    simp only [getT] at h0 h1 h7
    clear hF
    have hc1 : st.c < st1.c := by simp only at hc; omega
    have hcc : ∀ j, (st1.c + j = st.c) = False := fun j => eq_false (by omega)
    have hcs : ∀ j, (st1.c + j = s) = False := fun j => eq_false (by omega)
    cases rem with
    | nil =>
      have hn := drop_nil_len hd
      have hlt : ¬ (k : Int) < (t.length : Int) := by omega
      rw [List.take_of_length_le hn] at hz
      simp only [↓bD, bL, stps, stpOf, ev, binP, binA, symA, intOp, Option.or, ↓reduceIte, reduceCtorEq, Nat.reduceEqDiff, Nat.reduceLT, hk, h7, hlt, hz]
    | cons x rem =>
      obtain ⟨hx, hlt0, hd', ht'⟩ := drop_cons_get hd
      have hlt : (k : Int) < (t.length : Int) := by omega
      have hw : IntKind.i64.wrap ((k : Int) + 1) = ((k + 1 : Nat) : Int) := by rw [Int.natCast_add]; exact wrap_i64 (by omega) (by omega)
      obtain ⟨hge, hgl⟩ := getE_flat len_entry t junk hx
      rw [List.length_append] at hgl
      have hxp := hpt x (List.mem_of_getElem? hx)
      have hk0 : (0 : Int) ≤ (k : Int) := by omega
      cases hq : within x.path p with
      | true =>
        simp only [↓bD, bL, stps, stpOf, ev, getT, setT, ofConst, AV.cells, notBad, loadObj, TI.agg, fieldAddrA, indexAddrA, binP, binA, symA, intOp, elemTI, resA, padT, List.replicate, Option.or, hputs, ↓reduceIte, reduceCtorEq, Nat.reduceEqDiff, Nat.reduceLT, Nat.reduceAdd, Nat.reduceSub, fin, List.mapM_cons, List.mapM_nil, scalarN, plainN, hookLooks, looks1, C3_ty, ty9, ty35, ty107, Cl_0 (C := C3) (g := 147) (fn := Tryz.f147) rfl (fnBy_of Tryz.func147 rfl) rfl rfl, Tryz.ntmps147, Tryz.results147, Cl_hook (hk_C3_129), pureF, G_in, Nat.add_assoc, hk, h0, h1, h7, hlt, hh, hbx, hge, hgl, hp, hxp, hq, hcc]
        exact ⟨k, x, rfl, hx, hq, hz⟩
      | false =>
        simp only [↓bD, bL, stps, stpOf, ev, getT, setT, ofConst, AV.cells, notBad, loadObj, TI.agg, fieldAddrA, indexAddrA, binP, binA, symA, intOp, elemTI, resA, padT, List.replicate, Option.or, hputs, ↓reduceIte, reduceCtorEq, Nat.reduceEqDiff, Nat.reduceLT, Nat.reduceAdd, Nat.reduceSub, fin, List.mapM_cons, List.mapM_nil, scalarN, plainN, hookLooks, looks1, C3_ty, ty9, ty35, ty107, Cl_0 (C := C3) (g := 147) (fn := Tryz.f147) rfl (fnBy_of Tryz.func147 rfl) rfl rfl, Tryz.ntmps147, Tryz.results147, Cl_hook (hk_C3_129), pureF, G_in, Nat.add_assoc, hk, h0, h1, h7, hlt, hw, hh, hbx, hge, hgl, hp, hxp, hq, hcc]
        exact ⟨rem, by simp, k + 1, rfl, hd', by rw [ht', List.any_append, hz]; simp [hq]⟩
  · rintro e T1 st1 he hF hc hb1 (⟨rfl, i0, x0, h4, hx0, hq0, hz0⟩ | ⟨rfl, h4⟩)
    · have hm1 : ¬ (i0 : Int) = -1 := by omega
      have hi0 := (List.getElem?_eq_some_iff.1 hx0).1
      have hw0 : IntKind.i64.wrap ((i0 : Int) + 1) = ((i0 + 1 : Nat) : Int) := by rw [Int.natCast_add]; exact wrap_i64 (by omega) (by omega)
      have ht0 : t.take (i0 + 1) = t.take i0 ++ [x0] := by rw [List.take_succ_eq_append_getElem hi0, (List.getElem?_eq_some_iff.1 hx0).2]
      have hf0 : (t.take (i0 + 1)).filter (fun x => !within x.path p) = t.take i0 := by
        rw [ht0, List.filter_append, List.filter_eq_self.2 fun y hy => ?_]
        · simp [hq0]
        · rw [List.any_eq_false] at hz0; simpa using hz0 y hy
      clear hF hc hb1
      simp only [↓bD, bL, stps, stpOf, ev, getT, setT, ofConst, binP, binA, symA, intOp, resA, Option.or, ↓reduceIte, Nat.reduceLT, Nat.reduceAdd, fin, Tryz.ntmps146, Tryz.results144, beqD, Int.reduceNeg, Nat.add_assoc, h4, hm1, hw0]
      refine X_loop (fun (rem : List Entry) T st2 => ∃ (i j : Nat) (l : List Entry), getT T 5 = .int .i64 (i : Nat) ∧ getT T 6 = .int .i64 (j : Nat) ∧ t.drop j = rem ∧ j ≤ t.length ∧ i < j ∧ l.length = t.length ∧ l.take i = (t.take j).filter (fun x => !within x.path p) ∧ l.drop j = t.drop j ∧
          hget st2.h s = some (.cells (List.flatMap Entry.cells l ++ junk)) ∧ hget st2.h st.c = some (.cells [.str p]) ∧ ∀ k, k < st.c → k ≠ s → hget st2.h k = hget st.h k) List.length
        (fun e T st2 => e = .exit 0 ∧ ∃ (i : Nat) (l : List Entry), getT T 5 = .int .i64 (i : Nat) ∧ i ≤ t.length ∧ l.length = t.length ∧ l.take i = t.filter (fun x => !within x.path p) ∧
          hget st2.h s = some (.cells (List.flatMap Entry.cells l ++ junk)) ∧ ∀ k, k < st.c → k ≠ s → hget st2.h k = hget st.h k) (t.drop (i0 + 1))
        ⟨i0, i0 + 1, t, rfl, rfl, rfl, by omega, by omega, rfl, hf0.symm, rfl, by simp [hget_hput, hss', hg], by simp [hget_hput], fun k hk hks => by rw [hget_hput, if_neg (by omega)]⟩ ?_ ?_
      · rintro rem T2 st2 hF hc hb2 ⟨i, j, l, h5, h6, hd, hjl, hij, hll, hlt1, hld, hh, hbx, hkp⟩
        have h0 := hF 0 rfl
        have h1 := hF 1 rfl
        simp only [getT] at h0 h1
        clear hF
        have hc1 : st.c < st2.c := by simp only at hc; omega
        have hcc : ∀ j, (st2.c + j = st.c) = False := fun j => eq_false (by omega)
        have hcs : ∀ j, (st2.c + j = s) = False := fun j => eq_false (by omega)
        have hsc : ∀ j, (s = st2.c + j) = False := fun j => eq_false (by omega)
        have hbar : st2.bar = st.bar := hb2
        have hbj : ∀ j, st.bar ≤ st2.c + j := fun j => by omega
        cases rem with
        | nil =>
          have hn := drop_nil_len hd
          have hlt : ¬ (j : Int) < (t.length : Int) := by omega
          rw [List.take_of_length_le hn] at hlt1
          simp only [↓bD, bL, stps, stpOf, ev, binP, binA, symA, intOp, lenA, Option.or, ↓reduceIte, reduceCtorEq, Nat.reduceEqDiff, Nat.reduceLT, Nat.reduceAdd, C3_ty, ty35, Nat.add_assoc, h0, h6, hlt]
          exact ⟨i, l, h5, by omega, hll, hlt1, hh, hkp⟩
        | cons x rem =>
          obtain ⟨hx, hlt0, hd', ht'⟩ := drop_cons_get hd
          have hxl : l[j]? = some x := (drop_cons_get (hld.trans hd)).1
          have hlt : (j : Int) < (t.length : Int) := by omega
          have hw : IntKind.i64.wrap ((j : Int) + 1) = ((j + 1 : Nat) : Int) := by rw [Int.natCast_add]; exact wrap_i64 (by omega) (by omega)
          have hwi : IntKind.i64.wrap ((i : Int) + 1) = ((i + 1 : Nat) : Int) := by rw [Int.natCast_add]; exact wrap_i64 (by omega) (by omega)
          obtain ⟨hge, hgl⟩ := getE_flat len_entry l junk hxl
          rw [List.length_append] at hgl
          have hxp := hpt x (List.mem_of_getElem? hx)
          have hil : (i : Int) < (t.length : Int) := by omega
          have hld' : l.drop (j + 1) = t.drop (j + 1) := by
            rw [← List.drop_drop, hld, List.drop_drop]
          cases hq : within x.path p with
          | true =>
            have hf1 : (t.take (j + 1)).filter (fun x => !within x.path p) = (t.take j).filter (fun x => !within x.path p) := by rw [ht', List.filter_append]; simp [hq]
            simp only [↓bD, bL, stps, stpOf, ev, getT, setT, ofConst, AV.cells, notBad, AV.one, loadObj, TI.agg, fieldAddrA, indexAddrA, binP, binA, symA, intOp, unA, lenA, storeOk, putCells, elemTI, resA, padT, List.replicate, Option.or, hputs, ↓reduceIte, reduceCtorEq, Nat.reduceEqDiff, Nat.reduceLT, Nat.reduceAdd, Nat.reduceSub, fin, List.mapM_cons, List.mapM_nil, scalarN, plainN, hookLooks, looks1, C3_ty, ty9, ty35, ty107, Cl_0 (C := C3) (g := 147) (fn := Tryz.f147) rfl (fnBy_of Tryz.func147 rfl) rfl rfl, Tryz.ntmps147, Tryz.results147, Cl_hook (hk_C3_129), pureF, G_in, Nat.add_assoc, h0, h1, h5, h6, hlt, hw, hh, hbx, hge, hgl, hp, hxp, hq, hcc, hcs, hbar, hbj]
            exact ⟨rem, by simp, i, j + 1, l, rfl, rfl, hd', by omega, by omega, hll, by rw [hf1]; exact hlt1, hld', rfl, fun k hk hks => by rw [if_neg (by omega), if_neg (by omega)]; exact hkp k hk hks⟩
          | false =>
            have hput := put_one len_entry l junk (i := i) (by omega) x
            rw [Entry.cells_eq] at hput
            have hf1 : (t.take (j + 1)).filter (fun x => !within x.path p) = (t.take j).filter (fun x => !within x.path p) ++ [x] := by rw [ht', List.filter_append]; simp [hq]
            simp only [↓bD, bL, stps, stpOf, ev, getT, setT, ofConst, AV.cells, notBad, AV.one, loadObj, TI.agg, fieldAddrA, indexAddrA, binP, binA, symA, intOp, unA, lenA, storeOk, elemTI, resA, padT, List.replicate, Option.or, hputs, ↓reduceIte, reduceCtorEq, Nat.reduceEqDiff, Nat.reduceLT, Nat.reduceAdd, Nat.reduceSub, fin, List.mapM_cons, List.mapM_nil, scalarN, plainN, hookLooks, looks1, C3_ty, ty9, ty35, ty107, Cl_0 (C := C3) (g := 147) (fn := Tryz.f147) rfl (fnBy_of Tryz.func147 rfl) rfl rfl, Tryz.ntmps147, Tryz.results147, Cl_hook (hk_C3_129), pureF, G_in, Nat.add_assoc, put4, hput, h0, h1, h5, h6, hlt, hw, hwi, hh, hbx, hge, hgl, hp, hxp, hq, hcc, hcs, hil, hbar, hbj, hb]
            exact ⟨rem, by simp, i + 1, j + 1, l.set i x, rfl, rfl, hd', by omega, by omega, by simpa using hll, by rw [set_take _ _ _ (by omega), hlt1, hf1], by rw [set_drop _ _ _ _ (by omega)]; exact hld', rfl, by rw [if_neg (by omega)], fun k hk hks => by rw [if_neg (fun q => hks q.symm), if_neg (by omega), if_neg (by omega)]; exact hkp k hk hks⟩
      · rintro e T2 st2 he2 hF hc hb2 ⟨rfl, i, l, h5, hil, hll, hlt1, hh, hkp⟩
        have h0 := hF 0 rfl
        simp only [getT] at h0
        clear hF
        have hbar : st2.bar = st.bar := hb2
        have hiI : (i : Int) ≤ (t.length : Int) := by omega
        have hso : ∀ b z, sliceOk C3 { kind := TK.slice 107, size := 1, bytes := b, zero := z, fields := [] } (some 4) = true := fun b z => rfl
        have hicp : (i : Int) ≤ (cp : Int) := by omega
        have hzl : (List.replicate (t.length - i) [AV.str [], AV.bool false, AV.str [], AV.int IntKind.i64 0]).flatten.length = (t.length - i) * 4 := by rw [zeros_len]; rfl
        have hcl : putCells (List.flatMap Entry.cells l ++ junk) (i * 4) (List.replicate (t.length - i) [AV.str [], AV.bool false, AV.str [], AV.int IntKind.i64 0]).flatten = some (List.flatMap Entry.cells (l.take i) ++ ((List.replicate (t.length - i) [AV.str [], AV.bool false, AV.str [], AV.int IntKind.i64 0]).flatten ++ junk)) := by
          unfold putCells
          have hfl := flat_len (f := Entry.cells) len_entry l
          rw [if_pos (by rw [hzl, List.length_append, hfl]; omega), hzl, show i * 4 + (t.length - i) * 4 = l.length * 4 by omega, List.drop_left' hfl, List.take_append_of_le_length (by omega), flat_take len_entry]
        simp only [↓bD, bL, stps, stpOf, ev, getT, setT, AV.one, elemTI, resA, hputs, ↓reduceIte, reduceCtorEq, Nat.reduceEqDiff, Nat.reduceLT, Nat.reduceAdd, Nat.reduceMul, bound, sliceA, C3_ty, ty35, ty107, Tryz.results133, Tryz.ntmps146, Tryz.results146, Nat.add_assoc, ↓O_clear, clearA, h0, h5, hh, hiI, hicp, hbar, hb, hso, hcl]
        have hfl : (t.filter fun x => !within x.path p).length = i := by rw [← hlt1, List.length_take]; omega
        have hc2 : st.c ≤ st2.c := by simp only at hc; omega
        refine ⟨⟨cp, (List.replicate (t.length - i) [AV.str [], AV.bool false, AV.str [], AV.int IntKind.i64 0]).flatten ++ junk, by rw [hfl]; rfl, by omega, by rw [hget_hput, if_pos rfl, hlt1]⟩, ⟨by simp only; omega, rfl, fun k hk hks => ?_⟩⟩
        rw [hget_hput, if_neg (fun q => hks q.symm)]
        exact hkp k hk hks
    · have hf0 : t.filter (fun x => !within x.path p) = t := List.filter_eq_self.2 fun y hy => by rw [List.any_eq_false] at h4; simpa using h4 y hy
      rw [hf0]
      simp only [↓bD, bL, stps, stpOf, ev, getT, setT, ofConst, binP, binA, symA, intOp, resA, Option.or, ↓reduceIte, Nat.reduceLT, Nat.reduceAdd, fin, Tryz.results133, Tryz.ntmps146, Tryz.results146, Tryz.ntmps144, Tryz.results144, Int.reduceNeg, Nat.add_assoc]
      refine ⟨⟨cp, junk, rfl, hcp, by rw [hget_hput, if_neg (by omega)]; exact hg⟩, ⟨Nat.le_add_right _ _, rfl, fun k hk hks => by rw [hget_hput, if_neg (by omega)]⟩⟩
end Go.Ab.Seat
