/- hub.find, hub.matched. -/
import Derived.Test.YtnmlmmakheckpaaGreatDoorAb11
import Derived.Test.YtnmlmmakheckpaaGreatDoorAb26
import Derived.Test.YtnmlmmakheckpaaGreatDoorAb27
import Derived.Test.YtnmlmmakheckpaaGreatDoorAb13
namespace Go.Ab.Seat
open Go Go.Proofs
-- CFG C4
set_option linter.unusedSimpArgs false
set_option linter.unusedVariables false
set_option maxHeartbeats 4000000
set_option maxRecDepth 100000

-- REG hub.find$1 G_findC
theorem R_findC (x : Shared) (p : Str) : Run3 C4 Tryz.f53 [.agg [.str x.name, .rows false (x.journal.base.map Entry.cells), .int .i64 x.journal.first, .rows false (x.journal.commits.map Commit.cells)], .str p] (.int .i64 (cmpS x.name p)) := by
  refine Run3.mk (fn := Tryz.f53) rfl ?_
  simp only [↓bD, bL, stps, stpOf, ev, getT, setT, ofConst, AV.cells, notBad, loadObj, TI.agg, fieldAddrA, resA, padT, List.replicate, hputs, ↓reduceIte, Nat.reduceLT, Nat.reduceAdd, Nat.reduceSub, fin, List.mapM_cons, List.mapM_nil, scalarN, plainN, hookLooks, looks1, C4_ty, ty9, ty53, Tryz.ntmps53, Tryz.results53, Cl_hook (hk_C4_54), pureF, G_cmpS]
theorem G_findC (x : Shared) (p : Str) : G3 C4 Tryz.f53 [.agg [.str x.name, .rows false (x.journal.base.map Entry.cells), .int .i64 x.journal.first, .rows false (x.journal.commits.map Commit.cells)], .str p] = some (.int .i64 (cmpS x.name p)) := G3_eq (R_findC x p)

-- REG slices.BinarySearchFunc[[]api.Shared,api.Shared,string] G_bsS
theorem R_bsS (p : Str) (l : List Shared) (hl : l.length ≤ 1099511627776) (hm : Mono (fun x : Shared => cmpS x.name p) l) : Run3 C4 Tryz.f52 [.rows false (l.map Shared.cells), .str p, .func 53 [] []] (.tuple [.int .i64 (bsI (fun x : Shared => cmpS x.name p) l : Nat), .bool (bsF (fun x : Shared => cmpS x.name p) l)]) := by
  refine Run3.mk (fn := Tryz.f52) rfl ?_
  have hcl : ∀ x : Shared, G3 C4 Tryz.f53 [.agg x.cells, .str p] = some (.int .i64 ((fun x : Shared => cmpS x.name p) x)) := fun x => by rw [Shared.cells_eq]; exact G_findC x p
  simp (config := {contextual := true}) only [↓bD, bL, stps, stpOf, ev, getT, setT, ofConst, lenA, padT, List.replicate, Nat.reduceLT, Nat.reduceAdd, Nat.reduceSub, C4_ty, ty22, Tryz.ntmps52]
  refine X_loop (fun (k : Nat × Nat) T st => getT T 9 = .int .i64 (k.1 : Nat) ∧ getT T 10 = .int .i64 (k.2 : Nat) ∧ k.1 ≤ k.2 ∧ k.2 ≤ l.length ∧ (∀ q x, q < k.1 → l[q]? = some x → (fun x : Shared => cmpS x.name p) x < 0) ∧ (∀ x, l[k.2]? = some x → ¬ (fun x : Shared => cmpS x.name p) x < 0)) (fun k => k.2 - k.1)
    (fun e T st => e = .exit 0 ∧ getT T 9 = .int .i64 (bsI (fun x : Shared => cmpS x.name p) l : Nat)) (0, l.length) ⟨rfl, rfl, Nat.zero_le _, Nat.le_refl _, by simp, by simp⟩ ?_ ?_
  · rintro ⟨i, j⟩ T st hF hc hb ⟨h9, h10, hij, hj, hlo, hhi⟩
    simp only at h9 h10 hij hj hlo hhi
    have h0 := hF 0 rfl
    have h1 := hF 1 rfl
    have h2 := hF 2 rfl
    have h8 := hF 8 rfl
    simp only [getT] at h0 h1 h2 h8
    clear hF
    by_cases hlt : i < j
    · have hlt' : (i : Int) < (j : Int) := by omega
      have hw1 : IntKind.i64.wrap ((i : Int) + j) = ((i + j : Nat) : Int) := by rw [Int.natCast_add]; exact wrap_i64 (by omega) (by omega)
      have hw2 : IntKind.u64.wrap ((i + j : Nat) : Int) = ((i + j : Nat) : Int) := by
        exact IntWalk.u64_in _ (by omega)
      have hw3 : Int.fdiv ((i + j : Nat) : Int) (2 ^ (min (Int.toNat 1) IntKind.u64.bits)) = (((i + j) / 2 : Nat) : Int) := by
        rw [show (min (Int.toNat 1) IntKind.u64.bits) = 1 from rfl]
        rw [Int.fdiv_eq_ediv_of_nonneg _ (by decide)]; omega
      generalize hh : (i + j) / 2 = m at hw3
      have hm1 : i ≤ m := by omega
      have hm2 : m < j := by omega
      have hw4 : IntKind.i64.wrap (m : Int) = (m : Int) := wrap_i64 (by omega) (by omega)
      have hw5 : IntKind.i64.wrap ((m : Int) + 1) = ((m + 1 : Nat) : Int) := by rw [Int.natCast_add]; exact wrap_i64 (by omega) (by omega)
      have hml : (m : Int) < (l.length : Int) := by omega
      have hx : l[m]? = some (l[m]'(by omega)) := by simp
      generalize (l[m]'(by omega)) = x at hx
      have hcx := hcl x
      rw [Shared.cells_eq] at hcx
      by_cases hneg : (fun x : Shared => cmpS x.name p) x < 0
      · simp (config := {contextual := true}) only [↓bD, bL, stps, stpOf, ev, ofConst, loadObj, TI.agg, indexAddrA, convA, binP, binA, symA, intOp, elemTI, Option.or, hputs, ↓reduceIte, reduceCtorEq, Nat.reduceEqDiff, Nat.reduceLT, Nat.reduceAdd, fin, List.mapM_cons, List.mapM_nil, scalarN, plainN, C4_ty, ty3, ty22, ty53, ty134, Cl_3 (C := C4) (g := 53) (fn := Tryz.f53) rfl (fnBy_of Tryz.func53 rfl) rfl, pureF, h9, h10, h0, h1, h2, hlt', hw1, hw2, hw3, hw4, hw5, hml, hx, hcx, hneg, shiftOp, Int.reduceLT]
        refine ⟨(m + 1, j), by simp only; omega, rfl, rfl, by simp only; omega, hj, fun q y hq hy => ?_, hhi⟩
        rcases Nat.lt_or_ge q m with h | h
        · exact hm q m y x h hy hx hneg
        · have : q = m := by simp only at hq; omega
          subst this
          rw [hx, Option.some.injEq] at hy
          rw [← hy]; exact hneg
      · simp (config := {contextual := true}) only [↓bD, bL, stps, stpOf, ev, ofConst, loadObj, TI.agg, indexAddrA, convA, binP, binA, symA, intOp, elemTI, Option.or, hputs, ↓reduceIte, reduceCtorEq, Nat.reduceEqDiff, Nat.reduceLT, Nat.reduceAdd, fin, List.mapM_cons, List.mapM_nil, scalarN, plainN, C4_ty, ty3, ty22, ty53, ty134, Cl_3 (C := C4) (g := 53) (fn := Tryz.f53) rfl (fnBy_of Tryz.func53 rfl) rfl, pureF, h9, h10, h0, h1, h2, hlt', hw1, hw2, hw3, hw4, hml, hx, hcx, hneg, shiftOp, Int.reduceLT]
        refine ⟨(i, m), by simp only; omega, rfl, rfl, hm1, by simp only; omega, hlo, fun y hy => ?_⟩
        rw [hx, Option.some.injEq] at hy
        rw [← hy]; exact hneg
    · have hlt' : ¬ (i : Int) < (j : Int) := by omega
      have : i = j := by omega
      subst this
      have hb := bsI_eq hj hlo hhi
      simp (config := {contextual := true}) only [↓bD, bL, stps, stpOf, ev, binP, binA, symA, intOp, Option.or, ↓reduceIte, Nat.reduceEqDiff, Nat.reduceLT, Nat.reduceAdd, h9, h10, hlt', hb]
  · rintro e T st he hF hc hb ⟨rfl, h9⟩
    have h0 := hF 0 rfl
    have h1 := hF 1 rfl
    have h2 := hF 2 rfl
    have h8 := hF 8 rfl
    simp only [getT] at h0 h1 h2 h8
    clear hF
    have hle := bsI_le (fun x : Shared => cmpS x.name p) l
    by_cases hlt : bsI (fun x : Shared => cmpS x.name p) l < l.length
    · have hlt' : (bsI (fun x : Shared => cmpS x.name p) l : Int) < (l.length : Int) := by omega
      have hx : l[bsI (fun x : Shared => cmpS x.name p) l]? = some (l[bsI (fun x : Shared => cmpS x.name p) l]'hlt) := by simp
      have hf : bsF (fun x : Shared => cmpS x.name p) l = ((fun x : Shared => cmpS x.name p) (l[bsI (fun x : Shared => cmpS x.name p) l]'hlt) == 0) := by unfold bsF; rw [hx]
      generalize (l[bsI (fun x : Shared => cmpS x.name p) l]'hlt) = x at hx hf
      have hcx := hcl x
      rw [Shared.cells_eq] at hcx
      simp (config := {contextual := true}) only [↓bD, bL, stps, stpOf, ev, ofConst, loadObj, TI.agg, indexAddrA, binP, binA, symA, intOp, elemTI, resA, Option.or, hputs, ↓reduceIte, reduceCtorEq, Nat.reduceEqDiff, Nat.reduceLT, Nat.reduceAdd, fin, List.mapM_cons, List.mapM_nil, scalarN, plainN, C4_ty, ty22, ty53, Tryz.ntmps52, Tryz.results52, Cl_3 (C := C4) (g := 53) (fn := Tryz.f53) rfl (fnBy_of Tryz.func53 rfl) rfl, pureF, h9, h0, h1, h2, h8, hlt', hx, hcx, hf]
    · have hlt' : ¬ (bsI (fun x : Shared => cmpS x.name p) l : Int) < (l.length : Int) := by omega
      have hx : l[bsI (fun x : Shared => cmpS x.name p) l]? = none := by simp; omega
      have hf : bsF (fun x : Shared => cmpS x.name p) l = false := by unfold bsF; rw [hx]
      simp (config := {contextual := true}) only [↓bD, bL, stps, stpOf, ev, ofConst, binP, binA, symA, intOp, resA, Option.or, ↓reduceIte, Nat.reduceEqDiff, Nat.reduceLT, Nat.reduceAdd, fin, List.mapM_cons, List.mapM_nil, Tryz.ntmps52, Tryz.results52, h9, h8, hlt', hf]
theorem G_bsS (p : Str) (l : List Shared) (hl : l.length ≤ 1099511627776) (hm : Mono (fun x : Shared => cmpS x.name p) l) : G3 C4 Tryz.f52 [.rows false (l.map Shared.cells), .str p, .func 53 [] []] = some (.tuple [.int .i64 (bsI (fun x : Shared => cmpS x.name p) l : Nat), .bool (bsF (fun x : Shared => cmpS x.name p) l)]) := G3_eq (R_bsS p l hl hm)


/-- A folder as an entry: what is known of trees in order serves folders in order. -/
def toE (s : Shared) : Entry := ⟨s.name, false, [], 0⟩
theorem asc_toE (l : List Shared) : ascBy lePath (l.map toE) = ascBy leShared l := by
  unfold ascBy
  rw [← List.map_tail, List.zip_map, List.all_map]
  rfl
theorem bsI_toE (l : List Shared) (q : Str) : bsI (fun x : Entry => cmpS x.path q) (l.map toE) = bsI (fun x : Shared => cmpS x.name q) l := by
  unfold bsI
  rw [List.takeWhile_map, List.length_map]
  rfl
theorem bsF_toE (l : List Shared) (q : Str) : bsF (fun x : Entry => cmpS x.path q) (l.map toE) = bsF (fun x : Shared => cmpS x.name q) l := by
  unfold bsF
  rw [bsI_toE, List.getElem?_map]
  cases l[bsI (fun x : Shared => cmpS x.name q) l]? <;> rfl
theorem at_toE (l : List Shared) (q : Str) : entryAt (l.map toE) q = folderAt l q := by
  unfold entryAt folderAt idxF'
  rw [List.findIdx?_map]
  rfl
theorem mono_toE {l : List Shared} {q : Str} (h : Mono (fun x : Entry => cmpS x.path q) (l.map toE)) : Mono (fun x : Shared => cmpS x.name q) l := by
  intro i j x y hij hx hy
  exact h i j (toE x) (toE y) hij (by rw [List.getElem?_map, hx]; rfl) (by rw [List.getElem?_map, hy]; rfl)
/-- Folders in order: where one is found, and what it is. -/
theorem at_shared {l : List Shared} (h : ascBy leShared l = true) (q : Str) : (bsF (fun x : Shared => cmpS x.name q) l = false ∧ folderAt l q < 0) ∨
    (bsF (fun x : Shared => cmpS x.name q) l = true ∧ ∃ x, l[bsI (fun x : Shared => cmpS x.name q) l]? = some x ∧ folderAt l q = (bsI (fun x : Shared => cmpS x.name q) l : Int) ∧ x.name = q) := by
  have ha : Asc (l.map toE) := (asc_iff _).1 (by rw [asc_toE]; exact h)
  rcases at_entry ha q with ⟨h1, h2⟩ | ⟨h1, x, h2, h3, h4⟩
  · left
    rw [bsF_toE] at h1
    rw [at_toE] at h2
    exact ⟨h1, h2⟩
  · right
    rw [bsF_toE] at h1
    rw [bsI_toE, List.getElem?_map] at h2
    rw [at_toE, bsI_toE] at h3
    obtain ⟨y, hy, rfl⟩ := Option.map_eq_some_iff.1 h2
    exact ⟨h1, y, hy, h3, h4⟩
theorem asc_nodup {l : List Shared} (h : ascBy leShared l = true) : (l.map Shared.name).Nodup := by
  have ha : Asc (l.map toE) := (asc_iff _).1 (by rw [asc_toE]; exact h)
  unfold Asc at ha
  rw [List.pairwise_map] at ha
  unfold List.Nodup
  rw [List.pairwise_map]
  refine ha.imp ?_
  intro x y hlt e
  have h2 : x.name < y.name := hlt
  rw [e] at h2
  exact List.lt_irrefl _ h2

/-- hub.matched. -/
def matchedB (h : Hub) : Bool := h.grants.all (fun g => bsF (fun x : Shared => cmpS x.name g.folder) h.folders) && decide ((setOf (h.grants.map Grant.folder)).length = h.folders.length)
theorem matchedB_eq (h : Hub) (ha : ascBy leShared h.folders = true) : matchedB h = !(h.grants.any (fun g => decide (folderAt h.folders g.folder < 0)) || h.folders.any (fun s => decide (whoOf h.grants s.name = []))) := by
  unfold matchedB
  have hb : ∀ g : Grant, bsF (fun x : Shared => cmpS x.name g.folder) h.folders = !decide (folderAt h.folders g.folder < 0) := fun g => by
    rcases at_shared ha g.folder with ⟨h1, h2⟩ | ⟨h1, x, h2, h3, h4⟩
    · rw [h1]; simp [h2]
    · rw [h1, h3]
      have : ¬ ((bsI (fun x : Shared => cmpS x.name g.folder) h.folders : Nat) : Int) < 0 := by omega
      simp [this]
  rw [Bool.not_or]
  have e1 : h.grants.all (fun g => bsF (fun x : Shared => cmpS x.name g.folder) h.folders) = !h.grants.any (fun g => decide (folderAt h.folders g.folder < 0)) := by
    rw [List.not_any_eq_all_not]
    congr 1
    funext g
    exact hb g
  rw [e1]
  cases hc : h.grants.any (fun g => decide (folderAt h.folders g.folder < 0)) with
  | true => rfl
  | false =>
    simp only [Bool.not_false, Bool.true_and]
    have hsub : ∀ f ∈ setOf (h.grants.map Grant.folder), f ∈ h.folders.map Shared.name := fun f hf => by
      obtain ⟨g, hg, rfl⟩ := List.mem_map.1 ((setOf_mem _ _).1 hf)
      rw [List.any_eq_false] at hc
      have h1 := hc g hg
      rcases at_shared ha g.folder with ⟨h2, h3⟩ | ⟨h2, x, h3, h4, h5⟩
      · exact absurd h3 (by simpa using h1)
      · exact List.mem_map.2 ⟨x, List.mem_of_getElem? h3, h5⟩
    have hnd := setOf_nodup (h.grants.map Grant.folder)
    have hlen : (h.folders.map Shared.name).length = h.folders.length := List.length_map _
    have hwho : ∀ f : Str, whoOf h.grants f = [] ↔ f ∉ setOf (h.grants.map Grant.folder) := fun f => by
      unfold whoOf
      rw [List.map_eq_nil_iff, List.filter_eq_nil_iff, setOf_mem, List.mem_map]
      constructor
      · rintro h1 ⟨g, hg, hgf⟩; exact h1 g hg (by simpa using hgf)
      · intro h1 g hg hgf; exact h1 ⟨g, hg, by simpa using hgf⟩
    rw [Bool.eq_iff_iff, decide_eq_true_eq, Bool.not_eq_true', List.any_eq_false]
    constructor
    · intro he s hs
      have hall := nodup_len_eq hnd hsub (by rw [he, hlen])
      have := hall s.name (List.mem_map.2 ⟨s, hs, rfl⟩)
      simp only [decide_eq_true_eq]
      exact fun w => (hwho s.name).1 w this
    · intro hall
      have hsub2 : ∀ f ∈ h.folders.map Shared.name, f ∈ setOf (h.grants.map Grant.folder) := fun f hf => by
        obtain ⟨s, hs, rfl⟩ := List.mem_map.1 hf
        have := hall s hs
        simp only [decide_eq_true_eq] at this
        exact Classical.byContradiction fun w => this ((hwho s.name).2 w)
      have l1 := nodup_len hnd hsub
      have l2 := nodup_len (asc_nodup ha) hsub2
      omega

-- REG hub.find G_find
theorem R_find (h : Hub) (p : Str) (hl : h.folders.length ≤ 1099511627776) (ha : ascBy leShared h.folders = true) : Run3 C4 Tryz.f23 [.agg h.cells, .str p] (.tuple [.int .i64 (bsI (fun x : Shared => cmpS x.name p) h.folders : Nat), .bool (bsF (fun x : Shared => cmpS x.name p) h.folders)]) := by
  have hm : Mono (fun x : Shared => cmpS x.name p) h.folders := mono_toE (asc_mono (by rw [asc_toE]; exact ha) p)
  have hG := G_bsS p h.folders hl hm
  rw [Hub.cells_eq]
  refine Run3.mk (fn := Tryz.f23) rfl ?_
  simp only [↓bD, bL, stps, stpOf, ev, getT, setT, ofConst, AV.cells, notBad, loadObj, TI.agg, fieldAddrA, resA, padT, List.replicate, hputs, ↓reduceIte, Nat.reduceLT, Nat.reduceAdd, Nat.reduceSub, fin, List.mapM_cons, List.mapM_nil, scalarN, plainN, C4_ty, ty22, ty28, Tryz.ntmps23, Tryz.results23, Cl_3 (C := C4) (g := 52) (fn := Tryz.f52) rfl (fnBy_of Tryz.func52 rfl) rfl, pureF, hG]
theorem G_find (h : Hub) (p : Str) (hl : h.folders.length ≤ 1099511627776) (ha : ascBy leShared h.folders = true) : G3 C4 Tryz.f23 [.agg h.cells, .str p] = some (.tuple [.int .i64 (bsI (fun x : Shared => cmpS x.name p) h.folders : Nat), .bool (bsF (fun x : Shared => cmpS x.name p) h.folders)]) := G3_eq (R_find h p hl ha)

-- REG hub.matched G_matched
theorem R_matched (h : Hub) (hl : h.folders.length ≤ 1099511627776) (hg : h.grants.length ≤ 1099511627776) (ha : ascBy leShared h.folders = true) : Run3 C4 Tryz.f13 [.agg h.cells] (.bool (matchedB h)) := by
  rw [Hub.cells_eq]
  refine Run3.mk (fn := Tryz.f13) rfl ?_
  simp only [↓bD, bL, stps, stpOf, ev, getT, setT, ofConst, AV.cells, notBad, loadObj, TI.agg, fieldAddrA, lenA, padT, List.replicate, ↓reduceIte, reduceCtorEq, Nat.reduceLT, Nat.reduceAdd, Nat.reduceSub, C4_ty, ty23, ty28, Tryz.ntmps13]
  refine X_loop (fun (rem : List Grant) T st => ∃ k : Nat, getT T 12 = .int .i64 (k : Nat) ∧ h.grants.drop k = rem ∧ (h.grants.take k).all (fun g => bsF (fun x : Shared => cmpS x.name g.folder) h.folders) = true ∧ hget st.h 2 = some (.map (setE (setOf ((h.grants.take k).map Grant.folder)))) ∧ hget st.h 0 = hubO h) List.length
    (fun e T st => (e = .ret ∧ getT T 2 = .bool false ∧ h.grants.all (fun g => bsF (fun x : Shared => cmpS x.name g.folder) h.folders) = false) ∨ (e = .exit 0 ∧ h.grants.all (fun g => bsF (fun x : Shared => cmpS x.name g.folder) h.folders) = true ∧ hget st.h 2 = some (.map (setE (setOf (h.grants.map Grant.folder)))) ∧ hget st.h 0 = hubO h)) h.grants
    ⟨0, rfl, rfl, rfl, rfl, rfl⟩ ?_ ?_
  · rintro rem T st hF hc hb ⟨k, hk, hd, hz, hm, hh⟩
    have h1 := hF 1 rfl
    have h3 := hF 3 rfl
    have h10 := hF 10 rfl
    have h11 := hF 11 rfl
    simp only [getT] at h1 h3 h10 h11
    clear hF
    have hbar : st.bar = 0 := hb
    have hc2 : 2 < st.c := by simp only at hc; omega
    have z0 : ∀ j, (st.c + j = 0) = False := fun j => eq_false (by omega)
    have z0' : (st.c = 0) = False := eq_false (by omega)
    have z2 : ∀ j, (st.c + j = 2) = False := fun j => eq_false (by omega)
    have z2' : (st.c = 2) = False := eq_false (by omega)
    have y2 : ∀ j, (2 = st.c + j) = False := fun j => eq_false (by omega)
    unfold hubO at hh
    cases rem with
    | nil =>
      have hn := drop_nil_len hd
      have hlt : ¬ (k : Int) < (h.grants.length : Int) := by omega
      rw [List.take_of_length_le hn] at hm hz
      simp only [↓bD, bL, stps, stpOf, ev, binP, binA, symA, intOp, Option.or, ↓reduceIte, reduceCtorEq, Nat.reduceEqDiff, Nat.reduceLT, hk, h11, hlt, hm, hz, hh, hubO]
    | cons x rem =>
      obtain ⟨hx, hlt0, hd', ht'⟩ := drop_cons_get hd
      have hlt : (k : Int) < (h.grants.length : Int) := by omega
      have hw : IntKind.i64.wrap ((k : Int) + 1) = ((k + 1 : Nat) : Int) := by rw [Int.natCast_add]; exact wrap_i64 (by omega) (by omega)
      have hk0 : (0 : Int) ≤ (k : Int) := by omega
      have hG := G_find h x.folder hl ha
      rw [Hub.cells_eq] at hG
      have e2 : setOf ((h.grants.take (k + 1)).map Grant.folder) = setAdd (setOf ((h.grants.take k).map Grant.folder)) x.folder := by
        rw [ht', List.map_append]; exact setOf_snoc _ _
      cases hf : bsF (fun y : Shared => cmpS y.name x.folder) h.folders with
      | true =>
        rw [hf] at hG
        simp only [↓bD, bL, stps, stpOf, ev, ofConst, AV.cells, AV.one, loadObj, TI.agg, fieldAddrA, indexAddrA, binP, binA, symA, intOp, unA, storeOk, putCells, elemTI, Option.or, hputs, ↓reduceIte, reduceCtorEq, Nat.reduceEqDiff, Nat.reduceLT, Nat.reduceAdd, fin, List.mapM_cons, List.mapM_nil, scalarN, plainN, keyTI, keyMatch, C4_ty, ty9, ty23, ty28, ty60, ty80, Cl_3 (C := C4) (g := 23) (fn := Tryz.f23) rfl (fnBy_of Tryz.func23 rfl) rfl, pureF, Nat.add_assoc, hk, h1, h3, h10, h11, hlt, hx, hw, hbar, hm, hh, z0, z2, y2, hG, mapSet_set]
        exact ⟨rem, by simp, k + 1, rfl, hd', by rw [ht', List.all_append, hz]; simp [hf], by rw [e2], rfl⟩
      | false =>
        rw [hf] at hG
        have hall : h.grants.all (fun g => bsF (fun x : Shared => cmpS x.name g.folder) h.folders) = false := all_append_false hx hf
        simp only [↓bD, bL, stps, stpOf, ev, ofConst, AV.cells, AV.one, loadObj, TI.agg, fieldAddrA, indexAddrA, binP, binA, symA, intOp, unA, storeOk, putCells, elemTI, Option.or, hputs, ↓reduceIte, reduceCtorEq, Nat.reduceEqDiff, Nat.reduceLT, Nat.reduceAdd, fin, List.mapM_cons, List.mapM_nil, scalarN, plainN, keyTI, keyMatch, C4_ty, ty9, ty23, ty28, ty60, ty80, Cl_3 (C := C4) (g := 23) (fn := Tryz.f23) rfl (fnBy_of Tryz.func23 rfl) rfl, pureF, Nat.add_assoc, hk, h1, h3, h10, h11, hlt, hx, hbar, hm, hh, z0, z2, y2, hG, mapSet_set, hall]
  · unfold matchedB
    rintro e T st he hF hc hb (⟨rfl, h2, hall⟩ | ⟨rfl, hall, hm, hh⟩)
    · rw [hall]
      simp only [↓bD, bL, resA, fin, Tryz.results13, h2]
    · have h1 := hF 1 rfl
      have h3 := hF 3 rfl
      simp only [getT] at h1 h3
      clear hF
      unfold hubO at hh
      rw [hall]
      simp only [↓bD, bL, stps, stpOf, ev, loadObj, TI.agg, fieldAddrA, binP, binA, symA, intOp, lenA, resA, Option.or, ↓reduceIte, Nat.reduceEqDiff, Nat.reduceLT, Nat.reduceAdd, fin, C4_ty, ty22, ty28, ty80, Tryz.ntmps13, Tryz.results13, beqD, Nat.add_assoc, h1, h3, hm, hh, setE_len, Int.ofNat_inj]
theorem G_matched (h : Hub) (hl : h.folders.length ≤ 1099511627776) (hg : h.grants.length ≤ 1099511627776) (ha : ascBy leShared h.folders = true) : G3 C4 Tryz.f13 [.agg h.cells] = some (.bool (matchedB h)) := G3_eq (R_matched h hl hg ha)
end Go.Ab.Seat
/- hub.Check. -/
namespace Go.Ab.Seat
open Go Go.Proofs
-- CFG C4
set_option linter.unusedSimpArgs false
set_option linter.unusedVariables false
set_option maxHeartbeats 4000000
set_option maxRecDepth 100000

def hcQ (r : AV) : KE := endW C4 Tryz.f5.results.toList fun r1 st' => fin st'.h 0 false 8 r1 = some r
abbrev hcX (n : Nat) (T : List AV) (st : St) (r : AV) : Prop := X C4 Tryz.f5.ntmps (restC n (bodyC Tryz.f5)) T st (Q := ⟨hcQ r⟩)

theorem hc_sh (h : Hub) (hf : FitH h) (T : List AV) (st : St) (r : AV) (hc0 : 0 < st.c) (hJ : hubJ h T st) (herr : firstErr checkShared h.folders ≠ 0 → r = .int .i64 (firstErr checkShared h.folders))
    (hgo : firstErr checkShared h.folders = 0 → ∀ T st, hubJ h T st → hcX 3 T st r) : hcX 2 T st r := by
  obtain ⟨g1, hh, hb⟩ := hJ
  have hfl := hf.fl
  unfold hubO at hh
  refine (?_ : X C4 Tryz.f5.ntmps (.seq _ (restC 3 (bodyC Tryz.f5))) T st (Q := ⟨hcQ r⟩))
  refine X_cut (fun T st => firstErr checkShared h.folders = 0 ∧ hget st.h 0 = hubO h) ?_ fun T1 st1 hF hc hb1 hq => hgo hq.1 T1 st1 ⟨(hF 1 rfl).trans g1, hq.2, hb1.trans hb⟩
  simp only [↓bD, bL, stps, stpOf, ev, ofConst, loadObj, TI.agg, fieldAddrA, lenA, ↓reduceIte, Nat.reduceLT, Nat.reduceAdd, C4_ty, ty22, ty28, Tryz.ntmps5, Nat.add_assoc, g1, hb, hh]
  refine X_loop (fun (rem : List Shared) T st => ∃ k : Nat, getT T 25 = .int .i64 (k : Nat) ∧ h.folders.drop k = rem ∧ firstErr checkShared h.folders = firstErr checkShared rem ∧ hget st.h 0 = hubO h) List.length
    (fun e T st => (e = .ret ∧ firstErr checkShared h.folders ≠ 0 ∧ getT T 2 = .int .i64 (firstErr checkShared h.folders)) ∨ (e = .exit 1 ∧ firstErr checkShared h.folders = 0 ∧ hget st.h 0 = hubO h)) h.folders ⟨0, by rw [getT_setT, if_pos rfl]; rfl, rfl, rfl, hh⟩ ?_ ?_
  · rintro rem T1 st1 hF hc hb1 ⟨k, hk, hd, hz, hh⟩
    have h1 := hF 1 rfl
    have h23 := hF 23 rfl
    have h24 := hF 24 rfl
    simp only [getT_setT, getT, g1, Nat.reduceEqDiff, if_false, if_true] at h1 h23 h24
    clear hF
    have hbar : st1.bar = 0 := hb1
    have hcc : st.c < st1.c := by simp only at hc; omega
    have z0 : ∀ j, (st1.c + j = 0) = False := fun j => eq_false (by omega)
    unfold hubO at hh
    cases rem with
    | nil =>
      have hnk := drop_nil_len hd
      have hlt : ¬ (k : Int) < (h.folders.length : Int) := by omega
      simp only [firstErr] at hz
      simp only [↓bD, bL, stps, stpOf, ev, binP, binA, symA, intOp, Option.or, ↓reduceIte, reduceCtorEq, Nat.reduceEqDiff, Nat.reduceLT, hk, h24, hh, hlt, hz, hubO]
    | cons x rem =>
      obtain ⟨hx, hlt0, hd', ht'⟩ := drop_cons_get hd
      have hlt : (k : Int) < (h.folders.length : Int) := by omega
      have hk0 : (0 : Int) ≤ (k : Int) := by omega
      have hw : IntKind.i64.wrap ((k : Int) + 1) = ((k + 1 : Nat) : Int) := by rw [Int.natCast_add]; exact wrap_i64 (by omega) (by omega)
      obtain ⟨hn, hj⟩ := hf.fo x (List.mem_of_getElem? hx)
      have hG := G_jCheck x.journal hj
      cases q1 : isName x.name with
      | false =>
        have hz2 : firstErr checkShared h.folders = 1 := by rw [hz, firstErr, if_pos (by unfold checkShared; rw [q1, if_pos rfl]; decide)]; unfold checkShared; rw [q1, if_pos rfl]
        simp only [↓bD, bL, stps, stpOf, ev, ofConst, AV.cells, AV.one, loadObj, TI.agg, fieldAddrA, indexAddrA, binP, binA, symA, intOp, unA, storeOk, putCells, elemTI, Option.or, hputs, ↓reduceIte, reduceCtorEq, Nat.reduceEqDiff, Nat.reduceLT, Nat.reduceAdd, fin, List.mapM_cons, List.mapM_nil, scalarN, plainN, hookLooks, looks1, C4_ty, ty9, ty22, ty53, Cl_hook (hk_C4_10), pureF, G_isName, Int.reduceEq, Nat.add_assoc, hk, h23, h24, hh, hlt, hx, z0, hbar, q1, hz2]
      | true =>
        have hcs : checkShared x = (openJ x.journal).2 := by unfold checkShared; rw [q1, if_neg (by decide)]
        by_cases q2 : (openJ x.journal).2 = 0
        · rw [firstErr, if_neg (by rw [hcs]; exact fun q => q q2)] at hz
          simp only [↓bD, bL, stps, stpOf, ev, ofConst, AV.cells, AV.one, loadObj, TI.agg, fieldAddrA, indexAddrA, binP, binA, symA, intOp, unA, storeOk, putCells, elemTI, Option.or, hputs, ↓reduceIte, reduceCtorEq, Nat.reduceEqDiff, Nat.reduceLT, Nat.reduceAdd, fin, List.mapM_cons, List.mapM_nil, scalarN, plainN, hookLooks, looks1, C4_ty, ty9, ty22, ty51, ty53, Cl_hook (hk_C4_10), pureF, G_isName, Cl_3 (C := C4) (g := 11) (fn := Tryz.f11) rfl (fnBy_of Tryz.func11 rfl) rfl, Nat.add_assoc, hk, h23, h24, hh, hlt, hx, hw, z0, hbar, q1, hG, q2]
          exact ⟨rem, by simp, k + 1, rfl, hd', hz, rfl⟩
        · have hz2 : firstErr checkShared h.folders = (openJ x.journal).2 := by rw [hz, firstErr, if_pos (by rw [hcs]; exact q2), hcs]
          simp only [↓bD, bL, stps, stpOf, ev, ofConst, AV.cells, AV.one, loadObj, TI.agg, fieldAddrA, indexAddrA, binP, binA, symA, intOp, unA, storeOk, putCells, elemTI, Option.or, hputs, ↓reduceIte, reduceCtorEq, Nat.reduceEqDiff, Nat.reduceLT, Nat.reduceAdd, fin, List.mapM_cons, List.mapM_nil, scalarN, plainN, hookLooks, looks1, C4_ty, ty9, ty22, ty51, ty53, Cl_hook (hk_C4_10), pureF, G_isName, Cl_3 (C := C4) (g := 11) (fn := Tryz.f11) rfl (fnBy_of Tryz.func11 rfl) rfl, bneD, Nat.add_assoc, hk, h23, h24, hh, hlt, hx, z0, hbar, q1, hG, eq_false q2, hz2]
  · rintro e T1 st1 he2 hF hc hb1 (⟨rfl, ha, h2⟩ | ⟨rfl, ha, hh⟩)
    · rw [herr ha]
      simp only [↓kseq_ret, ↓kblock_ret, List.toList_toArray, S_some, ↓end_ret, resA, tupOf_1, Option.map_some, fin, Tryz.results5, h2, hcQ]
    · simp only [↓kseq_normal, ↓kblock_exit, ↓reduceIte, and_self, ha, hh]

theorem hc_asc (h : Hub) (hf : FitH h) (T : List AV) (st : St) (r : AV) (hJ : hubJ h T st) (herr : (h.folders.zip h.folders.tail).any (fun x => leShared x.2 x.1) = true → r = .int .i64 4)
    (hgo : (h.folders.zip h.folders.tail).any (fun x => leShared x.2 x.1) = false → ∀ T st, hubJ h T st → hcX 4 T st r) : hcX 3 T st r := by
  obtain ⟨g1, hh, hb⟩ := hJ
  have hfl := hf.fl
  have hgl := hf.gl
  unfold hubO at hh
  refine (?_ : X C4 Tryz.f5.ntmps (.seq _ (restC 4 (bodyC Tryz.f5))) T st (Q := ⟨hcQ r⟩))
  refine X_cut (fun T st => (h.folders.zip h.folders.tail).any (fun x => leShared x.2 x.1) = false ∧ hget st.h 0 = hubO h) ?_ fun T1 st1 hF hc hb1 hq => hgo hq.1 T1 st1 ⟨(hF 1 rfl).trans g1, hq.2, hb1.trans hb⟩
  simp only [↓bD, bL, stps, stpOf, ev, ofConst, Nat.reduceLT, Tryz.ntmps5, hb]
  refine X_loop (fun (rem : List (Shared × Shared)) T st => ∃ k : Nat, getT T 6 = .int .i64 ((k + 1 : Nat) : Int) ∧ (h.folders.zip h.folders.tail).drop k = rem ∧ ((h.folders.zip h.folders.tail).take k).any (fun x => leShared x.2 x.1) = false ∧ hget st.h 0 = hubO h) List.length
    (fun e T st => (e = .ret ∧ (h.folders.zip h.folders.tail).any (fun x => leShared x.2 x.1) = true ∧ getT T 2 = .int .i64 4) ∨ (e = .exit 3 ∧ (h.folders.zip h.folders.tail).any (fun x => leShared x.2 x.1) = false ∧ hget st.h 0 = hubO h)) (h.folders.zip h.folders.tail) ⟨0, by rw [getT_setT, if_pos rfl]; rfl, rfl, rfl, hh⟩ ?_ ?_
  · rintro rem T1 st1 hF hc hb1 ⟨k, hk, hd, hz, hh⟩
    have h1 := hF 1 rfl
    simp only [getT_setT, getT, g1, Nat.reduceEqDiff, if_false] at h1
    clear hF
    have hbar : st1.bar = 0 := hb1
    unfold hubO at hh
    cases rem with
    | nil =>
      have hnk := drop_nil_len hd
      have hlz := zip_tail_len h.folders
      have hlt : ¬ ((k + 1 : Nat) : Int) < (h.folders.length : Int) := by omega
      rw [List.take_of_length_le hnk] at hz
      simp only [↓bD, bL, stps, stpOf, ev, loadObj, TI.agg, fieldAddrA, binP, binA, symA, intOp, lenA, Option.or, ↓reduceIte, reduceCtorEq, Nat.reduceEqDiff, Nat.reduceLT, Nat.reduceAdd, C4_ty, ty22, ty28, Nat.add_assoc, hk, h1, hh, hlt, hz, hubO]
    | cons x rem =>
      obtain ⟨hx, hlt0, hd', ht'⟩ := drop_cons_get hd
      have hlz := zip_tail_len h.folders
      obtain ⟨hq1, hq2⟩ := zip_tail_get hx
      have hlt : ((k + 1 : Nat) : Int) < (h.folders.length : Int) := by omega
      have hlt2 : (k : Int) < (h.folders.length : Int) := by omega
      have hw : IntKind.i64.wrap (((k + 1 : Nat) : Int) + 1) = ((k + 1 + 1 : Nat) : Int) := by rw [Int.natCast_add (k + 1)]; exact wrap_i64 (by omega) (by omega)
      have hw2 : IntKind.i64.wrap (((k + 1 : Nat) : Int) - 1) = (k : Int) := by rw [show ((k + 1 : Nat) : Int) - 1 = (k : Int) by omega]; exact wrap_i64 (by omega) (by omega)
      cases hle : leShared x.2 x.1 with
      | true =>
        have hle2 : (Op.bytesLess x.2.name x.1.name = true ∨ x.2.name = x.1.name) = True := eq_true (by simpa [leShared, leS] using hle)
        have hany : (h.folders.zip h.folders.tail).any (fun x => leShared x.2 x.1) = true := List.any_eq_true.2 ⟨x, List.mem_of_getElem? hx, hle⟩
        simp (config := {maxSteps := 1000000}) only [↓bD, bL, stps, stpOf, ev, ofConst, loadObj, TI.agg, fieldAddrA, indexAddrA, binP, binA, symA, intOp, strOp, lenA, elemTI, Option.or, ↓reduceIte, reduceCtorEq, Nat.reduceEqDiff, Nat.reduceLT, Nat.reduceAdd, looks, C4_ty, ty9, ty22, ty28, ty53, beqD, Nat.add_assoc, hk, h1, hh, hlt, hlt2, hq1, hq2, hw2, hle2, hany]
        (first | exact (by kernel_rfl : (_ : Bool) = true) | (repeat (refine ⟨(by kernel_rfl : (_ : Bool) = true), ?_⟩)))
      | false =>
        have hle2 : (Op.bytesLess x.2.name x.1.name = true ∨ x.2.name = x.1.name) = False := eq_false (by simpa [leShared, leS] using hle)
        have hs : ((h.folders.zip h.folders.tail).take (k + 1)).any (fun x => leShared x.2 x.1) = false := by rw [ht', List.any_append, hz]; simpa using hle
        simp (config := {maxSteps := 1000000}) only [↓bD, bL, stps, stpOf, ev, ofConst, loadObj, TI.agg, fieldAddrA, indexAddrA, binP, binA, symA, intOp, strOp, lenA, elemTI, Option.or, ↓reduceIte, reduceCtorEq, Nat.reduceEqDiff, Nat.reduceLT, Nat.reduceAdd, looks, C4_ty, ty9, ty22, ty28, ty53, beqD, Nat.add_assoc, hk, h1, hh, hlt, hlt2, hq1, hq2, hw, hw2, hle2]
        (repeat (refine ⟨(by kernel_rfl : (_ : Bool) = true), ?_⟩))
        exact ⟨rem, by simp, k + 1, rfl, hd', hs, rfl⟩
  · rintro e T1 st1 he2 hF hc hb1 (⟨rfl, ha, h2⟩ | ⟨rfl, ha, hh⟩)
    · rw [herr ha]
      simp only [↓kseq_ret, ↓kblock_ret, List.toList_toArray, S_some, ↓end_ret, resA, tupOf_1, Option.map_some, fin, Tryz.results5, h2, hcQ]
    · simp only [↓kseq_normal, ↓kblock_exit, ↓reduceIte, and_self, ha, hh]

-- REG hub.Check G_hubCheck
theorem R_hubCheck (h : Hub) (hf : FitH h) : Run3 C4 Tryz.f5 [.agg h.cells] (.int .i64 (checkHub h)) := by
  have hcu : checkUploads ⟨h.uploads.sessions, h.uploads.next, h.uploads.lasts, h.uploads.room⟩ = checkUploads h.uploads := rfl
  rw [Hub.cells_eq]
  refine Run3.mk (fn := Tryz.f5) rfl ?_
  unfold checkHub
  by_cases e1 : h.now < 0
  · rw [if_pos e1]
    simp only [↓bD, bL, stps, stpOf, ev, getT, setT, ofConst, AV.cells, notBad, loadObj, TI.agg, fieldAddrA, binP, binA, symA, intOp, resA, padT, List.replicate, Option.or, ↓reduceIte, Nat.reduceLT, Nat.reduceAdd, Nat.reduceSub, fin, C4_ty, ty3, ty28, Tryz.ntmps5, Tryz.results5, eq_true e1]
  rw [if_neg e1]
  by_cases e2 : 1099511627776 < h.now
  · rw [if_pos e2]
    simp only [↓bD, bL, stps, stpOf, ev, getT, setT, ofConst, AV.cells, notBad, loadObj, TI.agg, fieldAddrA, binP, binA, symA, intOp, resA, padT, List.replicate, Option.or, ↓reduceIte, Nat.reduceLT, Nat.reduceAdd, Nat.reduceSub, fin, C4_ty, ty3, ty28, Tryz.ntmps5, Tryz.results5, eq_false e1, eq_true e2]
  rw [if_neg e2]
  by_cases e3 : 8 < h.folders.length
  · rw [if_pos e3]
    have e3' : (8 : Int) < (h.folders.length : Int) := by omega
    simp only [↓bD, bL, stps, stpOf, ev, getT, setT, ofConst, AV.cells, notBad, loadObj, TI.agg, fieldAddrA, binP, binA, symA, intOp, lenA, resA, padT, List.replicate, Option.or, ↓reduceIte, Nat.reduceLT, Nat.reduceAdd, Nat.reduceSub, fin, C4_ty, ty3, ty22, ty28, Tryz.ntmps5, Tryz.results5, eq_false e1, eq_false e2, e3']
  rw [if_neg e3]
  have e3' : ¬ (8 : Int) < (h.folders.length : Int) := by omega
  refine (?_ : X C4 Tryz.f5.ntmps (.seq _ (.seq _ (restC 2 (bodyC Tryz.f5)))) _ _ (Q := ⟨hcQ _⟩))
  rw [X_assoc]
  refine X_cut (fun T st => hubJ h T st ∧ 0 < st.c) ?_ fun T st _ _ _ hJ => ?_
  · simp only [↓bD, bL, stps, stpOf, ev, getT, setT, ofConst, AV.cells, notBad, loadObj, TI.agg, fieldAddrA, binP, binA, symA, intOp, lenA, padT, List.replicate, Option.or, ↓reduceIte, Nat.reduceLT, Nat.reduceAdd, Nat.reduceSub, C4_ty, ty3, ty22, ty28, Tryz.ntmps5, eq_false e1, eq_false e2, e3', hubJ, hubO]
  refine hc_sh h hf T st _ hJ.2 hJ.1 (fun q => by rw [if_pos q]) fun q T st hJ => ?_
  rw [if_neg (fun q2 => q2 q)]
  refine hc_asc h hf T st _ hJ (fun q => by rw [asc_any, q]; rfl) fun q T st hJ => ?_
  have hasc : ascBy leShared h.folders = true := by rw [asc_any, q]; rfl
  rw [if_neg (by rw [hasc]; decide)]
  have hG := G_matched h hf.fl hf.gl hasc
  rw [Hub.cells_eq, matchedB_eq h hasc] at hG
  obtain ⟨g1, hh, hb⟩ := hJ
  unfold hubO at hh
  refine (?_ : X C4 Tryz.f5.ntmps (.seq _ (.seq _ (.seq _ .ret))) T st (Q := ⟨hcQ _⟩))
  by_cases e4 : checkGrants h.grants = 0
  rotate_left
  · rw [if_pos e4]
    simp only [↓bD, bL, stps, stpOf, ev, ofConst, loadObj, TI.agg, fieldAddrA, binP, binA, symA, intOp, resA, Option.or, hputs, ↓reduceIte, Nat.reduceEqDiff, Nat.reduceLT, Nat.reduceAdd, fin, List.mapM_cons, List.mapM_nil, scalarN, plainN, hookLooks, looks1, C4_ty, ty23, ty28, Tryz.ntmps5, Tryz.results5, pureF, Cl_hook (hk_C4_12), G_grantCheck, bneD, Nat.add_assoc, g1, hh, hb, eq_false e4, hcQ]
  rw [if_neg (fun w => w e4)]
  cases a1 : h.grants.any (fun g => decide (folderAt h.folders g.folder < 0)) with
  | true =>
    rw [if_pos rfl]
    rw [a1] at hG
    simp only [Bool.true_or, Bool.not_true] at hG
    simp only [↓bD, bL, stps, stpOf, ev, ofConst, loadObj, TI.agg, fieldAddrA, binP, binA, symA, intOp, unA, resA, Option.or, hputs, ↓reduceIte, Nat.reduceEqDiff, Nat.reduceLT, Nat.reduceAdd, fin, List.mapM_cons, List.mapM_nil, scalarN, plainN, hookLooks, looks1, C4_ty, ty23, ty28, Tryz.ntmps5, Tryz.results5, pureF, Cl_hook (hk_C4_12), G_grantCheck, Cl_3 (C := C4) (g := 13) (fn := Tryz.f13) rfl (fnBy_of Tryz.func13 rfl) rfl, Nat.add_assoc, g1, hh, hb, e4, hG, hcQ]
  | false =>
  rw [if_neg (by decide)]
  cases a2 : h.folders.any (fun s => decide (whoOf h.grants s.name = [])) with
  | true =>
    rw [if_pos rfl]
    rw [a1, a2] at hG
    simp only [Bool.or_true, Bool.not_true] at hG
    simp only [↓bD, bL, stps, stpOf, ev, ofConst, loadObj, TI.agg, fieldAddrA, binP, binA, symA, intOp, unA, resA, Option.or, hputs, ↓reduceIte, Nat.reduceEqDiff, Nat.reduceLT, Nat.reduceAdd, fin, List.mapM_cons, List.mapM_nil, scalarN, plainN, hookLooks, looks1, C4_ty, ty23, ty28, Tryz.ntmps5, Tryz.results5, pureF, Cl_hook (hk_C4_12), G_grantCheck, Cl_3 (C := C4) (g := 13) (fn := Tryz.f13) rfl (fnBy_of Tryz.func13 rfl) rfl, Nat.add_assoc, g1, hh, hb, e4, hG, hcQ]
  | false =>
  rw [if_neg (by decide)]
  rw [a1, a2] at hG
  simp only [Bool.or_false, Bool.not_false] at hG
  simp only [↓bD, bL, stps, stpOf, ev, ofConst, loadObj, TI.agg, fieldAddrA, binP, binA, symA, intOp, unA, resA, Option.or, hputs, ↓reduceIte, reduceCtorEq, Nat.reduceEqDiff, Nat.reduceLT, Nat.reduceLeDiff, Nat.reduceAdd, fin, List.mapM_cons, List.mapM_nil, scalarN, plainN, hookLooks, looks1, C4_ty, ty23, ty26, ty28, Tryz.ntmps5, Tryz.results5, pureF, Cl_hook (hk_C4_12), G_grantCheck, Cl_3 (C := C4) (g := 13) (fn := Tryz.f13) rfl (fnBy_of Tryz.func13 rfl) rfl, Cl_hook (hk_C4_14), G_upCheck, Nat.add_assoc, g1, hh, hb, e4, hG, hcu, hcQ]
theorem G_hubCheck (h : Hub) (hf : FitH h) : G3 C4 Tryz.f5 [.agg h.cells] = some (.int .i64 (checkHub h)) := G3_eq (R_hubCheck h hf)
end Go.Ab.Seat
