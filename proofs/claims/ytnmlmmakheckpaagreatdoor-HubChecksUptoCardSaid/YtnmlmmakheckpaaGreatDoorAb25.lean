/- slices.Clone of entries that are only looked at. -/
import Derived.Test.YtnmlmmakheckpaaGreatDoorAb11
import Derived.Test.YtnmlmmakheckpaaGreatDoorAb16
import Derived.Test.YtnmlmmakheckpaaGreatDoorAb09
import Derived.Test.YtnmlmmakheckpaaGreatDoorAb20
import Derived.Test.YtnmlmmakheckpaaGreatDoorAb24
import Derived.Test.YtnmlmmakheckpaaGreatDoorAb21
namespace Go.Ab.Seat
open Go Go.Proofs
noncomputable def CK_hooks : List (Nat × (Heap → Nat → Nat → List AV → Option (AV × List (Nat × AObj)))) := []
def CK_modes : List (Nat × Nat) := []
noncomputable def CK : Cfg := { ty := tyBy tyTab, fn := fnBy Tryz.prog, mode := fun f => (look1 CK_modes f).getD 3, hook := fun f => look1 CK_hooks f }
theorem CK_ty : CK.ty = tyBy tyTab := rfl
-- CFG CK
set_option linter.unusedSimpArgs false
set_option linter.unusedVariables false
set_option maxHeartbeats 1000000
set_option maxRecDepth 100000

theorem isNilConst_nil : isNilConst (Operand.const (Value.slice none 0 0)) = true := rfl
theorem surelySome_cons (b : Bool) (a : List AV) (l : List (List AV)) : surelySome (.rows b (a :: l)) = true := rfl
theorem chunksE (t : List Entry) : chunks 4 t.length (t.map Entry.cells).flatten = t.map Entry.cells := by
  induction t with
  | nil => rfl
  | cons a t ih => rw [List.length_cons, List.map_cons, List.flatten_cons, chunks, Entry.cells_eq]; simp [ih]

theorem R_cloneK (b : Bool) (x : Entry) (t : List Entry) (ht : (x :: t).length ≤ 549755813888) : Run3 CK Tryz.f55 [.rows b ((x :: t).map Entry.cells)] (.rows false ((x :: t).map Entry.cells)) := by
  refine Run3.mk (fn := Tryz.f55) rfl ?_
  have h1 : ((t.map Entry.cells).all fun x => decide (x.length = 4)) = true := by simp [Entry.cells_eq]
  have h2 : ((t.map Entry.cells).flatten).all AV.one = true := by
    rw [← List.flatMap_def]
    rw [List.all_eq_true]
    intro y hy
    obtain ⟨e, _, h⟩ := List.mem_flatMap.1 hy
    rw [Entry.cells_eq] at h
    simp only [List.mem_cons, List.not_mem_nil, or_false] at h
    rcases h with rfl | rfl | rfl | rfl <;> rfl
  rw [List.length_cons] at ht
  have h3 : (t.length + 1) * 48 ≤ 140737488355328 := by omega
  have h4 : t.length + 1 ≤ 9223372036854775807 := by omega
  have h5 := chunksE t
  simp only [↓bD, bL, stps, stpOf, ev, getT, setT, ofConst, AV.one, binP, binA, symA, eqOp, elemTI, resA, padT, List.replicate, Option.or, hputs, ↓reduceIte, reduceCtorEq, Nat.reduceLT, Nat.reduceAdd, Nat.reduceSub, buildSliceA, appendA, elemsOf, CK_ty, ty35, ty107, Tryz.ntmps55, Tryz.results55, beqD, isNilConst_nil, surelySome_cons, TI.isSlice, h1, h2, h3, h4]
  rw [List.flatMap_def.symm]
  exact fin_ownR (w := 4) (f := Entry.cells) (fun _ => rfl) finOk_entry (b := 0) (c := 6) (l := x :: t) (.inr ⟨List.cons_ne_nil _ _, 5, rfl, Nat.zero_le _, by omega, by rw [hget_hput, if_pos rfl, List.flatMap_cons]; rfl⟩) 6
theorem G_cloneK (b : Bool) (x : Entry) (t : List Entry) (ht : (x :: t).length ≤ 549755813888) : G3 CK Tryz.f55 [.rows b ((x :: t).map Entry.cells)] = some (.rows false ((x :: t).map Entry.cells)) := G3_eq (R_cloneK b x t ht)

theorem okK [Inhabited Val] : CfgOk Tryz.prog CK := ⟨tok_of rfl tys, fun _ _ _ _ h => (by cases h), fun g fn h => fnBy_ok fnames h, hooks_ok (by
  intro p hp
  simp only [CK_hooks, List.not_mem_nil] at hp)⟩

def cloneG : List AV → Option AV
  | [.rows b l] => (l.mapM entryOf).bind fun t => match t with
    | [] => none
    | x :: t => if (x :: t).length ≤ 549755813888 then some (.rows false l) else none
  | _ => none

theorem cloneG_run (pargs : List AV) (r : AV) (h : cloneG pargs = some r) : Run3 CK Tryz.f55 pargs r := by
  unfold cloneG at h
  split at h
  · rename_i b l
    simp only [Option.bind_eq_some_iff] at h
    obtain ⟨t, h1, h2⟩ := h
    obtain rfl := entryOf_inv l t h1
    cases t with
    | nil => cases h2
    | cons x t =>
      simp only at h2
      split at h2
      · rename_i hle
        simp only [Option.some.injEq] at h2
        subst h2
        exact R_cloneK b x t hle
      · cases h2
  · cases h

theorem cloneP_inv {look : Heap} {bar new : Nat} {args : List AV} {v : AV} {es : List (Nat × AObj)} (h : cloneP look bar new args = some (v, es)) :
    ∃ (b : Bool) (t : List Entry), args = [.rows b (t.map Entry.cells)] ∧ t.length ≤ 549755813888 ∧ v = .rows false (t.map Entry.cells) ∧ es = [] := by
  unfold cloneP at h
  split at h
  · rename_i b l
    simp only [Option.bind_eq_some_iff] at h
    obtain ⟨t, h1, h2⟩ := h
    split at h2
    · rename_i hle
      simp only [Option.some.injEq, Prod.mk.injEq] at h2
      obtain ⟨rfl, rfl⟩ := h2
      obtain rfl := entryOf_inv l t h1
      exact ⟨b, t, rfl, hle, rfl, rfl⟩
    · cases h2
  · cases h

theorem orel_none [Inhabited Val] {ρ : Rho} {im : Im} {w : World} {s : Nat} {o : AObj} (h : ORel ρ im w s o) (hn : ρ s = none) : o = .dead := by
  cases o with
  | dead => rfl
  | cells cs => simp only [ORel, hn] at h
  | map es => obtain ⟨loc, h1, _⟩ := h; rw [hn] at h1; cases h1
  | iter l p => obtain ⟨loc, h1, _⟩ := h; rw [hn] at h1; cases h1

theorem cloneP_ok [Inhabited Val] : HookOk Tryz.prog 55 cloneP := by
  intro B ρ im st w new args vargs look v es hi hn hc hsub hl hF
  obtain ⟨b, t, rfl, hle, rfl, rfl⟩ := cloneP_inv hF
  cases t with
  | nil =>
    have hcl := cloneE_ok B ρ im st w new _ vargs look (.osl 4 new 0 0 0) [(new, .cells [])] hi hn hc hsub hl (clone_E [] (by simp) b look st.bar new)
    refine hcl.mono ?_
    rintro e w' ⟨rv, ρ', im', rfl, hv, hinv, hext, hiext, hoth⟩
    refine ⟨rv, ρ', im', rfl, ?_, ?_, hext, hiext, hoth⟩
    · cases hv with
      | osl _ _ _ _ _ lo a cap hρ hcc k2 k3 k4 => exact .rows false [] a 0 cap 0 (fun _ _ => default) rfl (by simp) (Nat.zero_le _) (by simp) (fun q => absurd rfl q) (fun i j => by simpa using VRel.bad _)
    · have hk := hinv.kill new
      refine hk.part (hp := st.h) fun s o ho => ?_
      simp only [hputs, hget_hput]
      split
      · rename_i e
        subst e
        rw [orel_none (hi.obj _ o ho) hn]
      · rename_i e
        first | exact ho | (rw [if_neg e]; exact ho)
  | cons x t =>
    have hg : ∀ b, cloneG [.rows b ((x :: t).map Entry.cells)] = some (.rows false ((x :: t).map Entry.cells)) := fun b => by
      unfold cloneG; simp only [entryOf_map, Option.bind_some, if_pos hle]
    refine pure_hook okK mixed (fnBy_of Tryz.func55 rfl) rfl cloneG_run B ρ im st w new _ vargs look _ _ hi hn hc hsub hl ?_
    simp only [pureF, List.mapM_cons, List.mapM_nil, fin, Option.pure_def, Option.bind_eq_bind, Option.bind_some, hg]
    rfl
end Go.Ab.Seat
/- The configurations C2, C3, C4 stand. -/
namespace Go.Ab.Seat
open Go Go.Proofs
theorem insE_ok [Inhabited Val] : HookOk Tryz.prog 145 (insH CT 107) := insE_hook rfl tokT
set_option maxRecDepth 100000 in
set_option maxHeartbeats 4000000 in
theorem ok2 [Inhabited Val] : CfgOk Tryz.prog C2 := ⟨tok_of rfl tys, fun _ _ _ _ h => (by cases h), fun g fn h => fnBy_ok fnames h, hooks_ok (by
  intro p hp
  simp only [C2_hooks, List.mem_cons, List.not_mem_nil, or_false] at hp
  rcases hp with rfl | rfl | rfl | rfl | rfl | rfl | rfl | rfl | rfl | rfl | rfl | rfl | rfl | rfl | rfl | rfl | rfl | rfl | rfl | rfl | rfl | rfl | rfl | rfl | rfl | rfl | rfl | rfl | rfl | rfl | rfl | rfl | rfl | rfl | rfl | rfl | rfl | rfl | rfl | rfl | rfl | rfl | rfl | rfl | rfl | rfl | rfl | rfl | rfl | rfl | rfl | rfl | rfl | rfl | rfl | rfl | rfl | rfl | rfl | rfl | rfl | rfl | rfl
  · exact ⟨g3_hook ok1 mixed (fnBy_of Tryz.func10 rfl) rfl, enters_by (by kernel_rfl)⟩
  · exact ⟨g3_hook ok1 mixed (fnBy_of Tryz.func12 rfl) rfl, enters_by (by kernel_rfl)⟩
  · exact ⟨g3_hook ok1 mixed (fnBy_of Tryz.func14 rfl) rfl, enters_by (by kernel_rfl)⟩
  · exact ⟨g3_hook ok1 mixed (fnBy_of Tryz.func15 rfl) rfl, enters_by (by kernel_rfl)⟩
  · exact ⟨g3_hook ok1 mixed (fnBy_of Tryz.func17 rfl) rfl, enters_by (by kernel_rfl)⟩
  · exact ⟨g3_hook ok1 mixed (fnBy_of Tryz.func18 rfl) rfl, enters_by (by kernel_rfl)⟩
  · exact ⟨g3_hook ok1 mixed (fnBy_of Tryz.func19 rfl) rfl, enters_by (by kernel_rfl)⟩
  · exact ⟨g3_hook ok1 mixed (fnBy_of Tryz.func20 rfl) rfl, enters_by (by kernel_rfl)⟩
  · exact ⟨g3_hook ok1 mixed (fnBy_of Tryz.func25 rfl) rfl, enters_by (by kernel_rfl)⟩
  · exact ⟨g3_hook ok1 mixed (fnBy_of Tryz.func26 rfl) rfl, enters_by (by kernel_rfl)⟩
  · exact ⟨g3_hook ok1 mixed (fnBy_of Tryz.func28 rfl) rfl, enters_by (by kernel_rfl)⟩
  · exact ⟨g3_hook ok1 mixed (fnBy_of Tryz.func29 rfl) rfl, enters_by (by kernel_rfl)⟩
  · exact ⟨g3_hook ok1 mixed (fnBy_of Tryz.func30 rfl) rfl, enters_by (by kernel_rfl)⟩
  · exact ⟨g3_hook ok1 mixed (fnBy_of Tryz.func31 rfl) rfl, enters_by (by kernel_rfl)⟩
  · exact ⟨g3_hook ok1 mixed (fnBy_of Tryz.func32 rfl) rfl, enters_by (by kernel_rfl)⟩
  · exact ⟨g3_hook ok1 mixed (fnBy_of Tryz.func33 rfl) rfl, enters_by (by kernel_rfl)⟩
  · exact ⟨g3_hook ok1 mixed (fnBy_of Tryz.func35 rfl) rfl, enters_by (by kernel_rfl)⟩
  · exact ⟨g3_hook ok1 mixed (fnBy_of Tryz.func36 rfl) rfl, enters_by (by kernel_rfl)⟩
  · exact ⟨g3_hook ok1 mixed (fnBy_of Tryz.func37 rfl) rfl, enters_by (by kernel_rfl)⟩
  · exact ⟨cloneG_ok, enters_by (by kernel_rfl)⟩
  · exact ⟨cloneS_ok, enters_by (by kernel_rfl)⟩
  · exact ⟨g3_hook ok1 mixed (fnBy_of Tryz.func54 rfl) rfl, enters_by (by kernel_rfl)⟩
  · exact ⟨cloneE_ok, enters_by (by kernel_rfl)⟩
  · exact ⟨idx_ok, enters_by (by kernel_rfl)⟩
  · exact ⟨g3_hook ok1 mixed (fnBy_of Tryz.func57 rfl) rfl, enters_by (by kernel_rfl)⟩
  · exact ⟨g3_hook ok1 mixed (fnBy_of Tryz.func60 rfl) rfl, enters_by (by kernel_rfl)⟩
  · exact ⟨g3_hook ok1 mixed (fnBy_of Tryz.func61 rfl) rfl, enters_by (by kernel_rfl)⟩
  · exact ⟨g3_hook ok1 mixed (fnBy_of Tryz.func62 rfl) rfl, enters_by (by kernel_rfl)⟩
  · exact ⟨g3_hook ok1 mixed (fnBy_of Tryz.func63 rfl) rfl, enters_by (by kernel_rfl)⟩
  · exact ⟨g3_hook ok1 mixed (fnBy_of Tryz.func64 rfl) rfl, enters_by (by kernel_rfl)⟩
  · exact ⟨g3_hook ok1 mixed (fnBy_of Tryz.func65 rfl) rfl, enters_by (by kernel_rfl)⟩
  · exact ⟨g3_hook ok1 mixed (fnBy_of Tryz.func78 rfl) rfl, enters_by (by kernel_rfl)⟩
  · exact ⟨g3_hook ok1 mixed (fnBy_of Tryz.func80 rfl) rfl, enters_by (by kernel_rfl)⟩
  · exact ⟨g3_hook ok1 mixed (fnBy_of Tryz.func84 rfl) rfl, enters_by (by kernel_rfl)⟩
  · exact ⟨g3_hook ok1 mixed (fnBy_of Tryz.func86 rfl) rfl, enters_by (by kernel_rfl)⟩
  · exact ⟨g3_hook ok1 mixed (fnBy_of Tryz.func87 rfl) rfl, enters_by (by kernel_rfl)⟩
  · exact ⟨g3_hook ok1 mixed (fnBy_of Tryz.func88 rfl) rfl, enters_by (by kernel_rfl)⟩
  · exact ⟨g3_hook ok1 mixed (fnBy_of Tryz.func89 rfl) rfl, enters_by (by kernel_rfl)⟩
  · exact ⟨g3_hook ok1 mixed (fnBy_of Tryz.func106 rfl) rfl, enters_by (by kernel_rfl)⟩
  · exact ⟨g3_hook ok1 mixed (fnBy_of Tryz.func108 rfl) rfl, enters_by (by kernel_rfl)⟩
  · exact ⟨frz_hook ok1 mixed (fnBy_of Tryz.func111 rfl) rfl, enters_by (by kernel_rfl)⟩
  · exact ⟨g3_hook ok1 mixed (fnBy_of Tryz.func112 rfl) rfl, enters_by (by kernel_rfl)⟩
  · exact ⟨g3_hook ok1 mixed (fnBy_of Tryz.func113 rfl) rfl, enters_by (by kernel_rfl)⟩
  · exact ⟨g3_hook ok1 mixed (fnBy_of Tryz.func114 rfl) rfl, enters_by (by kernel_rfl)⟩
  · exact ⟨g3_hook ok1 mixed (fnBy_of Tryz.func115 rfl) rfl, enters_by (by kernel_rfl)⟩
  · exact ⟨g3_hook ok1 mixed (fnBy_of Tryz.func116 rfl) rfl, enters_by (by kernel_rfl)⟩
  · exact ⟨frz_hook ok1 mixed (fnBy_of Tryz.func117 rfl) rfl, enters_by (by kernel_rfl)⟩
  · exact ⟨g3_hook ok1 mixed (fnBy_of Tryz.func125 rfl) rfl, enters_by (by kernel_rfl)⟩
  · exact ⟨g3_hook ok1 mixed (fnBy_of Tryz.func126 rfl) rfl, enters_by (by kernel_rfl)⟩
  · exact ⟨g3_hook ok1 mixed (fnBy_of Tryz.func127 rfl) rfl, enters_by (by kernel_rfl)⟩
  · exact ⟨g3_hook ok1 mixed (fnBy_of Tryz.func128 rfl) rfl, enters_by (by kernel_rfl)⟩
  · exact ⟨g3_hook ok1 mixed (fnBy_of Tryz.func129 rfl) rfl, enters_by (by kernel_rfl)⟩
  · exact ⟨g3_hook ok1 mixed (fnBy_of Tryz.func134 rfl) rfl, enters_by (by kernel_rfl)⟩
  · exact ⟨g3_hook ok1 mixed (fnBy_of Tryz.func139 rfl) rfl, enters_by (by kernel_rfl)⟩
  · exact ⟨check_ok, enters_by (by kernel_rfl)⟩
  · exact ⟨g3_hook ok1 mixed (fnBy_of Tryz.func141 rfl) rfl, enters_by (by kernel_rfl)⟩
  · exact ⟨g3_hook ok1 mixed (fnBy_of Tryz.func142 rfl) rfl, enters_by (by kernel_rfl)⟩
  · exact ⟨g3_hook ok1 mixed (fnBy_of Tryz.func143 rfl) rfl, enters_by (by kernel_rfl)⟩
  · exact ⟨g3_hook ok1 mixed (fnBy_of Tryz.func148 rfl) rfl, enters_by (by kernel_rfl)⟩
  · exact ⟨g3_hook ok1 mixed (fnBy_of Tryz.func150 rfl) rfl, enters_by (by kernel_rfl)⟩
  · exact ⟨g3_hook ok1 mixed (fnBy_of Tryz.func152 rfl) rfl, enters_by (by kernel_rfl)⟩
  · exact ⟨cnt_ok, enters_by (by kernel_rfl)⟩
  · exact ⟨g3_hook ok1 mixed (fnBy_of Tryz.func157 rfl) rfl, enters_by (by kernel_rfl)⟩)⟩
set_option maxRecDepth 100000 in
set_option maxHeartbeats 4000000 in
theorem ok3 [Inhabited Val] : CfgOk Tryz.prog C3 := ⟨tok_of rfl tys, fun _ _ _ _ h => (by cases h), fun g fn h => fnBy_ok fnames h, hooks_ok (by
  intro p hp
  simp only [C3_hooks, List.mem_cons, List.not_mem_nil, or_false] at hp
  rcases hp with rfl | rfl | rfl | rfl | rfl | rfl | rfl | rfl | rfl | rfl | rfl | rfl | rfl | rfl | rfl | rfl | rfl | rfl | rfl | rfl | rfl | rfl | rfl | rfl | rfl | rfl | rfl | rfl | rfl | rfl | rfl | rfl | rfl | rfl | rfl | rfl | rfl | rfl | rfl | rfl | rfl | rfl | rfl | rfl | rfl | rfl | rfl | rfl | rfl | rfl | rfl | rfl | rfl | rfl | rfl | rfl | rfl | rfl | rfl | rfl | rfl | rfl | rfl | rfl
  · exact ⟨g3_hook ok1 mixed (fnBy_of Tryz.func10 rfl) rfl, enters_by (by kernel_rfl)⟩
  · exact ⟨g3_hook ok1 mixed (fnBy_of Tryz.func12 rfl) rfl, enters_by (by kernel_rfl)⟩
  · exact ⟨g3_hook ok1 mixed (fnBy_of Tryz.func14 rfl) rfl, enters_by (by kernel_rfl)⟩
  · exact ⟨g3_hook ok1 mixed (fnBy_of Tryz.func15 rfl) rfl, enters_by (by kernel_rfl)⟩
  · exact ⟨g3_hook ok1 mixed (fnBy_of Tryz.func17 rfl) rfl, enters_by (by kernel_rfl)⟩
  · exact ⟨g3_hook ok1 mixed (fnBy_of Tryz.func18 rfl) rfl, enters_by (by kernel_rfl)⟩
  · exact ⟨g3_hook ok1 mixed (fnBy_of Tryz.func19 rfl) rfl, enters_by (by kernel_rfl)⟩
  · exact ⟨g3_hook ok1 mixed (fnBy_of Tryz.func20 rfl) rfl, enters_by (by kernel_rfl)⟩
  · exact ⟨g3_hook ok1 mixed (fnBy_of Tryz.func25 rfl) rfl, enters_by (by kernel_rfl)⟩
  · exact ⟨g3_hook ok1 mixed (fnBy_of Tryz.func26 rfl) rfl, enters_by (by kernel_rfl)⟩
  · exact ⟨g3_hook ok1 mixed (fnBy_of Tryz.func28 rfl) rfl, enters_by (by kernel_rfl)⟩
  · exact ⟨g3_hook ok1 mixed (fnBy_of Tryz.func29 rfl) rfl, enters_by (by kernel_rfl)⟩
  · exact ⟨g3_hook ok1 mixed (fnBy_of Tryz.func30 rfl) rfl, enters_by (by kernel_rfl)⟩
  · exact ⟨g3_hook ok1 mixed (fnBy_of Tryz.func31 rfl) rfl, enters_by (by kernel_rfl)⟩
  · exact ⟨g3_hook ok1 mixed (fnBy_of Tryz.func32 rfl) rfl, enters_by (by kernel_rfl)⟩
  · exact ⟨g3_hook ok1 mixed (fnBy_of Tryz.func33 rfl) rfl, enters_by (by kernel_rfl)⟩
  · exact ⟨g3_hook ok1 mixed (fnBy_of Tryz.func35 rfl) rfl, enters_by (by kernel_rfl)⟩
  · exact ⟨g3_hook ok1 mixed (fnBy_of Tryz.func36 rfl) rfl, enters_by (by kernel_rfl)⟩
  · exact ⟨g3_hook ok1 mixed (fnBy_of Tryz.func37 rfl) rfl, enters_by (by kernel_rfl)⟩
  · exact ⟨cloneG_ok, enters_by (by kernel_rfl)⟩
  · exact ⟨cloneS_ok, enters_by (by kernel_rfl)⟩
  · exact ⟨g3_hook ok1 mixed (fnBy_of Tryz.func54 rfl) rfl, enters_by (by kernel_rfl)⟩
  · exact ⟨cloneE_ok, enters_by (by kernel_rfl)⟩
  · exact ⟨idx_ok, enters_by (by kernel_rfl)⟩
  · exact ⟨g3_hook ok1 mixed (fnBy_of Tryz.func57 rfl) rfl, enters_by (by kernel_rfl)⟩
  · exact ⟨g3_hook ok1 mixed (fnBy_of Tryz.func60 rfl) rfl, enters_by (by kernel_rfl)⟩
  · exact ⟨g3_hook ok1 mixed (fnBy_of Tryz.func61 rfl) rfl, enters_by (by kernel_rfl)⟩
  · exact ⟨g3_hook ok1 mixed (fnBy_of Tryz.func62 rfl) rfl, enters_by (by kernel_rfl)⟩
  · exact ⟨g3_hook ok1 mixed (fnBy_of Tryz.func63 rfl) rfl, enters_by (by kernel_rfl)⟩
  · exact ⟨g3_hook ok1 mixed (fnBy_of Tryz.func64 rfl) rfl, enters_by (by kernel_rfl)⟩
  · exact ⟨g3_hook ok1 mixed (fnBy_of Tryz.func65 rfl) rfl, enters_by (by kernel_rfl)⟩
  · exact ⟨g3_hook ok1 mixed (fnBy_of Tryz.func78 rfl) rfl, enters_by (by kernel_rfl)⟩
  · exact ⟨g3_hook ok1 mixed (fnBy_of Tryz.func80 rfl) rfl, enters_by (by kernel_rfl)⟩
  · exact ⟨g3_hook ok1 mixed (fnBy_of Tryz.func84 rfl) rfl, enters_by (by kernel_rfl)⟩
  · exact ⟨g3_hook ok1 mixed (fnBy_of Tryz.func86 rfl) rfl, enters_by (by kernel_rfl)⟩
  · exact ⟨g3_hook ok1 mixed (fnBy_of Tryz.func87 rfl) rfl, enters_by (by kernel_rfl)⟩
  · exact ⟨g3_hook ok1 mixed (fnBy_of Tryz.func88 rfl) rfl, enters_by (by kernel_rfl)⟩
  · exact ⟨g3_hook ok1 mixed (fnBy_of Tryz.func89 rfl) rfl, enters_by (by kernel_rfl)⟩
  · exact ⟨g3_hook ok1 mixed (fnBy_of Tryz.func106 rfl) rfl, enters_by (by kernel_rfl)⟩
  · exact ⟨g3_hook ok1 mixed (fnBy_of Tryz.func108 rfl) rfl, enters_by (by kernel_rfl)⟩
  · exact ⟨g3_hook ok1 mixed (fnBy_of Tryz.func111 rfl) rfl, enters_by (by kernel_rfl)⟩
  · exact ⟨g3_hook ok1 mixed (fnBy_of Tryz.func112 rfl) rfl, enters_by (by kernel_rfl)⟩
  · exact ⟨g3_hook ok1 mixed (fnBy_of Tryz.func113 rfl) rfl, enters_by (by kernel_rfl)⟩
  · exact ⟨g3_hook ok1 mixed (fnBy_of Tryz.func114 rfl) rfl, enters_by (by kernel_rfl)⟩
  · exact ⟨g3_hook ok1 mixed (fnBy_of Tryz.func115 rfl) rfl, enters_by (by kernel_rfl)⟩
  · exact ⟨g3_hook ok1 mixed (fnBy_of Tryz.func116 rfl) rfl, enters_by (by kernel_rfl)⟩
  · exact ⟨g3_hook ok1 mixed (fnBy_of Tryz.func117 rfl) rfl, enters_by (by kernel_rfl)⟩
  · exact ⟨g3_hook ok1 mixed (fnBy_of Tryz.func125 rfl) rfl, enters_by (by kernel_rfl)⟩
  · exact ⟨g3_hook ok1 mixed (fnBy_of Tryz.func126 rfl) rfl, enters_by (by kernel_rfl)⟩
  · exact ⟨g3_hook ok1 mixed (fnBy_of Tryz.func127 rfl) rfl, enters_by (by kernel_rfl)⟩
  · exact ⟨g3_hook ok1 mixed (fnBy_of Tryz.func128 rfl) rfl, enters_by (by kernel_rfl)⟩
  · exact ⟨g3_hook ok1 mixed (fnBy_of Tryz.func129 rfl) rfl, enters_by (by kernel_rfl)⟩
  · exact ⟨g3_hook ok1 mixed (fnBy_of Tryz.func134 rfl) rfl, enters_by (by kernel_rfl)⟩
  · exact ⟨g3_hook ok1 mixed (fnBy_of Tryz.func139 rfl) rfl, enters_by (by kernel_rfl)⟩
  · exact ⟨check_ok, enters_by (by kernel_rfl)⟩
  · exact ⟨g3_hook ok1 mixed (fnBy_of Tryz.func141 rfl) rfl, enters_by (by kernel_rfl)⟩
  · exact ⟨g3_hook ok1 mixed (fnBy_of Tryz.func142 rfl) rfl, enters_by (by kernel_rfl)⟩
  · exact ⟨g3_hook ok1 mixed (fnBy_of Tryz.func143 rfl) rfl, enters_by (by kernel_rfl)⟩
  · exact ⟨insE_ok, enters_by (by kernel_rfl)⟩
  · exact ⟨g3_hook ok1 mixed (fnBy_of Tryz.func148 rfl) rfl, enters_by (by kernel_rfl)⟩
  · exact ⟨g3_hook ok1 mixed (fnBy_of Tryz.func150 rfl) rfl, enters_by (by kernel_rfl)⟩
  · exact ⟨g3_hook ok1 mixed (fnBy_of Tryz.func152 rfl) rfl, enters_by (by kernel_rfl)⟩
  · exact ⟨cnt_ok, enters_by (by kernel_rfl)⟩
  · exact ⟨g3_hook ok1 mixed (fnBy_of Tryz.func157 rfl) rfl, enters_by (by kernel_rfl)⟩)⟩
set_option maxRecDepth 100000 in
set_option maxHeartbeats 4000000 in
theorem ok4 [Inhabited Val] : CfgOk Tryz.prog C4 := ⟨tok_of rfl tys, fun _ _ _ _ h => (by cases h), fun g fn h => fnBy_ok fnames h, hooks_ok (by
  intro p hp
  simp only [C4_hooks, List.mem_cons, List.not_mem_nil, or_false] at hp
  rcases hp with rfl | rfl | rfl | rfl | rfl | rfl | rfl | rfl | rfl | rfl | rfl | rfl | rfl | rfl | rfl | rfl | rfl | rfl | rfl | rfl | rfl | rfl | rfl | rfl | rfl | rfl | rfl | rfl | rfl | rfl | rfl | rfl | rfl | rfl | rfl | rfl | rfl | rfl | rfl | rfl | rfl | rfl | rfl | rfl | rfl | rfl | rfl | rfl | rfl | rfl | rfl | rfl | rfl | rfl | rfl | rfl | rfl | rfl | rfl | rfl | rfl | rfl | rfl | rfl | rfl | rfl
  · exact ⟨g3_hook ok1 mixed (fnBy_of Tryz.func10 rfl) rfl, enters_by (by kernel_rfl)⟩
  · exact ⟨g3_hook ok1 mixed (fnBy_of Tryz.func12 rfl) rfl, enters_by (by kernel_rfl)⟩
  · exact ⟨g3_hook ok1 mixed (fnBy_of Tryz.func14 rfl) rfl, enters_by (by kernel_rfl)⟩
  · exact ⟨g3_hook ok1 mixed (fnBy_of Tryz.func15 rfl) rfl, enters_by (by kernel_rfl)⟩
  · exact ⟨g3_hook ok1 mixed (fnBy_of Tryz.func17 rfl) rfl, enters_by (by kernel_rfl)⟩
  · exact ⟨g3_hook ok1 mixed (fnBy_of Tryz.func18 rfl) rfl, enters_by (by kernel_rfl)⟩
  · exact ⟨g3_hook ok1 mixed (fnBy_of Tryz.func19 rfl) rfl, enters_by (by kernel_rfl)⟩
  · exact ⟨g3_hook ok1 mixed (fnBy_of Tryz.func20 rfl) rfl, enters_by (by kernel_rfl)⟩
  · exact ⟨g3_hook ok1 mixed (fnBy_of Tryz.func25 rfl) rfl, enters_by (by kernel_rfl)⟩
  · exact ⟨g3_hook ok1 mixed (fnBy_of Tryz.func26 rfl) rfl, enters_by (by kernel_rfl)⟩
  · exact ⟨g3_hook ok1 mixed (fnBy_of Tryz.func28 rfl) rfl, enters_by (by kernel_rfl)⟩
  · exact ⟨g3_hook ok1 mixed (fnBy_of Tryz.func29 rfl) rfl, enters_by (by kernel_rfl)⟩
  · exact ⟨g3_hook ok1 mixed (fnBy_of Tryz.func30 rfl) rfl, enters_by (by kernel_rfl)⟩
  · exact ⟨g3_hook ok1 mixed (fnBy_of Tryz.func31 rfl) rfl, enters_by (by kernel_rfl)⟩
  · exact ⟨g3_hook ok1 mixed (fnBy_of Tryz.func32 rfl) rfl, enters_by (by kernel_rfl)⟩
  · exact ⟨g3_hook ok1 mixed (fnBy_of Tryz.func33 rfl) rfl, enters_by (by kernel_rfl)⟩
  · exact ⟨g3_hook ok1 mixed (fnBy_of Tryz.func35 rfl) rfl, enters_by (by kernel_rfl)⟩
  · exact ⟨g3_hook ok1 mixed (fnBy_of Tryz.func36 rfl) rfl, enters_by (by kernel_rfl)⟩
  · exact ⟨g3_hook ok1 mixed (fnBy_of Tryz.func37 rfl) rfl, enters_by (by kernel_rfl)⟩
  · exact ⟨cloneG_ok, enters_by (by kernel_rfl)⟩
  · exact ⟨cloneS_ok, enters_by (by kernel_rfl)⟩
  · exact ⟨g3_hook ok1 mixed (fnBy_of Tryz.func54 rfl) rfl, enters_by (by kernel_rfl)⟩
  · exact ⟨cloneP_ok, enters_by (by kernel_rfl)⟩
  · exact ⟨idx_ok, enters_by (by kernel_rfl)⟩
  · exact ⟨g3_hook ok1 mixed (fnBy_of Tryz.func57 rfl) rfl, enters_by (by kernel_rfl)⟩
  · exact ⟨g3_hook ok1 mixed (fnBy_of Tryz.func60 rfl) rfl, enters_by (by kernel_rfl)⟩
  · exact ⟨g3_hook ok1 mixed (fnBy_of Tryz.func61 rfl) rfl, enters_by (by kernel_rfl)⟩
  · exact ⟨g3_hook ok1 mixed (fnBy_of Tryz.func62 rfl) rfl, enters_by (by kernel_rfl)⟩
  · exact ⟨g3_hook ok1 mixed (fnBy_of Tryz.func63 rfl) rfl, enters_by (by kernel_rfl)⟩
  · exact ⟨g3_hook ok1 mixed (fnBy_of Tryz.func64 rfl) rfl, enters_by (by kernel_rfl)⟩
  · exact ⟨g3_hook ok1 mixed (fnBy_of Tryz.func65 rfl) rfl, enters_by (by kernel_rfl)⟩
  · exact ⟨g3_hook ok1 mixed (fnBy_of Tryz.func78 rfl) rfl, enters_by (by kernel_rfl)⟩
  · exact ⟨g3_hook ok1 mixed (fnBy_of Tryz.func80 rfl) rfl, enters_by (by kernel_rfl)⟩
  · exact ⟨g3_hook ok1 mixed (fnBy_of Tryz.func84 rfl) rfl, enters_by (by kernel_rfl)⟩
  · exact ⟨g3_hook ok3 mixed (fnBy_of Tryz.func85 rfl) rfl, enters_by (by kernel_rfl)⟩
  · exact ⟨g3_hook ok1 mixed (fnBy_of Tryz.func86 rfl) rfl, enters_by (by kernel_rfl)⟩
  · exact ⟨g3_hook ok1 mixed (fnBy_of Tryz.func87 rfl) rfl, enters_by (by kernel_rfl)⟩
  · exact ⟨g3_hook ok1 mixed (fnBy_of Tryz.func88 rfl) rfl, enters_by (by kernel_rfl)⟩
  · exact ⟨g3_hook ok1 mixed (fnBy_of Tryz.func89 rfl) rfl, enters_by (by kernel_rfl)⟩
  · exact ⟨g3_hook ok1 mixed (fnBy_of Tryz.func106 rfl) rfl, enters_by (by kernel_rfl)⟩
  · exact ⟨g3_hook ok1 mixed (fnBy_of Tryz.func108 rfl) rfl, enters_by (by kernel_rfl)⟩
  · exact ⟨g3_hook ok3 mixed (fnBy_of Tryz.func109 rfl) rfl, enters_by (by kernel_rfl)⟩
  · exact ⟨g3_hook ok1 mixed (fnBy_of Tryz.func111 rfl) rfl, enters_by (by kernel_rfl)⟩
  · exact ⟨g3_hook ok1 mixed (fnBy_of Tryz.func112 rfl) rfl, enters_by (by kernel_rfl)⟩
  · exact ⟨g3_hook ok1 mixed (fnBy_of Tryz.func113 rfl) rfl, enters_by (by kernel_rfl)⟩
  · exact ⟨g3_hook ok1 mixed (fnBy_of Tryz.func114 rfl) rfl, enters_by (by kernel_rfl)⟩
  · exact ⟨g3_hook ok1 mixed (fnBy_of Tryz.func115 rfl) rfl, enters_by (by kernel_rfl)⟩
  · exact ⟨g3_hook ok1 mixed (fnBy_of Tryz.func116 rfl) rfl, enters_by (by kernel_rfl)⟩
  · exact ⟨g3_hook ok1 mixed (fnBy_of Tryz.func117 rfl) rfl, enters_by (by kernel_rfl)⟩
  · exact ⟨g3_hook ok1 mixed (fnBy_of Tryz.func125 rfl) rfl, enters_by (by kernel_rfl)⟩
  · exact ⟨g3_hook ok1 mixed (fnBy_of Tryz.func126 rfl) rfl, enters_by (by kernel_rfl)⟩
  · exact ⟨g3_hook ok1 mixed (fnBy_of Tryz.func127 rfl) rfl, enters_by (by kernel_rfl)⟩
  · exact ⟨g3_hook ok1 mixed (fnBy_of Tryz.func128 rfl) rfl, enters_by (by kernel_rfl)⟩
  · exact ⟨g3_hook ok1 mixed (fnBy_of Tryz.func129 rfl) rfl, enters_by (by kernel_rfl)⟩
  · exact ⟨g3_hook ok1 mixed (fnBy_of Tryz.func134 rfl) rfl, enters_by (by kernel_rfl)⟩
  · exact ⟨g3_hook ok1 mixed (fnBy_of Tryz.func139 rfl) rfl, enters_by (by kernel_rfl)⟩
  · exact ⟨check_ok, enters_by (by kernel_rfl)⟩
  · exact ⟨g3_hook ok1 mixed (fnBy_of Tryz.func141 rfl) rfl, enters_by (by kernel_rfl)⟩
  · exact ⟨g3_hook ok1 mixed (fnBy_of Tryz.func142 rfl) rfl, enters_by (by kernel_rfl)⟩
  · exact ⟨g3_hook ok1 mixed (fnBy_of Tryz.func143 rfl) rfl, enters_by (by kernel_rfl)⟩
  · exact ⟨insE_ok, enters_by (by kernel_rfl)⟩
  · exact ⟨g3_hook ok1 mixed (fnBy_of Tryz.func148 rfl) rfl, enters_by (by kernel_rfl)⟩
  · exact ⟨g3_hook ok1 mixed (fnBy_of Tryz.func150 rfl) rfl, enters_by (by kernel_rfl)⟩
  · exact ⟨g3_hook ok1 mixed (fnBy_of Tryz.func152 rfl) rfl, enters_by (by kernel_rfl)⟩
  · exact ⟨cnt_ok, enters_by (by kernel_rfl)⟩
  · exact ⟨g3_hook ok1 mixed (fnBy_of Tryz.func157 rfl) rfl, enters_by (by kernel_rfl)⟩)⟩
end Go.Ab.Seat
