/- HubChecks returns true for every hub of bounded size, and turns nothing that was there. -/
import Derived.Test.YtnmlmmakheckpaaGreatDoorAb11
import Derived.Test.YtnmlmmakheckpaaGreatDoorAb29
import Derived.Test.YtnmlmmakheckpaaGreatDoorAb32
namespace Go.Ab.Seat
open Go Go.Proofs
/-- hubBegun. -/
def begF : Heap → Nat → Nat → List AV → Option (AV × List (Nat × AObj))
  | _, _, _, [] => some (.bool true, [])
  | _, _, _, _ => none

set_option maxRecDepth 100000 in
theorem beg_ok [Inhabited Val] : HookOk Tryz.prog 4 begF := hook_scalar fun B ρ im st w new bar args vargs look v es hi hh hl hF => by
  unfold begF at hF
  split at hF
  · simp only [Option.some.injEq, Prod.mk.injEq] at hF
    obtain ⟨rfl, rfl⟩ := hF
    obtain rfl := hl.of_nil
    obtain ⟨st, h⟩ := isB_some begun
    obtain ⟨_, _, _, h3⟩ := callN_sound okB mixed 300 4 [] ⟨[], 0, 0⟩ _ _ h
    refine ⟨rfl, _, .bool _, (h3 (by decide) (freeBase (fun _ => none) w) (fun _ => none) (fun _ => none) [] w [] (hi.free fun _ _ q => by cases q) (fun _ _ q => q) (.nil _ _)).mono ?_⟩
    rintro e w' ⟨rv, ρ', im', rfl, hv, hi', _, _, _⟩
    exact ⟨by rw [of_bool hv], hi'.os, hi'.tape, hi'.output, hi'.size, fun k hk _ => hi'.frame k hk fun ⟨s, o, l, h1, _⟩ => by simp [hget] at h1⟩
  · cases hF

noncomputable def CL_hooks : List (Nat × (Heap → Nat → Nat → List AV → Option (AV × List (Nat × AObj)))) := [(4, begF), (5, pureF (G3 C4 Tryz.f5)), (6, pureF (G3 C2 Tryz.f6))]
def CL_modes : List (Nat × Nat) := []
noncomputable def CL : Cfg := { ty := tyBy tyTab, fn := fnBy Tryz.prog, mode := fun f => (look1 CL_modes f).getD 3, hook := fun f => look1 CL_hooks f }
theorem CL_ty : CL.ty = tyBy tyTab := rfl
theorem hk_CL_4 : CL.hook 4 = some (begF) := rfl
theorem hk_CL_5 : CL.hook 5 = some (pureF (G3 C4 Tryz.f5)) := rfl
theorem hk_CL_6 : CL.hook 6 = some (pureF (G3 C2 Tryz.f6)) := rfl
-- CFG CL
set_option maxRecDepth 100000 in
set_option maxHeartbeats 4000000 in
theorem okL [Inhabited Val] : CfgOk Tryz.prog CL := ⟨tok_of rfl tys, fun _ _ _ _ h => (by cases h), fun g fn h => fnBy_ok fnames h, hooks_ok (by
  intro p hp
  simp only [CL_hooks, List.mem_cons, List.not_mem_nil, or_false] at hp
  rcases hp with rfl | rfl | rfl
  · exact ⟨beg_ok, enters_by (by kernel_rfl)⟩
  · exact ⟨g3_hook ok4 mixed (fnBy_of Tryz.func5 rfl) rfl, enters_by (by kernel_rfl)⟩
  · exact ⟨g3_hook ok2 mixed (fnBy_of Tryz.func6 rfl) rfl, enters_by (by kernel_rfl)⟩)⟩
set_option linter.unusedSimpArgs false
set_option maxRecDepth 100000 in
theorem R_law (h : Hub) (hf : FitH h) : Run3 CL Tryz.f3 [.agg h.cells] (.bool true) := by
  refine Run3.mk (fn := Tryz.f3) rfl ?_
  have h1 := G_hubCheck h hf
  have h2 := G_rCheckHub h hf
  have e1 : h.cells.length = 7 := rfl
  have e2 : h.cells.take 7 = h.cells := rfl
  have e3 : ∀ X, h.cells.mapM (fin X 0 false 7) = some h.cells := fun X => rfl
  have e4 : h.cells.all (plainN 7) = true := rfl
  simp only [↓bD, bL, stps, stpOf, ev, getT, setT, ofConst, AV.cells, notBad, loadObj, TI.agg, binP, binA, symA, intOp, resA, padT, List.replicate, Option.or, hputs, ↓reduceIte, Nat.reduceLT, Nat.reduceAdd, Nat.reduceSub, fin, List.mapM_cons, List.mapM_nil, scalarN, plainN, hookLooks, looks1, looks, CL_ty, ty28, Tryz.ntmps3, Tryz.results3, Cl_hook (hk_CL_4), begF, Cl_hook (hk_CL_5), pureF, Cl_hook (hk_CL_6), h1, h2, e1, e2, e3, e4]
  exact (by kernel_rfl : (_ : Bool) = true)
theorem G_law (h : Hub) (hf : FitH h) : G3 CL Tryz.f3 [.agg h.cells] = some (.bool true) := G3_eq (R_law h hf)

set_option maxRecDepth 100000 in
theorem law [Inhabited Val] (h : Hub) (hf : FitH h) (v : Value) (w : World) (hv : VRel (fun _ => none) (imAll w) (.agg h.cells) v) : Calls Tryz.prog 3 #[v] w fun e w' => e = .returned (.bool true) ∧ w.grownBy w' none := by
  have e3 : ∀ X, h.cells.mapM (fin X 0 false 7) = some h.cells := fun X => rfl
  have e4 : h.cells.all (plainN 7) = true := rfl
  refine (g3_hook okL mixed (fnBy_of Tryz.func3 rfl) rfl (freeBase (imAll w) w) (fun _ => none) (imAll w) ⟨[], 1, 0⟩ w 0 [.agg h.cells] [v] [] (.bool true) [] (Inv.start (imAll w) w fun _ _ q => q) rfl (by decide) (fun _ _ q => q) (.cons hv (.nil _ _))
    (by simp only [pureF, List.mapM_cons, List.mapM_nil, fin, Option.pure_def, Option.bind_eq_bind, Option.bind_some, e3, Option.map_some, G_law h hf]; rfl)).mono ?_
  rintro e w' ⟨rv, ρ', im', rfl, hv', hi, _, _, _⟩
  exact ⟨by rw [of_bool hv'], hi.os, hi.tape, hi.output, hi.size, fun k hk _ => hi.frame k hk fun ⟨s, o, l, h1, _⟩ => by simp [hget] at h1⟩

theorem HubB.fit {h : Hub} (hb : HubB 1048576 h) : FitH h := by
  obtain ⟨⟨h1, h2⟩, ⟨h3, h4⟩, h5, h6⟩ := hb
  have up : ∀ {n : Nat}, n ≤ 1048576 → n ≤ 1099511627776 := fun q => Nat.le_trans q (by omega)
  refine ⟨up h1, fun s hs => ?_, up h3, fun g hg => ⟨up (h4 g hg).1, up (h4 g hg).2⟩, fun s hs => ⟨up (h6 s hs).1, up (h6 s hs).2⟩, up h5⟩
  obtain ⟨k1, ⟨k2, k3⟩, k4, k5⟩ := h2 s hs
  exact ⟨up k1, ⟨⟨up k2, fun x hx => up (k3 x hx).1⟩, up k4, fun c hc => ⟨⟨up (k5 c hc).2.1, fun x hx => ⟨up ((k5 c hc).2.2 x hx).1, up ((k5 c hc).2.2 x hx).2.1, up ((k5 c hc).2.2 x hx).2.2⟩⟩, up (k5 c hc).1⟩⟩⟩
end Go.Ab.Seat
