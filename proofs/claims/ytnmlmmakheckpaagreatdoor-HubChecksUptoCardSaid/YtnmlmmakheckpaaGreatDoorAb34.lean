/- HubChecks returns true for every hub whose bulk is at most 1048576, and what it is handed reads as before; it lays new memory alone. The card is tied to the program's text. Condition: the bulk of what it reads is at most 1048576. -/
import Derived.Test.YtnmlmmakheckpaaGreatDoorAb33
import Derived.Test.YtnmlmmakheckpaaGreatDoorCards
import Derived.Test.YtnmlmmakheckpaaGreatDoorTie
import Derived.WalkKit
import Derived.ProofKit
import Derived.OpenShut
import Derived.Carry
import Derived.ReadAgain
import Derived.Deep.DeepHandedRow
namespace Go.Proofs.YtnmlmmakheckpaaGreatDoor.fnHubChecks
open Go Go.Proofs Go.ChangeShapes Go.WideShapes Go.ChangeAt Go.RowKit

theorem own : ownKnob Tryz.prog.godebug = none := by kernel_rfl
theorem laidOut : laidOutB Tryz.prog = true := by kernel_rfl
theorem underHub : ∃ fs, Tryz.prog.underlying 28 = some (.struct fs) := by
  have h : (match Tryz.prog.underlying 28 with | some (.struct _) => true | _ => false) = true := by kernel_rfl
  split at h
  · rename_i fs e; exact ⟨fs, e⟩
  · cases h

set_option maxRecDepth 100000 in
theorem open_hub [Inhabited Go.Ab.Val] {H : Type} {enc : TypeId × Value → H} {W : World} {base : Nat} {v : Value} {d : DataW H} {p : List MemPlace} (hv : Value.okWide Tryz.prog W .any base 28 v) (h : DataW.Trod enc Tryz.prog W 0 (fun _ => true) true 28 v d p) :
    ∃ x : Go.Ab.Hub, Go.Ab.VRel (fun _ => none) (Go.Ab.imAll W) (.agg x.cells) v ∧ Go.Ab.Seat.HubB (Rows.uptoBulk d) x := by
  obtain ⟨fs, hu⟩ := underHub
  unfold Value.okWide at hv
  rw [hu] at hv
  obtain ⟨cs, rfl, _, _⟩ := hv
  obtain ⟨fuel, hf⟩ := h
  obtain ⟨x, hx, hb⟩ := Go.Ab.Seat.oHub.op fuel _ _ hf
  refine ⟨x, .agg _ _ (by have := hx.1; simpa [Value.cells] using this) (fun i => ?_), hb⟩
  have := hx.2 i
  simpa [Value.cells] using this

set_option maxRecDepth 100000 in
theorem contract (H : Type) (enc : TypeId × Value → H) (W : World) (base : Nat) (args : Array Value) (ds gs : List (DataW H)) (before : List MemPlace)
    (hval : ∀ (j : Nat) t v, Tryz.f3.params[j]? = some t → args[j]? = some v → Value.okWide Tryz.prog W .any base t v)
    (hW : DataW.Whole enc Tryz.prog Tryz.f3.params.toList Rows.hubChecksSpec.vars false W args.toList ds gs before) (hk : Rows.uptoSmall H (ds ++ gs) = true) :
    Calls Tryz.prog 3 args W fun e W' => ∃ v, e = .returned v ∧ Rows.hubChecksSpec.post enc Tryz.prog Tryz.f3 false true false false W args v W' := by
  have hW' := hW
  obtain ⟨p, q, hA0, hV, rfl, hfz, hnd⟩ := hW
  have hA : DataW.TrodAll enc Tryz.prog W 0 (fun _ => true) true Tryz.f3.params.toList args.toList ds p := hA0
  rw [Tryz.params3] at hA hval
  obtain ⟨v0, d0, p0, rfl, rfl, h0⟩ : ∃ v0 d0 p0, args = #[v0] ∧ ds = [d0] ∧ (DataW.Trod enc Tryz.prog W 0 (fun _ => true) true 28 v0 d0 p0 ∧ p = p0) := by
    obtain ⟨v0, vs0, d0, ds0, p0, q0, hargs, rfl, rfl, h0, r0⟩ := trodAll_cons hA
    obtain ⟨rfl, rfl, rfl⟩ := trodAll_nil r0
    obtain rfl : args = #[v0] := by cases args; simp_all
    exact ⟨v0, d0, p0, rfl, rfl, h0, by simp⟩
  obtain ⟨h0, rfl⟩ := h0
  obtain ⟨rfl, rfl⟩ := trodVars_none hV
  clear hA0
  simp only [List.append_nil] at hW' hk
  letI : Inhabited Go.Ab.Val := ⟨⟨fun _ => 0⟩⟩
  have hv0 := hval 0 28 v0 rfl rfl
  obtain ⟨x, hx, hb⟩ := open_hub hv0 h0
  have hbulk : Rows.uptoBulk d0 ≤ 1048576 := by
    have h1 := of_decide_eq_true hk
    simp only [Rows.uptoBulkAll, Nat.add_zero] at h1
    exact h1
  refine (Go.Ab.Seat.law x (Go.Ab.Seat.HubB.fit (Go.Ab.Seat.HubB.mono _ _ _ hbulk hb)) v0 W hx).mono fun e W' ⟨he, hg⟩ => ?_
  subst he
  have hB : Below W.heap.size W W' := ⟨hg.os, hg.tape, hg.output, hg.size, fun k hk => hg.block k hk (by simp)⟩
  exact ⟨_, rfl, [d0], [], p, [], p, [], hW', trodAll_mk1 (shut_bool Tryz.underlying4 _), trodAll_mk1 (Below.trod laidOut (by kernel_rfl) (of_decide_eq_true (by kernel_rfl)) h0 hB (fun x hx => hW'.lt x hx)), rfl, hB.frame _, fun h => by cases h⟩

def lay (cs : List Nat) : Obj → Obj
  | .cells _ t frozen => .cells (cs.map fun (n : Nat) => Value.int .u8 n).toArray t frozen
  | o => o
/-- A world for the witness: the settled one, with the two tables that the row lists. -/
noncomputable def laidWorld (os : Os) : World :=
  { World.holding Tryz.prog os ⟨#[], #[], []⟩ with heap := ((World.holding Tryz.prog os ⟨#[], #[], []⟩).heap.modify 1 (lay Go.Pinned.utf8FirstZ)).modify 2 (lay ([128, 191, 160, 191, 128, 159, 144, 191, 128, 143] ++ List.replicate 22 0)) }
abbrev hub0 : Value := .agg #[.slice none 0 0, .slice none 0 0, .slice none 0 0, .int .i64 0, .int .i64 0, .int .i64 0, .int .i64 0]
abbrev lit0 {H : Type} : DataW H := .lit (.int .i64 0)
theorem laid_met (os : Os) : laidMet Tryz.prog Rows.hubChecksUptoRow.laid ((laidWorld os).forCall (fun _ _ => 0) ⟨#[], #[hub0], []⟩).memory :=
  laidMet_of_run' 8 (by kernel_rfl) (by kernel_rfl)
theorem reads (os : Os) {H : Type} (enc : TypeId × Value → H) : ∃ places, DataW.whole enc Tryz.prog ((laidWorld os).forCall (fun _ _ => 0) ⟨#[], #[hub0], []⟩).memory Tryz.f3.params.toList Rows.hubChecksSpec.vars false #[hub0].toList 8 = some ([.agg [.nil, .nil, .agg [.nil, lit0, lit0, lit0], lit0]], [], places) :=
  ⟨[], by kernel_rfl⟩

set_option maxRecDepth 100000 in
theorem lifted (os : Os) (started : os.Started) (H : Type) (enc : TypeId × Value → H) (F : Stop.Interp) :
    ReturnsInHanded {} Tryz.checked os 3 .any ((Rows.OpenSpec.upto Rows.hubChecksSpec).preRow enc Tryz.prog Tryz.f3 Rows.hubChecksUptoRow.domain false Rows.hubChecksUptoRow.laid) (((Rows.OpenSpec.upto Rows.hubChecksSpec).at F).post enc Tryz.prog Tryz.f3 false true false false) := by
  obtain ⟨places, hx⟩ := reads os enc
  refine returnsInHanded_of_row (C := Tryz.checked) (s := Rows.OpenSpec.upto Rows.hubChecksSpec) own started (by kernel_rfl) Tryz.func3
    (witness_row_at (enc := enc) (C := Tryz.checked) false (laidWorld os) #[hub0] rfl (by kernel_rfl) (by kernel_rfl) (by kernel_rfl)
      (OpenSpec.preRow_of_cond 8 hx (by kernel_rfl) (fun k hk => by cases hk; kernel_rfl) (by kernel_rfl) (laid_met os))) ?_
  intro W base args ds gs before hval hW _ hcond _ _ _ _
  exact contract H enc W base args ds gs before hval hW (hcond _ rfl)

theorem said : Rows.HubChecksUptoSaid :=
  OpenClaim.holds_of_cond 3 Tryz.f3 rfl rfl rfl rfl rfl rfl rfl ⟨rfl, rfl, rfl, rfl, rfl⟩ rfl rfl rfl rfl rfl (by kernel_rfl) Tryz.func3 (by kernel_rfl)
    (of_decide_eq_true (by kernel_rfl)) (by unfold Func.isWrapper; first | (rw [if_pos (by decide +kernel)]; kernel_rfl) | (rw [if_neg (by decide +kernel)]; exact ⟨rfl, rfl⟩))
    (fun os started H enc _ F => by rw [OpenClaim.pre_eq_preRow]; exact lifted os started H enc F)

theorem plain (f : FuncId) (fn : Func) (hf : Tryz.pinned.checked.prog.funcNamed "tetherpost/tetherpostlaw.HubChecks" = some f) (hfn : Tryz.pinned.checked.prog.funcs[f]? = some fn) :
    false = Tryz.pinned.checked.prog.looks [] ∧ ∀ (j : Nat) t, fn.params[j]? = some t → Tryz.pinned.checked.prog.wantsStandIn t = false := by
  obtain rfl : f = 3 := Option.some.inj ((show Tryz.prog.funcNamed "tetherpost/tetherpostlaw.HubChecks" = some 3 by kernel_rfl).symm.trans hf) |>.symm
  obtain rfl : fn = Tryz.f3 := (Option.some.inj (Tryz.func3.symm.trans hfn)).symm
  refine ⟨by kernel_rfl, fun j t ht => ?_⟩
  rw [Tryz.params3] at ht
  obtain rfl : t = 28 := by simpa using Array.mem_of_getElem? ht
  exact (show Tryz.prog.wantsStandIn 28 = false by kernel_rfl)

theorem card : Rows.HubChecksUptoCardSaid :=
  Claim7.holds_tied_plain_at .later [] _ _ _ _ said (fun _ h => by cases h) (by kernel_rfl) (fun _ h => by cases h) hubChecksUpto_row_tie rfl ⟨rfl, rfl⟩ (by kernel_rfl) rfl plain (by kernel_rfl)
end Go.Proofs.YtnmlmmakheckpaaGreatDoor.fnHubChecks
