/- The seat's contracts, and the law. -/
import Derived.Test.YtneaijbbcbicnaaGreatDoorAbHnRun
import Derived.Test.YtneaijbbcbicnaaGreatDoorAbHnCk
import Derived.Lib.Walk
import Derived.Lib.Strings
namespace Go.Ab
open Go

theorem Inv.start [Inhabited Val] (im : Im) (w : World) (him : ∀ b o, im b = some o → w.heap[b]? = some o) : Inv (freeBase im w) (fun _ => none) im ⟨[], 0, 0⟩ w :=
  ⟨rhoExt_refl _, imExt_refl _, fun _ _ hb _ => hb, him, fun s o ho => by simp [hget] at ho, fun s s' o o' l l' h1 => by simp [hget] at h1, fun _ _ => rfl, Nat.le_refl _, rfl, rfl, rfl, rfl, Nat.le_refl _,
    fun b ⟨s, o, l, h1, _⟩ => by simp [hget] at h1, fun _ _ _ => rfl⟩

/-- A call on values without own blocks. -/
theorem calls_plain [Inhabited Val] {P : Program} {C : Cfg} (ok : CfgOk P C) (hm : P.follows .mixedOrders = true) {n g : Nat} {args : List AV} {r : AV} {st' : St} (hr : callN C n g args ⟨[], 0, 0⟩ = some (r, st')) (hmode : C.mode g ≠ 2) {im : Im} {w : World} (him : ∀ b o, im b = some o → w.heap[b]? = some o) {vargs : List Value}
    (hl : LRel (fun _ => none) im args vargs) : Calls P g vargs.toArray w fun e w' => ∃ rv ρ im', e = .returned rv ∧ VRel ρ im' r rv ∧ w.grownBy w' none := by
  obtain ⟨_, _, _, h⟩ := callN_sound ok hm n g args ⟨[], 0, 0⟩ r st' hr
  refine (h hmode (freeBase im w) (fun _ => none) im [] w vargs (Inv.start im w him) (fun _ _ q => q) hl).mono ?_
  rintro e w' ⟨rv, ρ', im', rfl, hv, hi, _, _, _⟩
  exact ⟨rv, ρ', im', rfl, hv, hi.os, hi.tape, hi.output, hi.size, fun k hk _ => hi.frame k hk fun ⟨s, o, l, h1, _⟩ => by simp [hget] at h1⟩

namespace Hn
open Go.Proofs

theorem isB_some {r : Option (AV × St)} {b : Bool} (h : isB r = some b) : ∃ st, r = some (.bool b, st) := by
  unfold isB at h
  split at h
  · simp only [Option.some.injEq] at h; subst h; exact ⟨_, rfl⟩
  · cases h

theorem isI_some {r : Option (AV × St)} {b : Int} (h : isI r = some b) : ∃ st, r = some (.int .i64 b, st) := by
  unfold isI at h
  split at h
  · simp only [Option.some.injEq] at h; subst h; exact ⟨_, rfl⟩
  · cases h

theorem enters_by [Inhabited Val] {g : Nat} (h : ((Tryz.prog.funcs[g]?).map fun fn => fn.body.isSome) = some true) : ∃ fn, Enters Tryz.prog g fn := by
  obtain ⟨fn, hf, hb⟩ := Option.map_eq_some_iff.1 h
  exact ⟨fn, enters_of_names names hf hb⟩

theorem idx_ok [Inhabited Val] : HookOk Tryz.prog 71 idxF := hook_scalar fun B ρ im st w new bar args vargs look v es hi hh hl hF => by
  unfold idxF at hF
  split at hF
  · rename_i s c
    simp only [Option.some.injEq, Prod.mk.injEq] at hF
    obtain ⟨rfl, rfl⟩ := hF
    obtain ⟨v1, r1, rfl, h1, hr1⟩ := hl.of_cons
    obtain ⟨v2, r2, rfl, h2, hr2⟩ := hr1.of_cons
    obtain rfl := hr2.of_nil
    cases h1 with
    | str _ bs hbs =>
      cases h2 with
      | int _ _ =>
        refine ⟨rfl, _, .int _ _, (Tryz.stringslite_IndexByte bs c w).mono ?_⟩
        rintro e w' ⟨rfl, rfl⟩
        rw [hbs]
        exact ⟨rfl, grown_refl _⟩
  · cases hF

theorem cnt_ok [Inhabited Val] : HookOk Tryz.prog 141 cntF := hook_scalar fun B ρ im st w new bar args vargs look v es hi hh hl hF => by
  unfold cntF at hF
  split at hF
  · rename_i s c
    simp only [Option.some.injEq, Prod.mk.injEq] at hF
    obtain ⟨rfl, rfl⟩ := hF
    obtain ⟨v1, r1, rfl, h1, hr1⟩ := hl.of_cons
    obtain ⟨v2, r2, rfl, h2, hr2⟩ := hr1.of_cons
    obtain rfl := hr2.of_nil
    cases h1 with
    | str _ bs hbs =>
      cases h2 with
      | str _ cs hcs =>
        have hcs' : cs = ⟨#[c]⟩ := by
          have : cs.data = #[c] := by apply Array.ext'; simpa using hcs
          rw [← this]
        subst hcs'
        refine ⟨rfl, _, .int _ _, (Tryz.strings_Count_one bs c w).mono ?_⟩
        rintro e w' ⟨rfl, rfl⟩
        rw [hbs]
        exact ⟨rfl, grown_refl _⟩
  · cases hF

theorem hook1_ok [Inhabited Val] (f : Nat) (F) (h : hook1 f = some F) : HookOk Tryz.prog f F ∧ ∃ fn, Enters Tryz.prog f fn := by
  unfold hook1 at h
  split at h
  · rename_i e; subst e; simp only [Option.some.injEq] at h; subst h
    exact ⟨idx_ok, enters_by (by kernel_rfl)⟩
  · split at h
    · rename_i e; subst e; simp only [Option.some.injEq] at h; subst h
      exact ⟨cnt_ok, enters_by (by kernel_rfl)⟩
    · cases h

set_option maxRecDepth 100000 in
theorem ok1 [Inhabited Val] : CfgOk Tryz.prog C1 := ⟨tok_of rfl tys, fun _ _ _ _ h => (by cases h), fun g fn h => fnBy_ok names h, hook1_ok⟩

theorem one_str [Inhabited Val] (bs : ByteArray) : LRel (fun _ => none) (fun _ => none) [.str bs.data.toList] [.string bs] := .cons (.str _ bs rfl) (.nil _ _)

theorem hN [Inhabited Val] (W : World) : Calls Tryz.prog 27 #[.string Ck.X] W fun e W' => e = .returned (.bool true) ∧ W.grownBy W' none := by
  obtain ⟨st, h⟩ := isB_some name_x
  refine (calls_plain ok1 mixed h (by decide) (im := fun _ => none) (w := W) (fun _ _ q => by cases q) (one_str Ck.X)).mono ?_
  rintro e w' ⟨rv, ρ, im, rfl, hv, hg⟩
  exact ⟨by rw [of_bool hv], hg⟩

theorem hG [Inhabited Val] (W : World) : Calls Tryz.prog 134 #[.string Ck.X] W fun e W' => e = .returned (.bool false) ∧ W.grownBy W' none := by
  obtain ⟨st, h⟩ := isB_some great_x
  refine (calls_plain ok1 mixed h (by decide) (im := fun _ => none) (w := W) (fun _ _ q => by cases q) (one_str Ck.X)).mono ?_
  rintro e w' ⟨rv, ρ, im, rfl, hv, hg⟩
  exact ⟨by rw [of_bool hv], hg⟩

theorem hI [Inhabited Val] (W : World) : Calls Tryz.prog 147 #[.string Ck.X, .string Ck.Sl] W fun e W' => e = .returned (.int .i64 (-1)) ∧ W.grownBy W' none := by
  obtain ⟨st, h⟩ := isI_some index_x
  refine (calls_plain ok1 mixed h (by decide) (im := fun _ => none) (w := W) (fun _ _ q => by cases q) (vargs := [.string Ck.X, .string Ck.Sl]) (.cons (.str _ Ck.X rfl) (one_str Ck.Sl))).mono ?_
  rintro e w' ⟨rv, ρ, im, rfl, hv, hg⟩
  exact ⟨by rw [of_int hv], hg⟩

theorem ck_ok [Inhabited Val] : HookOk Tryz.prog 126 ckF := hook_scalar fun B ρ im st w new bar args vargs look v es hi hh hl hF => by
  unfold ckF at hF
  split at hF
  · rename_i s off cp
    split at hF
    · rename_i cs hg
      split at hF
      · rename_i hc
        simp only [Option.some.injEq, Prod.mk.injEq] at hF
        obtain ⟨rfl, rfl⟩ := hF
        obtain ⟨v1, r1, rfl, h1, hr1⟩ := hl.of_cons
        obtain rfl := hr1.of_nil
        cases h1 with
        | osl _ _ _ _ _ lo ad cap hρ hcc h2 h3 =>
          obtain ⟨loc, rfl, rfl, hle⟩ := hcc (by omega)
          obtain ⟨_, arr, ty, hw, hsz, hd, hlr⟩ := cells_at hi (hh _ _ hg) hρ
          obtain ⟨u, hu, hvu⟩ := hlr.get hc
          cases hvu with
          | str _ bs hbs =>
            have hbs' : bs = Ck.X := by
              have : bs.data = #[120] := by apply Array.ext'; simpa using hbs
              show bs = ⟨#[120]⟩
              rw [← this]
            subst hbs'
            have hcell : w.cell? ⟨loc.blk, loc.delta + off, none⟩ = some (.string Ck.X) := by
              rw [cell_of_row w _ _ arr ty _ hw]
              rw [List.getElem?_take] at hu
              split at hu
              · simpa using hu
              · cases hu
            exact ⟨rfl, _, .int _ _, Ck.check_x hN hG hI w loc.blk (loc.delta + off) cap hcell⟩
      · cases hF
    · cases hF
  · cases hF

theorem tok0 [Inhabited Val] : TOk Tryz.prog C0 := tok_of rfl tys
theorem fok0 [Inhabited Val] : FactsOk C0 := fun _ _ _ _ h => by cases h

theorem hookHn_ok [Inhabited Val] (f : Nat) (F) (h : hookHn f = some F) : HookOk Tryz.prog f F ∧ ∃ fn, Enters Tryz.prog f fn := by
  unfold hookHn at h
  split at h
  · rename_i e; subst e; simp only [Option.some.injEq] at h; subst h
    exact ⟨ck_ok, enters_by (by kernel_rfl)⟩
  · split at h
    · rename_i e; subst e; simp only [Option.some.injEq] at h; subst h
      exact ⟨clone_hook tok0 fok0 Tryz.func31 (b := 4) (by rfl) rfl rfl (by rfl) rfl, enters_by (by kernel_rfl)⟩
    · split at h
      · rename_i e; subst e; simp only [Option.some.injEq] at h; subst h
        exact ⟨clone_hook tok0 fok0 Tryz.func32 (b := 4) (by rfl) rfl rfl (by rfl) rfl, enters_by (by kernel_rfl)⟩
      · split at h
        · rename_i e; subst e; simp only [Option.some.injEq] at h; subst h
          exact ⟨clone_hook tok0 fok0 Tryz.func33 (b := 4) (by rfl) rfl rfl (by rfl) rfl, enters_by (by kernel_rfl)⟩
        · split at h
          · rename_i e; subst e; simp only [Option.some.injEq] at h; subst h
            exact ⟨clone_hook tok0 fok0 Tryz.func49 (b := 4) (by rfl) rfl rfl (by rfl) rfl, enters_by (by kernel_rfl)⟩
          · split at h
            · rename_i e; subst e; simp only [Option.some.injEq] at h; subst h
              exact ⟨clone_hook tok0 fok0 Tryz.func56 (b := 4) (by rfl) rfl rfl (by rfl) rfl, enters_by (by kernel_rfl)⟩
            · split at h
              · rename_i e; subst e; simp only [Option.some.injEq] at h; subst h
                exact ⟨clone_hook tok0 fok0 Tryz.func57 (b := 4) (by rfl) rfl rfl (by rfl) rfl, enters_by (by kernel_rfl)⟩
              · exact hook1_ok f F h

set_option maxRecDepth 100000 in
theorem okC [Inhabited Val] : CfgOk Tryz.prog C := ⟨tok_of rfl tys, fun _ _ _ _ h => (by cases h), fun g fn h => fnBy_ok names h, hookHn_ok⟩

theorem beg_ok [Inhabited Val] : HookOk Tryz.prog 6 begF := hook_scalar fun B ρ im st w new bar args vargs look v es hi hh hl hF => by
  unfold begF at hF
  split at hF
  · simp only [Option.some.injEq, Prod.mk.injEq] at hF
    obtain ⟨rfl, rfl⟩ := hF
    obtain rfl := hl.of_nil
    obtain ⟨st, h⟩ := isB_some begun
    refine ⟨rfl, _, .bool _, (calls_plain okC mixed h (by decide) (im := fun _ => none) (w := w) (fun _ _ q => by cases q) (.nil _ _)).mono ?_⟩
    rintro e w' ⟨rv, ρ, im, rfl, hv, hg⟩
    exact ⟨by rw [of_bool hv], hg⟩
  · cases hF

set_option maxRecDepth 100000 in
theorem okC2 [Inhabited Val] {fs : List (BinOp × Nat × Int × Bool)} (hf : FactsOk (C2 fs)) : CfgOk Tryz.prog (C2 fs) := ⟨tok_of rfl tys, hf, fun g fn h => fnBy_ok names h, fun g F h => by
  have h' : (if g = 6 then some begF else hook1 g) = some F := h
  split at h'
  · rename_i e; subst e; simp only [Option.some.injEq] at h'; subst h'
    exact ⟨beg_ok, enters_by (by kernel_rfl)⟩
  · exact hook1_ok g F h'⟩

end Hn
end Go.Ab
