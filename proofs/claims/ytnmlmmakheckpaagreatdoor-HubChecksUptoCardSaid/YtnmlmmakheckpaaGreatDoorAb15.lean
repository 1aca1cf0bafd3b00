/- The configuration C0 stands; what path.check calls, as contracts of the machine's calls. -/
import Derived.Test.YtnmlmmakheckpaaGreatDoorAb13
import Derived.Test.YtnmlmmakheckpaaGreatDoorAb14
import Derived.Test.YtnmlmmakheckpaaGreatDoorAb09
import Derived.Test.YtnmlmmakheckpaaGreatDoorAb06
namespace Go.Ab.Seat
open Go Go.Proofs

set_option maxRecDepth 100000 in
theorem tys : tyTab.all (fun l => l.all fun p => tyCheck Tryz.prog p.1 p.2) = true := by kernel_rfl
set_option maxRecDepth 100000 in
theorem fnames : namesB Tryz.prog = true := by kernel_rfl
theorem mixed : Tryz.prog.follows .mixedOrders = true := by kernel_rfl

theorem enters_by [Inhabited Val] {g : Nat} (h : ((Tryz.prog.funcs[g]?).map fun fn => fn.body.isSome) = some true) : ∃ fn, Enters Tryz.prog g fn := by
  obtain ⟨fn, hf, hb⟩ := Option.map_eq_some_iff.1 h
  exact ⟨fn, enters_of_names fnames hf hb⟩

theorem idx_ok [Inhabited Val] : HookOk Tryz.prog 56 idxF := hook_scalar fun B ρ im st w new bar args vargs look v es hi hh hl hF => by
  unfold idxF at hF
  split at hF
  · rename_i s c
    simp only [Option.some.injEq, Prod.mk.injEq] at hF
    obtain ⟨rfl, rfl⟩ := hF
    obtain ⟨v1, r1, rfl, h1, hr1⟩ := hl.of_cons
    obtain ⟨v2, r2, rfl, h2, hr2⟩ := hr1.of_cons
    obtain rfl := hr2.of_nil
    cases h1 with
    | str _ bs hbs =>
      cases h2 with
      | int _ _ =>
        refine ⟨rfl, _, .int _ _, (Tryz.stringslite_IndexByte bs c w).mono ?_⟩
        rintro e w' ⟨rfl, rfl⟩
        rw [hbs]
        exact ⟨rfl, grown_refl _⟩
  · cases hF

theorem cnt_ok [Inhabited Val] : HookOk Tryz.prog 155 cntF := hook_scalar fun B ρ im st w new bar args vargs look v es hi hh hl hF => by
  unfold cntF at hF
  split at hF
  · rename_i s c
    simp only [Option.some.injEq, Prod.mk.injEq] at hF
    obtain ⟨rfl, rfl⟩ := hF
    obtain ⟨v1, r1, rfl, h1, hr1⟩ := hl.of_cons
    obtain ⟨v2, r2, rfl, h2, hr2⟩ := hr1.of_cons
    obtain rfl := hr2.of_nil
    cases h1 with
    | str _ bs hbs =>
      cases h2 with
      | str _ cs hcs =>
        have hcs' : cs = ⟨#[c]⟩ := by
          have : cs.data = #[c] := by apply Array.ext'; simpa using hcs
          rw [← this]
        subst hcs'
        refine ⟨rfl, _, .int _ _, (Tryz.strings_Count_one bs c w).mono ?_⟩
        rintro e w' ⟨rfl, rfl⟩
        rw [hbs]
        exact ⟨rfl, grown_refl _⟩
  · cases hF

/-- A hook of a list of hooks. -/
theorem hooks_ok [Inhabited Val] {P : Program} {l : List (Nat × (Heap → Nat → Nat → List AV → Option (AV × List (Nat × AObj))))} (h : ∀ p ∈ l, HookOk P p.1 p.2 ∧ ∃ fn, Enters P p.1 fn)
    (g : Nat) (F : Heap → Nat → Nat → List AV → Option (AV × List (Nat × AObj))) (hg : look1 l g = some F) : HookOk P g F ∧ ∃ fn, Enters P g fn := h _ (look1_mem hg)

set_option maxRecDepth 100000 in
theorem ok0 [Inhabited Val] : CfgOk Tryz.prog C0 := ⟨tok_of rfl tys, fun _ _ _ _ h => (by cases h), fun g fn h => fnBy_ok fnames h, hooks_ok (by
  intro p hp
  simp only [C0_hooks, List.mem_cons, List.not_mem_nil, or_false] at hp
  rcases hp with rfl | rfl
  · exact ⟨idx_ok, enters_by (by kernel_rfl)⟩
  · exact ⟨cnt_ok, enters_by (by kernel_rfl)⟩)⟩

theorem one_str [Inhabited Val] (bs : ByteArray) : LRel (fun _ => none) (fun _ => none) [.str bs.data.toList] [.string bs] := .cons (.str _ bs rfl) (.nil _ _)

set_option maxRecDepth 100000 in
theorem name_ok [Inhabited Val] (bs : ByteArray) (w : World) : Calls Tryz.prog 10 #[.string bs] w fun e w' => e = .returned (.bool (isName bs.data.toList)) ∧ w.grownBy w' none := by
  refine (calls_G3 ok0 mixed (fnBy_of Tryz.func10 rfl) rfl (r := .bool (isName bs.data.toList)) (by simp [pureF, fin, G_isName0, scalarN, plainN]) (one_str bs)).mono ?_
  rintro e w' ⟨rv, ρ, im, rfl, hv, hg⟩
  exact ⟨by rw [of_bool hv], hg⟩

set_option maxRecDepth 100000 in
theorem great_ok [Inhabited Val] (bs : ByteArray) (w : World) : Calls Tryz.prog 148 #[.string bs] w fun e w' => e = .returned (.bool (great bs.data.toList)) ∧ w.grownBy w' none := by
  refine (calls_G3 ok0 mixed (fnBy_of Tryz.func148 rfl) rfl (r := .bool (great bs.data.toList)) (by simp [pureF, fin, G_great0, scalarN, plainN]) (one_str bs)).mono ?_
  rintro e w' ⟨rv, ρ, im, rfl, hv, hg⟩
  exact ⟨by rw [of_bool hv], hg⟩

abbrev Sl : ByteArray := ⟨#[47]⟩
set_option maxRecDepth 100000 in
theorem index_ok [Inhabited Val] (bs : ByteArray) (w : World) : Calls Tryz.prog 162 #[.string bs, .string Sl] w fun e w' => e = .returned (.int .i64 (Lib.indexByte bs.data.toList 47)) ∧ w.grownBy w' none := by
  refine (calls_G3 ok0 mixed (fnBy_of Tryz.func162 rfl) rfl (args := [.str bs.data.toList, .str [47]]) (r := .int .i64 (Lib.indexByte bs.data.toList 47)) (by simp [pureF, fin, G_idx20, scalarN, plainN]) (vargs := [.string bs, .string Sl]) (.cons (.str _ bs rfl) (one_str Sl))).mono ?_
  rintro e w' ⟨rv, ρ, im, rfl, hv, hg⟩
  exact ⟨by rw [of_int hv], hg⟩

/-- How the names of a path go on. -/
theorem names_next (s : Str) : (Lib.indexByte s 47 = -1 ∧ names s = [s]) ∨ ∃ i : Nat, Lib.indexByte s 47 = i ∧ i < s.length ∧ names s = s.take i :: names (s.drop (i + 1)) := by
  induction s with
  | nil => exact .inl ⟨rfl, rfl⟩
  | cons c r ih =>
    have hn : names (c :: r) = if c = 47 then [] :: names r else match names r with | [] => [[c]] | n :: ns => (c :: n) :: ns := by rw [names]; first | rfl | (split <;> first | rfl | (split <;> rfl))
    rw [hn, Lib.indexByte]
    by_cases h : c = 47
    · subst h
      exact .inr ⟨0, by simp, by simp, by simp⟩
    · have h' : (c == 47) = false := by simpa using h
      rw [h', if_neg h]
      simp only [Bool.false_eq_true, if_false]
      rcases ih with ⟨h1, h2⟩ | ⟨i, h1, h2, h3⟩
      · rw [h1, h2]
        exact .inl ⟨rfl, rfl⟩
      · rw [h1, h3]
        refine .inr ⟨i + 1, ?_, by simpa using h2, rfl⟩
        have : ((i : Int) == -1) = false := by simp
        rw [this]
        simp

end Go.Ab.Seat
