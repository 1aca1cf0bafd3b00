/- HubNews returns true, whatever two numbers it is handed, and turns nothing that was there. -/
import Derived.Test.YtneaijbbcbicnaaGreatDoorAbHnOk
namespace Go.Ab.Hn
open Go Go.Proofs

theorem law_of [Inhabited Val] {fs : List (BinOp × Nat × Int × Bool)} (hf : FactsOk (C2 fs)) (hr : isB (callN (C2 fs) 300 3 [.sint .i64 0, .sint .i64 1] ⟨[], 0, 0⟩) = some true) (w : World) :
    Calls Tryz.prog 3 #[.int .i64 ((default : Val).σ 0), .int .i64 ((default : Val).σ 1)] w fun e w' => e = .returned (.bool true) ∧ w.grownBy w' none := by
  obtain ⟨st, h⟩ := isB_some hr
  refine (calls_plain (okC2 hf) mixed h (show (0 : Nat) ≠ 2 by decide) (im := fun _ => none) (w := w) (fun _ _ q => by cases q) (.cons (.sint _ _) (.cons (.sint _ _) (.nil _ _)))).mono ?_
  rintro e w' ⟨rv, ρ, im, rfl, hv, hg⟩
  exact ⟨by rw [of_bool hv], hg⟩

theorem law (x y : Int) (w : World) : Calls Tryz.prog 3 #[.int .i64 x, .int .i64 y] w fun e w' => e = .returned (.bool true) ∧ w.grownBy w' none := by
  letI : Inhabited Val := ⟨⟨fun v => if v = 0 then x else y⟩⟩
  have e0 : (default : Val).σ 0 = x := rfl
  have e1 : (default : Val).σ 1 = y := rfl
  rw [← e0, ← e1]
  by_cases h1 : x ≥ 1
  · by_cases h2 : x ≤ 1000000
    · by_cases h3 : y ≥ 0
      · by_cases h4 : y ≤ 100000
        · refine law_of (fs := fA) (fun o v n b h => ?_) runA w
          simp only [C2, fA, List.mem_cons, Prod.mk.injEq, List.not_mem_nil, or_false] at h
          rcases h with ⟨rfl, rfl, rfl, rfl⟩ | ⟨rfl, rfl, rfl, rfl⟩ | ⟨rfl, rfl, rfl, rfl⟩ | ⟨rfl, rfl, rfl, rfl⟩ <;> simp [intOp, e0, e1, h1, h2, h3, h4]
        · refine law_of (fs := fB4) (fun o v n b h => ?_) runB4 w
          simp only [C2, fB4, List.mem_cons, Prod.mk.injEq, List.not_mem_nil, or_false] at h
          rcases h with ⟨rfl, rfl, rfl, rfl⟩ | ⟨rfl, rfl, rfl, rfl⟩ | ⟨rfl, rfl, rfl, rfl⟩ | ⟨rfl, rfl, rfl, rfl⟩ <;> simp [intOp, e0, e1, h1, h2, h3] <;> omega
      · refine law_of (fs := fB3) (fun o v n b h => ?_) runB3 w
        simp only [C2, fB3, List.mem_cons, Prod.mk.injEq, List.not_mem_nil, or_false] at h
        rcases h with ⟨rfl, rfl, rfl, rfl⟩ | ⟨rfl, rfl, rfl, rfl⟩ | ⟨rfl, rfl, rfl, rfl⟩ <;> simp [intOp, e0, e1, h1, h2] <;> omega
    · refine law_of (fs := fB2) (fun o v n b h => ?_) runB2 w
      simp only [C2, fB2, List.mem_cons, Prod.mk.injEq, List.not_mem_nil, or_false] at h
      rcases h with ⟨rfl, rfl, rfl, rfl⟩ | ⟨rfl, rfl, rfl, rfl⟩ <;> simp [intOp, e0, e1, h1] <;> omega
  · refine law_of (fs := fB1) (fun o v n b h => ?_) runB1 w
    simp only [C2, fB1, List.mem_cons, Prod.mk.injEq, List.not_mem_nil, or_false] at h
    obtain ⟨rfl, rfl, rfl, rfl⟩ := h
    simp [intOp, e0]; omega
end Go.Ab.Hn
