/- The closed runs of the seat. -/
import Derived.Test.YtneaijbbcbicnaaGreatDoorAbHnCfg
namespace Go.Ab.Hn
open Go Go.Proofs
set_option maxRecDepth 100000
theorem name_x : isB (callN C1 60 27 [.str [120]] ⟨[], 0, 0⟩) = some true := by kernel_rfl
theorem great_x : isB (callN C1 60 134 [.str [120]] ⟨[], 0, 0⟩) = some false := by kernel_rfl
def isI : Option (AV × St) → Option Int | some (.int .i64 n, _) => some n | _ => none
theorem index_x : isI (callN C1 60 147 [.str [120], .str [47]] ⟨[], 0, 0⟩) = some (-1) := by kernel_rfl
theorem begun : isB (callN C 300 6 [] ⟨[], 0, 0⟩) = some true := by kernel_rfl
def fA : List (BinOp × Nat × Int × Bool) := [(.geq, 0, 1, true), (.leq, 0, 1000000, true), (.geq, 1, 0, true), (.leq, 1, 100000, true)]
def fB1 : List (BinOp × Nat × Int × Bool) := [(.geq, 0, 1, false)]
def fB2 : List (BinOp × Nat × Int × Bool) := [(.geq, 0, 1, true), (.leq, 0, 1000000, false)]
def fB3 : List (BinOp × Nat × Int × Bool) := [(.geq, 0, 1, true), (.leq, 0, 1000000, true), (.geq, 1, 0, false)]
def fB4 : List (BinOp × Nat × Int × Bool) := [(.geq, 0, 1, true), (.leq, 0, 1000000, true), (.geq, 1, 0, true), (.leq, 1, 100000, false)]
theorem runA : isB (callN (C2 fA) 300 3 [.sint .i64 0, .sint .i64 1] ⟨[], 0, 0⟩) = some true := by kernel_rfl
theorem runB1 : isB (callN (C2 fB1) 300 3 [.sint .i64 0, .sint .i64 1] ⟨[], 0, 0⟩) = some true := by kernel_rfl
theorem runB2 : isB (callN (C2 fB2) 300 3 [.sint .i64 0, .sint .i64 1] ⟨[], 0, 0⟩) = some true := by kernel_rfl
theorem runB3 : isB (callN (C2 fB3) 300 3 [.sint .i64 0, .sint .i64 1] ⟨[], 0, 0⟩) = some true := by kernel_rfl
theorem runB4 : isB (callN (C2 fB4) 300 3 [.sint .i64 0, .sint .i64 1] ⟨[], 0, 0⟩) = some true := by kernel_rfl
end Go.Ab.Hn
