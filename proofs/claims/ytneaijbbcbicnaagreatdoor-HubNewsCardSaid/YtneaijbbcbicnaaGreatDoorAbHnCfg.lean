/- The configuration of the seat: which functions are told by a rule, and in which mode the others are called. -/
import Derived.Test.YtneaijbbcbicnaaGreatDoorAbHooks
import Derived.Test.YtneaijbbcbicnaaGreatDoorAbHnTy
import Derived.Lib.Bytealg
namespace Go.Ab.Hn
open Go Go.Proofs

def modeHn (f : Nat) : Nat := if [35,36,37,38,43,44,22,109,121,122,132,103,100,87,59,101,131].contains f then 2 else if [21,48,83,84,62,63].contains f then 1 else 0
def C0 : Cfg := { ty := tyBy tyTab, fn := fun _ => none, mode := fun _ => 0, hook := fun _ => none }
def idxF : Heap → Nat → Nat → List AV → Option (AV × List (Nat × AObj))
  | _, _, _, [.str s, .int .u8 c] => some (.int .i64 (Lib.indexByte s c.toNat.toUInt8), [])
  | _, _, _, _ => none
def cntF : Heap → Nat → Nat → List AV → Option (AV × List (Nat × AObj))
  | _, _, _, [.str s, .str [c]] => some (.int .i64 (Lib.countByte s c : Nat), [])
  | _, _, _, _ => none
/-- path.check, at the one path "x". -/
def ckF : Heap → Nat → Nat → List AV → Option (AV × List (Nat × AObj))
  | h, _, _, [.osl 1 s off 1 _] => match hget h s with
    | some (.cells cs) => match cs[off]? with
      | some (.str [120]) => some (.int .i64 0, [])
      | _ => none
    | _ => none
  | _, _, _, _ => none
def hook1 (f : Nat) : Option (Heap → Nat → Nat → List AV → Option (AV × List (Nat × AObj))) :=
  if f = 71 then some idxF else if f = 141 then some cntF else none
def hookHn (f : Nat) : Option (Heap → Nat → Nat → List AV → Option (AV × List (Nat × AObj))) :=
  if f = 126 then some ckF else if f = 31 then some (cloneH C0 22) else if f = 32 then some (cloneH C0 23) else if f = 33 then some (cloneH C0 24) else
  if f = 49 then some (cloneH C0 41) else if f = 56 then some (cloneH C0 42) else if f = 57 then some (cloneH C0 49) else hook1 f
noncomputable def C1 : Cfg := { ty := tyBy tyTab, fn := fnBy Tryz.prog, mode := fun _ => 0, hook := hook1 }
noncomputable def C : Cfg := { ty := tyBy tyTab, fn := fnBy Tryz.prog, mode := modeHn, hook := hookHn }
/-- hubBegun. -/
def begF : Heap → Nat → Nat → List AV → Option (AV × List (Nat × AObj))
  | _, _, _, [] => some (.bool true, [])
  | _, _, _, _ => none
noncomputable def C2 (fs : List (BinOp × Nat × Int × Bool)) : Cfg := { ty := tyBy tyTab, fn := fnBy Tryz.prog, mode := fun _ => 0, hook := fun f => if f = 6 then some begF else hook1 f, facts := fs }
def isB : Option (AV × St) → Option Bool | some (.bool b, _) => some b | _ => none
end Go.Ab.Hn
