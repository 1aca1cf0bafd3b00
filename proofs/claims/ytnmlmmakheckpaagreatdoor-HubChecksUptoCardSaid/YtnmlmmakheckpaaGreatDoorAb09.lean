/- The same once more, in a form in which simp does not look into what stands behind. -/
import Derived.Test.YtnmlmmakheckpaaGreatDoorAb08
import Derived.Laws.CopyRow
import Derived.Laws.Append
namespace Go.Ab
open Go

/-- What stands behind: simp leaves it alone. -/
class Box (α : Type) where
  out : α

abbrev KE := AExit → List AV → St → Prop
abbrev KS := List AV → St → Prop
abbrev KF := List AV → St → Foot → Prop
abbrev KD := List AV → St → List (Nat × Foot) → Prop

def X (C : Cfg) (nt : Nat) (c : Code) (T : List AV) (st : St) [Q : Box KE] : Prop := Ex C nt c T st Q.out
def O (C : Cfg) (nt : Nat) (x0 : Ctx) (new : Nat) (s : Stp) (T : List AV) (st : St) [K : Box KF] : Prop := OpW C nt x0 new s T st K.out
def Od (C : Cfg) (nt c0 n : Nat) (bl : List (List Nat)) (i : Nat) (s : List Stp) (fs : List (Nat × Foot)) (T : List AV) (st : St) [K : Box KD] : Prop := OpsD C nt c0 n bl i s fs T st K.out
def Os (C : Cfg) (nt new : Nat) (s : List Stp) (T : List AV) (st : St) [K : Box KS] : Prop := OpsW C nt new s T st K.out
def P (nt : Nat) (T : List AV) (dst : Option Nat) (v : AV) [K : Box (List AV → Prop)] : Prop := putW nt T dst v K.out
def S {α : Type} (o : Option α) [K : Box (α → Prop)] : Prop := someW o K.out
def Fu (v : AV) [K : Box (Nat → List AV → List AV → Prop)] : Prop := funcW v K.out
def Ld (ti : TI) (h : Heap) (a : AV) [K : Box (AV → Prop)] : Prop := loadW ti h a K.out
def Sto (bar : Nat) (ti : TI) (h : Heap) (a v : AV) [K : Box (Heap → Prop)] : Prop := storeW bar ti h a v K.out
def Ce (o : Option AObj) [K : Box (List AV → Prop)] : Prop := cellsW o K.out
def Mo (o : Option AObj) [K : Box (List (AV × AV) → Prop)] : Prop := match o with
  | some (.map es) => K.out es
  | _ => False
def Mp (bar : Nat) (h : Heap) (m : AV) [K : Box (Nat → List (AV × AV) → Prop)] : Prop := mapW bar h m K.out
def Cl (C : Cfg) (nt : Nat) (x0 : Ctx) (new : Nat) (dst : Option Nat) (g : Nat) (args : List AV) (T : List AV) (st : St) [K : Box KF] : Prop := CallW C nt x0 new dst g args T st K.out
def Gu (v : AV) (want : Bool) [p : Box Prop] [q : Box Prop] : Prop := guardW v want p.out q.out
def Co (v : AV) [p : Box (Unit → Prop × Prop)] : Prop := condW v (p.out ()).1 (p.out ()).2

section
variable {C : Cfg} {nt new : Nat} {T : List AV} {st : St} {K : KF} {x0 : Ctx} {dst : Option Nat} {h : Heap} {c bar : Nat} {Q : KE}

theorem X_skip : X C nt .skip T st (Q := ⟨Q⟩) ↔ Q .normal T st := Ex_skip
theorem X_exit {id : Nat} : X C nt (.exit id) T st (Q := ⟨Q⟩) ↔ Q (.exit id) T st := Ex_exit
theorem X_ret : X C nt .ret T st (Q := ⟨Q⟩) ↔ Q .ret T st := Ex_ret
theorem X_seq {a b : Code} : X C nt (.seq a b) T st (Q := ⟨Q⟩) ↔ X C nt a T st (Q := ⟨kseq (fun T st => X C nt b T st (Q := ⟨Q⟩)) Q⟩) := Ex_seq
theorem X_cond {c : Operand} {a b : Code} : X C nt (.cond c a b) T st (Q := ⟨Q⟩) ↔ Co (ev T c) (p := ⟨fun _ => (X C nt a T st (Q := ⟨Q⟩), X C nt b T st (Q := ⟨Q⟩))⟩) := Ex_cond
theorem X_block {id : Nat} {b : Code} : X C nt (.block id b) T st (Q := ⟨Q⟩) ↔ X C nt b T st (Q := ⟨kblock id Q⟩) := Ex_block
theorem X_region {id : Nat} {ops : Array Oper} : X C nt (.region id ops false) T st (Q := ⟨Q⟩) ↔ Os C nt st.c (stps ops) T ⟨st.h, st.c + ops.size, st.bar⟩ (K := ⟨Q .normal⟩) := Ex_region
theorem X_draw {id : Nat} {ops : Array Oper} : X C nt (.region id ops true) T st (Q := ⟨Q⟩) ↔ Od C nt st.c ops.size (beforeL ops) 0 (stps ops) [] T ⟨st.h, st.c + ops.size, st.bar⟩ (K := ⟨fun T st fs => drawOk ops (beforeL ops) fs = true ∧ Q .normal T st⟩) := Ex_draw
theorem Co_bool {b : Bool} {p : Unit → Prop × Prop} : Co (.bool b) (p := ⟨p⟩) = if b = true then (p ()).1 else (p ()).2 := rfl
theorem Co_true {p : Unit → Prop × Prop} : Co (.bool true) (p := ⟨p⟩) = (p ()).1 := rfl
theorem Co_false {p : Unit → Prop × Prop} : Co (.bool false) (p := ⟨p⟩) = (p ()).2 := rfl
theorem Os_cons {s : Stp} {r : List Stp} {K : KS} : Os C nt new (s :: r) T st (K := ⟨K⟩) = O C nt flatC new s T st (K := ⟨fun T st _ => Os C nt (new + 1) r T st (K := ⟨K⟩)⟩) := rfl
theorem Od_cons {c0 n i : Nat} {bl : List (List Nat)} {s : Stp} {r : List Stp} {fs : List (Nat × Foot)} {K : KD} : Od C nt c0 n bl i (s :: r) fs T st (K := ⟨K⟩) = O C nt ⟨c0, n, some (bl.getD i [])⟩ (c0 + i) s T st (K := ⟨fun T st f => Od C nt c0 n bl (i + 1) r (fs ++ [(i, f)]) T st (K := ⟨K⟩)⟩) := rfl
theorem Od_nil {c0 n i : Nat} {bl : List (List Nat)} {fs : List (Nat × Foot)} {K : KD} : Od C nt c0 n bl i [] fs T st (K := ⟨K⟩) = K T st fs := rfl
theorem Os_nil {K : KS} : Os C nt new [] T st (K := ⟨K⟩) = K T st := rfl
theorem O_guard {op : Op} {d : Nat} {want : Bool} : O C nt x0 new ⟨dst, op, some (some d, want)⟩ T st (K := ⟨K⟩) ↔
    Gu (getT T d) want (p := ⟨O C nt x0 new ⟨dst, op, none⟩ T st (K := ⟨K⟩)⟩) (q := ⟨P nt T dst .undef (K := ⟨fun T' => K T' st ⟨[], [], none, false⟩⟩)⟩) := OpW_guard
theorem Gu_bool {b want : Bool} {p q : Prop} : Gu (.bool b) want (p := ⟨p⟩) (q := ⟨q⟩) = if b = want then p else q := rfl
theorem Gu_undef {want : Bool} {p q : Prop} : Gu .undef want (p := ⟨p⟩) (q := ⟨q⟩) = q := rfl
theorem P_some {d : Nat} {v : AV} {K : List AV → Prop} : P nt T (some d) v (K := ⟨K⟩) = (d < nt ∧ K (setT T d v)) := rfl
theorem P_none {v : AV} {K : List AV → Prop} : P nt T none v (K := ⟨K⟩) = K T := rfl
theorem S_some {α : Type} {a : α} {f : α → Prop} : S (some a) (K := ⟨f⟩) = f a := rfl
theorem S_iff {α : Type} {o : Option α} {f : α → Prop} : S o (K := ⟨f⟩) ↔ ∃ a, o = some a ∧ f a := someW_iff
theorem Fu_func {g : Nat} {a b : List AV} {f : Nat → List AV → List AV → Prop} : Fu (.func g a b) (K := ⟨f⟩) = f g a b := rfl
theorem Ld_ptr {ti : TI} {s off : Nat} {f : AV → Prop} : Ld ti h (.ptr s off) (K := ⟨f⟩) = Ce (hget h s) (K := ⟨fun cs => S (loadObj ti cs off) (K := ⟨f⟩)⟩) := rfl
theorem Ld_iptr {ti : TI} {cs : List AV} {off : Nat} {f : AV → Prop} : Ld ti h (.iptr cs off) (K := ⟨f⟩) = S (loadObj ti cs off) (K := ⟨f⟩) := rfl
theorem Ce_some {cs : List AV} {f : List AV → Prop} : Ce (some (.cells cs)) (K := ⟨f⟩) = f cs := rfl
theorem Sto_ptr {ti : TI} {s off : Nat} {v : AV} {f : Heap → Prop} : Sto bar ti h (.ptr s off) v (K := ⟨f⟩) =
    (bar ≤ s ∧ storeOk ti v = true ∧ Ce (hget h s) (K := ⟨fun cs => S (putCells cs off v.cells) (K := ⟨fun cs' => f (hput h s (.cells cs'))⟩)⟩)) := rfl

theorem end_normal {rs : List ResultVar} {R : AV → St → Prop} : endW C rs R .normal T st = S (resA C st.h T rs) (K := ⟨fun vs => R (tupOf vs) st⟩) := rfl
theorem end_ret {rs : List ResultVar} {R : AV → St → Prop} : endW C rs R .ret T st = S (resA C st.h T rs) (K := ⟨fun vs => R (tupOf vs) st⟩) := rfl
/-- A call that is handed plain values. -/
theorem Y_3 {g : Nat} {fn : Func} {body : Code} {args pargs : List AV} {R : AV → St → Prop} (hf : C.fn g = some fn) (hb : fn.body = some body) (hm : C.mode g = 3) (hp : args.mapM (fin st.h 0 false 8) = some pargs)
    (h : X C fn.ntmps body (padT fn.ntmps pargs) ⟨[], 0, 0⟩ (Q := ⟨endW C fn.results.toList fun r st' => S (fin st'.h 0 false 8 r) (K := ⟨fun r' => (args.all (plainN 8) || scalarN 8 r') = true ∧ R r' st⟩)⟩)) : Ca C g args st R := Ca_mode3 hf hb hm hp h
theorem endX : True := trivial
theorem O_move {x : Operand} : O C nt x0 new ⟨dst, .move x, none⟩ T st (K := ⟨K⟩) ↔ P nt T dst (ev T x) (K := ⟨fun T' => K T' st ⟨looks T (.move x), [], none, false⟩⟩) := W_move
theorem O_assign {x : Operand} : O C nt x0 new ⟨dst, .assign x, none⟩ T st (K := ⟨K⟩) ↔ P nt T dst (ev T x) (K := ⟨fun T' => K T' st ⟨looks T (.assign x), [], none, false⟩⟩) := W_assign
theorem O_pick {x a b : Operand} : O C nt x0 new ⟨dst, .pick x a b, none⟩ T st (K := ⟨K⟩) ↔ S (pickA (ev T x) (ev T a) (ev T b)) (K := ⟨fun v => P nt T dst v (K := ⟨fun T' => K T' st ⟨looks T (.pick x a b), [], none, false⟩⟩)⟩) := W_pick
theorem O_binOp {op : BinOp} {t t' : TypeId} {x y : Operand} : O C nt x0 new ⟨dst, .binOp op t x y t', none⟩ T st (K := ⟨K⟩) ↔ S (binP C T op t x y) (K := ⟨fun v => P nt T dst v (K := ⟨fun T' => K T' st ⟨looks T (.binOp op t x y t'), [], none, false⟩⟩)⟩) := W_binOp
theorem O_unOp {op : UnOp} {t : TypeId} {x : Operand} : O C nt x0 new ⟨dst, .unOp op t x, none⟩ T st (K := ⟨K⟩) ↔ S (unA op (ev T x)) (K := ⟨fun v => P nt T dst v (K := ⟨fun T' => K T' st ⟨looks T (.unOp op t x), [], none, false⟩⟩)⟩) := W_unOp
theorem O_convert {s d : TypeId} {x : Operand} : O C nt x0 new ⟨dst, .convert s d x, none⟩ T st (K := ⟨K⟩) ↔ S (convA (C.ty s) (C.ty d) (ev T x)) (K := ⟨fun v => P nt T dst v (K := ⟨fun T' => K T' st ⟨looks T (.convert s d x), [], none, false⟩⟩)⟩) := W_convert
theorem O_slice {t : TypeId} {x : Operand} {lo hi mx : Option Operand} : O C nt x0 new ⟨dst, .slice t x lo hi mx, none⟩ T st (K := ⟨K⟩) ↔
    S (C.ty t) (K := ⟨fun ti => S (sliceA C ti (ev T x) (lo.map (ev T)) (hi.map (ev T)) (mx.map (ev T))) (K := ⟨fun v => P nt T dst v (K := ⟨fun T' => K T' st ⟨looks T (.slice t x lo hi mx), [], none, false⟩⟩)⟩)⟩) := W_slice
theorem O_alloc {t : TypeId} : O C nt x0 new ⟨dst, .alloc t, none⟩ T st (K := ⟨K⟩) ↔ S (C.ty t) (K := ⟨fun ti => P nt T dst (.ptr new 0) (K := ⟨fun T' => K T' ⟨hput st.h new (.cells ti.zero), st.c, st.bar⟩ ⟨looks T (.alloc t), [new], none, false⟩⟩)⟩) := W_alloc
theorem O_box {t : TypeId} {x : Operand} : O C nt x0 new ⟨dst, .box t x, none⟩ T st (K := ⟨K⟩) ↔ notBad (ev T x) = true ∧ P nt T dst (.ptr new 0) (K := ⟨fun T' => K T' ⟨hput st.h new (.cells (ev T x).cells), st.c, st.bar⟩ ⟨looks T (.box t x), [new], none, false⟩⟩) := W_box
theorem O_load {t : TypeId} {x : Operand} : O C nt x0 new ⟨dst, .load t x, none⟩ T st (K := ⟨K⟩) ↔ S (C.ty t) (K := ⟨fun ti => Ld ti st.h (ev T x) (K := ⟨fun v => P nt T dst v (K := ⟨fun T' => K T' st ⟨looks T (.load t x), [], none, false⟩⟩)⟩)⟩) := W_load
theorem O_store {t : TypeId} {a x : Operand} : O C nt x0 new ⟨dst, .store t a x, none⟩ T st (K := ⟨K⟩) ↔ S (C.ty t) (K := ⟨fun ti => Sto st.bar ti st.h (ev T a) (ev T x) (K := ⟨fun h' => P nt T dst .undef (K := ⟨fun T' => K T' ⟨h', st.c, st.bar⟩ ⟨looks T (.store t a x), looks T (.store t a x), none, false⟩⟩)⟩)⟩) := W_store
theorem O_nilCheck {x : Operand} : O C nt x0 new ⟨dst, .nilCheck x, none⟩ T st (K := ⟨K⟩) ↔ S (ptrA (ev T x)) (K := ⟨fun v => P nt T dst v (K := ⟨fun T' => K T' st ⟨looks T (.nilCheck x), [], none, false⟩⟩)⟩) := W_nilCheck
theorem O_fieldAddr {t : TypeId} {x : Operand} {f : Nat} : O C nt x0 new ⟨dst, .fieldAddr t x f, none⟩ T st (K := ⟨K⟩) ↔ S (C.ty t) (K := ⟨fun ti => S (fieldAddrA ti f (ev T x)) (K := ⟨fun v => P nt T dst v (K := ⟨fun T' => K T' st ⟨looks T (.fieldAddr t x f), [], none, false⟩⟩)⟩)⟩) := W_fieldAddr
theorem O_field {t : TypeId} {x : Operand} {f : Nat} : O C nt x0 new ⟨dst, .field t x f, none⟩ T st (K := ⟨K⟩) ↔ S (C.ty t) (K := ⟨fun ti => S (fieldA ti f (ev T x)) (K := ⟨fun v => P nt T dst v (K := ⟨fun T' => K T' st ⟨looks T (.field t x f), [], none, false⟩⟩)⟩)⟩) := W_field
theorem O_indexAddr {t : TypeId} {x ix : Operand} : O C nt x0 new ⟨dst, .indexAddr t x ix, none⟩ T st (K := ⟨K⟩) ↔
    S (elemTI C t) (K := ⟨fun te => S (indexAddrA te (ev T x) (ev T ix)) (K := ⟨fun v => P nt T dst v (K := ⟨fun T' => K T' st ⟨looks T (.indexAddr t x ix), [], none, false⟩⟩)⟩)⟩) := W_indexAddr
theorem O_index {t : TypeId} {x ix : Operand} : O C nt x0 new ⟨dst, .index t x ix, none⟩ T st (K := ⟨K⟩) ↔ S (indexA ((C.ty t).map fun ti : TI => ti.kind) (ev T x) (ev T ix)) (K := ⟨fun v => P nt T dst v (K := ⟨fun T' => K T' st ⟨looks T (.index t x ix), [], none, false⟩⟩)⟩) := W_index
theorem O_extract {x : Operand} {i : Nat} : O C nt x0 new ⟨dst, .extract x i, none⟩ T st (K := ⟨K⟩) ↔ S (tupA (ev T x) i) (K := ⟨fun v => P nt T dst v (K := ⟨fun T' => K T' st ⟨looks T (.extract x i), [], none, false⟩⟩)⟩) := W_extract
theorem O_build {t : TypeId} {parts : Array (Nat × Operand)} : O C nt x0 new ⟨dst, .build t parts, none⟩ T st (K := ⟨K⟩) ↔
    S (C.ty t) (K := ⟨fun ti => S (buildA ti (parts.toList.map fun p => (p.1, ev T p.2))) (K := ⟨fun v => P nt T dst v (K := ⟨fun T' => K T' st ⟨looks T (.build t parts), [], none, false⟩⟩)⟩)⟩) := W_build
theorem O_makeFunc {f : Nat} {first captured : Array Operand} : O C nt x0 new ⟨dst, .makeFunc (.func f) first captured, none⟩ T st (K := ⟨K⟩) ↔
    P nt T dst (.func f (first.toList.map (ev T)) (captured.toList.map (ev T))) (K := ⟨fun T' => K T' st ⟨looks T (.makeFunc (.func f) first captured), [], none, false⟩⟩) := W_makeFunc
theorem O_makeMap {t : TypeId} : O C nt x0 new ⟨dst, .makeMap t none, none⟩ T st (K := ⟨K⟩) ↔ P nt T dst (.map new) (K := ⟨fun T' => K T' ⟨hput st.h new (.map []), st.c, st.bar⟩ ⟨looks T (.makeMap t none), [new], none, false⟩⟩) := W_makeMap
theorem O_mapUpdate {t : TypeId} {m k x : Operand} : O C nt x0 new ⟨dst, .mapUpdate t m k x, none⟩ T st (K := ⟨K⟩) ↔
    S (keyTI C t) (K := ⟨fun tk => keyMatch tk (ev T k) = true ∧ Mp st.bar st.h (ev T m) (K := ⟨fun s es => S (mapSet es (ev T k) (ev T x)) (K := ⟨fun es' => P nt T dst .undef (K := ⟨fun T' => K T' ⟨hput st.h s (.map es'), st.c, st.bar⟩ ⟨looks T (.mapUpdate t m k x), [s], none, false⟩⟩)⟩)⟩)⟩) := W_mapUpdate
theorem Mp_map {s : Nat} {f : Nat → List (AV × AV) → Prop} : Mp bar h (.map s) (K := ⟨f⟩) = (bar ≤ s ∧ Mo (hget h s) (K := ⟨fun es => f s es⟩)) := rfl
theorem Mo_some {es : List (AV × AV)} {f : List (AV × AV) → Prop} : Mo (some (.map es)) (K := ⟨f⟩) = f es := rfl
theorem O_len {x : Operand} {t : TypeId} : O C nt x0 new ⟨dst, .call { callee := .builtin .len, args := #[x], argTypes := #[t] }, none⟩ T st (K := ⟨K⟩) ↔
    S (C.ty t) (K := ⟨fun ti => S (lenA ti st.h (ev T x)) (K := ⟨fun n => P nt T dst (.int .i64 (n : Int)) (K := ⟨fun T' => K T' st ⟨looks T (.call { callee := .builtin .len, args := #[x], argTypes := #[t] }), [], none, false⟩⟩)⟩)⟩) := W_len
theorem O_min {x y : Operand} {ts : Array TypeId} : O C nt x0 new ⟨dst, .call { callee := .builtin .min, args := #[x, y], argTypes := ts }, none⟩ T st (K := ⟨K⟩) ↔
    S (minA (ev T x) (ev T y)) (K := ⟨fun v => P nt T dst v (K := ⟨fun T' => K T' st ⟨looks T (.call { callee := .builtin .min, args := #[x, y], argTypes := ts }), [], none, false⟩⟩)⟩) := W_min
theorem O_max {x y : Operand} {ts : Array TypeId} : O C nt x0 new ⟨dst, .call { callee := .builtin .max, args := #[x, y], argTypes := ts }, none⟩ T st (K := ⟨K⟩) ↔
    S (maxA (ev T x) (ev T y)) (K := ⟨fun v => P nt T dst v (K := ⟨fun T' => K T' st ⟨looks T (.call { callee := .builtin .max, args := #[x, y], argTypes := ts }), [], none, false⟩⟩)⟩) := W_max
theorem O_call {f : Operand} {args : Array Operand} {ts : Array TypeId} : O C nt x0 new ⟨dst, .call { callee := .value f, args := args, argTypes := ts }, none⟩ T st (K := ⟨K⟩) ↔
    Fu (ev T f) (K := ⟨fun g a b => Cl C nt x0 new dst g (a ++ (args.toList.map (ev T) ++ b)) T st (K := ⟨K⟩)⟩) := W_call
theorem O_append {s x : Operand} {t : TypeId} : O C nt x0 new ⟨dst, .call { callee := .builtin .append, args := #[s, x], argTypes := #[t, t] }, none⟩ T st (K := ⟨K⟩) ↔
    S (elemTI C t) (K := ⟨fun te => S (appendA te st.h st.bar new (ev T s) (ev T x)) (K := ⟨fun r => P nt T dst r.1 (K := ⟨fun T' => K T' ⟨hputs st.h r.2, st.c, st.bar⟩ ⟨looks T (.call { callee := .builtin .append, args := #[s, x], argTypes := #[t, t] }), r.2.map (·.1), none, false⟩⟩)⟩)⟩) := W_append
theorem O_buildSlice {t : TypeId} {len : Nat} {parts : Array (Nat × Operand)} : O C nt x0 new ⟨dst, .buildSlice t len parts, none⟩ T st (K := ⟨K⟩) ↔
    S (elemTI C t) (K := ⟨fun te => S (buildSliceA te new len (parts.toList.map fun p => (p.1, ev T p.2))) (K := ⟨fun r => P nt T dst r.1 (K := ⟨fun T' => K T' ⟨hputs st.h r.2, st.c, st.bar⟩ ⟨looks T (.buildSlice t len parts), r.2.map (·.1), none, false⟩⟩)⟩)⟩) := W_buildSlice

theorem Cl_hook {g : Nat} {F : Heap → Nat → Nat → List AV → Option (AV × List (Nat × AObj))} {args : List AV} (hg : C.hook g = some F) :
    Cl C nt x0 new dst g args T st (K := ⟨K⟩) ↔ S (F (only st.h (hookLooks args)) st.bar new args) (K := ⟨fun r => P nt T dst r.1 (K := ⟨fun T' => K T' ⟨hputs st.h r.2, st.c, st.bar⟩ ⟨hookLooks args, r.2.map (·.1), none, false⟩⟩)⟩) := CallW_hook hg
theorem Cl_2 {g : Nat} {fn : Func} {body : Code} {args : List AV} (hh : C.hook g = none) (hf : C.fn g = some fn) (hb : fn.body = some body) (hm : C.mode g = 2) :
    Cl C nt x0 new dst g args T st (K := ⟨K⟩) ↔ X C fn.ntmps body (padT fn.ntmps args) st (Q := ⟨endW C fn.results.toList fun r st' => P nt T dst r (K := ⟨fun T' => K T' ⟨st'.h, st'.c, st.bar⟩ ⟨[], [], none, true⟩⟩)⟩) := by
  unfold Cl CallW
  rw [hh]
  simp only [hm, if_true]
  exact Ca_mode2 hf hb hm
/-- What a call sees, and how it may not be met by others. -/
def callFoot (x0 : Ctx) (c : Nat) : Foot := ⟨[], [], some (fun _ => false, fun s => sees x0.c0 x0.n x0.vis s || decide (c ≤ s)), false⟩
def seen (x0 : Ctx) (h : Heap) : Heap := match x0.vis with
  | none => h
  | some _ => h.filter fun p => sees x0.c0 x0.n x0.vis p.1
theorem seen_flat {h : Heap} : seen flatC h = h := rfl
theorem seen_eq {h : Heap} : (h.filter fun p => sees x0.c0 x0.n x0.vis p.1) = seen x0 h := by
  unfold seen
  cases hv : x0.vis with
  | none => simp [sees]
  | some b => rfl
theorem hget_seen {h : Heap} {s : Nat} : hget (seen x0 h) s = if sees x0.c0 x0.n x0.vis s = true then hget h s else none := by
  rw [← seen_eq, hget_filter (fun s => sees x0.c0 x0.n x0.vis s)]
theorem foot_eq {g c : Nat} (hm : C.mode g ≠ 1) : (⟨[], [], some (fun s => C.mode g = 1 && decide (c ≤ s), fun s => sees x0.c0 x0.n x0.vis s || decide (c ≤ s)), false⟩ : Foot) = callFoot x0 c := by
  simp [callFoot, hm]

theorem Cl_0 {g : Nat} {fn : Func} {body : Code} {args : List AV} (hh : C.hook g = none) (hf : C.fn g = some fn) (hb : fn.body = some body) (hm : C.mode g = 0) :
    Cl C nt x0 new dst g args T st (K := ⟨K⟩) ↔ X C fn.ntmps body (padT fn.ntmps args) ⟨seen x0 st.h, st.c, st.c⟩ (Q := ⟨endW C fn.results.toList fun r st' => S (fin st'.h st.c false 8 r) (K := ⟨fun r' => P nt T dst r' (K := ⟨fun T' => K T' st (callFoot x0 st.c)⟩)⟩)⟩) := by
  unfold Cl CallW
  rw [hh]
  simp only [hm, show (0 : Nat) ≠ 2 by decide, show (0 : Nat) ≠ 1 by decide, if_false, seen_eq]
  have hfo := foot_eq (C := C) (x0 := x0) (g := g) (c := st.c) (by omega)
  simp only [hm, show (0 : Nat) ≠ 1 by decide] at hfo
  rw [hfo]
  exact Ca_mode0 hf hb hm

end
end Go.Ab
/- clear. -/
namespace Go.Ab
open Go
section
variable {C : Cfg} {nt new : Nat} {T : List AV} {st : St} {K : KF} {x0 : Ctx} {dst : Option Nat}

def clearA (te : TI) (look : Heap) (bar : Nat) (s : AV) : Option (AV × List (Nat × AObj)) :=
  match s with
  | .osl sz s off len _ =>
    if sz = te.size ∧ te.zero.length = sz ∧ bar ≤ s ∧ te.zero.all AV.one then
      match hget look s with
      | some (.cells cs) => match putCells cs off (List.replicate len te.zero).flatten with
        | some cs' => some (.tuple [], [(s, .cells cs')])
        | none => none
      | _ => none
    else none
  | _ => none
theorem O_clear {x : Operand} {t : TypeId} : O C nt x0 new ⟨dst, .call { callee := .builtin .clear, args := #[x], argTypes := #[t] }, none⟩ T st (K := ⟨K⟩) ↔
    S (elemTI C t) (K := ⟨fun te => S (clearA te st.h st.bar (ev T x)) (K := ⟨fun r => P nt T dst r.1 (K := ⟨fun T' => K T' ⟨hputs st.h r.2, st.c, st.bar⟩ ⟨looks T (.call { callee := .builtin .clear, args := #[x], argTypes := #[t] }), r.2.map (·.1), none, false⟩⟩)⟩)⟩) := by
  unfold O
  rw [OpW_plan rfl]
  have key : plan C T (only st.h (looks T (.call { callee := .builtin .clear, args := #[x], argTypes := #[t] }))) st.bar new (.call { callee := .builtin .clear, args := #[x], argTypes := #[t] }) =
      match elemTI C t with
      | some te => clearA te st.h st.bar (ev T x)
      | none => none := by
    have hl : looks T (.call { callee := .builtin .clear, args := #[x], argTypes := #[t] }) = (match ev T x with | .osl _ s _ _ _ => [s] | _ => []) ++ [] := by
      simp only [looks, List.flatMap_cons, List.flatMap_nil]
      rfl
    rw [hl]
    simp only [plan, elemTI]
    cases C.ty t with
    | none => rfl
    | some ti =>
      simp only [Option.bind_some]
      cases ti.kind <;> try rfl
      rename_i e
      simp only
      cases C.ty e with
      | none => rfl
      | some te =>
        simp only
        cases hx : ev T x <;> try rfl
        rename_i sz s off len cp
        simp only [clearA, List.append_nil]
        rw [hget_only' (h := st.h) (ss := [s]) (s := s) (by simp)]
        rfl
  unfold PlanW
  rw [key]
  cases elemTI C t with
  | none => simp [S, someW]
  | some te =>
    simp only [S, someW_some]
    rw [someW_iff]
    constructor
    · rintro ⟨v, es, h1, h2⟩; exact ⟨(v, es), h1, h2⟩
    · rintro ⟨⟨v, es⟩, h1, h2⟩; exact ⟨v, es, h1, h2⟩
end
end Go.Ab
namespace Go.Ab
open Go
section
variable {C : Cfg} {nt new : Nat} {T : List AV} {st : St} {K : KF} {x0 : Ctx} {dst : Option Nat}

def rangeA (new : Nat) (ti : TI) (v : AV) : Option (AV × List (Nat × AObj)) :=
  match ti.kind, v with
  | .str, .str l => some (.ptr new 0, [(new, .iter l 0)])
  | _, _ => none
theorem O_range {x : Operand} {t : TypeId} : O C nt x0 new ⟨dst, .range t x, none⟩ T st (K := ⟨K⟩) ↔
    S (C.ty t) (K := ⟨fun ti => S (rangeA new ti (ev T x)) (K := ⟨fun r => P nt T dst r.1 (K := ⟨fun T' => K T' ⟨hputs st.h r.2, st.c, st.bar⟩ ⟨looks T (.range t x), r.2.map (·.1), none, false⟩⟩)⟩)⟩) := by
  unfold O
  rw [OpW_plan rfl]
  have key : ∀ look, plan C T look st.bar new (.range t x) = match C.ty t with
      | some ti => rangeA new ti (ev T x)
      | none => none := fun look => by
    simp only [plan, rangeA]
    cases C.ty t with
    | none => rfl
    | some ti => rfl
  unfold PlanW
  rw [key]
  cases C.ty t with
  | none => simp [S, someW]
  | some ti =>
    simp only [S, someW_some]
    rw [someW_iff]
    constructor
    · rintro ⟨v, es, h1, h2⟩; exact ⟨(v, es), h1, h2⟩
    · rintro ⟨⟨v, es⟩, h1, h2⟩; exact ⟨v, es, h1, h2⟩
def nextA (h : Heap) (bar : Nat) (v : AV) : Option (AV × List (Nat × AObj)) :=
  match v with
  | .ptr s 0 => if bar ≤ s then
      match hget h s with
      | some (.iter l pos) =>
        if pos < l.length then some (.tuple [.bool true, .int .i64 (pos : Nat), .int .i32 ((Utf8.decode ⟨l.toArray⟩ pos).1 : Nat)], [(s, .iter l (pos + (Utf8.decode ⟨l.toArray⟩ pos).2))])
        else some (.tuple [.bool false], [])
      | _ => none
    else none
  | _ => none
theorem O_next {x : Operand} : O C nt x0 new ⟨dst, .next x true, none⟩ T st (K := ⟨K⟩) ↔
    S (nextA st.h st.bar (ev T x)) (K := ⟨fun r => P nt T dst r.1 (K := ⟨fun T' => K T' ⟨hputs st.h r.2, st.c, st.bar⟩ ⟨looks T (.next x true), r.2.map (·.1), none, false⟩⟩)⟩) := by
  unfold O
  rw [OpW_plan rfl]
  have key : plan C T (only st.h (looks T (.next x true))) st.bar new (.next x true) = nextA st.h st.bar (ev T x) := by
    simp only [plan, looks]
    cases hx : ev T x <;> try rfl
    rename_i s off
    cases off with
    | zero =>
      simp only [nextA]
      rw [hget_only' (h := st.h) (ss := [s]) (s := s) (by simp)]
      rfl
    | succ n => rfl
  unfold PlanW
  rw [key]
  simp only [S]
  rw [someW_iff]
  constructor
  · rintro ⟨v, es, h1, h2⟩; exact ⟨(v, es), h1, h2⟩
  · rintro ⟨⟨v, es⟩, h1, h2⟩; exact ⟨v, es, h1, h2⟩
end
end Go.Ab
/- Loops: what a piece of code may write, and the rule for a loop. -/
namespace Go.Ab
open Go

/-- The temporaries that a piece of code may write. -/
def wrs : Code → List Nat
  | .region _ ops _ => ops.toList.filterMap fun o => o.dst
  | .seq a b => wrs a ++ wrs b
  | .cond _ a b => wrs a ++ wrs b
  | .block _ b => wrs b
  | .loop b => wrs b
  | _ => []

def Fr (M : List Nat) (T T' : List AV) : Prop := ∀ i, M.contains i = false → getT T' i = getT T i

theorem Fr.refl (M : List Nat) (T : List AV) : Fr M T T := fun _ _ => rfl
theorem Fr.trans {M : List Nat} {T T' T'' : List AV} (h : Fr M T T') (k : Fr M T' T'') : Fr M T T'' := fun i hi => (k i hi).trans (h i hi)
theorem Fr.sub {M N : List Nat} {T T' : List AV} (h : Fr M T T') (hs : ∀ i, N.contains i = false → M.contains i = false) : Fr N T T' := fun i hi => h i (hs i hi)
theorem Fr.left {M N : List Nat} {T T' : List AV} (h : Fr M T T') : Fr (M ++ N) T T' := h.sub fun i hi => by
  simp only [List.contains_eq_mem, List.mem_append, decide_eq_false_iff_not, not_or] at hi ⊢; exact hi.1
theorem Fr.right {M N : List Nat} {T T' : List AV} (h : Fr N T T') : Fr (M ++ N) T T' := h.sub fun i hi => by
  simp only [List.contains_eq_mem, List.mem_append, decide_eq_false_iff_not, not_or] at hi ⊢; exact hi.2

section
variable {C : Cfg}

theorem putT_fr {nt : Nat} {T T' : List AV} {dst : Option Nat} {v : AV} (h : putT nt T dst v = some T') {i : Nat} (hi : dst ≠ some i) : getT T' i = getT T i := by
  cases dst with
  | none => simp only [putT, Option.some.injEq] at h; rw [h]
  | some d =>
    simp only [putT] at h
    split at h
    · simp only [Option.some.injEq] at h
      subst h
      rw [getT_setT, if_neg (fun e => hi (by rw [e]))]
    · cases h

theorem runTodo_fr {call : CallF} {nt c0 n : Nat} {vis : Option (List Nat)} {dst : Option Nat} {T : List AV} {st : St} {td : Todo} {r : List AV × St × Foot} (h : runTodo C call nt c0 n vis dst T st td = some r) {i : Nat} (hi : dst ≠ some i) : getT r.1 i = getT T i := by
  cases td with
  | bad => cases h
  | plain rd F =>
    simp only [runTodo] at h
    split at h
    · obtain ⟨T', hp, e⟩ := Option.map_eq_some_iff.1 h; subst e; exact putT_fr hp hi
    · cases h
  | call g args =>
    simp only [runTodo] at h
    split at h
    · split at h
      · obtain ⟨T', hp, e⟩ := Option.map_eq_some_iff.1 h; subst e; exact putT_fr hp hi
      · cases h
    · split at h
      · obtain ⟨T', hp, e⟩ := Option.map_eq_some_iff.1 h; subst e; exact putT_fr hp hi
      · cases h

theorem opsA_fr {call : CallF} {nt c0 : Nat} {bl : Option (List (List Nat))} {ops : Array Oper} {i : Nat} (hi : ∀ o ∈ ops.toList, o.dst ≠ some i) : ∀ (is : List Nat) (T : List AV) (st : St) (r : List AV × St × List (Nat × Foot)),
    opsA C call nt c0 bl ops is T st = some r → getT r.1 i = getT T i
  | [], T, st, r, h => by simp only [opsA, Option.some.injEq] at h; subst h; rfl
  | j :: is, T, st, r, h => by
    simp only [opsA] at h
    split at h
    · cases h
    · rename_i T' st' f hs
      split at h
      · rename_i T2 st2 fs ht
        simp only [Option.some.injEq] at h
        subst h
        have h1 := opsA_fr hi is T' st' _ ht
        simp only at h1 ⊢
        rw [h1]
        unfold stepA at hs
        split at hs
        · cases hs
        · rename_i o ho
          exact runTodo_fr hs (hi o (by rw [← Array.getElem?_toList] at ho; exact List.mem_of_getElem? ho))
      · cases h

theorem exec_fr : ∀ (n nt : Nat) (c : Code) (T : List AV) (st : St) (r : AExit × List AV × St), exec C n nt c T st = some r → Fr (wrs c) T r.2.1
  | 0, _, _, _, _, _, h => by simp [exec] at h
  | n + 1, nt, c, T, st, r, h => by
    simp only [exec] at h
    cases c with
    | skip => simp only [execF, Option.some.injEq] at h; subst h; exact Fr.refl _ _
    | exit id => simp only [execF, Option.some.injEq] at h; subst h; exact Fr.refl _ _
    | ret => simp only [execF, Option.some.injEq] at h; subst h; exact Fr.refl _ _
    | region id ops draw =>
      have key : ∀ (bl : Option (List (List Nat))) (T' : List AV) (st' : St) (fs : List (Nat × Foot)), opsA C (callN C n) nt st.c bl ops (List.range ops.size) T { st with c := st.c + ops.size } = some (T', st', fs) → Fr (wrs (.region id ops draw)) T T' := fun bl T' st' fs ht i hi => by
        refine opsA_fr (fun o ho e => ?_) _ _ _ _ ht
        have hm : i ∈ wrs (.region id ops draw) := List.mem_filterMap.2 ⟨o, ho, e⟩
        rw [List.contains_eq_mem, decide_eq_false_iff_not] at hi
        exact hi hm
      simp only [execF] at h
      split at h
      · split at h
        · cases h
        · rename_i T' st' fs ht
          split at h
          · simp only [Option.some.injEq] at h; subst h; exact key _ _ _ _ ht
          · cases h
      · split at h
        · cases h
        · rename_i T' st' fs ht
          simp only [Option.some.injEq] at h; subst h; exact key _ _ _ _ ht
    | seq a b =>
      simp only [execF] at h
      split at h
      · rename_i T' st' h1
        exact (exec_fr n nt a T st _ h1).left.trans (exec_fr n nt b T' st' _ h).right
      · exact (exec_fr n nt a T st _ h).left
    | cond x a b =>
      simp only [execF] at h
      split at h
      · exact (exec_fr n nt a T st _ h).left
      · exact (exec_fr n nt b T st _ h).right
      · cases h
    | block id b =>
      simp only [execF] at h
      split at h
      · rename_i j T' st' h1
        have := exec_fr n nt b T st _ h1
        split at h
        · simp only [Option.some.injEq] at h; subst h; exact this
        · simp only [Option.some.injEq] at h; subst h; exact this
      · exact exec_fr n nt b T st _ h
    | loop b =>
      simp only [execF] at h
      split at h
      · rename_i T' st' h1
        exact (exec_fr n nt b T st _ h1).trans (exec_fr n nt (.loop b) T' st' _ h)
      · exact exec_fr n nt b T st _ h
    | _ => simp only [execF] at h; cases h

theorem exec_cb (n nt : Nat) (c : Code) (T : List AV) (st : St) (r : AExit × List AV × St) (h : exec C n nt c T st = some r) : st.c ≤ r.2.2.c ∧ r.2.2.bar = st.bar := by
  letI : Inhabited Val := ⟨⟨fun _ => 0⟩⟩
  exact (mono_all C n).1 nt c T st r.1 r.2.1 r.2.2 h

theorem X_fr {nt : Nat} {c : Code} {T : List AV} {st : St} {Q : KE} (h : X C nt c T st (Q := ⟨fun e T' st' => Fr (wrs c) T T' → st.c ≤ st'.c → st'.bar = st.bar → Q e T' st'⟩)) : X C nt c T st (Q := ⟨Q⟩) := by
  obtain ⟨n, r, h1, h2⟩ := h
  exact ⟨n, r, h1, h2 (exec_fr n nt c T st r h1) (exec_cb n nt c T st r h1).1 (exec_cb n nt c T st r h1).2⟩

/-- A loop: an invariant, a measure, and what holds behind it. -/
theorem X_loop {nt : Nat} {b : Code} {T0 : List AV} {st0 : St} {Q : KE} {α : Type} (I : α → List AV → St → Prop) (m : α → Nat) (Post : KE) (a0 : α) (h0 : I a0 T0 st0)
    (body : ∀ a T st, Fr (wrs b) T0 T → st0.c ≤ st.c → st.bar = st0.bar → I a T st → X C nt b T st (Q := ⟨kseq (fun T' st' => ∃ a', m a' < m a ∧ I a' T' st') Post⟩))
    (post : ∀ e T st, e ≠ .normal → Fr (wrs b) T0 T → st0.c ≤ st.c → st.bar = st0.bar → Post e T st → Q e T st) : X C nt (.loop b) T0 st0 (Q := ⟨Q⟩) := by
  refine Ex_while (fun k T st => (Fr (wrs b) T0 T ∧ st0.c ≤ st.c ∧ st.bar = st0.bar) ∧ ∃ a, m a = k ∧ I a T st) (fun k T st hk => ?_) (m a0) T0 st0 ⟨⟨Fr.refl _ _, Nat.le_refl _, rfl⟩, a0, rfl, h0⟩
  obtain ⟨⟨hf, hc, hb⟩, a, rfl, hi⟩ := hk
  refine X_fr (Ex.mono (body a T st hf hc hb hi) fun e T' st' hq hfr hc' hb' => ?_)
  cases e with
  | normal => obtain ⟨a', hlt, hi'⟩ := hq; exact ⟨m a', hlt, ⟨hf.trans hfr, Nat.le_trans hc hc', hb'.trans hb⟩, a', rfl, hi'⟩
  | exit j => exact post _ _ _ (by simp) (hf.trans hfr) (Nat.le_trans hc hc') (hb'.trans hb) hq
  | ret => exact post _ _ _ (by simp) (hf.trans hfr) (Nat.le_trans hc hc') (hb'.trans hb) hq

end
end Go.Ab
/- A configuration off the program itself: the types by a table that one closed fact checks; the functions as they stand. -/
namespace Go.Ab
open Go

def zrel : AV → Value → Bool
  | .bool a, .bool b => a == b
  | .int k a, .int k' b => decide (k = k') && decide (a = b)
  | .str [], .string s => s.data.toList.isEmpty
  | .rows true [], .slice none 0 0 => true
  | .nilptr, .pointer none => true
  | .nilmap, .map none => true
  | .nilfunc, .nilFunc => true
  | .nilIface, .nilIface => true
  | _, _ => false

theorem zrel_sound [Inhabited Val] {ρ : Rho} {im : Im} {c : AV} {v : Value} (h : zrel c v = true) : VRel ρ im c v := by
  unfold zrel at h
  split at h
  · simp only [beq_iff_eq] at h; subst h; exact .bool _
  · simp only [Bool.and_eq_true, decide_eq_true_eq] at h; obtain ⟨rfl, rfl⟩ := h; exact .int _ _
  · rename_i s; exact .str [] s (by simpa using h)
  · exact .rows true [] none 0 0 0 (fun _ _ => Go.undef) rfl (by simp) (Nat.le_refl _) (fun _ => rfl) (fun h => absurd rfl h) (fun i j => by simpa using VRel.bad _)
  · exact .nilptr
  · exact .nilmap
  · exact .nilfunc
  · exact .nilIface
  · cases h

def zrels : List AV → List Value → Bool
  | [], [] => true
  | c :: cs, v :: vs => zrel c v && zrels cs vs
  | _, _ => false

theorem zrels_sound [Inhabited Val] {ρ : Rho} {im : Im} : ∀ {cs : List AV} {vs : List Value}, zrels cs vs = true → LRel ρ im cs vs
  | [], [], _ => .nil _ _
  | c :: cs, v :: vs, h => by
    simp only [zrels, Bool.and_eq_true] at h
    exact (zrels_sound h.2).cons (zrel_sound h.1)
  | [], _ :: _, h => by simp [zrels] at h
  | _ :: _, [], h => by simp [zrels] at h

def fieldsB (P : Program) : List Field → List (Nat × Nat × Bool) → Bool
  | [], [] => true
  | f :: fs, fo :: fos => f.offset == fo.1 && (match P.info? f.type with | some i => i.size == fo.2.1 | none => false) &&
      (match P.underlying f.type with | some d => aggDesc d == fo.2.2 | none => false) && fieldsB P fs fos
  | _, _ => false

theorem fieldsB_sound {P : Program} : ∀ {fs : List Field} {fos : List (Nat × Nat × Bool)}, fieldsB P fs fos = true → fs.length = fos.length ∧
    ∀ (i : Nat) (f : Field) (fo : Nat × Nat × Bool), fs[i]? = some f → fos[i]? = some fo → f.offset = fo.1 ∧ (∃ fi, P.info? f.type = some fi ∧ fi.size = fo.2.1) ∧ ∃ d, P.underlying f.type = some d ∧ aggDesc d = fo.2.2
  | [], [], _ => ⟨rfl, fun i f fo h => by simp at h⟩
  | f :: fs, fo :: fos, h => by
    simp only [fieldsB, Bool.and_eq_true] at h
    obtain ⟨⟨⟨h1, h2⟩, h3⟩, h4⟩ := h
    obtain ⟨k1, k2⟩ := fieldsB_sound h4
    refine ⟨by simp [k1], fun i g go hg hgo => ?_⟩
    cases i with
    | zero =>
      simp at hg hgo
      subst hg hgo
      refine ⟨by simpa using h1, ?_, ?_⟩
      · split at h2
        · rename_i i hi; exact ⟨i, hi, by simpa using h2⟩
        · cases h2
      · split at h3
        · rename_i d hd; exact ⟨d, hd, by simpa using h3⟩
        · cases h3
    | succ i => exact k2 i g go (by simpa using hg) (by simpa using hgo)
  | [], _ :: _, h => by simp [fieldsB] at h
  | _ :: _, [], h => by simp [fieldsB] at h

def kindB (P : Program) (t : Nat) (ti : TI) : Bool :=
  match ti.kind, P.underlying t with
  | .bool, some .bool => true
  | .int k, some (.int k') => decide (k' = k)
  | .str, some .string => true
  | .struct, some (.struct fs) => fieldsB P fs.toList ti.fields
  | .slice e, some (.slice e') => e' == e
  | .ptr e, some (.pointer e') => e' == e
  | .map k e, some (.map k' e') => k' == k && e' == e
  | .func, some (.func ..) => true
  | .iface, some (.interface _) => true
  | .array n e, some (.array n' e') => n' == n && e' == e
  | .other, some d => !aggDesc d
  | _, _ => false

theorem kindB_sound [Inhabited Val] {P : Program} {t : Nat} {ti : TI} (h : kindB P t ti = true) : KindOk P t ti := by
  unfold kindB at h
  unfold KindOk
  cases hk : ti.kind with
  | bool => simp only [hk] at h ⊢; cases hu : P.underlying t with
    | none => rw [hu] at h; cases h
    | some d => rw [hu] at h; cases d <;> first | rfl | cases h
  | int k => simp only [hk] at h ⊢; cases hu : P.underlying t with
    | none => rw [hu] at h; cases h
    | some d => rw [hu] at h; cases d <;> first | cases h | skip
                simp only [decide_eq_true_eq] at h; subst h; rfl
  | str => simp only [hk] at h ⊢; cases hu : P.underlying t with
    | none => rw [hu] at h; cases h
    | some d => rw [hu] at h; cases d <;> first | rfl | cases h
  | struct => simp only [hk] at h ⊢; cases hu : P.underlying t with
    | none => rw [hu] at h; cases h
    | some d =>
      rw [hu] at h
      cases d <;> first | cases h | skip
      rename_i fs
      obtain ⟨h1, h2⟩ := fieldsB_sound h
      exact ⟨fs, rfl, by simpa using h1, fun i f fo hf hfo => h2 i f fo (by simpa using hf) hfo⟩
  | slice e => simp only [hk] at h ⊢; cases hu : P.underlying t with
    | none => rw [hu] at h; cases h
    | some d => rw [hu] at h; cases d <;> first | cases h | skip
                simp only [beq_iff_eq] at h; subst h; rfl
  | ptr e => simp only [hk] at h ⊢; cases hu : P.underlying t with
    | none => rw [hu] at h; cases h
    | some d => rw [hu] at h; cases d <;> first | cases h | skip
                simp only [beq_iff_eq] at h; subst h; rfl
  | map k e => simp only [hk] at h ⊢; cases hu : P.underlying t with
    | none => rw [hu] at h; cases h
    | some d => rw [hu] at h; cases d <;> first | cases h | skip
                simp only [Bool.and_eq_true, beq_iff_eq] at h; obtain ⟨rfl, rfl⟩ := h; rfl
  | func => simp only [hk] at h ⊢; cases hu : P.underlying t with
    | none => rw [hu] at h; cases h
    | some d => rw [hu] at h; cases d <;> first | cases h | skip
                exact ⟨_, _, _, rfl⟩
  | iface => simp only [hk] at h ⊢; cases hu : P.underlying t with
    | none => rw [hu] at h; cases h
    | some d => rw [hu] at h; cases d <;> first | cases h | skip
                exact ⟨_, rfl⟩
  | array n e => simp only [hk] at h ⊢; cases hu : P.underlying t with
    | none => rw [hu] at h; cases h
    | some d => rw [hu] at h; cases d <;> first | cases h | skip
                simp only [Bool.and_eq_true, beq_iff_eq] at h; obtain ⟨rfl, rfl⟩ := h; rfl
  | other => simp only [hk] at h ⊢; cases hu : P.underlying t with
    | none => rw [hu] at h; cases h
    | some d => rw [hu] at h; exact ⟨d, rfl, by simpa using h⟩

/-- Structs of numbers, bools and texts alone. -/
def flatFs (P : Program) : Nat → List AV → List Field → Bool
  | _, [], [] => true
  | k, z :: zs, f :: fs => f.name != "_" && f.offset == k && (match z, P.underlying f.type with
    | .bool _, some .bool => true
    | .int j _, some (.int j') => decide (j' = j)
    | .str _, some .string => true
    | _, _ => false) && flatFs P (k + 1) zs fs
  | _, _, _ => false

def flatB (P : Program) (t : Nat) (ti : TI) : Bool :=
  !P.stoodInHeld t && !P.eqGuardType P.depth t && match P.underlying t with
  | some (.struct fs) => flatFs P 0 ti.zero fs.toList
  | _ => false

theorem eqOne_equal [Inhabited Val] {P : Program} {f : Field} {z c d : AV} {x y : Value} {ρ : Rho} {im : Im} {b : Bool} (hf : (match z, P.underlying f.type with
    | .bool _, some .bool => true
    | .int j _, some (.int j') => decide (j' = j)
    | .str _, some .string => true
    | _, _ => false) = true) (hk1 : kindsOk [z] [c] = true) (hk2 : kindsOk [z] [d] = true) (h1 : VRel ρ im c x) (h2 : VRel ρ im d y) (he : eqOne c d = some b) (n : Nat) (w : World) :
    (Op.equalIn (n + 1) f.type x y).run P w = .ok b w ∧ ∃ td, P.underlying f.type = some td ∧ aggDesc td = false := by
  cases z with
  | bool q =>
    cases hu : P.underlying f.type with
    | none => rw [hu] at hf; cases hf
    | some td =>
      rw [hu] at hf
      cases td <;> first | cases hf | skip
      cases c <;> first | cases hk1 | skip
      cases d <;> first | cases hk2 | skip
      rw [of_bool h1, of_bool h2]
      simp only [eqOne, Option.some.injEq] at he
      subst he
      exact ⟨by simp [Op.equalIn, run_underlying hu], _, rfl, rfl⟩
  | int j q =>
    cases hu : P.underlying f.type with
    | none => rw [hu] at hf; cases hf
    | some td =>
      rw [hu] at hf
      cases td <;> first | cases hf | skip
      cases c <;> first | (simp [kindsOk] at hk1; done) | skip
      cases d <;> first | (simp [kindsOk] at hk2; done) | skip
      simp [kindsOk] at hk1 hk2
      subst hk1 hk2
      rw [of_int h1, of_int h2]
      simp only [eqOne, if_true, Option.some.injEq] at he
      subst he
      exact ⟨by simp [Op.equalIn, run_underlying hu], _, rfl, rfl⟩
  | str q =>
    cases hu : P.underlying f.type with
    | none => rw [hu] at hf; cases hf
    | some td =>
      rw [hu] at hf
      cases td <;> first | cases hf | skip
      cases c <;> first | cases hk1 | skip
      cases d <;> first | cases hk2 | skip
      obtain ⟨s1, rfl, e1⟩ := of_str h1
      obtain ⟨s2, rfl, e2⟩ := of_str h2
      simp only [eqOne, Option.some.injEq] at he
      subst he
      refine ⟨?_, _, rfl, rfl⟩
      have : (s1 == s2) = (s1.data.toList == s2.data.toList) := by
        have e : (s1 == s2) = (s1.data == s2.data) := rfl
        rw [e, Bool.eq_iff_iff]
        simp only [beq_iff_eq]
        exact ⟨fun h => by rw [h], fun h => Array.ext' h⟩
      simp [Op.equalIn, run_underlying hu, this, e1, e2]
  | _ => cases hf

theorem kindsOk_cons {z c : AV} {zs cs : List AV} (h : kindsOk (z :: zs) (c :: cs) = true) : kindsOk [z] [c] = true ∧ kindsOk zs cs = true := by
  cases z <;> cases c <;> first | (simp [kindsOk] at h; done) | (simp [kindsOk] at h ⊢; exact h)

theorem flat_loop [Inhabited Val] {P : Program} {ρ : Rho} {im : Im} {xs ys : Array Value} {w : World} {n : Nat} : ∀ (fs : List Field) (k : Nat) (zs cs ds : List AV) (b : Bool), flatFs P k zs fs = true → kindsOk zs cs = true → kindsOk zs ds = true →
    LRel ρ im cs (xs.toList.drop k) → LRel ρ im ds (ys.toList.drop k) → eqCells cs ds = some b →
    (forIn fs ((none : Option Bool), ()) fun f __s =>
            if f.name = "_" then (pure (ForInStep.yield (none, ())) : Sem _)
            else do
              let a ← Go.part f.type xs f.offset
              let c ← Go.part f.type ys f.offset
              let q ← Op.equalIn (n + 1) f.type a c
              if q = false then pure (ForInStep.done (some false, ())) else pure (ForInStep.yield (none, ()))).run P w = .ok (if b then none else some false, ()) w
  | [], k, zs, cs, ds, b, hf, h1, h2, l1, l2, he => by
    cases zs with
    | cons _ _ => simp [flatFs] at hf
    | nil =>
      cases cs with
      | cons _ _ => simp [kindsOk] at h1
      | nil => cases ds with
        | cons _ _ => simp [kindsOk] at h2
        | nil =>
          simp only [eqCells, Option.some.injEq] at he
          subst he
          rfl
  | f :: fs, k, zs, cs, ds, b, hf, h1, h2, l1, l2, he => by
    cases zs with
    | nil => simp [flatFs] at hf
    | cons z zs =>
      cases cs with
      | nil => cases z <;> simp [kindsOk] at h1
      | cons c cs => cases ds with
        | nil => cases z <;> simp [kindsOk] at h2
        | cons d ds =>
          simp only [flatFs, Bool.and_eq_true, bne_iff_ne, ne_eq, beq_iff_eq] at hf
          obtain ⟨⟨⟨hn, ho⟩, hz⟩, hfs⟩ := hf
          obtain ⟨k1, k1'⟩ := kindsOk_cons h1
          obtain ⟨k2, k2'⟩ := kindsOk_cons h2
          obtain ⟨x, xr, ex, hx, hxr⟩ := l1.of_cons
          obtain ⟨y, yr, ey, hy, hyr⟩ := l2.of_cons
          have gx : xs[k]? = some x := by
            have := congrArg (·[0]?) ex
            simpa using this
          have gy : ys[k]? = some y := by
            have := congrArg (·[0]?) ey
            simpa using this
          have dx : xs.toList.drop (k + 1) = xr := by
            rw [← List.drop_drop, ex]; rfl
          have dy : ys.toList.drop (k + 1) = yr := by
            rw [← List.drop_drop, ey]; rfl
          rw [← dx] at hxr
          rw [← dy] at hyr
          simp only [eqCells] at he
          cases hq : eqOne c d with
          | none => rw [hq] at he; cases he
          | some q =>
            rw [hq] at he
            obtain ⟨r1, td, r2, r3⟩ := eqOne_equal hz k1 k2 hx hy hq n w
            simp only [List.forIn_cons, hn, if_false, Sem.run_bind, Go.part, run_isAgg r2, Result.andThen_ok, r3, ho, gx, gy, Sem.run_pure, r1, Bool.false_eq_true]
            cases q with
            | false =>
              simp only [Option.some.injEq] at he
              subst he
              simp
            | true =>
              simp only [Bool.true_eq_false, if_false, Sem.run_pure, Result.andThen_ok]
              exact flat_loop fs (k + 1) zs cs ds b hfs k1' k2' hxr hyr he

theorem flat_sound [Inhabited Val] {P : Program} {t : Nat} {ti : TI} (h : flatB P t ti = true) : (∀ w xs ys b ρ im (cs ds : List AV), kindsOk ti.zero cs = true → kindsOk ti.zero ds = true → LRel ρ im cs xs.toList → LRel ρ im ds ys.toList → eqCells cs ds = some b → (Op.equal t (.agg xs) (.agg ys)).run P w = .ok b w) ∧ P.eqGuardType P.depth t = false := by
  unfold flatB at h
  simp only [Bool.and_eq_true, Bool.not_eq_true'] at h
  obtain ⟨⟨h1, h2⟩, h3⟩ := h
  refine ⟨fun w xs ys b ρ im cs ds k1 k2 l1 l2 he => ?_, h2⟩
  split at h3
  · rename_i fs hu
    have key : ∀ n, (Op.equalIn (n + 1 + 1) t (.agg xs) (.agg ys)).run P w = .ok b w := fun n => by
      have key := flat_loop (P := P) (w := w) (n := n) fs.toList 0 ti.zero cs ds b h3 k1 k2 l1 l2 he
      rw [Op.equalIn]
      simp only [Sem.run_bind, run_underlying hu, Result.andThen_ok]
      simp [h1]
      rw [← Array.forIn_toList, key]
      cases b <;> rfl
    exact key 9998
  · cases h3

def tyCheck (P : Program) (t : Nat) (ti : TI) : Bool :=
  (!ti.flat || flatB P t ti) && kindB P t ti &&
  match P.info? t with
  | none => false
  | some i => i.size == ti.size && i.bytes == ti.bytes &&
    match i.zero with
    | none => false
    | some z => z.cells.size == ti.size && zrels ti.zero z.cells.toList &&
      (if ti.agg then (match z with | .agg _ => true | _ => false) else match ti.zero with | [c] => zrel c z | _ => true)

theorem tyCheck_sound [Inhabited Val] {P : Program} {t : Nat} {ti : TI} (h : tyCheck P t ti = true) : TyOk P t ti := by
  unfold tyCheck at h
  simp only [Bool.and_eq_true, Bool.or_eq_true, Bool.not_eq_true'] at h
  obtain ⟨⟨hfl, hk⟩, h⟩ := h
  split at h
  · cases h
  · rename_i i hi
    simp only [Bool.and_eq_true, beq_iff_eq] at h
    obtain ⟨⟨h1, h2⟩, h⟩ := h
    split at h
    · cases h
    · rename_i z hz
      simp only [Bool.and_eq_true, beq_iff_eq] at h
      obtain ⟨⟨h3, h4⟩, h5⟩ := h
      refine ⟨⟨i, z, hi, h1, h2, hz, h3, fun ρ im => zrels_sound h4⟩, kindB_sound hk, fun i' z' hi' hz' ρ im u hu => ?_, fun q => flat_sound (hfl.resolve_left (by rw [q]; simp))⟩
      rw [hi] at hi'
      simp only [Option.some.injEq] at hi'
      subst hi'
      rw [hz] at hz'
      simp only [Option.some.injEq] at hz'
      subst hz'
      unfold zeroA at hu
      split at hu
      · rename_i hag
        simp only [Option.some.injEq] at hu
        subst hu
        rw [if_pos hag] at h5
        split at h5
        · exact VRel.agg' (zrels_sound h4)
        · cases h5
      · rename_i hag
        rw [if_neg hag] at h5
        split at hu
        · rename_i c hc
          simp only [Option.some.injEq] at hu
          subst hu
          rw [hc] at h5
          exact zrel_sound h5
        · cases hu

def look1 {α : Type} : List (Nat × α) → Nat → Option α
  | [], _ => none
  | (k, v) :: r, t => if Nat.beq k t then some v else look1 r t

theorem look1_mem {α : Type} : ∀ {l : List (Nat × α)} {t : Nat} {v : α}, look1 l t = some v → (t, v) ∈ l
  | [], _, _, h => by simp [look1] at h
  | (k, u) :: r, t, v, h => by
    simp only [look1] at h
    split at h
    · rename_i e
      simp only [Option.some.injEq] at h
      subst h
      have : k = t := Nat.eq_of_beq_eq_true e
      subst this
      simp
    · exact List.mem_cons_of_mem _ (look1_mem h)

def look2 {α : Type} : List (List (Nat × α)) → Nat → Nat → Option α
  | [], _, _ => none
  | l :: _, 0, t => look1 l t
  | _ :: r, n + 1, t => look2 r n t

theorem look2_mem [Inhabited Val] {α : Type} : ∀ {ll : List (List (Nat × α))} {n t : Nat} {v : α}, look2 ll n t = some v → ∃ l ∈ ll, (t, v) ∈ l
  | [], _, _, _, h => by simp [look2] at h
  | l :: r, 0, t, v, h => ⟨l, by simp, look1_mem (by simpa [look2] using h)⟩
  | _ :: r, n + 1, t, v, h => by
    obtain ⟨l, hl, hm⟩ := look2_mem (ll := r) (by simpa [look2] using h)
    exact ⟨l, by simp [hl], hm⟩

/-- The types' table, sixteen a leaf. -/
def tyBy (tt : List (List (Nat × TI))) (t : Nat) : Option TI := look2 tt (t / 16) t

theorem tok_of [Inhabited Val] {P : Program} {C : Cfg} {tt : List (List (Nat × TI))} (hC : C.ty = tyBy tt) (h : tt.all (fun l => l.all fun p => tyCheck P p.1 p.2) = true) : TOk P C := fun t ti ht => by
  rw [hC] at ht
  obtain ⟨l, hl, hm⟩ := look2_mem ht
  exact tyCheck_sound (List.all_eq_true.1 (List.all_eq_true.1 h l hl) _ hm)

/-- The program's own functions, as far as they have a body. -/
def fnBy (P : Program) (g : Nat) : Option Func :=
  match P.funcs[g]? with
  | some fn => if fn.body.isSome then some fn else none
  | none => none

def namesB (P : Program) : Bool := P.funcs.toList.all fun f => !(f.name == "runtime.NumGoroutine")

theorem enters_of_names {P : Program} (h : namesB P = true) {g : Nat} {fn : Func} (hg : P.funcs[g]? = some fn) (hb : fn.body.isSome = true) : Enters P g fn := by
  refine ⟨hg, ?_, hb⟩
  have hm : fn ∈ P.funcs.toList := by
    rw [← Array.getElem?_toList] at hg
    exact List.mem_of_getElem? hg
  simpa using List.all_eq_true.1 h fn hm

theorem fnBy_ok [Inhabited Val] {P : Program} (h : namesB P = true) {g : Nat} {fn : Func} (hg : fnBy P g = some fn) : Enters P g fn := by
  unfold fnBy at hg
  split at hg
  · rename_i f hf
    split at hg
    · rename_i hb
      simp only [Option.some.injEq] at hg
      subst hg
      exact enters_of_names h hf hb
    · cases hg
  · cases hg

end Go.Ab
/- Contracts of library functions that the plain interpreter does not run itself: what is alike in all of them; slices.Clone. -/
namespace Go.Ab
open Go

section
variable {P : Program} {C : Cfg} {B : Base} {ρ : Rho} {im : Im} {st : St} {nt : Nat} {T T' : List AV} {a : Act} {w : World} {ops : Array Oper} {Q : Exit → Act → World → Prop}

/-- New blocks behind what is there turn nothing. -/
theorem Inv.grown [Inhabited Val] (h : Inv B ρ im st w) {w' : World} (g : w.grownBy w' none) : Inv B ρ im st w' :=
  ⟨h.rho, h.imx, h.imo, fun b o hb => by rw [g.block b (lt_of_some (h.imw b o hb)) (by simp)]; exact h.imw b o hb,
   fun s o ho => (h.obj s o ho).mono (rhoExt_refl _) (imExt_refl _) fun l hl hlive => ⟨g.block _ ((h.obj s o ho).at_ hlive hl).2 (by simp), ((h.obj s o ho).at_ hlive hl).1⟩,
   h.inj, h.new, h.cle, h.bar, g.os.trans h.os, g.tape.trans h.tape, g.output.trans h.output, Nat.le_trans h.size g.size, h.own,
   fun b hb hn => by rw [g.block b (Nat.lt_of_lt_of_le hb h.size) (by simp)]; exact h.frame b hb hn⟩

/-- A function that hands back a value without memory, and turns nothing. -/
theorem hook_scalar [Inhabited Val] {g : Nat} {F : Heap → Nat → Nat → List AV → Option (AV × List (Nat × AObj))}
    (h : ∀ (B : Base) (ρ : Rho) (im : Im) (st : St) (w : World) (new bar : Nat) (args : List AV) (vargs : List Value) (look : Heap) (v : AV) (es : List (Nat × AObj)), Inv B ρ im st w → (∀ s x, hget look s = some x → hget st.h s = some x) → LRel ρ im args vargs → F look bar new args = some (v, es) →
      es = [] ∧ ∃ rv, VRel ρ im v rv ∧ Calls P g vargs.toArray w fun e w' => e = .returned rv ∧ w.grownBy w' none) : HookOk P g F := by
  intro B ρ im st w new args vargs look v es hi _ _ hl ha hF
  obtain ⟨rfl, rv, hv, hc⟩ := h B ρ im st w new st.bar args vargs look v es hi hl ha hF
  refine hc.mono ?_
  rintro e w' ⟨rfl, hg⟩
  exact ⟨rv, ρ, im, rfl, hv, hi.grown hg, rhoExt_refl _, imExt_refl _, fun _ _ => rfl⟩

theorem grown_refl (w : World) : w.grownBy w none := ⟨rfl, rfl, rfl, Nat.le_refl _, fun _ _ _ => rfl⟩

theorem wpOp_of {i : Nat} {o : Oper} {K : Act → World → Prop} (ho : ops[i]? = some o) (hg : o.guard = none) (h : o.wp P a w K Q) : wpOp P ops Q i K a w := by
  unfold wpOp
  rw [ho]
  have : Region.wanted o (yielded ops a.tmps) = true := by unfold Region.wanted; rw [hg]
  simp only [this, if_true]
  exact .inl h

theorem op_plan [Inhabited Val] (tok : TOk P C) (fok : FactsOk C) (hi : Inv B ρ im st w) (hf : FRel ρ im nt T a) {new : Nat} (hn : ρ new = none) (hc : new < st.c) {look : Heap} (hh : ∀ s x, hget look s = some x → hget st.h s = some x) {i : Nat} {o : Oper} (ho : ops[i]? = some o) (hg : o.guard = none) {v : AV} {es : List (Nat × AObj)} (h : plan C T look st.bar new o.op = some (v, es)) (hp : putT nt T o.dst v = some T')
    {K : Act → World → Prop} (k : ∀ a' w' ρ', FRel ρ' im nt T' a' → Inv B ρ' im { st with h := hputs st.h es } w' → RhoExt ρ ρ' → (∀ s, s ≠ new → ρ' s = ρ s) → K a' w') : wpOp P ops Q i K a w := by
  refine wpOp_of ho hg ?_
  obtain ⟨rv, w', ρ', hr, hv', hinv, hext, hoth⟩ := plan_good tok fok hi hf hn hc hh h
  unfold Oper.wp
  have hfin := k (a.put o.dst rv) w' ρ' ((hf.mono hext (imExt_refl _)).put hv' hp) hinv hext hoth
  rcases hr with hr | ⟨hr, rfl⟩
  · rw [hr]; exact hfin
  · rw [hr]; exact hfin

end

abbrev ph (n : Nat) : Edge := { on := n, ground := .phase }
abbrev da (n : Nat) : Edge := { on := n, ground := .data }
abbrev ch (n : Nat) : Edge := { on := n, ground := .chain }

def cl0 (t : TypeId) : Array Oper := #[{ dst := some 2, op := .assign (.const (.slice none 0 0)), type := t, pos := "slices.go:355", after := #[], guard := none }]
def cl1 (t b : TypeId) : Array Oper := #[{ dst := some 3, op := .move (.tmp 0), type := t, pos := "slices.go:357", after := #[], guard := none },
  { dst := some 4, op := .binOp .eql t (.tmp 3) (.const (.slice none 0 0)) t, type := b, pos := "slices.go:357", after := #[da 0], guard := none }]
def cl2 (t : TypeId) : Array Oper := #[{ dst := some 2, op := .assign (.const (.slice none 0 0)), type := t, pos := "slices.go:358", after := #[], guard := none }]
def cl3 (t : TypeId) : Array Oper := #[{ dst := some 5, op := .buildSlice t 0 #[], type := t, pos := "slices.go:362", after := #[], guard := none },
  { dst := some 6, op := .move (.tmp 0), type := t, pos := "slices.go:362", after := #[], guard := none },
  { dst := some 7, op := .call { callee := .builtin .append, args := #[.tmp 5, .tmp 6], argTypes := #[t, t] }, type := t, pos := "slices.go:362", after := #[da 0, da 1], guard := none },
  { dst := some 2, op := .assign (.tmp 7), type := t, pos := "slices.go:362", after := #[da 2, ch 2, ph 0, ph 1, ph 2], guard := none }]
/-- The text of slices.Clone. -/
def cloneCode (t b : TypeId) : Code :=
  .seq (.region 0 (cl0 t) false) (.seq (.seq (.region 1 (cl1 t b) false) (.cond (.tmp 4) (.seq (.region 2 (cl2 t) false) .ret) .skip)) (.seq (.region 3 (cl3 t) false) .ret))


/-- What slices.Clone answers: what an append to an empty slice does. -/
def cloneH (C : Cfg) (t : TypeId) (look : Heap) (bar new : Nat) (args : List AV) : Option (AV × List (Nat × AObj)) :=
  match args with
  | [x] => plan C [.rows true [], x] look bar new (.call { callee := .builtin .append, args := #[.tmp 0, .tmp 1], argTypes := #[t, t] })
  | _ => none

section
variable {P : Program} {C : Cfg}

theorem op_move [Inhabited Val] {ops : Array Oper} {Q : Exit → Act → World → Prop} {a : Act} {w : World} {i : Nat} {o : Oper} {x : Operand} {K : Act → World → Prop} (ho : ops[i]? = some o) (hg : o.guard = none) (hop : o.op = .move x ∨ o.op = .assign x) (k : K (a.put o.dst (a.eval x)) w) : wpOp P ops Q i K a w := by
  refine wpOp_of ho hg ?_
  unfold Oper.wp
  rcases hop with hop | hop <;> simpa [execOp, hop, Oper.upon] using k

theorem op_run [Inhabited Val] {ops : Array Oper} {Q : Exit → Act → World → Prop} {a : Act} {w w' : World} {i : Nat} {o : Oper} {rv : Value} {K : Act → World → Prop} (ho : ops[i]? = some o) (hg : o.guard = none) (hr : (execOp a.eval o).run P w = .ok (.value rv) w') (k : K (a.put o.dst rv) w') : wpOp P ops Q i K a w := by
  refine wpOp_of ho hg ?_
  unfold Oper.wp
  rw [hr]
  exact k

theorem wp_region_of {B : Base} {ρ : Rho} {im : Im} {id : Nat} {ops : Array Oper} {Q : Exit → Act → World → Prop} {a : Act} {w : World} (h : wpOps P ops Q (List.range ops.size) a w) : (Code.region id ops false).wp P Q a w := wp_region h

/-- Is a slice nil? -/
theorem run_eql_nil [Inhabited Val] {t e : TypeId} (hu : P.underlying t = some (.slice e)) (ad : Option Addr) (n cap : Nat) (w : World) (x : Operand) :
    (do eqGuard .eql t x (.const (.slice none 0 0)) (.slice ad n cap) (.slice none 0 0); binOp .eql t (.slice ad n cap) (.slice none 0 0) : Sem Value).run P w = .ok (.bool ad.isNone) w := by
  have q : (Op.equal t (.slice ad n cap) (.slice none 0 0)).run P w = .ok ad.isNone w := equal_of fun d => by cases ad <;> simp [Op.equalIn, run_underlying hu]
  simp [eqGuard_at_slice, binOp, q]

/-- The same, where what may be read as it stands does not grow. -/
def HookOk0 [Inhabited Val] (P : Program) (g : Nat) (F : Heap → Nat → Nat → List AV → Option (AV × List (Nat × AObj))) : Prop :=
  ∀ (B : Base) (ρ : Rho) (im : Im) (st : St) (w : World) (new : Nat) (args : List AV) (vargs : List Value) (look : Heap) (v : AV) (es : List (Nat × AObj)),
    Inv B ρ im st w → ρ new = none → new < st.c → (∀ s x, hget look s = some x → hget st.h s = some x) → LRel ρ im args vargs → F look st.bar new args = some (v, es) →
    Calls P g vargs.toArray w fun e w' => ∃ rv ρ', e = .returned rv ∧ VRel ρ' im v rv ∧ Inv B ρ' im { st with h := hputs st.h es } w' ∧ RhoExt ρ ρ' ∧ ∀ s, s ≠ new → ρ' s = ρ s
theorem HookOk0.ok [Inhabited Val] {P : Program} {g : Nat} {F : Heap → Nat → Nat → List AV → Option (AV × List (Nat × AObj))} (h : HookOk0 P g F) : HookOk P g F := by
  intro B ρ im st w new args vargs look v es h1 h2 h3 h4 h5 h6
  refine (h B ρ im st w new args vargs look v es h1 h2 h3 h4 h5 h6).mono ?_
  rintro e w' ⟨rv, ρ', h7, h8, h9, h10, h11⟩
  exact ⟨rv, ρ', im, h7, h8, h9, h10, imExt_refl _, h11⟩

theorem clone_hook0 [Inhabited Val] (tok : TOk P C) (fok : FactsOk C) {g : Nat} {fn : Func} (hfn : P.funcs[g]? = some fn) {t b e : TypeId} (hbody : fn.body = some (cloneCode t b)) (hnt : fn.ntmps = 8) (hres : fn.results = #[.tmp 2]) {ti : TI} (h1 : C.ty t = some ti) (hk : ti.kind = .slice e) : HookOk0 P g (cloneH C t) := by
  have hu : P.underlying t = some (.slice e) := by have q := (tok t ti h1).kind; unfold KindOk at q; simpa only [hk] using q
  intro B ρ im st w new args vargs look v es hi hn hc hh hl hF
  unfold cloneH at hF
  split at hF
  · rename_i x
    obtain ⟨vx, r, rfl, hvx, hr⟩ := hl.of_cons
    obtain rfl := hr.of_nil
    refine calls_of_wp hfn hbody ?_
    have hf0 : FRel ρ im 8 [x, .undef, .undef, .undef, .undef, .undef, .undef, .undef] { tmps := #[vx] ++ Array.replicate (fn.ntmps - (#[vx] : Array Value).size) undef, defers := [] } := by
      rw [hnt]; exact frel_enter hl 8
    -- what comes of the append says what x is
    obtain ⟨te, n, ns, hte, hel, hz, hone, hval⟩ : ∃ te n ns, C.ty e = some te ∧ elemsOf look te.size x = some (n, ns) ∧ te.size ≠ 0 ∧ ns.all AV.one = true ∧ v = .osl te.size new 0 n n ∧ es = [(new, .cells ns)] := by
      simp only [plan, h1, hk] at hF
      split at hF
      · cases hF
      · split at hF
        · rename_i te hte
          split at hF
          · rename_i n ns hel
            split at hF
            · cases hF
            · rename_i hno
              simp only [ev, getT] at hF hel
              split at hF
              · simp only [ne_eq, not_true_eq_false, and_false, if_false, Option.some.injEq, Prod.mk.injEq, List.length_nil, Nat.zero_add, List.flatten_nil, List.nil_append] at hF
                refine ⟨te, n, ns, hte, hel, fun q => hno (.inl q), ?_, hF.1.symm, hF.2.symm⟩
                cases hb : ns.all AV.one with
                | true => rfl
                | false => exact absurd (.inr (.inr (by rw [hb]; simp))) hno
              · cases hF
          · cases hF
        · cases hF
    obtain ⟨rfl, rfl⟩ := hval
    -- x is a slice
    obtain ⟨ad, len, cap, rfl, hnil⟩ : ∃ ad len cap, vx = .slice ad len cap ∧ (ad = none → n = 0 ∧ ns = []) := by
      unfold elemsOf at hel
      split at hel
      · rename_i tg l
        split at hel
        · simp only [Option.some.injEq, Prod.mk.injEq] at hel
          obtain ⟨rfl, rfl⟩ := hel
          cases hvx with
          | rows _ _ ad n cap sz val hn' hlen hcap ht ha hv =>
            refine ⟨ad, n, cap, rfl, fun q => ?_⟩
            subst q
            cases l with
            | nil => exact ⟨rfl, rfl⟩
            | cons r l => obtain ⟨_, _, e, _⟩ := ha (by simp); cases e
        · cases hel
      · rename_i sz' s off len cp
        split at hel
        · cases hel
        · split at hel
          · split at hel
            · simp only [Option.some.injEq, Prod.mk.injEq] at hel
              obtain ⟨rfl, rfl⟩ := hel
              cases hvx with
              | osl _ _ _ _ _ lo ad cap hρ hcc h2 h3 =>
                refine ⟨ad, len, cap, rfl, fun q => ?_⟩
                subst q
                have : cap = 0 := by
                  rcases Nat.eq_zero_or_pos cap with h | h
                  · exact h
                  · obtain ⟨_, _, e, _⟩ := hcc h; cases e
                have : len = 0 := by omega
                subst this
                exact ⟨rfl, by simp⟩
            · cases hel
          · cases hel
      · cases hel
    -- the walk
    have post : ∀ (a' : Act) (w' : World) (ρ' : Rho), a'.defers = [] → VRel ρ' im (.osl te.size new 0 n n) (a'.tmps.getD 2 undef) → Inv B ρ' im { st with h := hputs st.h [(new, .cells ns)] } w' → RhoExt ρ ρ' → (∀ s, s ≠ new → ρ' s = ρ s) →
        bodyPost P fn (fun e w' => ∃ rv ρ', e = .returned rv ∧ VRel ρ' im (.osl te.size new 0 n n) rv ∧ Inv B ρ' im { st with h := hputs st.h [(new, .cells ns)] } w' ∧ RhoExt ρ ρ' ∧ ∀ s, s ≠ new → ρ' s = ρ s) .ret a' w' := fun a' w' ρ' hd hv hi' he ho => by
      refine ⟨hd, a'.tmps.getD 2 undef, ?_, _, ρ', rfl, hv, hi', he, ho⟩
      simp [results, hres]
    generalize hQ : bodyPost P fn _ = Q at post ⊢
    clear hQ
    rw [hnt] at hf0 ⊢
    unfold cloneCode
    have hf1 : FRel ρ im 8 [x, .undef, .rows true [], .undef, .undef, .undef, .undef, .undef] { tmps := #[.slice ad len cap, undef, .slice none 0 0, undef, undef, undef, undef, undef], defers := [] } := hf0.put (dst := some 2) (FRel.ev hf0 (.const (.slice none 0 0))) rfl
    have hf2 : FRel ρ im 8 [x, .undef, .rows true [], x, .undef, .undef, .undef, .undef] { tmps := #[.slice ad len cap, undef, .slice none 0 0, .slice ad len cap, undef, undef, undef, undef], defers := [] } := hf1.put (dst := some 3) (hf1.ev (.tmp 0)) rfl
    have hf3 : FRel ρ im 8 [x, .undef, .rows true [], x, .bool ad.isNone, .undef, .undef, .undef] { tmps := #[.slice ad len cap, undef, .slice none 0 0, .slice ad len cap, .bool ad.isNone, undef, undef, undef], defers := [] } := hf2.put (dst := some 4) (.bool _) rfl
    refine wp_seq (wp_region ?_)
    show wpOps P (cl0 t) _ [0] _ w
    rw [wpOps_cons]
    refine op_move (x := .const (.slice none 0 0)) rfl rfl (.inr rfl) ?_
    show (Code.wp P _ Q { tmps := #[.slice ad len cap, undef, .slice none 0 0, undef, undef, undef, undef, undef], defers := [] } w)
    refine wp_seq (wp_seq (wp_region ?_))
    show wpOps P (cl1 t b) _ [0, 1] _ w
    rw [wpOps_cons]
    refine op_move (x := .tmp 0) rfl rfl (.inl rfl) ?_
    show wpOps P (cl1 t b) _ [1] { tmps := #[.slice ad len cap, undef, .slice none 0 0, .slice ad len cap, undef, undef, undef, undef], defers := [] } w
    rw [wpOps_cons]
    refine op_run (rv := .bool ad.isNone) (w' := w) rfl rfl ?_ ?_
    · have q := run_eql_nil hu ad len cap w (.tmp 3)
      show (execOp _ { dst := some 4, op := .binOp .eql t (.tmp 3) (.const (.slice none 0 0)) t, type := b, pos := "slices.go:357", after := #[da 0], guard := none }).run P w = _
      simp only [execOp]
      rw [Sem.run_bind]
      exact (congrArg (fun r => Result.andThen r fun v w' => (pure (Next.value v) : Sem Next).run P w') q).trans rfl
    show Code.wp P (.cond (.tmp 4) (.seq (.region 2 (cl2 t) false) .ret) .skip) _ { tmps := #[.slice ad len cap, undef, .slice none 0 0, .slice ad len cap, .bool ad.isNone, undef, undef, undef], defers := [] } w
    cases ad with
    | none =>
      obtain ⟨rfl, rfl⟩ := hnil rfl
      refine wp_cond_true rfl (wp_seq (wp_region ?_))
      show wpOps P (cl2 t) _ [0] _ w
      rw [wpOps_cons]
      refine op_move (x := .const (.slice none 0 0)) rfl rfl (.inr rfl) ?_
      show Code.wp P .ret _ { tmps := #[.slice none len cap, undef, .slice none 0 0, .slice none len cap, .bool true, undef, undef, undef], defers := [] } w
      refine wp_ret ?_
      exact post _ w (rset ρ new none) rfl (.osl te.size new 0 0 0 none none 0 (rset_same _ _ _) (fun h => by omega) (Nat.le_refl _) (Nat.le_refl _) (by decide)) (hi.virt hn hc) (rset_ext none hn) (fun s hs => rset_other ρ none hs)
    | some ad =>
      refine wp_cond_false rfl (wp_skip ?_)
      show Code.wp P (.seq (.region 3 (cl3 t) false) .ret) Q _ w
      refine wp_seq (wp_region ?_)
      show wpOps P (cl3 t) _ [0, 1, 2, 3] _ w
      rw [wpOps_cons]
      obtain ⟨i, z, hinfo, _⟩ := (tok e te hte).info
      refine op_run (rv := .slice (some ⟨w.heap.size, 0, none⟩) 0 0) (w' := w.alloc (.cells #[] e)) rfl rfl ?_ ?_
      · show (execOp _ { dst := some 5, op := .buildSlice t 0 #[], type := t, pos := "slices.go:362", after := #[], guard := none }).run P w = _
        simp [execOp, Instr.buildSlice, run_underlying hu, run_sizeOf' hinfo, Instr.fill, newRow, Array.range_zero']
      have hi4 : Inv B ρ im st (w.alloc (.cells #[] e)) := hi.garbage _
      have hf4 : FRel ρ im 8 [x, .undef, .rows true [], x, .bool false, .rows true [], .undef, .undef] { tmps := #[.slice (some ad) len cap, undef, .slice none 0 0, .slice (some ad) len cap, .bool false, .slice (some ⟨w.heap.size, 0, none⟩) 0 0, undef, undef], defers := [] } :=
        hf3.put (dst := some 5) (.rows true [] _ 0 0 0 (fun _ _ => Go.undef) rfl (by simp) (Nat.le_refl _) (fun _ => rfl) (fun h => absurd rfl h) (fun i j => by simpa using VRel.bad _)) rfl
      have hf5 : FRel ρ im 8 [x, .undef, .rows true [], x, .bool false, .rows true [], x, .undef] { tmps := #[.slice (some ad) len cap, undef, .slice none 0 0, .slice (some ad) len cap, .bool false, .slice (some ⟨w.heap.size, 0, none⟩) 0 0, .slice (some ad) len cap, undef], defers := [] } :=
        hf4.put (dst := some 6) (hf4.ev (.tmp 0)) rfl
      show wpOps P (cl3 t) _ [1, 2, 3] { tmps := #[.slice (some ad) len cap, undef, .slice none 0 0, .slice (some ad) len cap, .bool false, .slice (some ⟨w.heap.size, 0, none⟩) 0 0, undef, undef], defers := [] } _
      rw [wpOps_cons]
      refine op_move (x := .tmp 0) rfl rfl (.inl rfl) ?_
      show wpOps P (cl3 t) _ [2, 3] { tmps := #[.slice (some ad) len cap, undef, .slice none 0 0, .slice (some ad) len cap, .bool false, .slice (some ⟨w.heap.size, 0, none⟩) 0 0, .slice (some ad) len cap, undef], defers := [] } _
      rw [wpOps_cons]
      refine op_plan tok fok hi4 hf5 hn hc hh (i := 2) (o := { dst := some 7, op := .call { callee := .builtin .append, args := #[.tmp 5, .tmp 6], argTypes := #[t, t] }, type := t, pos := "slices.go:362", after := #[da 0, da 1], guard := none }) rfl rfl (by exact hF) rfl fun a6 w6 ρ6 hf6 hi6 he6 ho6 => ?_
      rw [wpOps_cons]
      refine op_move (x := .tmp 7) rfl rfl (.inr rfl) ?_
      show Code.wp P .ret Q (a6.put (some 2) (a6.eval (.tmp 7))) w6
      have hf7 := hf6.put (dst := some 2) (hf6.ev (.tmp 7)) rfl
      refine wp_ret ?_
      exact post _ w6 ρ6 hf7.defers (hf7.val 2) hi6 he6 ho6
  · cases hF


theorem clone_hook [Inhabited Val] (tok : TOk P C) (fok : FactsOk C) {g : Nat} {fn : Func} (hfn : P.funcs[g]? = some fn) {t b e : TypeId} (hbody : fn.body = some (cloneCode t b)) (hnt : fn.ntmps = 8) (hres : fn.results = #[.tmp 2]) {ti : TI} (h1 : C.ty t = some ti) (hk : ti.kind = .slice e) : HookOk P g (cloneH C t) :=
  (clone_hook0 tok fok hfn hbody hnt hres h1 hk).ok

/-- A rule made of a contract: plain values in, a plain value out. -/
def pureF (G : List AV → Option AV) : Heap → Nat → Nat → List AV → Option (AV × List (Nat × AObj)) := fun look _ _ args =>
  match args.mapM (fin look 0 false 8) with
  | some pargs => match G pargs with
    | some r => if args.all (plainN 8) || scalarN 8 r then some (r, []) else none
    | none => none
  | none => none

end
end Go.Ab
/- A contract of a call that is handed plain values is a rule for its callers. -/
namespace Go.Ab
open Go

/-- What a text does with plain values. -/
def Run3 (C : Cfg) (fn : Func) (args : List AV) (r : AV) : Prop :=
  ∃ body, fn.body = some body ∧ X C fn.ntmps body (padT fn.ntmps args) ⟨[], 0, 0⟩ (Q := ⟨endW C fn.results.toList fun r1 st' => fin st'.h 0 false 8 r1 = some r⟩)

theorem pure_hook [Inhabited Val] {P : Program} {C : Cfg} (ok : CfgOk P C) (hm : P.follows .mixedOrders = true) {g : Nat} {fn : Func} (hf : C.fn g = some fn) (hg : C.mode g = 3) {G : List AV → Option AV}
    (h : ∀ pargs r, G pargs = some r → Run3 C fn pargs r) : HookOk P g (pureF G) := by
  intro B ρ im st w new args vargs look v es hi hn hc hsub hl hF
  unfold pureF at hF
  split at hF
  · rename_i pargs hp
    split at hF
    · rename_i r hr
      split at hF
      · rename_i hok
        simp only [Option.some.injEq, Prod.mk.injEq] at hF
        obtain ⟨rfl, rfl⟩ := hF
        obtain ⟨body, hb, hx⟩ := h pargs r hr
        have hcall : Ca C g args ⟨look, st.c, st.bar⟩ (fun v st' => v = r ∧ st' = ⟨look, st.c, st.bar⟩) :=
          Y_3 hf hb hg hp (Ex.mono hx fun e T' st' hq => by
            cases e with
            | exit j => exact hq
            | normal => exact someW_iff.2 (by
                obtain ⟨vs, h1, h2⟩ := someW_iff.1 hq
                exact ⟨vs, h1, someW_iff.2 ⟨r, h2, hok, rfl, rfl⟩⟩)
            | ret => exact someW_iff.2 (by
                obtain ⟨vs, h1, h2⟩ := someW_iff.1 hq
                exact ⟨vs, h1, someW_iff.2 ⟨r, h2, hok, rfl, rfl⟩⟩))
        obtain ⟨n, ⟨v', st'⟩, hcl, hv', hst'⟩ := hcall
        simp only at hv' hst'
        subst hv' hst'
        obtain ⟨_, _, _, h3⟩ := callN_sound ok hm n g args _ _ _ hcl
        have h4 := h3 (by rw [hg]; decide) B ρ im st.h w vargs (by exact hi) hsub hl
        refine h4.mono ?_
        rintro e w' ⟨rv, ρ', im', he, hv, hinv, hext, hiext, hoth⟩
        refine ⟨rv, ρ', im', he, hv, ?_, hext, hiext, fun s hs => ?_⟩
        · simpa [hg, hputs] using hinv
        · rcases Nat.lt_or_ge s st.c with hlt | hge
          · exact hoth s hlt
          · rw [hinv.new s hge, hi.new s hge]
      · cases hF
    · cases hF
  · cases hF


theorem Ex_det {C : Cfg} {nt : Nat} {c : Code} {T : List AV} {st : St} {Q Q' : KE} (h : Ex C nt c T st Q) (h' : Ex C nt c T st Q') : Ex C nt c T st fun e T st => Q e T st ∧ Q' e T st := by
  obtain ⟨n, r, h1, h2⟩ := h
  obtain ⟨m, r', h3, h4⟩ := h'
  have e1 := (fuel_mono (Nat.le_max_left n m)).1 _ _ _ _ _ h1
  have e2 := (fuel_mono (Nat.le_max_right n m)).1 _ _ _ _ _ h3
  rw [e1, Option.some.injEq] at e2
  subst e2
  exact ⟨_, _, e1, h2, h4⟩

theorem Ca_det {C : Cfg} {g : Nat} {args : List AV} {st : St} {R R' : AV → St → Prop} (h : Ca C g args st R) (h' : Ca C g args st R') : Ca C g args st fun v st => R v st ∧ R' v st := by
  obtain ⟨n, r, h1, h2⟩ := h
  obtain ⟨m, r', h3, h4⟩ := h'
  have e1 := (fuel_mono (Nat.le_max_left n m)).2 _ _ _ _ h1
  have e2 := (fuel_mono (Nat.le_max_right n m)).2 _ _ _ _ h3
  rw [e1, Option.some.injEq] at e2
  subst e2
  exact ⟨_, _, e1, h2, h4⟩

theorem Run3.det {C : Cfg} {fn : Func} {args : List AV} {r r' : AV} (h : Run3 C fn args r) (h' : Run3 C fn args r') : r = r' := by
  obtain ⟨b, hb, h⟩ := h
  obtain ⟨b', hb', h'⟩ := h'
  rw [hb, Option.some.injEq] at hb'
  subst hb'
  obtain ⟨n, ⟨e, T, st⟩, _, h1, h2⟩ := Ex_det h h'
  simp only at h1 h2
  cases e with
  | exit j => exact h1.elim
  | normal =>
    obtain ⟨vs, e1, h1⟩ := someW_iff.1 h1
    obtain ⟨vs', e2, h2⟩ := someW_iff.1 h2
    rw [e1, Option.some.injEq] at e2; subst e2
    rw [h1, Option.some.injEq] at h2; exact h2
  | ret =>
    obtain ⟨vs, e1, h1⟩ := someW_iff.1 h1
    obtain ⟨vs', e2, h2⟩ := someW_iff.1 h2
    rw [e1, Option.some.injEq] at e2; subst e2
    rw [h1, Option.some.injEq] at h2; exact h2

open Classical in
/-- What a function answers to plain values. -/
noncomputable def G3 (C : Cfg) (fn : Func) (pargs : List AV) : Option AV := if h : ∃ r, Run3 C fn pargs r then some h.choose else none

theorem G3_eq {C : Cfg} {fn : Func} {pargs : List AV} {r : AV} (h : Run3 C fn pargs r) : G3 C fn pargs = some r := by
  unfold G3
  have hex : ∃ r, Run3 C fn pargs r := ⟨r, h⟩
  rw [dif_pos hex]
  exact congrArg some (hex.choose_spec.det h)

theorem G3_run {C : Cfg} {fn : Func} {pargs : List AV} {r : AV} (h : G3 C fn pargs = some r) : Run3 C fn pargs r := by
  unfold G3 at h
  split at h
  · rename_i hex
    simp only [Option.some.injEq] at h
    subst h
    exact hex.choose_spec
  · cases h

/-- A function's contract serves the callers over another configuration. -/
theorem g3_hook [Inhabited Val] {P : Program} {C : Cfg} (ok : CfgOk P C) (hm : P.follows .mixedOrders = true) {g : Nat} {fn : Func} (hf : C.fn g = some fn) (hg : C.mode g = 3) : HookOk P g (pureF (G3 C fn)) :=
  pure_hook ok hm hf hg fun _ _ h => G3_run h

/-- A contract serves the callers over the same configuration. -/
theorem Cl_3 {C : Cfg} {nt new : Nat} {x0 : Ctx} {T : List AV} {st : St} {K : KF} {dst : Option Nat} {g : Nat} {fn : Func} {args : List AV} (hh : C.hook g = none) (hf : C.fn g = some fn) (hm : C.mode g = 3) :
    Cl C nt x0 new dst g args T st (K := ⟨K⟩) ↔ S (pureF (G3 C fn) (seen x0 st.h) st.bar new args) (K := ⟨fun r => P nt T dst r.1 (K := ⟨fun T' => K T' ⟨hputs st.h r.2, st.c, st.bar⟩ (callFoot x0 st.c)⟩)⟩) := by
  unfold Cl CallW
  rw [hh]
  simp only [hm, show (3 : Nat) ≠ 2 by decide, show (3 : Nat) ≠ 1 by decide, if_false, seen_eq]
  have hfo := foot_eq (C := C) (x0 := x0) (g := g) (c := st.c) (by omega)
  simp only [hm, show (3 : Nat) ≠ 1 by decide] at hfo
  rw [S_iff]
  constructor
  · rintro ⟨n, ⟨v, st'⟩, h, hk⟩
    cases n with
    | zero => simp [callN] at h
    | succ n =>
      simp only [callN, callF, hf] at h
      split at h
      · cases h
      · rename_i body hb
        simp only [hm, if_true] at h
        split at h
        · cases h
        · rename_i pargs hp
          split at h
          · rename_i e T' st2 ht
            split at h
            · rename_i he
              split at h
              · cases h
              · rename_i r1 hr1
                split at h
                · cases h
                · rename_i r' hr'
                  split at h
                  · rename_i hok
                    simp only [Option.some.injEq, Prod.mk.injEq] at h
                    obtain ⟨rfl, rfl⟩ := h
                    have hrun : Run3 C fn pargs r' := ⟨body, hb, n, (e, T', st2), ht, endW_iff.2 ⟨he, r1, hr1, hr'⟩⟩
                    refine ⟨(r', []), ?_, hk⟩
                    unfold pureF
                    rw [hp]
                    simp only [G3_eq hrun, hok, if_true]
                  · cases h
            · cases h
          · cases h
  · rintro ⟨⟨v, es⟩, h, hk⟩
    unfold pureF at h
    split at h
    · rename_i pargs hp
      split at h
      · rename_i r hr
        split at h
        · rename_i hok
          simp only [Option.some.injEq, Prod.mk.injEq] at h
          obtain ⟨rfl, rfl⟩ := h
          obtain ⟨body, hb, n, ⟨e, T', st2⟩, ht, hq⟩ := G3_run hr
          obtain ⟨he, r1, hr1, hr'⟩ := endW_iff.1 hq
          refine ⟨n + 1, (r, ⟨seen x0 st.h, st.c, st.bar⟩), ?_, hk⟩
          simp only at ht hr1 hr'
          simp only [callN, callF, hf, hb, hm, if_true, hp, ht, he, hr1, hr', hok]
        · cases h
      · cases h
    · cases h

/-- To prove a contract. -/
theorem Run3.mk {C : Cfg} {fn : Func} {args : List AV} {r : AV} {body : Code} (hb : fn.body = some body)
    (h : X C fn.ntmps body (padT fn.ntmps args) ⟨[], 0, 0⟩ (Q := ⟨endW C fn.results.toList fun r1 st' => fin st'.h 0 false 8 r1 = some r⟩)) : Run3 C fn args r := ⟨body, hb, h⟩

end Go.Ab
/- Contracts over the plain interpreter, as contracts of the machine's calls, on values that name no block. -/
namespace Go.Ab
open Go

theorem Inv.start [Inhabited Val] (im : Im) (w : World) (him : ∀ b o, im b = some o → w.heap[b]? = some o) : Inv (freeBase im w) (fun _ => none) im ⟨[], 1, 0⟩ w :=
  ⟨rhoExt_refl _, imExt_refl _, fun _ _ hb _ => .inl hb, him, fun s o ho => by simp [hget] at ho, fun s s' o o' l l' h1 => by simp [hget] at h1, fun _ _ => rfl, Nat.zero_le _, rfl, rfl, rfl, rfl, Nat.le_refl _,
    fun b ⟨s, o, l, h1, _⟩ => by simp [hget] at h1, fun _ _ _ => rfl⟩

/-- A contract of the interpreter, met by the machine in whatever world. -/
theorem calls_G3 [Inhabited Val] {P : Program} {C : Cfg} (ok : CfgOk P C) (hm : P.follows .mixedOrders = true) {g : Nat} {fn : Func} (hf : C.fn g = some fn) (hg : C.mode g = 3) {args : List AV} {r : AV} 
    {vargs : List Value} (hp : pureF (G3 C fn) [] 0 0 args = some (r, [])) {w : World} (hl : LRel (fun _ => none) (fun _ => none) args vargs) :
    Calls P g vargs.toArray w fun e w' => ∃ rv ρ im', e = .returned rv ∧ VRel ρ im' r rv ∧ w.grownBy w' none := by
  refine (g3_hook ok hm hf hg (freeBase (fun _ => none) w) (fun _ => none) (fun _ => none) ⟨[], 1, 0⟩ w 0 args vargs [] r [] (Inv.start _ w fun _ _ h => by cases h) rfl (by decide) (fun _ _ h => h) hl hp).mono ?_
  rintro e w' ⟨rv, ρ', im', rfl, hv, hi, _, _, _⟩
  exact ⟨rv, ρ', im', rfl, hv, hi.os, hi.tape, hi.output, hi.size, fun k hk => fun _ => hi.frame k hk fun ⟨s, o, l, h1, _⟩ => by simp [hget] at h1⟩

end Go.Ab
/- A piece of code in two: what holds between them. -/
namespace Go.Ab
open Go
section
variable {C : Cfg} {nt : Nat} {T : List AV} {st : St} {Q : KE}

theorem X_assoc {a b r : Code} : X C nt (.seq a (.seq b r)) T st (Q := ⟨Q⟩) ↔ X C nt (.seq (.seq a b) r) T st (Q := ⟨Q⟩) := by
  unfold X
  rw [Ex_seq, Ex_seq, Ex_seq]
  constructor
  · intro h
    refine h.mono fun e T' st' hq => ?_
    cases e with
    | normal =>
      simp only [kseq_normal] at hq ⊢
      rw [Ex_seq] at hq
      exact hq.mono fun e T2 st2 h2 => by cases e <;> exact h2
    | exit j => exact hq
    | ret => exact hq
  · intro h
    refine h.mono fun e T' st' hq => ?_
    cases e with
    | normal =>
      simp only [kseq_normal] at hq ⊢
      rw [Ex_seq]
      exact hq.mono fun e T2 st2 h2 => by cases e <;> exact h2
    | exit j => exact hq
    | ret => exact hq

/-- The first piece, then the second one. -/
theorem X_cut {a r : Code} (J : KS) (h1 : X C nt a T st (Q := ⟨kseq J Q⟩))
    (h2 : ∀ T' st', Fr (wrs a) T T' → st.c ≤ st'.c → st'.bar = st.bar → J T' st' → X C nt r T' st' (Q := ⟨Q⟩)) : X C nt (.seq a r) T st (Q := ⟨Q⟩) := by
  unfold X
  rw [Ex_seq]
  obtain ⟨n, x, e1, e2⟩ := h1
  refine ⟨n, x, e1, ?_⟩
  obtain ⟨e, T', st'⟩ := x
  cases e with
  | normal =>
    obtain ⟨hc, hb⟩ := exec_cb n nt a T st _ e1
    exact h2 T' st' (exec_fr n nt a T st _ e1) hc hb e2
  | exit j => exact e2
  | ret => exact e2

/-- A call that works on what is its caller's, by its contract. -/
theorem Cl_2c {new : Nat} {x0 : Ctx} {K : KF} {dst : Option Nat} {g : Nat} {args : List AV} (hh : C.hook g = none) (hm : C.mode g = 2) :
    Cl C nt x0 new dst g args T st (K := ⟨K⟩) ↔ Ca C g args st fun r st' => P nt T dst r (K := ⟨fun T' => K T' st' ⟨[], [], none, true⟩⟩) := by
  unfold Cl CallW
  rw [hh]
  simp only [hm, if_true]
  rfl
theorem Ca.mono' {g : Nat} {args : List AV} {R R' : AV → St → Prop} (h : Ca C g args st R) (hr : ∀ v st', R v st' → R' v st') : Ca C g args st R' := by
  obtain ⟨n, r, h1, h2⟩ := h
  exact ⟨n, r, h1, hr _ _ h2⟩
end
end Go.Ab
namespace Go.Ab
open Go
/-- A text behind its first pieces. -/
def restC : Nat → Code → Code
  | 0, c => c
  | n + 1, .seq _ b => restC n b
  | _ + 1, c => c
def bodyC (f : Func) : Code := f.body.getD .skip
end Go.Ab
/- Lists of a call's own that are frozen when they are handed on: their blocks are given up, what they hold is a plain list from then on. -/
namespace Go.Ab
open Go
variable {B : Base} {ρ : Rho} {im : Im} {st : St} {w : World}

/-- A block is given up, and belongs to what stands fast from then on. -/
def imAdd (im : Im) (b : Nat) (w : World) : Im := fun b' => if b' = b then w.heap[b]? else im b'

theorem Inv.freeze [Inhabited Val] (h : Inv B ρ im st w) {s : Nat} {cs : List AV} {loc : Loc} (hs : hget st.h s = some (.cells cs)) (hb : st.bar ≤ s) (hr : ρ s = some (some loc)) :
    Inv B ρ (imAdd im loc.blk w) { st with h := hput st.h s .dead } w ∧ ImExt im (imAdd im loc.blk w) ∧ ∃ o, w.heap[loc.blk]? = some o := by
  have ho := h.obj s _ hs
  simp only [ORel, hr] at ho
  obtain ⟨hno, arr, ty, hcell, _⟩ := ho
  have hext : ImExt im (imAdd im loc.blk w) := fun b o hbo => by
    unfold imAdd
    split
    · rename_i e; rw [e, hno] at hbo; cases hbo
    · exact hbo
  refine ⟨?_, hext, _, hcell⟩
  have hg : ∀ s' x', hget (hput st.h s .dead) s' = some x' → x'.live = true → s' ≠ s ∧ hget st.h s' = some x' := fun s' x' hx hl' => by
    rw [hget_hput] at hx
    split at hx
    · simp only [Option.some.injEq] at hx; subst hx; cases hl'
    · rename_i hne; exact ⟨fun e => hne e.symm, hx⟩
  refine ⟨h.rho, h.imx.trans hext, fun b o hbo hlt => ?_, fun b o hbo => ?_, fun s' x' hx' => ?_, fun s1 s2 x1 x2 k1 k2 h1 l1 h2 l2 r1 r2 e => h.inj s1 s2 x1 x2 k1 k2 (hg _ _ h1 l1).2 l1 (hg _ _ h2 l2).2 l2 r1 r2 e, h.new, h.cle, h.bar, h.os, h.tape, h.output, h.size,
    fun b ⟨s', x', k, hx', hl', hb', hk, e⟩ => h.own b ⟨s', x', k, (hg _ _ hx' hl').2, hl', hb', hk, e⟩, h.frame⟩
  · unfold imAdd at hbo
    split at hbo
    · rename_i e
      have : owned ρ st.h B.bar b := ⟨s, _, loc, hs, rfl, by rw [← h.bar]; exact hb, hr, e.symm⟩
      rcases h.own b this with h1 | h1
      · exact .inr h1
      · omega
    · exact h.imo b o hbo hlt
  · unfold imAdd at hbo
    split at hbo
    · rename_i e; rw [e]; exact hbo
    · exact h.imw b o hbo
  · cases hl : x'.live with
    | false => cases x' with
      | dead => trivial
      | _ => cases hl
    | true =>
      obtain ⟨hne, hx2⟩ := hg s' x' hx' hl
      refine (h.obj s' x' hx2).mono (rhoExt_refl _) hext fun l hk hlive => ?_
      have hat := (h.obj s' x' hx2).at_ hlive hk
      refine ⟨rfl, ?_⟩
      unfold imAdd
      rw [if_neg (fun e => hne (h.inj s' s x' _ l loc hx2 hlive hs rfl hk hr e))]
      exact hat.1

theorem freezeL [Inhabited Val] : ∀ (L : List Nat) (st : St) (im : Im), Inv B ρ im st w → (∀ s ∈ L, st.bar ≤ s) →
    ∃ im', Inv B ρ im' { st with h := hputs st.h (L.map fun s => (s, .dead)) } w ∧ ImExt im im' ∧ ∀ s ∈ L, ∀ cs loc, hget st.h s = some (.cells cs) → ρ s = some (some loc) → im' loc.blk = w.heap[loc.blk]?
  | [], st, im, h, _ => ⟨im, h, imExt_refl _, fun s hs => absurd hs (by simp)⟩
  | s :: L, st, im, h, hL => by
    have hbs : st.bar ≤ s := hL s (by simp)
    have hL' : ∀ t ∈ L, st.bar ≤ t := fun t ht => hL t (by simp [ht])
    by_cases hc : ∃ cs loc, hget st.h s = some (.cells cs) ∧ ρ s = some (some loc)
    · obtain ⟨cs, loc, hs, hr⟩ := hc
      obtain ⟨h1, h2, o, ho⟩ := h.freeze hs hbs hr
      obtain ⟨im', h3, h4, h5⟩ := freezeL L _ _ h1 hL'
      have key : im' loc.blk = w.heap[loc.blk]? := by rw [ho]; exact h4 _ _ (by simp [imAdd, ho])
      refine ⟨im', h3, h2.trans h4, fun t ht cs' loc' ht1 ht2 => ?_⟩
      by_cases e : t = s
      · subst e; rw [hr] at ht2; simp only [Option.some.injEq] at ht2; subst ht2; exact key
      · rcases List.mem_cons.1 ht with e2 | ht'
        · exact absurd e2 e
        · exact h5 t ht' cs' loc' (by simp only; rw [hget_hput, if_neg (fun q => e q.symm)]; exact ht1) ht2
    · obtain ⟨im', h3, h4, h5⟩ := freezeL L _ _ (h.kill s) hL'
      refine ⟨im', h3, h4, fun t ht cs' loc' ht1 ht2 => ?_⟩
      by_cases e : t = s
      · subst e; exact absurd ⟨cs', loc', ht1, ht2⟩ hc
      · rcases List.mem_cons.1 ht with e2 | ht'
        · exact absurd e2 e
        · exact h5 t ht' cs' loc' (by simp only; rw [hget_hput, if_neg (fun q => e q.symm)]; exact ht1) ht2

/-- What a call hands out stays as it is when it is handed out again, and names no block. -/
theorem fin_idem {hp : Heap} : ∀ (n : Nat) (inn : Bool) (v r : AV), fin hp 0 inn n v = some r → plainN (n + 1) r = true ∧ ∀ hp' inn', fin hp' 0 inn' (n + 1) r = some r := by
  intro n
  induction n with
  | zero => intro inn v r h; simp [fin] at h
  | succ n ih =>
    intro inn v r h
    have lst : ∀ (cs rs : List AV), cs.mapM (fin hp 0 inn n) = some rs → rs.all (plainN (n + 1)) = true ∧ ∀ hp' inn', rs.mapM (fin hp' 0 inn' (n + 1)) = some rs := by
      intro cs
      induction cs with
      | nil => intro rs h; simp at h; subst h; exact ⟨rfl, fun _ _ => rfl⟩
      | cons c cs ihc =>
        intro rs h
        rw [List.mapM_cons] at h
        simp only [Option.bind_eq_bind, Option.bind_eq_some_iff, Option.pure_def, Option.some.injEq] at h
        obtain ⟨a, ha, b, hb, rfl⟩ := h
        obtain ⟨p1, p2⟩ := ih inn c a ha
        obtain ⟨p3, p4⟩ := ihc b hb
        refine ⟨by simp [p1, p3], fun hp' inn' => ?_⟩
        rw [List.mapM_cons, p2 hp' inn', p4 hp' inn']; rfl
    cases v with
    | osl sz s off len cp =>
      simp only [fin, Nat.not_lt_zero, if_false] at h
      split at h
      · split at h
        · split at h
          · simp only [Option.some.injEq] at h; subst h; exact ⟨rfl, fun _ _ => rfl⟩
          · cases h
        · cases h
      · cases h
    | agg cs =>
      simp only [fin, Option.map_eq_some_iff] at h
      obtain ⟨rs, h1, rfl⟩ := h
      obtain ⟨p1, p2⟩ := lst cs rs h1
      exact ⟨by simpa [plainN] using p1, fun hp' inn' => by rw [fin, p2 hp' inn']; rfl⟩
    | tuple cs =>
      simp only [fin, Option.map_eq_some_iff] at h
      obtain ⟨rs, h1, rfl⟩ := h
      obtain ⟨p1, p2⟩ := lst cs rs h1
      exact ⟨by simpa [plainN] using p1, fun hp' inn' => by rw [fin, p2 hp' inn']; rfl⟩
    | rows b l => simp only [fin, Option.some.injEq] at h; subst h; exact ⟨rfl, fun _ _ => rfl⟩
    | ptr s off => simp [fin] at h
    | map s => simp [fin] at h
    | iface t v => cases v <;> simp [fin] at h <;> (subst h; exact ⟨rfl, fun _ _ => rfl⟩)
    | func f a b =>
      simp only [fin] at h
      split at h
      · simp only [Option.some.injEq] at h; subst h; exact ⟨rfl, fun _ _ => rfl⟩
      · cases h
    | iptr a b => simp [fin] at h
    | bad => simp [fin] at h
    | _ => simp only [fin, Option.some.injEq] at h; subst h; exact ⟨rfl, fun _ _ => rfl⟩

/-- A function that is handed lists of the call's own, and keeps them. -/
def frzF (G : List AV → Option AV) : Heap → Nat → Nat → List AV → Option (AV × List (Nat × AObj)) := fun look bar _ args =>
  match args.mapM (fin look 0 false 7) with
  | some pargs => match G pargs with
    | some r => if look.all (fun p => decide (bar ≤ p.1)) then some (r, (look.map (·.1)).map fun s => (s, .dead)) else none
    | none => none
  | none => none

theorem mapM_fin_idem {hp : Heap} : ∀ {args pargs : List AV}, args.mapM (fin hp 0 false 7) = some pargs → pargs.all (plainN 8) = true ∧ ∀ hp', pargs.mapM (fin hp' 0 false 8) = some pargs
  | [], pargs, h => by simp at h; subst h; exact ⟨rfl, fun _ => rfl⟩
  | c :: cs, pargs, h => by
    rw [List.mapM_cons] at h
    simp only [Option.bind_eq_bind, Option.bind_eq_some_iff, Option.pure_def, Option.some.injEq] at h
    obtain ⟨a, ha, b, hb, rfl⟩ := h
    obtain ⟨p1, p2⟩ := fin_idem 7 false c a ha
    obtain ⟨p3, p4⟩ := mapM_fin_idem hb
    exact ⟨by simp [p1, p3], fun hp' => by rw [List.mapM_cons, p2 hp' false, p4 hp']; rfl⟩

theorem hget_mem {s : Nat} {o : AObj} : ∀ (l : Heap), hget l s = some o → s ∈ l.map (·.1)
  | [], h => by simp [hget] at h
  | q :: l, h => by
    simp only [hget] at h
    split at h
    · rename_i e; simp_all
    · exact List.mem_cons_of_mem _ (hget_mem l h)

theorem frz_hook [Inhabited Val] {P : Program} {C : Cfg} (ok : CfgOk P C) (hm : P.follows .mixedOrders = true) {g : Nat} {fn : Func} (hf : C.fn g = some fn) (hg : C.mode g = 3) : HookOk P g (frzF (G3 C fn)) := by
  intro B ρ im st w new args vargs look v es hi hn hc hsub hl hF
  unfold frzF at hF
  split at hF
  · rename_i pargs hp
    split at hF
    · rename_i r hr
      split at hF
      · rename_i hok
        simp only [Option.some.injEq, Prod.mk.injEq] at hF
        obtain ⟨rfl, rfl⟩ := hF
        obtain ⟨pl1, pl2⟩ := mapM_fin_idem hp
        obtain ⟨im', hi', hie, hblk⟩ := freezeL (look.map (·.1)) st im hi (fun s hs => by
          obtain ⟨p, hp1, rfl⟩ := List.mem_map.1 hs
          exact of_decide_eq_true (List.all_eq_true.1 hok p hp1))
        have hmem : ∀ s o, hget look s = some o → s ∈ look.map (·.1) := fun s o => hget_mem look
        have hl' : LRel ρ im' pargs vargs := by
          have hpart : Inv B ρ im { st with h := look } w := hi.part hsub
          obtain ⟨e1, e2⟩ := mapM_get _ args pargs hp
          refine ⟨by rw [e1]; exact hl.1, fun i => ?_⟩
          cases hx : args[i]? with
          | none =>
            have : pargs[i]? = none := by rw [List.getElem?_eq_none_iff] at hx ⊢; omega
            rw [List.getD_eq_getElem?_getD, this]
            exact .bad _
          | some x =>
            obtain ⟨y, hy, hxy⟩ := e2 i x hx
            have hv := hl.2 i
            rw [List.getD_eq_getElem?_getD, hx] at hv
            rw [List.getD_eq_getElem?_getD, hy]
            exact fin_gen hpart (im' := im') hie (c0 := 0) (ρ' := ρ) (fun s l hlt _ => absurd hlt (Nat.not_lt_zero _))
              (fun s cs loc _ hgs hr => hblk s (hmem s _ hgs) cs loc (hsub _ _ hgs) hr) 7 false x y _ hv hxy
        obtain ⟨body, hb, hx⟩ := G3_run hr
        have hcall : Ca C g pargs ⟨[], st.c, st.bar⟩ (fun v st' => v = r ∧ st' = ⟨[], st.c, st.bar⟩) :=
          Y_3 hf hb hg (pl2 []) (Ex.mono hx fun e T' st' hq => by
            cases e with
            | exit j => exact hq
            | normal => exact someW_iff.2 (by
                obtain ⟨vs, h1, h2⟩ := someW_iff.1 hq
                exact ⟨vs, h1, someW_iff.2 ⟨r, h2, by rw [pl1]; rfl, rfl, rfl⟩⟩)
            | ret => exact someW_iff.2 (by
                obtain ⟨vs, h1, h2⟩ := someW_iff.1 hq
                exact ⟨vs, h1, someW_iff.2 ⟨r, h2, by rw [pl1]; rfl, rfl, rfl⟩⟩))
        obtain ⟨n, ⟨v', st'⟩, hcl, hv', hst'⟩ := hcall
        simp only at hv' hst'
        subst hv' hst'
        obtain ⟨_, _, _, h3⟩ := callN_sound ok hm n g pargs _ _ _ hcl
        have h4 := h3 (by rw [hg]; decide) B ρ im' _ w vargs (by exact hi') (fun s o h => by simp [hget] at h) hl'
        refine h4.mono ?_
        rintro e w' ⟨rv, ρ', im2, he, hv, hinv, hext, hiext, hoth⟩
        refine ⟨rv, ρ', im2, he, hv, ?_, hext, hie.trans hiext, fun s hs => ?_⟩
        · simpa [hg] using hinv
        · rcases Nat.lt_or_ge s st.c with hlt | hge
          · exact hoth s hlt
          · rw [hinv.new s hge, hi.new s hge]
      · cases hF
    · cases hF
  · cases hF
end Go.Ab
/- copy of elements of several cells. -/
namespace Go.Ab
open Go
section
variable {P : Program}

theorem run_copy_at (w : World) (dT sT ty elem : TypeId) {i : TypeInfo} (hu : P.underlying dT = some (.slice elem)) (hi : P.info? elem = some i) (b o dLen dCap : Nat) (a : Addr) (sLen sCap n : Nat) (cs : List Value) (hn : Nat.min sLen dLen = n) (hl : cs.length = n * i.size)
    (hsrc : ∀ j v, cs[j]? = some v → w.cell? (a.add j) = some v) {arr : Array Value} {tyb : TypeId} (hrow : w.heap[b]? = some (.cells arr tyb (0, 0))) (hfit : o + cs.length ≤ arr.size) (h1 : ∀ v ∈ cs, v.oneCell' = true) :
    (Builtin.copy_ #[dT, sT] ty #[.slice (some ⟨b, o, none⟩) dLen dCap, .slice (some a) sLen sCap]).run P w = .ok (goInt n) (w.setRow b (arr.toList.take o ++ cs ++ arr.toList.drop (o + cs.length)).toArray) := by
  have hf := run_firstCells_some (P := P) w i.size n a sLen sCap cs hl hsrc
  have hst := run_storeCells_at P b o tyb cs 0 arr w hrow (by simpa using hfit) h1
  simp only [Nat.add_zero] at hst
  simp [Builtin.copy_, run_underlying hu, Builtin.lenOf, sizeOf, typeInfo, hi, hn, hf, hst]

theorem drew_setRow (w : World) (b : Nat) (r : Array Value) : (w.setRow b r).drew = w.drew.setRow b r := rfl
theorem cell_row (w : World) {b : Nat} {arr : Array Value} {ty : TypeId} {f : Nat × Nat} (h : w.heap[b]? = some (.cells arr ty f)) (o : Nat) : w.cell? ⟨b, o, none⟩ = arr[o]? := cell_of_row w b o arr ty f h
end
end Go.Ab
/- Regions whose order is open: only some pairs of operations have to be looked at. -/
namespace Go.Ab
open Go

def openPairs (ops : Array Oper) : List (Nat × Nat) :=
  (List.range ops.size).flatMap fun q => ((List.range ops.size).filter fun p => !(decide (q ≤ p) || ((beforeL ops).getD q []).contains p)).map fun p => (p, q)
def allP {α : Type} (P : α → Prop) : List α → Prop
  | [] => True
  | x :: r => P x ∧ allP P r
theorem allP_mem {α : Type} {P : α → Prop} : ∀ {l : List α}, allP P l → ∀ x ∈ l, P x
  | [], _, x, hx => by simp at hx
  | a :: l, h, x, hx => by
    rcases List.mem_cons.1 hx with rfl | hx
    · exact h.1
    · exact allP_mem h.2 x hx
def footAt (fs : List (Nat × Foot)) (i : Nat) : Foot := (fs.map (·.2)).getD i ⟨[], [], none, false⟩

theorem drawOk_open {ops : Array Oper} {fs : List (Nat × Foot)} (pairs : List (Nat × Nat)) (hi : fs.map (·.1) = List.range ops.size) (he : edgesOk ops = true) (hp : openPairs ops = pairs)
    (ha : (pairs.all fun x => apartT ops x.1 x.2) = true) (h : allP (fun x => (footAt fs x.1).free (footAt fs x.2) = true) pairs) : drawOk ops (beforeL ops) fs = true := by
  have hat : ∀ q ∈ fs, footAt fs q.1 = q.2 ∧ q.1 < ops.size := fun q hq => by
    obtain ⟨i, hi1, hi2⟩ := List.mem_iff_getElem.1 hq
    have hlen : fs.length = ops.size := by have := congrArg List.length hi; simpa using this
    have hk : (fs.map (·.1))[i]? = some q.1 := by rw [List.getElem?_map, List.getElem?_eq_getElem hi1, hi2]; rfl
    rw [hi, List.getElem?_range (by omega)] at hk
    simp only [Option.some.injEq] at hk
    subst hk
    refine ⟨?_, by omega⟩
    unfold footAt
    rw [List.getD_eq_getElem?_getD, List.getElem?_map, List.getElem?_eq_getElem hi1, hi2]
    rfl
  unfold drawOk
  rw [he, Bool.true_and, List.all_eq_true]
  intro q hq
  rw [List.all_eq_true]
  intro p hpm
  obtain ⟨eq1, eq2⟩ := hat q hq
  obtain ⟨ep1, ep2⟩ := hat p hpm
  by_cases hc : (decide (q.1 ≤ p.1) || ((beforeL ops).getD q.1 []).contains p.1) = true
  · rw [hc, Bool.true_or]
  · have hm : (p.1, q.1) ∈ pairs := by
      rw [← hp]
      unfold openPairs
      rw [List.mem_flatMap]
      refine ⟨q.1, List.mem_range.2 eq2, List.mem_map.2 ⟨p.1, List.mem_filter.2 ⟨List.mem_range.2 ep2, ?_⟩, rfl⟩⟩
      rw [Bool.not_eq_true'] 
      exact Bool.eq_false_iff.2 hc
    have h1 := allP_mem h _ hm
    rw [List.all_eq_true] at ha
    have h2 := ha _ hm
    simp only at h1 h2
    rw [ep1, eq1] at h1
    rw [h1, h2]
    simp
end Go.Ab
