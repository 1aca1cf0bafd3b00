/- A plain interpreter of the machine's code over values without memory ("abstract values"), with a heap of the call's own blocks: definitions alone. -/
import Derived.Calls
namespace Go.Ab
open Go

/-- A value as the plain interpreter sees it. -/
inductive AV where
  | bad
  | undef
  | bool (b : Bool)
  | int (k : IntKind) (n : Int)
  | sint (k : IntKind) (v : Nat)
  | str (s : List UInt8)
  | agg (cs : List AV)
  | tuple (vs : List AV)
  | func (f : Nat) (first captured : List AV)
  | nilfunc
  | rows (tight : Bool) (l : List (List AV))
  | osl (sz s off len cp : Nat)
  | ptr (s off : Nat)
  | iptr (cs : List AV) (off : Nat)
  | nilptr
  | map (s : Nat)
  | nilmap
  | nilIface
  | iface (t : Nat) (v : AV)
  deriving Inhabited

inductive AObj where
  | dead
  | cells (cs : List AV)
  | map (es : List (AV × AV))
  | iter (l : List UInt8) (pos : Nat)
  deriving Inhabited

def AObj.live : AObj → Bool
  | .dead => false
  | _ => true

abbrev Heap := List (Nat × AObj)

def hget : Heap → Nat → Option AObj
  | [], _ => none
  | (k, o) :: r, s => if k = s then some o else hget r s

def hput : Heap → Nat → AObj → Heap
  | [], s, o => [(s, o)]
  | (k, x) :: r, s, o => if k = s then (s, o) :: r else if k < s then (s, o) :: (k, x) :: r else (k, x) :: hput r s o

theorem hget_hput (h : Heap) (s s' : Nat) (o : AObj) : hget (hput h s o) s' = if s = s' then some o else hget h s' := by
  induction h with
  | nil => simp [hput, hget]
  | cons p r ih =>
    obtain ⟨k, x⟩ := p
    unfold hput
    split
    · rename_i hk
      subst hk
      by_cases e : k = s' <;> simp [hget, e]
    · split
      · by_cases e : s = s' <;> simp [hget, e]
      · rename_i h1 h2
        by_cases e : k = s'
        · have : ¬ s = s' := fun h => h1 (e.trans h.symm)
          simp [hget, e, this]
        · simp [hget, e, ih]

theorem hput_comm (h : Heap) {s s' : Nat} (o o' : AObj) (hne : s ≠ s') : hput (hput h s o) s' o' = hput (hput h s' o') s o := by
  induction h with
  | nil =>
    simp only [hput]
    rcases Nat.lt_or_gt_of_ne hne with hlt | hgt
    · simp [hne, hne.symm, hlt, Nat.not_lt.2 (Nat.le_of_lt hlt)]
    · simp [hne, hne.symm, hgt, Nat.not_lt.2 (Nat.le_of_lt hgt)]
  | cons p r ih =>
    obtain ⟨k, x⟩ := p
    by_cases h1 : k = s <;> by_cases h2 : k = s'
    · exact absurd (h1.symm.trans h2) hne
    · subst h1
      by_cases h3 : k < s'
      · simp [hput, h2, h3, Nat.not_lt.2 (Nat.le_of_lt h3), Ne.symm h2]
      · simp [hput, h2, h3]
    · subst h2
      by_cases h3 : k < s
      · simp [hput, h1, h3, Nat.not_lt.2 (Nat.le_of_lt h3), Ne.symm h1]
      · simp [hput, h1, h3]
    · by_cases h3 : k < s <;> by_cases h4 : k < s'
      · rcases Nat.lt_or_gt_of_ne hne with hlt | hgt
        · simp [hput, h1, h2, h3, h4, hne, hne.symm, hlt, Nat.not_lt.2 (Nat.le_of_lt hlt)]
        · simp [hput, h1, h2, h3, h4, hne, hne.symm, hgt, Nat.not_lt.2 (Nat.le_of_lt hgt)]
      · have h5 : ¬ s < s' := by omega
        have h6 : s' < s := by omega
        simp [hput, h1, h2, h3, h4, hne, hne.symm, h5, h6]
      · have h5 : s < s' := by omega
        have h6 : ¬ s' < s := by omega
        simp [hput, h1, h2, h3, h4, hne, hne.symm, h5, h6]
      · simp [hput, h1, h2, h3, h4, ih]

structure St where
  h : Heap
  c : Nat
  bar : Nat

inductive TK where
  | bool | int (k : IntKind) | str | struct | slice (elem : Nat) | ptr (elem : Nat) | map (k e : Nat) | func | iface | array (n elem : Nat) | other
  deriving DecidableEq

/-- What the interpreter has to know of a type. -/
structure TI where
  kind : TK
  size : Nat
  bytes : Nat
  zero : List AV
  fields : List (Nat × Nat × Bool)
  flat : Bool := false

def TI.isPtr (t : TI) : Bool := match t.kind with | .ptr _ => true | _ => false
def TI.isSlice (t : TI) : Bool := match t.kind with | .slice _ => true | _ => false
def TI.agg (t : TI) : Bool := match t.kind with | .struct | .array .. => true | _ => false

structure Cfg where
  ty : Nat → Option TI
  fn : Nat → Option Func
  mode : Nat → Nat
  hook : Nat → Option (Heap → Nat → Nat → List AV → Option (AV × List (Nat × AObj)))
  facts : List (BinOp × Nat × Int × Bool) := []

def getT : List AV → Nat → AV
  | [], _ => .undef
  | x :: _, 0 => x
  | _ :: r, n + 1 => getT r n

def setT : List AV → Nat → AV → List AV
  | [], 0, v => [v]
  | [], n + 1, v => .undef :: setT [] n v
  | _ :: r, 0, v => v :: r
  | x :: r, n + 1, v => x :: setT r n v

theorem getT_setT (T : List AV) (i j : Nat) (v : AV) : getT (setT T i v) j = if i = j then v else getT T j := by
  induction T generalizing i j with
  | nil =>
    induction i generalizing j with
    | zero => cases j <;> simp [setT, getT]
    | succ i ih => cases j <;> simp [setT, getT, ih]
  | cons x r ih =>
    cases i <;> cases j <;> simp [setT, getT, ih]

theorem setT_comm (T : List AV) {i j : Nat} (v u : AV) (h : i ≠ j) : setT (setT T i v) j u = setT (setT T j u) i v := by
  induction T generalizing i j with
  | nil =>
    induction i generalizing j with
    | zero => cases j with
      | zero => exact absurd rfl h
      | succ j => simp [setT]
    | succ i ih => cases j with
      | zero => simp [setT]
      | succ j => simp only [setT]; rw [ih (by omega)]
  | cons x r ih =>
    cases i <;> cases j
    · exact absurd rfl h
    · simp [setT]
    · simp [setT]
    · simp only [setT]; rw [ih (by omega)]

def ofConst : Value → AV
  | .bool b => .bool b
  | .int k n => .int k n
  | .string s => .str s.data.toList
  | .slice none 0 0 => .rows true []
  | .pointer none => .nilptr
  | .map none => .nilmap
  | .nilFunc => .nilfunc
  | .nilIface => .nilIface
  | _ => .bad

def ev (T : List AV) : Operand → AV
  | .tmp t => getT T t
  | .const v => ofConst v
  | .global _ => .bad
  | .func f => .func f [] []

def AV.cells : AV → List AV
  | .agg cs => cs
  | v => [v]

/-- The value of one cell. -/
def AV.one : AV → Bool
  | .bad | .undef | .agg _ | .tuple _ => false
  | _ => true

def loadObj (ti : TI) (cs : List AV) (off : Nat) : Option AV :=
  if ti.agg then (if off + ti.size ≤ cs.length then some (.agg ((cs.drop off).take ti.size)) else none) else cs[off]?

def putCells (cs : List AV) (off : Nat) (vs : List AV) : Option (List AV) :=
  if off + vs.length ≤ cs.length then some (cs.take off ++ (vs ++ cs.drop (off + vs.length))) else none

def part (cs : List AV) (off size : Nat) (agg : Bool) : Option AV :=
  if agg then (if off + size ≤ cs.length then some (.agg ((cs.drop off).take size)) else none) else cs[off]?

def fillA (place : Nat → Option (Nat × Nat)) (cells : List AV) : List (Nat × AV) → Option (List AV)
  | [] => some cells
  | (i, v) :: rest =>
    match place i with
    | none => none
    | some (off, size) => if v.cells.length = size ∧ v.cells.all (fun x => match x with | .bad => false | _ => true) then (match putCells cells off v.cells with | some cs => fillA place cs rest | none => none) else none

def chunks (sz : Nat) : Nat → List AV → List (List AV)
  | 0, _ => []
  | n + 1, l => l.take sz :: chunks sz n (l.drop sz)

/-- Are two values of one cell each (numbers, bools, texts) the same? -/
def eqOne : AV → AV → Option Bool
  | .bool a, .bool b => some (a == b)
  | .int j a, .int k b => if j = k then some (a == b) else none
  | .str a, .str b => some (a == b)
  | _, _ => none

def eqCells : List AV → List AV → Option Bool
  | [], [] => some true
  | x :: xs, y :: ys =>
    match eqOne x y with
    | some true => eqCells xs ys
    | some false => some false
    | none => none
  | _, _ => none

/-- Are cells of the kinds that zero cells have (numbers, bools, texts)? -/
def kindsOk : List AV → List AV → Bool
  | [], [] => true
  | .bool _ :: zs, .bool _ :: xs => kindsOk zs xs
  | .int j _ :: zs, .int k _ :: xs => j == k && kindsOk zs xs
  | .str _ :: zs, .str _ :: xs => kindsOk zs xs
  | _, _ => false

def eqAV (ti : TI) (cst : Bool) : AV → AV → Option Bool
  | .agg xs, .agg ys => if ti.flat && kindsOk ti.zero xs && kindsOk ti.zero ys then eqCells xs ys else none
  | .bool a, .bool b => if ti.kind = .bool then some (a == b) else none
  | .nilIface, .nilIface => if ti.kind = .iface ∧ cst = true then some true else none
  | .nilIface, .iface _ _ | .iface _ _, .nilIface => if ti.kind = .iface then some false else none
  | .nilptr, .nilptr => if ti.isPtr then some true else none
  | .nilptr, .ptr _ _ | .ptr _ _, .nilptr => if ti.isPtr then some false else none
  | _, _ => none

def intOp (op : BinOp) (k : IntKind) (a b : Int) : Option AV :=
  match op with
  | .add => some (.int k (k.wrap (a + b)))
  | .sub => some (.int k (k.wrap (a - b)))
  | .mul => some (.int k (k.wrap (a * b)))
  | .quo => if b = 0 then none else some (.int k (k.wrap (a.tdiv b)))
  | .rem => if b = 0 then none else some (.int k (a.tmod b))
  | .eql => some (.bool (a == b))
  | .neq => some (.bool (a != b))
  | .lss => some (.bool (a < b))
  | .leq => some (.bool (a ≤ b))
  | .gtr => some (.bool (a > b))
  | .geq => some (.bool (a ≥ b))
  | _ => none

def shiftOp (op : BinOp) (k : IntKind) (a b : Int) : Option AV :=
  if b < 0 then none else
  match op with
  | .shl => some (.int k (k.wrap (a * 2 ^ (min b.toNat k.bits))))
  | .shr => some (.int k (a.fdiv (2 ^ (min b.toNat k.bits))))
  | _ => none

def strOp (op : BinOp) (a b : List UInt8) : Option AV :=
  match op with
  | .add => if a.length + b.length ≤ 9223372036854775807 then some (.str (a ++ b)) else none
  | .eql => some (.bool (a == b))
  | .neq => some (.bool !(a == b))
  | .lss => some (.bool (Op.bytesLess a b))
  | .leq => some (.bool (Op.bytesLess a b || a == b))
  | .gtr => some (.bool !(Op.bytesLess a b || a == b))
  | .geq => some (.bool !(Op.bytesLess a b))
  | _ => none

/-- Arithmetic and comparisons of numbers and texts. -/
def binA (op : BinOp) (x y : AV) : Option AV :=
  match x, y with
  | .int k a, .int k' b =>
    match op with
    | .shl => shiftOp .shl k a b
    | .shr => shiftOp .shr k a b
    | op => if k = k' then intOp op k a b else none
  | .str a, .str b => strOp op a b
  | _, _ => none

/-- Is a slice surely not nil? -/
def surelySome : AV → Bool
  | .rows _ (_ :: _) => true
  | .osl _ _ _ (_ + 1) _ => true
  | _ => false

def isNilConst : Operand → Bool
  | .const (.slice none 0 0) => true
  | _ => false

def isConstOp : Operand → Bool
  | .const _ => true
  | _ => false

def eqOp (C : Cfg) (T : List AV) (t : Nat) (x y : Operand) : Option Bool :=
  match C.ty t with
  | none => none
  | some ti =>
    if isNilConst y then (if ti.isSlice && surelySome (ev T x) then some false else none)
    else eqAV ti (isConstOp x || isConstOp y) (ev T x) (ev T y)

def sameOp (a b : BinOp) : Bool :=
  match a, b with
  | .lss, .lss | .leq, .leq | .gtr, .gtr | .geq, .geq | .eql, .eql | .neq, .neq => true
  | _, _ => false

def findFact (op : BinOp) (v : Nat) (n : Int) : List (BinOp × Nat × Int × Bool) → Option Bool
  | [] => none
  | (o, u, m, b) :: r => if sameOp o op && Nat.beq u v && decide (m = n) then some b else findFact op v n r

/-- Comparisons of numbers that are not known. -/
def symA (facts : List (BinOp × Nat × Int × Bool)) (op : BinOp) (x y : AV) : Option AV :=
  match x, y with
  | .sint .i64 v, .int .i64 n => (findFact op v n facts).map .bool
  | .sint k v, .sint k' u => if k = k' ∧ v = u then (match op with
      | .eql => some (.bool true)
      | .neq => some (.bool false)
      | _ => none) else none
  | _, _ => none

def binP (C : Cfg) (T : List AV) (op : BinOp) (t : Nat) (x y : Operand) : Option AV :=
  match (binA op (ev T x) (ev T y)).or (symA C.facts op (ev T x) (ev T y)) with
  | some v => some v
  | none =>
    match op with
    | .eql => (eqOp C T t x y).map .bool
    | .neq => (eqOp C T t x y).map fun b => .bool !b
    | _ => none

def unA (op : UnOp) (x : AV) : Option AV :=
  match op, x with
  | .not, .bool b => some (.bool !b)
  | .neg, .int k n => some (.int k (k.wrap (0 - n)))
  | _, _ => none

def intOfA : AV → Option Int
  | .int _ n => some n
  | _ => none

/-- A bound of a slice expression. -/
def bound (x : Option AV) (dflt most : Nat) : Option Nat :=
  match x with
  | none => some dflt
  | some (.int _ n) => if 0 ≤ n ∧ n ≤ (most : Int) then some n.toNat else none
  | some _ => none

/-- Is this a type of slices, whose elements have so many cells? -/
def sliceOk (C : Cfg) (ti : TI) (sz : Option Nat) : Bool :=
  match ti.kind with
  | .slice e => match C.ty e with
    | some te => match sz with
      | some n => te.size == n
      | none => true
    | none => false
  | _ => false

def sliceA (C : Cfg) (ti : TI) (x : AV) (lo hi mx : Option AV) : Option AV :=
  match x with
  | .str s =>
    if mx.isSome || ti.kind != .str then none else
    match bound hi s.length s.length with
    | none => none
    | some h => match bound lo 0 h with
      | none => none
      | some l => some (.str ((s.take h).drop l))
  | .rows tight l =>
    if !sliceOk C ti (l.head?.map (·.length)) then none else
    match mx with
    | none =>
      match bound hi l.length l.length with
      | none => none
      | some h => match bound lo 0 h with
        | none => none
        | some lw => some (.rows (tight && h == l.length) ((l.take h).drop lw))
    | some m =>
      if hi.isNone then none else
      match bound (some m) 0 l.length with
      | none => none
      | some m => match bound hi l.length m with
        | none => none
        | some h => match bound lo 0 h with
          | none => none
          | some lw => some (.rows (h == m) ((l.take h).drop lw))
  | .osl sz s off len cp =>
    if !sliceOk C ti (some sz) then none else
    if mx.isSome then
      (if hi.isNone then none else
      match bound mx 0 cp with
      | none => none
      | some m => match bound hi len m with
        | none => none
        | some h => match bound lo 0 h with
          | none => none
          | some l => some (.osl sz s (off + l * sz) (h - l) (m - l)))
    else
    match bound hi len cp with
    | none => none
    | some h => match bound lo 0 h with
      | none => none
      | some l => some (.osl sz s (off + l * sz) (h - l) (cp - l))
  | _ => none

def lenA (ti : TI) (h : Heap) : AV → Option Nat
  | .str s => match ti.kind with
    | .str => some s.length
    | _ => none
  | .rows _ l => match ti.kind with
    | .slice _ => some l.length
    | _ => none
  | .osl _ _ _ len _ => match ti.kind with
    | .slice _ => some len
    | _ => none
  | .nilmap => match ti.kind with
    | .map _ _ => some 0
    | _ => none
  | .map s => match ti.kind with
    | .map _ _ => (match hget h s with
      | some (.map es) => some es.length
      | _ => none)
    | _ => none
  | _ => none

/-- The elements that an append takes, as cells; and how many. -/
def elemsOf (h : Heap) (sz : Nat) : AV → Option (Nat × List AV)
  | .rows _ l => if l.all (·.length == sz) then some (l.length, l.flatten) else none
  | .osl sz' s off len _ =>
    if sz' ≠ sz then none else
    match hget h s with
    | some (.cells cs) => if off + len * sz ≤ cs.length then some (len, (cs.drop off).take (len * sz)) else none
    | _ => none
  | _ => none

/-- Is this a key of such a type? -/
def keyMatch (tk : TI) (v : AV) : Bool :=
  match tk.kind, v with
  | .str, .str _ => true
  | .bool, .bool _ => true
  | .int k, .int k' _ => k == k'
  | _, _ => false

def findA (k : AV) : List (AV × AV) → Nat → Option (Option (Nat × AV))
  | [], _ => some none
  | (q, v) :: es, i =>
    match eqOne k q with
    | some true => some (some (i, v))
    | some false => findA k es (i + 1)
    | none => none

/-- A type's zero value. -/
def zeroA (ti : TI) : Option AV := if ti.agg then some (.agg ti.zero) else match ti.zero with
  | [z] => some z
  | _ => none

/-- What one operation answers, and which blocks it lays or turns (calls of functions apart). 'look': the heap, as far as the operation may look; 'new': the stamp that it may lay a block at. -/
def plan (C : Cfg) (T : List AV) (look : Heap) (bar new : Nat) (op : Op) : Option (AV × List (Nat × AObj)) :=
  match op with
  | .move x | .assign x => some (ev T x, [])
  | .pick c a b => match ev T c with
    | .bool true => some (ev T a, [])
    | .bool false => some (ev T b, [])
    | _ => none
  | .alloc t => match C.ty t with
    | some ti => some (.ptr new 0, [(new, .cells ti.zero)])
    | none => none
  | .range t x => match C.ty t with
    | some ti => match ti.kind, ev T x with
      | .str, .str l => some (.ptr new 0, [(new, .iter l 0)])
      | _, _ => none
    | none => none
  | .next x isString => match ev T x, isString with
    | .ptr s 0, true => if bar ≤ s then
        match hget look s with
        | some (.iter l pos) =>
          if pos < l.length then some (.tuple [.bool true, .int .i64 (pos : Nat), .int .i32 ((Utf8.decode ⟨l.toArray⟩ pos).1 : Nat)], [(s, .iter l (pos + (Utf8.decode ⟨l.toArray⟩ pos).2))])
          else some (.tuple [.bool false], [])
        | _ => none
      else none
    | _, _ => none
  | .box _ x => match ev T x with
    | .bad => none
    | u => some (.ptr new 0, [(new, .cells u.cells)])
  | .build t parts => match C.ty t with
    | some ti =>
      match ti.kind with
      | .struct =>
        match fillA (fun i => (ti.fields[i]?).map fun f => (f.1, f.2.1)) ti.zero (parts.toList.map fun p => (p.1, ev T p.2)) with
        | some cs => some (.agg cs, [])
        | none => none
      | _ => none
    | none => none
  | .buildSlice t len parts => match C.ty t with
    | some ti =>
      match ti.kind with
      | .slice e => match C.ty e with
        | some te =>
          if len = 0 then (if parts.isEmpty then some (.rows true [], []) else none) else
          if te.size ≠ 0 ∧ len * te.size ≤ 16777216 ∧ te.zero.length = te.size then
            match fillA (fun i => some (i * te.size, te.size)) ((List.replicate len te.zero).flatten) (parts.toList.map fun p => (p.1, ev T p.2)) with
            | some cs => if len * te.size ≤ cs.length then some (.osl te.size new 0 len len, [(new, .cells cs)]) else none
            | none => none
          else none
        | none => none
      | _ => none
    | none => none
  | .load t a => match C.ty t with
    | some ti => match ev T a with
      | .ptr s off => match hget look s with
        | some (.cells cs) => (loadObj ti cs off).map fun v => (v, [])
        | _ => none
      | .iptr cs off => (loadObj ti cs off).map fun v => (v, [])
      | _ => none
    | none => none
  | .store t a x => match C.ty t with
    | some ti => match ev T a with
      | .ptr s off =>
        if bar ≤ s then
          match hget look s with
          | some (.cells cs) =>
            if (ev T x).cells.length = ti.size ∧ (ev T x).cells.all AV.one then
              match putCells cs off (ev T x).cells with
              | some cs' => some (.undef, [(s, .cells cs')])
              | none => none
            else none
          | _ => none
        else none
      | _ => none
    | none => none
  | .nilCheck x => match ev T x with
    | .ptr s o => some (.ptr s o, [])
    | .iptr cs o => some (.iptr cs o, [])
    | _ => none
  | .binOp op t x y _ => (binP C T op t x y).map fun v => (v, [])
  | .unOp op _ x => (unA op (ev T x)).map fun v => (v, [])
  | .convert src dst x => match C.ty src, C.ty dst, ev T x with
    | some _, some ti, .int _ n => match ti.kind with
      | .int k => some (.int k (k.wrap n), [])
      | _ => none
    | _, _, _ => none
  | .makeInterface t x => match C.ty t with
    | some ti => if ti.kind = .iface ∨ ti.kind = .other then none else some (.iface t (ev T x), [])
    | none => none
  | .makeFunc (Fn.func f) first captured => some (.func f (first.toList.map (ev T)) (captured.toList.map (ev T)), [])
  | .makeMap _ none => some (.map new, [(new, .map [])])
  | .slice t x lo hi mx => match C.ty t with
    | some ti => (sliceA C ti (ev T x) (lo.map (ev T)) (hi.map (ev T)) (mx.map (ev T))).map fun v => (v, [])
    | none => none
  | .fieldAddr t x f => match C.ty t with
    | some ti => match ti.fields[f]? with
      | some fo => if fo.2.1 = 0 ∨ ti.kind ≠ .struct then none else match ev T x with
        | .ptr s off => some (.ptr s (off + fo.1), [])
        | .iptr cs off => some (.iptr cs (off + fo.1), [])
        | _ => none
      | none => none
    | none => none
  | .field t x f => match C.ty t with
    | some ti => if ti.kind ≠ .struct then none else match ti.fields[f]?, ev T x with
      | some fo, .agg cs => (part cs fo.1 fo.2.1 fo.2.2).map fun v => (v, [])
      | _, _ => none
    | none => none
  | .indexAddr t x ix => match C.ty t with
    | some ti => match ti.kind with
      | .slice e => match C.ty e, ev T ix with
        | some te, .int _ i => match ev T x with
          | .rows _ l => if 0 ≤ i ∧ i < (l.length : Int) then
              (match l[i.toNat]? with
               | some r => if r.length = te.size ∧ te.size ≠ 0 then some (.iptr r 0, []) else none
               | none => none) else none
          | .osl sz s off len _ => if 0 ≤ i ∧ i < (len : Int) ∧ sz = te.size then some (.ptr s (off + i.toNat * sz), []) else none
          | _ => none
        | _, _ => none
      | _ => none
    | none => none
  | .index t x ix => match ev T x, ev T ix, (C.ty t).map (fun ti : TI => ti.kind) with
    | .str s, .int _ i, some TK.str => if 0 ≤ i then (match s[i.toNat]? with | some b => some (.int .u8 b.toNat, []) | none => none) else none
    | _, _, _ => none
  | .extract x i => match ev T x with
    | .tuple vs => (vs[i]?).map fun v => (v, [])
    | _ => none
  | .lookup t x ix ok => match C.ty t with
    | some ti => match ti.kind with
      | .map k e => match C.ty k, C.ty e with
        | some tk, some te =>
          if !keyMatch tk (ev T ix) then none else
          match (match ev T x with
            | .nilmap => some []
            | .map s => match hget look s with
              | some (.map es) => some es
              | _ => none
            | _ => none : Option (List (AV × AV))) with
          | none => none
          | some es => match findA (ev T ix) es 0 with
            | none => none
            | some (some (_, v)) => some (if ok then .tuple [v, .bool true] else v, [])
            | some none => match zeroA te with
              | some z => some (if ok then .tuple [z, .bool false] else z, [])
              | none => none
        | _, _ => none
      | _ => none
    | none => none
  | .mapUpdate t m k x | .insert t m k x => match C.ty t with
    | some ti => match ti.kind with
      | .map kt _ => match C.ty kt with
        | some tk =>
          if !keyMatch tk (ev T k) then none else
          match ev T m with
          | .map s => if bar ≤ s then
              (match hget look s with
               | some (.map es) => match findA (ev T k) es 0 with
                 | some (some (i, _)) => some (.undef, [(s, .map (es.modify i fun _ => (ev T k, ev T x)))])
                 | some none => some (.undef, [(s, .map (es ++ [(ev T k, ev T x)]))])
                 | none => none
               | _ => none) else none
          | _ => none
        | none => none
      | _ => none
    | none => none
  | .call { callee := .builtin .len, args, argTypes } => match args.toList, argTypes.toList with
    | [x], [t] => match C.ty t with
      | some ti => (lenA ti look (ev T x)).map fun (n : Nat) => (.int .i64 (n : Int), [])
      | none => none
    | _, _ => none
  | .call { callee := .builtin .min, args, argTypes := _ } => match args.toList.map (ev T) with
    | [.int .i64 a, .int .i64 b] => some (.int .i64 (if b < a then b else a), [])
    | _ => none
  | .call { callee := .builtin .max, args, argTypes := _ } => match args.toList.map (ev T) with
    | [.int .i64 a, .int .i64 b] => some (.int .i64 (if b > a then b else a), [])
    | _ => none
  | .call { callee := .builtin .append, args, argTypes } => match args.toList, argTypes.toList with
    | [s, x], [t, t'] => if t ≠ t' then none else match C.ty t with
      | some ti => match ti.kind with
        | .slice e => match C.ty e with
          | some te => match elemsOf look te.size (ev T x) with
            | some (n, ns) => if te.size = 0 ∨ te.zero.length ≠ te.size ∨ ¬ ns.all AV.one then none else
              match ev T s with
              | .rows true l =>
                if (l.length + n) * te.bytes ≤ 140737488355328 ∧ l.length + n ≤ 9223372036854775807 ∧ l.all (·.length == te.size) then
                  if n = 0 ∧ l ≠ [] then some (.rows true l, []) else some (.osl te.size new 0 (l.length + n) (l.length + n), [(new, .cells (l.flatten ++ ns))])
                else none
              | .osl sz s off len cp =>
                if sz = te.size ∧ bar ≤ s ∧ (len + n) * te.bytes ≤ 140737488355328 ∧ len + n ≤ 9223372036854775807 then
                  match hget look s with
                  | some (.cells cs) =>
                    if off + len * sz = cs.length then some (.osl sz new 0 (len + n) (len + n), [(s, .dead), (new, .cells (cs.drop off ++ ns))])
                    else if len + n ≤ cp then
                      match putCells cs (off + len * sz) ns with
                      | some cs' => some (.osl sz s off (len + n) cp, [(s, .cells cs')])
                      | none => none
                    else none
                  | _ => none
                else none
              | _ => none
            | none => none
          | none => none
        | _ => none
      | none => none
    | _, _ => none
  | .call { callee := .builtin .clear, args, argTypes } => match args.toList, argTypes.toList with
    | [s], [t] => match C.ty t with
      | some ti => match ti.kind with
        | .slice e => match C.ty e with
          | some te => match ev T s with
            | .osl sz s off len _ =>
              if sz = te.size ∧ te.zero.length = sz ∧ bar ≤ s ∧ te.zero.all AV.one then
                match hget look s with
                | some (.cells cs) => match putCells cs off (List.replicate len te.zero).flatten with
                  | some cs' => some (.tuple [], [(s, .cells cs')])
                  | none => none
                | _ => none
              else none
            | _ => none
          | none => none
        | _ => none
      | none => none
    | _, _ => none
  | _ => none

/-- Which blocks an operation may look at. -/
def looks (T : List AV) : Op → List Nat
  | .load _ a => match ev T a with | .ptr s _ => [s] | _ => []
  | .next x _ => match ev T x with | .ptr s _ => [s] | _ => []
  | .store _ a _ => match ev T a with | .ptr s _ => [s] | _ => []
  | .lookup _ x _ _ => match ev T x with | .map s => [s] | _ => []
  | .mapUpdate _ m _ _ | .insert _ m _ _ => match ev T m with | .map s => [s] | _ => []
  | .call { callee := .builtin .len, args, argTypes := _ } => match args.toList.map (ev T) with | [.map s] => [s] | _ => []
  | .call { callee := .builtin .append, args, argTypes := _ } => args.toList.flatMap fun x => match ev T x with | .osl _ s _ _ _ => [s] | _ => []
  | .call { callee := .builtin .clear, args, argTypes := _ } => args.toList.flatMap fun x => match ev T x with | .osl _ s _ _ _ => [s] | _ => []
  | _ => []

/-- The heap, as far as some blocks go. -/
def only (h : Heap) (ss : List Nat) : Heap := h.filter fun p => ss.contains p.1

theorem hget_filter (f : Nat → Bool) (h : Heap) (s : Nat) : hget (h.filter fun p => f p.1) s = if f s then hget h s else none := by
  induction h with
  | nil => simp [hget]
  | cons p r ih =>
    obtain ⟨k, o⟩ := p
    by_cases hk : f k
    · simp only [List.filter_cons, hk, if_true, hget, ih]
      by_cases e : k = s
      · subst e; simp [hk]
      · simp [e]
    · simp only [List.filter_cons, hk, hget]
      by_cases e : k = s
      · subst e; simp [hk, ih]
      · simp [e, ih]

def hputs (h : Heap) : List (Nat × AObj) → Heap
  | [] => h
  | (s, o) :: r => hputs (hput h s o) r

/-- A value handed out: what lies in own blocks is made a plain list; 'inn': within such a list nothing of an elder call's may be named. -/
def fin (h : Heap) (c0 : Nat) (inn : Bool) : Nat → AV → Option AV
  | 0, _ => none
  | n + 1, .osl sz s off len cp =>
    if s < c0 then (if inn then none else some (.osl sz s off len cp)) else
    match hget h s with
    | some (.cells cs) =>
      if off + len * sz ≤ cs.length then
        match (chunks sz len (cs.drop off)).mapM (fun r => r.mapM (fin h c0 true n)) with
        | some l => some (.rows false l)
        | none => none
      else none
    | _ => none
  | n + 1, .agg cs => (cs.mapM (fin h c0 inn n)).map .agg
  | n + 1, .tuple cs => (cs.mapM (fin h c0 inn n)).map .tuple
  | _ + 1, .rows _ l => some (.rows false l)
  | _ + 1, .ptr s off => if s < c0 ∧ inn = false then some (.ptr s off) else none
  | _ + 1, .map s => if s < c0 ∧ inn = false then some (.map s) else none
  | _ + 1, .iface t v => match v with
    | .bool _ | .int _ _ | .str _ => some (.iface t v)
    | _ => none
  | _ + 1, .func f a b => if a.isEmpty && b.isEmpty then some (.func f [] []) else none
  | _ + 1, .iptr _ _ => none
  | _ + 1, .bad => none
  | _ + 1, v => some v

/-- Does a value name no own block? -/
def plainN : Nat → AV → Bool
  | 0, _ => false
  | n + 1, .agg cs => cs.all (plainN n)
  | n + 1, .tuple cs => cs.all (plainN n)
  | _ + 1, .osl .. | _ + 1, .ptr .. | _ + 1, .map _ | _ + 1, .iptr .. | _ + 1, .bad => false
  | _ + 1, .func _ a b => a.isEmpty && b.isEmpty
  | n + 1, .iface _ v => plainN n v
  | _ + 1, _ => true

/-- Does a value name no memory? -/
def scalarN : Nat → AV → Bool
  | 0, _ => false
  | n + 1, .agg cs => cs.all (scalarN n)
  | n + 1, .tuple cs => cs.all (scalarN n)
  | _ + 1, .rows _ l => l.isEmpty
  | _ + 1, .osl .. | _ + 1, .ptr .. | _ + 1, .map _ | _ + 1, .iptr .. | _ + 1, .bad => false
  | _ + 1, .func _ a b => a.isEmpty && b.isEmpty
  | n + 1, .iface _ v => scalarN n v
  | _ + 1, _ => true

/-- Which blocks a function that is told by a rule may look at. -/
def looks1 : AV → List Nat
  | .osl _ s _ _ _ => [s]
  | _ => []
def hookLooks (args : List AV) : List Nat := args.flatMap fun x => match x with | .agg cs => cs.flatMap looks1 | x => looks1 x

def resultsA (C : Cfg) (h : Heap) (T : List AV) (rs : Array ResultVar) : Option AV :=
  match rs.toList.mapM (fun
    | .tmp t => some (getT T t)
    | .cell a t => match C.ty t, getT T a with
      | some ti, .ptr s off => match hget h s with
        | some (.cells cs) => loadObj ti cs off
        | _ => none
      | _, _ => none) with
  | some [v] => some v
  | some vs => some (.tuple vs)
  | none => none

def wantedA (ops : Array Oper) (T : List AV) (o : Oper) : Option Bool :=
  match o.guard with
  | none => some true
  | some (j, want) =>
    match (ops[j]?).bind (·.dst) with
    | none => some false
    | some d => match getT T d with
      | .bool b => some (b == want)
      | .bad => none
      | _ => some false

/-- What an operation looks at and turns; of a call: which blocks it must not be near to. -/
structure Foot where
  rd : List Nat
  wr : List Nat
  call : Option ((Nat → Bool) × (Nat → Bool))
  owns : Bool

/-- What a call sees of the heap in a region whose order is open: what stood there when the region began, and what was laid by operations that surely stand ahead of it. -/
def sees (c0 n : Nat) (vis : Option (List Nat)) (s : Nat) : Bool :=
  match vis with
  | none => true
  | some bef => decide (s < c0) || decide (c0 + n ≤ s) || bef.contains (s - c0)

abbrev CallF := Nat → List AV → St → Option (AV × St)

def putT (nt : Nat) (T : List AV) (dst : Option Nat) (v : AV) : Option (List AV) :=
  match dst with
  | none => some T
  | some d => if d < nt then some (setT T d v) else none

/-- What an operation has to do, its operands read. -/
inductive Todo where
  | bad
  | plain (rd : List Nat) (F : Heap → Option (AV × List (Nat × AObj)))
  | call (g : Nat) (args : List AV)

def todo (C : Cfg) (ops : Array Oper) (bar new : Nat) (o : Oper) (T : List AV) : Todo :=
  match wantedA ops T o with
  | none => .bad
  | some false => .plain [] fun _ => some (.undef, [])
  | some true =>
    match o.op with
    | .call { callee := .value f, args, argTypes := _ } =>
      match ev T f with
      | .func g first captured =>
        match C.hook g with
        | some F => .plain (hookLooks (first ++ (args.toList.map (ev T) ++ captured))) fun look => F look bar new (first ++ (args.toList.map (ev T) ++ captured))
        | none => .call g (first ++ (args.toList.map (ev T) ++ captured))
      | _ => .bad
    | op => .plain (looks T op) fun look => plan C T look bar new op

/-- One operation: what stands behind it; 'c0': the stamp at the region's beginning. -/
def runTodo (C : Cfg) (call : CallF) (nt c0 n : Nat) (vis : Option (List Nat)) (dst : Option Nat) (T : List AV) (st : St) : Todo → Option (List AV × St × Foot)
  | .bad => none
  | .plain rd F =>
    match F (only st.h rd) with
    | some (v, es) => (putT nt T dst v).map fun T' => (T', { st with h := hputs st.h es }, ⟨rd, es.map (·.1), none, false⟩)
    | none => none
  | .call g args =>
    if C.mode g = 2 then
      match call g args st with
      | some (v, st') => (putT nt T dst v).map fun T' => (T', st', ⟨[], [], none, true⟩)
      | none => none
    else
      match call g args { st with h := st.h.filter fun p => sees c0 n vis p.1 } with
      | some (v, st') => (putT nt T dst v).map fun T' =>
        (T', { st with h := if C.mode g = 1 then (st'.h.filter fun p => decide (st.c ≤ p.1)) ++ st.h else st.h, c := st'.c },
          ⟨[], [], some (fun s => C.mode g = 1 && decide (st.c ≤ s), fun s => sees c0 n vis s || decide (st.c ≤ s)), false⟩)
      | none => none

def stepA (C : Cfg) (call : CallF) (nt c0 : Nat) (bl : Option (List (List Nat))) (ops : Array Oper) (i : Nat) (T : List AV) (st : St) : Option (List AV × St × Foot) :=
  match ops[i]? with
  | none => none
  | some o => runTodo C call nt c0 ops.size (bl.map (·.getD i [])) o.dst T st (todo C ops st.bar (c0 + i) o T)

def opsA (C : Cfg) (call : CallF) (nt c0 : Nat) (bl : Option (List (List Nat))) (ops : Array Oper) : List Nat → List AV → St → Option (List AV × St × List (Nat × Foot))
  | [], T, st => some (T, st, [])
  | i :: is, T, st =>
    match stepA C call nt c0 bl ops i T st with
    | none => none
    | some (T', st', f) => match opsA C call nt c0 bl ops is T' st' with
      | some (T2, st2, fs) => some (T2, st2, (i, f) :: fs)
      | none => none

def disj (a b : List Nat) : Bool := a.all fun x => !b.contains x

/-- Two operations that may change places. -/
def Foot.free (a b : Foot) : Bool :=
  if a.owns then b.rd.isEmpty && b.wr.isEmpty && b.call.isNone && !b.owns
  else if b.owns then a.rd.isEmpty && a.wr.isEmpty && a.call.isNone
  else match a.call, b.call with
  | some _, some _ => false
  | some f, none => b.rd.all (!f.1 ·) && b.wr.all (!f.2 ·)
  | none, some f => a.rd.all (!f.1 ·) && a.wr.all (!f.2 ·)
  | none, none => disj a.wr b.rd && disj a.wr b.wr && disj a.rd b.wr

/-- What surely stands ahead of each operation. -/
def beforeL (ops : Array Oper) : List (List Nat) :=
  ops.toList.foldl (fun acc o => acc ++ [o.after.toList.flatMap fun e => if Region.binds .any e then e.on :: acc.getD e.on [] else []]) []

def edgesOk (ops : Array Oper) : Bool :=
  (List.range ops.size).all fun i => match ops[i]? with
    | some o => o.after.toList.all fun e => !Region.binds .any e || decide (e.on < i)
    | none => true

def tmpsOf (xs : List Operand) : List Nat := xs.filterMap fun | .tmp t => some t | _ => none

/-- The temporaries that an operation reads. -/
def readsT (ops : Array Oper) (o : Oper) : List Nat :=
  tmpsOf o.op.operands.toList ++ (match o.guard with | some (g, _) => ((ops[g]?).bind (·.dst)).toList | none => [])

def apartT (ops : Array Oper) (i j : Nat) : Bool :=
  match ops[i]?, ops[j]? with
  | some x, some y =>
    (match x.dst with | some d => !(readsT ops y).contains d && y.dst != some d | none => true) &&
    (match y.dst with | some d => !(readsT ops x).contains d | none => true)
  | _, _ => true

def drawOk (ops : Array Oper) (bl : List (List Nat)) (fs : List (Nat × Foot)) : Bool :=
  edgesOk ops && fs.all fun q => fs.all fun p => decide (q.1 ≤ p.1) || (bl.getD q.1 []).contains p.1 || (apartT ops p.1 q.1 && p.2.free q.2)

inductive AExit where
  | normal | exit (id : Nat) | ret
  deriving DecidableEq

abbrev RunF := Nat → Code → List AV → St → Option (AExit × List AV × St)

def execF (C : Cfg) (rec : RunF) (call : CallF) (nt : Nat) (c : Code) (T : List AV) (st : St) : Option (AExit × List AV × St) :=
  match c with
  | .skip => some (.normal, T, st)
  | .region _ ops draw =>
    if draw then
      match opsA C call nt st.c (some (beforeL ops)) ops (List.range ops.size) T { st with c := st.c + ops.size } with
      | none => none
      | some (T', st', fs) => if drawOk ops (beforeL ops) fs then some (.normal, T', st') else none
    else
      match opsA C call nt st.c none ops (List.range ops.size) T { st with c := st.c + ops.size } with
      | none => none
      | some (T', st', _) => some (.normal, T', st')
  | .seq a b => match rec nt a T st with
    | some (.normal, T', st') => rec nt b T' st'
    | r => r
  | .cond c a b => match ev T c with
    | .bool true => rec nt a T st
    | .bool false => rec nt b T st
    | _ => none
  | .block id b => match rec nt b T st with
    | some (.exit j, T', st') => if j = id then some (.normal, T', st') else some (.exit j, T', st')
    | r => r
  | .loop b => match rec nt b T st with
    | some (.normal, T', st') => rec nt (.loop b) T' st'
    | r => r
  | .exit id => some (.exit id, T, st)
  | .ret => some (.ret, T, st)
  | _ => none

/-- The temporaries at a call's beginning. -/
def padT (nt : Nat) (args : List AV) : List AV := args ++ List.replicate (nt - args.length) .undef

/-- Modes of a call: 0: it only looks at what is there; 1: what it lays stays its caller's; 2: it works on what is its caller's; 3: it is handed plain values, and sees nothing else. -/
def callF (C : Cfg) (run : RunF) (f : Nat) (args : List AV) (st : St) : Option (AV × St) :=
  match C.fn f with
  | none => none
  | some fn =>
    match fn.body with
    | none => none
    | some body =>
      if C.mode f = 3 then
        match args.mapM (fin st.h 0 false 8) with
        | none => none
        | some pargs =>
          match run fn.ntmps body (padT fn.ntmps pargs) ⟨[], 0, 0⟩ with
          | some (e, T', st') =>
            if e = .normal ∨ e = .ret then
              match resultsA C st'.h T' fn.results with
              | none => none
              | some r => match fin st'.h 0 false 8 r with
                | none => none
                | some r' => if args.all (plainN 8) || scalarN 8 r' then some (r', st) else none
            else none
          | none => none
      else
      match run fn.ntmps body (padT fn.ntmps args) (if C.mode f = 2 then st else { st with bar := st.c }) with
      | some (e, T', st') =>
        if e = .normal ∨ e = .ret then
          match resultsA C st'.h T' fn.results with
          | none => none
          | some r =>
            if C.mode f = 2 ∨ C.mode f = 1 then some (r, { st' with bar := st.bar })
            else (fin st'.h st.c false 8 r).map fun r' => (r', st)
        else none
      | none => none

mutual
def exec (C : Cfg) : Nat → RunF
  | 0, _, _, _, _ => none
  | n + 1, nt, c, T, st => execF C (exec C n) (callN C n) nt c T st
def callN (C : Cfg) : Nat → CallF
  | 0, _, _, _ => none
  | n + 1, f, args, st => callF C (exec C n) f args st
end

end Go.Ab
