/- When a plain value stands for a value of the machine, and a plain heap for its memory. -/
import Derived.Test.YtneaijbbcbicnaaGreatDoorAbCore
import Derived.Laws.Rows
namespace Go.Ab
open Go

/-- Where a block of the call's own lies. -/
structure Loc where
  blk : Nat
  delta : Nat
  size : Nat

/-- What the unknown numbers are. -/
structure Val where
  σ : Nat → Int


abbrev Rho := Nat → Option (Option Loc)
abbrev Im := Nat → Option Obj

def imCell (im : Im) (b j : Nat) : Option Value :=
  match im b with
  | some (.cells c _ _) => c[j]?
  | _ => none

inductive VRel [Inhabited Val] : Rho → Im → AV → Value → Prop
  | bad {ρ : Rho} {im : Im} (v : Value) : VRel ρ im .bad v
  | undef {ρ : Rho} {im : Im} : VRel ρ im .undef Go.undef
  | bool {ρ : Rho} {im : Im} (b : Bool) : VRel ρ im (.bool b) (.bool b)
  | int {ρ : Rho} {im : Im} (k : IntKind) (n : Int) : VRel ρ im (.int k n) (.int k n)
  | sint {ρ : Rho} {im : Im} (k : IntKind) (v : Nat) : VRel ρ im (.sint k v) (.int k ((default : Val).σ v))
  | str {ρ : Rho} {im : Im} (l : List UInt8) (s : ByteArray) (h : s.data.toList = l) : VRel ρ im (.str l) (.string s)
  | agg {ρ : Rho} {im : Im} (cs : List AV) (vs : Array Value) (h : vs.size = cs.length) (hh : ∀ i, VRel ρ im (cs.getD i .bad) (vs.getD i Go.undef)) : VRel ρ im (.agg cs) (.agg vs)
  | tuple {ρ : Rho} {im : Im} (cs : List AV) (vs : Array Value) (h : vs.size = cs.length) (hh : ∀ i, VRel ρ im (cs.getD i .bad) (vs.getD i Go.undef)) : VRel ρ im (.tuple cs) (.tuple vs)
  | func {ρ : Rho} {im : Im} (f : Nat) (fa ca : List AV) (va vc : Array Value) (h1 : va.size = fa.length) (hh1 : ∀ i, VRel ρ im (fa.getD i .bad) (va.getD i Go.undef))
      (h2 : vc.size = ca.length) (hh2 : ∀ i, VRel ρ im (ca.getD i .bad) (vc.getD i Go.undef)) : VRel ρ im (.func f fa ca) (.func (.func f) va vc)
  | nilfunc {ρ : Rho} {im : Im} : VRel ρ im .nilfunc .nilFunc
  | rows {ρ : Rho} {im : Im} (t : Bool) (l : List (List AV)) (a : Option Addr) (n cap sz : Nat) (val : Nat → Nat → Value) (hn : n = l.length)
      (hlen : ∀ r, r ∈ l → r.length = sz) (hcap : n ≤ cap) (ht : t = true → cap = n)
      (ha : l ≠ [] → ∃ b o, a = some ⟨b, o, none⟩ ∧ ∀ i j, i < l.length → j < sz → imCell im b (o + i * sz + j) = some (val i j))
      (hv : ∀ i j, VRel (fun _ => none) im ((l.getD i []).getD j .bad) (val i j)) : VRel ρ im (.rows t l) (.slice a n cap)
  | osl {ρ : Rho} {im : Im} (sz s off len cp : Nat) (lo : Option Loc) (a : Option Addr) (cap : Nat) (hρ : ρ s = some lo)
      (hc : 0 < cap → ∃ loc, lo = some loc ∧ a = some ⟨loc.blk, loc.delta + off, none⟩ ∧ loc.delta + off + cap * sz ≤ loc.size)
      (h2 : len ≤ cp) (h3 : cp ≤ cap) : VRel ρ im (.osl sz s off len cp) (.slice a len cap)
  | ptr {ρ : Rho} {im : Im} (s off : Nat) (loc : Loc) (hρ : ρ s = some (some loc)) : VRel ρ im (.ptr s off) (.pointer (some ⟨loc.blk, loc.delta + off, none⟩))
  | iptr {ρ : Rho} {im : Im} (cs : List AV) (off b o : Nat) (val : Nat → Value) (hc : ∀ j, j < cs.length → imCell im b (o + j) = some (val j))
      (hv : ∀ j, VRel ρ im (cs.getD j .bad) (val j)) : VRel ρ im (.iptr cs off) (.pointer (some ⟨b, o + off, none⟩))
  | nilptr {ρ : Rho} {im : Im} : VRel ρ im .nilptr (.pointer none)
  | map {ρ : Rho} {im : Im} (s : Nat) (loc : Loc) (hρ : ρ s = some (some loc)) : VRel ρ im (.map s) (.map (some loc.blk))
  | nilmap {ρ : Rho} {im : Im} : VRel ρ im .nilmap (.map none)
  | nilIface {ρ : Rho} {im : Im} : VRel ρ im .nilIface .nilIface
  | iface {ρ : Rho} {im : Im} (t : Nat) (v : AV) (x : Value) (h : VRel ρ im v x) : VRel ρ im (.iface t v) (.iface t x)

def RhoExt (ρ ρ' : Rho) : Prop := ∀ s l, ρ s = some l → ρ' s = some l
def ImExt (im im' : Im) : Prop := ∀ b o, im b = some o → im' b = some o

theorem imCell_ext {im im' : Im} (h : ImExt im im') {b j : Nat} {v : Value} (hc : imCell im b j = some v) : imCell im' b j = some v := by
  unfold imCell at *
  cases hb : im b with
  | none => simp [hb] at hc
  | some o => rw [h b o hb]; rw [hb] at hc; exact hc

theorem VRel.mono [Inhabited Val] {ρ ρ' : Rho} {im im' : Im} (h1 : RhoExt ρ ρ') (h2 : ImExt im im') {v : AV} {x : Value} (h : VRel ρ im v x) : VRel ρ' im' v x := by
  induction h generalizing ρ' im' with
  | bad v => exact .bad v
  | undef => exact .undef
  | bool b => exact .bool b
  | int k n => exact .int k n
  | sint k v => exact .sint k v
  | str l s h => exact .str l s h
  | agg cs vs h _ ih => exact .agg cs vs h fun i => ih i h1 h2
  | tuple cs vs h _ ih => exact .tuple cs vs h fun i => ih i h1 h2
  | func f fa ca va vc k1 _ k2 _ ih1 ih2 => exact .func f fa ca va vc k1 (fun i => ih1 i h1 h2) k2 (fun i => ih2 i h1 h2)
  | nilfunc => exact .nilfunc
  | rows t l a n cap sz val hn hlen hcap ht ha _ ih =>
    exact .rows t l a n cap sz val hn hlen hcap ht (fun hl => by
      obtain ⟨b, o, e, hc⟩ := ha hl
      exact ⟨b, o, e, fun i j hi hj => imCell_ext h2 (hc i j hi hj)⟩) fun i j => ih i j (fun _ _ q => q) h2
  | osl sz s off len cp lo a cap hρ hc k2 k3 => exact .osl sz s off len cp lo a cap (h1 _ _ hρ) hc k2 k3
  | ptr s off loc hρ => exact .ptr s off loc (h1 _ _ hρ)
  | iptr cs off b o val hc _ ih => exact .iptr cs off b o val (fun j hj => imCell_ext h2 (hc j hj)) fun j => ih j h1 h2
  | nilptr => exact .nilptr
  | map s loc hρ => exact .map s loc (h1 _ _ hρ)
  | nilmap => exact .nilmap
  | nilIface => exact .nilIface
  | iface t v x _ ih => exact .iface t v x (ih h1 h2)

theorem VRel.up [Inhabited Val] {ρ : Rho} {im : Im} {v : AV} {x : Value} (h : VRel (fun _ => none) im v x) : VRel ρ im v x := h.mono (fun _ _ q => by cases q) fun _ _ q => q

/-- Lists of values, one by one. -/
def LRel [Inhabited Val] (ρ : Rho) (im : Im) (cs : List AV) (vs : List Value) : Prop := vs.length = cs.length ∧ ∀ i, VRel ρ im (cs.getD i .bad) (vs.getD i Go.undef)

theorem LRel.mono [Inhabited Val] {ρ ρ' : Rho} {im im' : Im} (h1 : RhoExt ρ ρ') (h2 : ImExt im im') {v : List AV} {x : List Value} (h : LRel ρ im v x) : LRel ρ' im' v x :=
  ⟨h.1, fun i => (h.2 i).mono h1 h2⟩

theorem LRel.nil [Inhabited Val] (ρ : Rho) (im : Im) : LRel ρ im [] [] := ⟨rfl, fun i => by simpa using VRel.bad _⟩

theorem LRel.cons [Inhabited Val] {ρ : Rho} {im : Im} {c : AV} {cs : List AV} {v : Value} {vs : List Value} (h : VRel ρ im c v) (hs : LRel ρ im cs vs) : LRel ρ im (c :: cs) (v :: vs) :=
  ⟨by simp [hs.1], fun i => by cases i with
    | zero => simpa using h
    | succ i => simpa using hs.2 i⟩

theorem LRel.head [Inhabited Val] {ρ : Rho} {im : Im} {c : AV} {cs : List AV} {v : Value} {vs : List Value} (h : LRel ρ im (c :: cs) (v :: vs)) : VRel ρ im c v ∧ LRel ρ im cs vs :=
  ⟨by simpa using h.2 0, by simpa using h.1, fun i => by simpa using h.2 (i + 1)⟩

theorem LRel.of_cons [Inhabited Val] {ρ : Rho} {im : Im} {c : AV} {cs : List AV} {vs : List Value} (h : LRel ρ im (c :: cs) vs) : ∃ v r, vs = v :: r ∧ VRel ρ im c v ∧ LRel ρ im cs r := by
  cases vs with
  | nil => exact absurd h.1 (by simp)
  | cons v r => exact ⟨v, r, rfl, h.head⟩

theorem LRel.of_nil [Inhabited Val] {ρ : Rho} {im : Im} {vs : List Value} (h : LRel ρ im [] vs) : vs = [] := List.eq_nil_of_length_eq_zero h.1

theorem LRel.append [Inhabited Val] {ρ : Rho} {im : Im} {cs ds : List AV} {vs us : List Value} (h : LRel ρ im cs vs) (k : LRel ρ im ds us) : LRel ρ im (cs ++ ds) (vs ++ us) := by
  induction cs generalizing vs with
  | nil => rw [h.of_nil]; exact k
  | cons c cs ih =>
    obtain ⟨v, r, rfl, hv, hr⟩ := h.of_cons
    exact (ih hr).cons hv

theorem LRel.drop [Inhabited Val] {ρ : Rho} {im : Im} {cs : List AV} {vs : List Value} (h : LRel ρ im cs vs) (n : Nat) : LRel ρ im (cs.drop n) (vs.drop n) := by
  induction n generalizing cs vs with
  | zero => exact h
  | succ n ih =>
    cases cs with
    | nil => rw [h.of_nil]; exact .nil _ _
    | cons c cs =>
      obtain ⟨v, r, rfl, hv, hr⟩ := h.of_cons
      exact ih hr

theorem LRel.take [Inhabited Val] {ρ : Rho} {im : Im} {cs : List AV} {vs : List Value} (h : LRel ρ im cs vs) (n : Nat) : LRel ρ im (cs.take n) (vs.take n) := by
  induction n generalizing cs vs with
  | zero => exact .nil _ _
  | succ n ih =>
    cases cs with
    | nil => rw [h.of_nil]; exact .nil _ _
    | cons c cs =>
      obtain ⟨v, r, rfl, hv, hr⟩ := h.of_cons
      exact (ih hr).cons hv

theorem LRel.get [Inhabited Val] {ρ : Rho} {im : Im} {cs : List AV} {vs : List Value} (h : LRel ρ im cs vs) {i : Nat} {c : AV} (hc : cs[i]? = some c) : ∃ v, vs[i]? = some v ∧ VRel ρ im c v := by
  have hi : i < cs.length := by
    rcases Nat.lt_or_ge i cs.length with h' | h'
    · exact h'
    · simp [List.getElem?_eq_none h'] at hc
  have hv : i < vs.length := by rw [h.1]; exact hi
  refine ⟨vs[i], by simp [hv], ?_⟩
  have := h.2 i
  rw [List.getD_eq_getElem?_getD, List.getD_eq_getElem?_getD, hc] at this
  simpa [hv] using this

theorem VRel.agg' [Inhabited Val] {ρ : Rho} {im : Im} {cs : List AV} {vs : Array Value} (h : LRel ρ im cs vs.toList) : VRel ρ im (.agg cs) (.agg vs) :=
  .agg cs vs (by simpa using h.1) fun i => by have := h.2 i; simpa [Array.getD_eq_getD_getElem?, List.getD_eq_getElem?_getD] using this

theorem VRel.tuple' [Inhabited Val] {ρ : Rho} {im : Im} {cs : List AV} {vs : Array Value} (h : LRel ρ im cs vs.toList) : VRel ρ im (.tuple cs) (.tuple vs) :=
  .tuple cs vs (by simpa using h.1) fun i => by have := h.2 i; simpa [Array.getD_eq_getD_getElem?, List.getD_eq_getElem?_getD] using this

theorem lrel_array [Inhabited Val] {ρ : Rho} {im : Im} {cs : List AV} {vs : Array Value} (h : vs.size = cs.length) (hh : ∀ i, VRel ρ im (cs.getD i .bad) (vs.getD i Go.undef)) : LRel ρ im cs vs.toList :=
  ⟨by simpa using h, fun i => by have := hh i; simpa [Array.getD_eq_getD_getElem?, List.getD_eq_getElem?_getD] using this⟩

theorem VRel.of_agg [Inhabited Val] {ρ : Rho} {im : Im} {cs : List AV} {x : Value} (h : VRel ρ im (.agg cs) x) : ∃ vs, x = .agg vs ∧ LRel ρ im cs vs.toList := by
  cases h with
  | agg cs vs h hh => exact ⟨vs, rfl, lrel_array h hh⟩

theorem VRel.of_tuple [Inhabited Val] {ρ : Rho} {im : Im} {cs : List AV} {x : Value} (h : VRel ρ im (.tuple cs) x) : ∃ vs, x = .tuple vs ∧ LRel ρ im cs vs.toList := by
  cases h with
  | tuple cs vs h hh => exact ⟨vs, rfl, lrel_array h hh⟩

/-- A value's cells. -/
theorem VRel.cells [Inhabited Val] {ρ : Rho} {im : Im} {v : AV} {x : Value} (h : VRel ρ im v x) (hb : v ≠ .bad) : LRel ρ im v.cells x.cells.toList := by
  cases h with
  | bad => exact absurd rfl hb
  | agg cs vs h hh => exact lrel_array h hh
  | _ => exact .cons (by first | (constructor; done) | (constructor <;> assumption) | assumption) (.nil _ _)

/-- One block. -/
def ORel [Inhabited Val] (ρ : Rho) (im : Im) (w : World) (s : Nat) : AObj → Prop
  | .dead => True
  | .cells cs => match ρ s with
    | none => False
    | some none => cs = []
    | some (some loc) => im loc.blk = none ∧ ∃ arr ty, w.heap[loc.blk]? = some (.cells arr ty (0, 0)) ∧ arr.size = loc.size ∧ loc.delta + cs.length ≤ loc.size ∧ LRel ρ im cs ((arr.toList.drop loc.delta).take cs.length)
  | .map es => ∃ loc, ρ s = some (some loc) ∧ im loc.blk = none ∧ ∃ ents clock, w.heap[loc.blk]? = some (.map ents clock) ∧
      LRel ρ im (es.map (·.1)) (ents.toList.map (·.key)) ∧ LRel ρ im (es.map (·.2)) (ents.toList.map (·.val))
  | .iter l pos => ∃ loc, ρ s = some (some loc) ∧ loc.delta = 0 ∧ im loc.blk = none ∧ ∃ bs : ByteArray, bs.data.toList = l ∧ w.heap[loc.blk]? = some (.stringIter bs pos)

/-- Block b is one that the call may write. -/
def owned (ρ : Rho) (h : Heap) (bar b : Nat) : Prop := ∃ s o loc, hget h s = some o ∧ o.live = true ∧ bar ≤ s ∧ ρ s = some (some loc) ∧ loc.blk = b

/-- Where a call began. -/
structure Base where
  ρ : Rho
  im : Im
  h : Heap
  c : Nat
  bar : Nat
  w : World

structure Inv [Inhabited Val] (B : Base) (ρ : Rho) (im : Im) (st : St) (w : World) : Prop where
  rho : RhoExt B.ρ ρ
  imx : ImExt B.im im
  imo : ∀ b o, im b = some o → b < B.w.heap.size → B.im b = some o
  imw : ∀ b o, im b = some o → w.heap[b]? = some o
  obj : ∀ s o, hget st.h s = some o → ORel ρ im w s o
  inj : ∀ s s' o o' l l', hget st.h s = some o → o.live = true → hget st.h s' = some o' → o'.live = true → ρ s = some (some l) → ρ s' = some (some l') → l.blk = l'.blk → s = s'
  new : ∀ s, st.c ≤ s → ρ s = none
  cle : B.c ≤ st.c
  bar : st.bar = B.bar
  os : w.os = B.w.os
  tape : w.tape = B.w.tape
  output : w.output = B.w.output
  size : B.w.heap.size ≤ w.heap.size
  own : ∀ b, owned ρ st.h B.bar b → owned B.ρ B.h B.bar b ∨ B.w.heap.size ≤ b
  frame : ∀ b, b < B.w.heap.size → ¬ owned B.ρ B.h B.bar b → w.heap[b]? = B.w.heap[b]?

/-- The temporaries. -/
structure FRel [Inhabited Val] (ρ : Rho) (im : Im) (nt : Nat) (T : List AV) (a : Act) : Prop where
  defers : a.defers = []
  size : nt ≤ a.tmps.size
  val : ∀ i, VRel ρ im (getT T i) (a.tmps.getD i Go.undef)

theorem FRel.mono [Inhabited Val] {ρ ρ' : Rho} {im im' : Im} (h1 : RhoExt ρ ρ') (h2 : ImExt im im') {nt : Nat} {T : List AV} {a : Act} (h : FRel ρ im nt T a) : FRel ρ' im' nt T a :=
  ⟨h.defers, h.size, fun i => (h.val i).mono h1 h2⟩

theorem vrel_const [Inhabited Val] (ρ : Rho) (im : Im) (v : Value) : VRel ρ im (ofConst v) v := by
  unfold ofConst
  split
  · exact .bool _
  · exact .int _ _
  · exact .str _ _ rfl
  · exact .rows true [] none 0 0 0 (fun _ _ => Go.undef) rfl (by simp) (Nat.le_refl _) (fun _ => rfl) (fun h => absurd rfl h) (fun i j => by simpa using VRel.bad _)
  · exact .nilptr
  · exact .nilmap
  · exact .nilfunc
  · exact .nilIface
  · exact .bad _

theorem FRel.ev [Inhabited Val] {ρ : Rho} {im : Im} {nt : Nat} {T : List AV} {a : Act} (h : FRel ρ im nt T a) (x : Operand) : VRel ρ im (ev T x) (a.eval x) := by
  cases x with
  | tmp t => exact h.val t
  | const v => exact vrel_const _ _ v
  | global g => exact .bad _
  | func f => exact .func f [] [] #[] #[] rfl (fun i => by simpa using VRel.bad _) rfl (fun i => by simpa using VRel.bad _)

theorem FRel.put [Inhabited Val] {ρ : Rho} {im : Im} {nt : Nat} {T T' : List AV} {a : Act} (h : FRel ρ im nt T a) {dst : Option Nat} {v : AV} {x : Value} (hv : VRel ρ im v x) (hp : putT nt T dst v = some T') :
    FRel ρ im nt T' (a.put dst x) := by
  cases dst with
  | none => simp only [putT, Option.some.injEq] at hp; subst hp; exact h
  | some d =>
    simp only [putT] at hp
    split at hp
    · rename_i hd
      simp only [Option.some.injEq] at hp
      subst hp
      refine ⟨h.defers, by simpa [Act.put] using h.size, fun i => ?_⟩
      rw [getT_setT]
      simp only [Act.put, Array.getD_eq_getD_getElem?, Array.getElem?_setIfInBounds]
      by_cases e : d = i
      · subst e
        have : d < a.tmps.size := Nat.lt_of_lt_of_le hd h.size
        simpa [this] using hv
      · simpa [e] using h.val i
    · cases hp

end Go.Ab
