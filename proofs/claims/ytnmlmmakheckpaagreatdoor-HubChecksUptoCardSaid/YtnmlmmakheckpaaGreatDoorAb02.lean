/- When a plain value stands for a value of the machine, and a plain heap for its memory. -/
import Derived.Test.YtnmlmmakheckpaaGreatDoorAb01
import Derived.Laws.Rows
namespace Go.Ab
open Go

/-- Where a block of the call's own lies. -/
structure Loc where
  blk : Nat
  delta : Nat
  size : Nat

/-- What the unknown numbers are. -/
structure Val where
  σ : Nat → Int


abbrev Rho := Nat → Option (Option Loc)
abbrev Im := Nat → Option Obj

def imCell (im : Im) (b j : Nat) : Option Value :=
  match im b with
  | some (.cells c _ _) => c[j]?
  | _ => none

inductive VRel [Inhabited Val] : Rho → Im → AV → Value → Prop
  | bad {ρ : Rho} {im : Im} (v : Value) : VRel ρ im .bad v
  | undef {ρ : Rho} {im : Im} : VRel ρ im .undef Go.undef
  | bool {ρ : Rho} {im : Im} (b : Bool) : VRel ρ im (.bool b) (.bool b)
  | int {ρ : Rho} {im : Im} (k : IntKind) (n : Int) : VRel ρ im (.int k n) (.int k n)
  | sint {ρ : Rho} {im : Im} (k : IntKind) (v : Nat) : VRel ρ im (.sint k v) (.int k ((default : Val).σ v))
  | str {ρ : Rho} {im : Im} (l : List UInt8) (s : ByteArray) (h : s.data.toList = l) : VRel ρ im (.str l) (.string s)
  | agg {ρ : Rho} {im : Im} (cs : List AV) (vs : Array Value) (h : vs.size = cs.length) (hh : ∀ i, VRel ρ im (cs.getD i .bad) (vs.getD i Go.undef)) : VRel ρ im (.agg cs) (.agg vs)
  | tuple {ρ : Rho} {im : Im} (cs : List AV) (vs : Array Value) (h : vs.size = cs.length) (hh : ∀ i, VRel ρ im (cs.getD i .bad) (vs.getD i Go.undef)) : VRel ρ im (.tuple cs) (.tuple vs)
  | func {ρ : Rho} {im : Im} (f : Nat) (fa ca : List AV) (va vc : Array Value) (h1 : va.size = fa.length) (hh1 : ∀ i, VRel ρ im (fa.getD i .bad) (va.getD i Go.undef))
      (h2 : vc.size = ca.length) (hh2 : ∀ i, VRel ρ im (ca.getD i .bad) (vc.getD i Go.undef)) : VRel ρ im (.func f fa ca) (.func (.func f) va vc)
  | nilfunc {ρ : Rho} {im : Im} : VRel ρ im .nilfunc .nilFunc
  | rows {ρ : Rho} {im : Im} (t : Bool) (l : List (List AV)) (a : Option Addr) (n cap sz : Nat) (val : Nat → Nat → Value) (hn : n = l.length)
      (hlen : ∀ r, r ∈ l → r.length = sz) (hcap : n ≤ cap) (ht : t = true → cap = n)
      (ha : l ≠ [] → ∃ b o, a = some ⟨b, o, none⟩ ∧ ∀ i j, i < l.length → j < sz → imCell im b (o + i * sz + j) = some (val i j))
      (hv : ∀ i j, VRel (fun _ => none) im ((l.getD i []).getD j .bad) (val i j)) : VRel ρ im (.rows t l) (.slice a n cap)
  | osl {ρ : Rho} {im : Im} (sz s off len cp : Nat) (lo : Option Loc) (a : Option Addr) (cap : Nat) (hρ : ρ s = some lo)
      (hc : 0 < cap → ∃ loc, lo = some loc ∧ a = some ⟨loc.blk, loc.delta + off, none⟩ ∧ loc.delta + off + cap * sz ≤ loc.size)
      (h2 : len ≤ cp) (h3 : cp ≤ cap) (h4 : cap ≤ 9223372036854775807) : VRel ρ im (.osl sz s off len cp) (.slice a len cap)
  | ptr {ρ : Rho} {im : Im} (s off : Nat) (loc : Loc) (hρ : ρ s = some (some loc)) : VRel ρ im (.ptr s off) (.pointer (some ⟨loc.blk, loc.delta + off, none⟩))
  | iptr {ρ : Rho} {im : Im} (cs : List AV) (off b o : Nat) (val : Nat → Value) (hc : ∀ j, j < cs.length → imCell im b (o + j) = some (val j))
      (hv : ∀ j, VRel ρ im (cs.getD j .bad) (val j)) : VRel ρ im (.iptr cs off) (.pointer (some ⟨b, o + off, none⟩))
  | nilptr {ρ : Rho} {im : Im} : VRel ρ im .nilptr (.pointer none)
  | map {ρ : Rho} {im : Im} (s : Nat) (loc : Loc) (hρ : ρ s = some (some loc)) : VRel ρ im (.map s) (.map (some loc.blk))
  | nilmap {ρ : Rho} {im : Im} : VRel ρ im .nilmap (.map none)
  | nilIface {ρ : Rho} {im : Im} : VRel ρ im .nilIface .nilIface
  | iface {ρ : Rho} {im : Im} (t : Nat) (v : AV) (x : Value) (h : VRel ρ im v x) : VRel ρ im (.iface t v) (.iface t x)

def RhoExt (ρ ρ' : Rho) : Prop := ∀ s l, ρ s = some l → ρ' s = some l
def ImExt (im im' : Im) : Prop := ∀ b o, im b = some o → im' b = some o

theorem imCell_ext {im im' : Im} (h : ImExt im im') {b j : Nat} {v : Value} (hc : imCell im b j = some v) : imCell im' b j = some v := by
  unfold imCell at *
  cases hb : im b with
  | none => simp [hb] at hc
  | some o => rw [h b o hb]; rw [hb] at hc; exact hc

theorem VRel.mono [Inhabited Val] {ρ ρ' : Rho} {im im' : Im} (h1 : RhoExt ρ ρ') (h2 : ImExt im im') {v : AV} {x : Value} (h : VRel ρ im v x) : VRel ρ' im' v x := by
  induction h generalizing ρ' im' with
  | bad v => exact .bad v
  | undef => exact .undef
  | bool b => exact .bool b
  | int k n => exact .int k n
  | sint k v => exact .sint k v
  | str l s h => exact .str l s h
  | agg cs vs h _ ih => exact .agg cs vs h fun i => ih i h1 h2
  | tuple cs vs h _ ih => exact .tuple cs vs h fun i => ih i h1 h2
  | func f fa ca va vc k1 _ k2 _ ih1 ih2 => exact .func f fa ca va vc k1 (fun i => ih1 i h1 h2) k2 (fun i => ih2 i h1 h2)
  | nilfunc => exact .nilfunc
  | rows t l a n cap sz val hn hlen hcap ht ha _ ih =>
    exact .rows t l a n cap sz val hn hlen hcap ht (fun hl => by
      obtain ⟨b, o, e, hc⟩ := ha hl
      exact ⟨b, o, e, fun i j hi hj => imCell_ext h2 (hc i j hi hj)⟩) fun i j => ih i j (fun _ _ q => q) h2
  | osl sz s off len cp lo a cap hρ hc k2 k3 k4 => exact .osl sz s off len cp lo a cap (h1 _ _ hρ) hc k2 k3 k4
  | ptr s off loc hρ => exact .ptr s off loc (h1 _ _ hρ)
  | iptr cs off b o val hc _ ih => exact .iptr cs off b o val (fun j hj => imCell_ext h2 (hc j hj)) fun j => ih j h1 h2
  | nilptr => exact .nilptr
  | map s loc hρ => exact .map s loc (h1 _ _ hρ)
  | nilmap => exact .nilmap
  | nilIface => exact .nilIface
  | iface t v x _ ih => exact .iface t v x (ih h1 h2)

theorem VRel.up [Inhabited Val] {ρ : Rho} {im : Im} {v : AV} {x : Value} (h : VRel (fun _ => none) im v x) : VRel ρ im v x := h.mono (fun _ _ q => by cases q) fun _ _ q => q

/-- Lists of values, one by one. -/
def LRel [Inhabited Val] (ρ : Rho) (im : Im) (cs : List AV) (vs : List Value) : Prop := vs.length = cs.length ∧ ∀ i, VRel ρ im (cs.getD i .bad) (vs.getD i Go.undef)

theorem LRel.mono [Inhabited Val] {ρ ρ' : Rho} {im im' : Im} (h1 : RhoExt ρ ρ') (h2 : ImExt im im') {v : List AV} {x : List Value} (h : LRel ρ im v x) : LRel ρ' im' v x :=
  ⟨h.1, fun i => (h.2 i).mono h1 h2⟩

theorem LRel.nil [Inhabited Val] (ρ : Rho) (im : Im) : LRel ρ im [] [] := ⟨rfl, fun i => by simpa using VRel.bad _⟩

theorem LRel.cons [Inhabited Val] {ρ : Rho} {im : Im} {c : AV} {cs : List AV} {v : Value} {vs : List Value} (h : VRel ρ im c v) (hs : LRel ρ im cs vs) : LRel ρ im (c :: cs) (v :: vs) :=
  ⟨by simp [hs.1], fun i => by cases i with
    | zero => simpa using h
    | succ i => simpa using hs.2 i⟩

theorem LRel.head [Inhabited Val] {ρ : Rho} {im : Im} {c : AV} {cs : List AV} {v : Value} {vs : List Value} (h : LRel ρ im (c :: cs) (v :: vs)) : VRel ρ im c v ∧ LRel ρ im cs vs :=
  ⟨by simpa using h.2 0, by simpa using h.1, fun i => by simpa using h.2 (i + 1)⟩

theorem LRel.of_cons [Inhabited Val] {ρ : Rho} {im : Im} {c : AV} {cs : List AV} {vs : List Value} (h : LRel ρ im (c :: cs) vs) : ∃ v r, vs = v :: r ∧ VRel ρ im c v ∧ LRel ρ im cs r := by
  cases vs with
  | nil => exact absurd h.1 (by simp)
  | cons v r => exact ⟨v, r, rfl, h.head⟩

theorem LRel.of_nil [Inhabited Val] {ρ : Rho} {im : Im} {vs : List Value} (h : LRel ρ im [] vs) : vs = [] := List.eq_nil_of_length_eq_zero h.1

theorem LRel.append [Inhabited Val] {ρ : Rho} {im : Im} {cs ds : List AV} {vs us : List Value} (h : LRel ρ im cs vs) (k : LRel ρ im ds us) : LRel ρ im (cs ++ ds) (vs ++ us) := by
  induction cs generalizing vs with
  | nil => rw [h.of_nil]; exact k
  | cons c cs ih =>
    obtain ⟨v, r, rfl, hv, hr⟩ := h.of_cons
    exact (ih hr).cons hv

theorem LRel.drop [Inhabited Val] {ρ : Rho} {im : Im} {cs : List AV} {vs : List Value} (h : LRel ρ im cs vs) (n : Nat) : LRel ρ im (cs.drop n) (vs.drop n) := by
  induction n generalizing cs vs with
  | zero => exact h
  | succ n ih =>
    cases cs with
    | nil => rw [h.of_nil]; exact .nil _ _
    | cons c cs =>
      obtain ⟨v, r, rfl, hv, hr⟩ := h.of_cons
      exact ih hr

theorem LRel.take [Inhabited Val] {ρ : Rho} {im : Im} {cs : List AV} {vs : List Value} (h : LRel ρ im cs vs) (n : Nat) : LRel ρ im (cs.take n) (vs.take n) := by
  induction n generalizing cs vs with
  | zero => exact .nil _ _
  | succ n ih =>
    cases cs with
    | nil => rw [h.of_nil]; exact .nil _ _
    | cons c cs =>
      obtain ⟨v, r, rfl, hv, hr⟩ := h.of_cons
      exact (ih hr).cons hv

theorem LRel.get [Inhabited Val] {ρ : Rho} {im : Im} {cs : List AV} {vs : List Value} (h : LRel ρ im cs vs) {i : Nat} {c : AV} (hc : cs[i]? = some c) : ∃ v, vs[i]? = some v ∧ VRel ρ im c v := by
  have hi : i < cs.length := by
    rcases Nat.lt_or_ge i cs.length with h' | h'
    · exact h'
    · simp [List.getElem?_eq_none h'] at hc
  have hv : i < vs.length := by rw [h.1]; exact hi
  refine ⟨vs[i], by simp [hv], ?_⟩
  have := h.2 i
  rw [List.getD_eq_getElem?_getD, List.getD_eq_getElem?_getD, hc] at this
  simpa [hv] using this

theorem VRel.agg' [Inhabited Val] {ρ : Rho} {im : Im} {cs : List AV} {vs : Array Value} (h : LRel ρ im cs vs.toList) : VRel ρ im (.agg cs) (.agg vs) :=
  .agg cs vs (by simpa using h.1) fun i => by have := h.2 i; simpa [Array.getD_eq_getD_getElem?, List.getD_eq_getElem?_getD] using this

theorem VRel.tuple' [Inhabited Val] {ρ : Rho} {im : Im} {cs : List AV} {vs : Array Value} (h : LRel ρ im cs vs.toList) : VRel ρ im (.tuple cs) (.tuple vs) :=
  .tuple cs vs (by simpa using h.1) fun i => by have := h.2 i; simpa [Array.getD_eq_getD_getElem?, List.getD_eq_getElem?_getD] using this

theorem lrel_array [Inhabited Val] {ρ : Rho} {im : Im} {cs : List AV} {vs : Array Value} (h : vs.size = cs.length) (hh : ∀ i, VRel ρ im (cs.getD i .bad) (vs.getD i Go.undef)) : LRel ρ im cs vs.toList :=
  ⟨by simpa using h, fun i => by have := hh i; simpa [Array.getD_eq_getD_getElem?, List.getD_eq_getElem?_getD] using this⟩

theorem VRel.of_agg [Inhabited Val] {ρ : Rho} {im : Im} {cs : List AV} {x : Value} (h : VRel ρ im (.agg cs) x) : ∃ vs, x = .agg vs ∧ LRel ρ im cs vs.toList := by
  cases h with
  | agg cs vs h hh => exact ⟨vs, rfl, lrel_array h hh⟩

theorem VRel.of_tuple [Inhabited Val] {ρ : Rho} {im : Im} {cs : List AV} {x : Value} (h : VRel ρ im (.tuple cs) x) : ∃ vs, x = .tuple vs ∧ LRel ρ im cs vs.toList := by
  cases h with
  | tuple cs vs h hh => exact ⟨vs, rfl, lrel_array h hh⟩

/-- A value's cells. -/
theorem VRel.cells [Inhabited Val] {ρ : Rho} {im : Im} {v : AV} {x : Value} (h : VRel ρ im v x) (hb : v ≠ .bad) : LRel ρ im v.cells x.cells.toList := by
  cases h with
  | bad => exact absurd rfl hb
  | agg cs vs h hh => exact lrel_array h hh
  | _ => exact .cons (by first | (constructor; done) | (constructor <;> assumption) | assumption) (.nil _ _)

/-- One block. -/
def ORel [Inhabited Val] (ρ : Rho) (im : Im) (w : World) (s : Nat) : AObj → Prop
  | .dead => True
  | .cells cs => match ρ s with
    | none => False
    | some none => cs = []
    | some (some loc) => im loc.blk = none ∧ ∃ arr ty, w.heap[loc.blk]? = some (.cells arr ty (0, 0)) ∧ arr.size = loc.size ∧ loc.delta + cs.length ≤ loc.size ∧ LRel ρ im cs ((arr.toList.drop loc.delta).take cs.length)
  | .map es => ∃ loc, ρ s = some (some loc) ∧ im loc.blk = none ∧ ∃ ents clock, w.heap[loc.blk]? = some (.map ents clock) ∧
      LRel ρ im (es.map (·.1)) (ents.toList.map (·.key)) ∧ LRel ρ im (es.map (·.2)) (ents.toList.map (·.val))
  | .iter l pos => ∃ loc, ρ s = some (some loc) ∧ loc.delta = 0 ∧ im loc.blk = none ∧ ∃ bs : ByteArray, bs.data.toList = l ∧ w.heap[loc.blk]? = some (.stringIter bs pos)

/-- Block b is one that the call may write. -/
def owned (ρ : Rho) (h : Heap) (bar b : Nat) : Prop := ∃ s o loc, hget h s = some o ∧ o.live = true ∧ bar ≤ s ∧ ρ s = some (some loc) ∧ loc.blk = b

/-- Where a call began. -/
structure Base where
  ρ : Rho
  im : Im
  h : Heap
  c : Nat
  bar : Nat
  w : World

structure Inv [Inhabited Val] (B : Base) (ρ : Rho) (im : Im) (st : St) (w : World) : Prop where
  rho : RhoExt B.ρ ρ
  imx : ImExt B.im im
  imo : ∀ b o, im b = some o → b < B.w.heap.size → B.im b = some o ∨ owned B.ρ B.h B.bar b
  imw : ∀ b o, im b = some o → w.heap[b]? = some o
  obj : ∀ s o, hget st.h s = some o → ORel ρ im w s o
  inj : ∀ s s' o o' l l', hget st.h s = some o → o.live = true → hget st.h s' = some o' → o'.live = true → ρ s = some (some l) → ρ s' = some (some l') → l.blk = l'.blk → s = s'
  new : ∀ s, st.c ≤ s → ρ s = none
  cle : B.c ≤ st.c
  bar : st.bar = B.bar
  os : w.os = B.w.os
  tape : w.tape = B.w.tape
  output : w.output = B.w.output
  size : B.w.heap.size ≤ w.heap.size
  own : ∀ b, owned ρ st.h B.bar b → owned B.ρ B.h B.bar b ∨ B.w.heap.size ≤ b
  frame : ∀ b, b < B.w.heap.size → ¬ owned B.ρ B.h B.bar b → w.heap[b]? = B.w.heap[b]?

/-- The temporaries. -/
structure FRel [Inhabited Val] (ρ : Rho) (im : Im) (nt : Nat) (T : List AV) (a : Act) : Prop where
  defers : a.defers = []
  size : nt ≤ a.tmps.size
  val : ∀ i, VRel ρ im (getT T i) (a.tmps.getD i Go.undef)

theorem FRel.mono [Inhabited Val] {ρ ρ' : Rho} {im im' : Im} (h1 : RhoExt ρ ρ') (h2 : ImExt im im') {nt : Nat} {T : List AV} {a : Act} (h : FRel ρ im nt T a) : FRel ρ' im' nt T a :=
  ⟨h.defers, h.size, fun i => (h.val i).mono h1 h2⟩

theorem vrel_const [Inhabited Val] (ρ : Rho) (im : Im) (v : Value) : VRel ρ im (ofConst v) v := by
  unfold ofConst
  split
  · exact .bool _
  · exact .int _ _
  · exact .str _ _ rfl
  · exact .rows true [] none 0 0 0 (fun _ _ => Go.undef) rfl (by simp) (Nat.le_refl _) (fun _ => rfl) (fun h => absurd rfl h) (fun i j => by simpa using VRel.bad _)
  · exact .nilptr
  · exact .nilmap
  · exact .nilfunc
  · exact .nilIface
  · exact .bad _

theorem FRel.ev [Inhabited Val] {ρ : Rho} {im : Im} {nt : Nat} {T : List AV} {a : Act} (h : FRel ρ im nt T a) (x : Operand) : VRel ρ im (ev T x) (a.eval x) := by
  cases x with
  | tmp t => exact h.val t
  | const v => exact vrel_const _ _ v
  | global g => exact .bad _
  | func f => exact .func f [] [] #[] #[] rfl (fun i => by simpa using VRel.bad _) rfl (fun i => by simpa using VRel.bad _)

theorem FRel.put [Inhabited Val] {ρ : Rho} {im : Im} {nt : Nat} {T T' : List AV} {a : Act} (h : FRel ρ im nt T a) {dst : Option Nat} {v : AV} {x : Value} (hv : VRel ρ im v x) (hp : putT nt T dst v = some T') :
    FRel ρ im nt T' (a.put dst x) := by
  cases dst with
  | none => simp only [putT, Option.some.injEq] at hp; subst hp; exact h
  | some d =>
    simp only [putT] at hp
    split at hp
    · rename_i hd
      simp only [Option.some.injEq] at hp
      subst hp
      refine ⟨h.defers, by simpa [Act.put] using h.size, fun i => ?_⟩
      rw [getT_setT]
      simp only [Act.put, Array.getD_eq_getD_getElem?, Array.getElem?_setIfInBounds]
      by_cases e : d = i
      · subst e
        have : d < a.tmps.size := Nat.lt_of_lt_of_le hd h.size
        simpa [this] using hv
      · simpa [e] using h.val i
    · cases hp

end Go.Ab
/- How the tie between the plain heap and the machine's memory lives on: a new block, a store, a block that goes on under a new stamp. -/
namespace Go.Ab
open Go

def rset (ρ : Rho) (s : Nat) (l : Option Loc) : Rho := fun t => if t = s then some l else ρ t

theorem rset_same (ρ : Rho) (s : Nat) (l : Option Loc) : rset ρ s l s = some l := by simp [rset]
theorem rset_other (ρ : Rho) {s t : Nat} (l : Option Loc) (h : t ≠ s) : rset ρ s l t = ρ t := by simp [rset, h]
theorem rset_ext [Inhabited Val] {ρ : Rho} {s : Nat} (l : Option Loc) (h : ρ s = none) : RhoExt ρ (rset ρ s l) := fun t k hk => by
  by_cases e : t = s
  · subst e; rw [h] at hk; cases hk
  · rw [rset_other ρ l e]; exact hk
theorem imExt_refl (im : Im) : ImExt im im := fun _ _ h => h
theorem rhoExt_refl (ρ : Rho) : RhoExt ρ ρ := fun _ _ h => h
theorem RhoExt.trans {a b c : Rho} (h : RhoExt a b) (k : RhoExt b c) : RhoExt a c := fun s l hl => k s l (h s l hl)
theorem ImExt.trans {a b c : Im} (h : ImExt a b) (k : ImExt b c) : ImExt a c := fun s l hl => k s l (h s l hl)

theorem lt_of_some {α : Type} {xs : Array α} {i : Nat} {x : α} (h : xs[i]? = some x) : i < xs.size := (Array.getElem?_eq_some_iff.1 h).1

/-- A live block lies in memory. -/
theorem ORel.at_ [Inhabited Val] {ρ : Rho} {im : Im} {w : World} {s : Nat} {o : AObj} {l : Loc} (h : ORel ρ im w s o) (hl : o.live = true) (hr : ρ s = some (some l)) : im l.blk = none ∧ l.blk < w.heap.size := by
  cases o with
  | dead => cases hl
  | cells cs =>
    simp only [ORel, hr] at h
    obtain ⟨h1, arr, ty, hw, _⟩ := h
    exact ⟨h1, lt_of_some hw⟩
  | map es =>
    simp only [ORel] at h
    obtain ⟨loc, hr', h1, ents, clock, hw, _⟩ := h
    rw [hr] at hr'
    simp only [Option.some.injEq] at hr'
    subst hr'
    exact ⟨h1, lt_of_some hw⟩
  | iter l pos =>
    simp only [ORel] at h
    obtain ⟨loc, hr', _, h1, bs, _, hw⟩ := h
    rw [hr] at hr'
    simp only [Option.some.injEq] at hr'
    subst hr'
    exact ⟨h1, lt_of_some hw⟩

theorem ORel.mono [Inhabited Val] {ρ ρ' : Rho} {im im' : Im} {w w' : World} {s : Nat} {o : AObj} (h : ORel ρ im w s o) (h1 : RhoExt ρ ρ') (h2 : ImExt im im')
    (hb : ∀ l, ρ s = some (some l) → o.live = true → w'.heap[l.blk]? = w.heap[l.blk]? ∧ im' l.blk = none) : ORel ρ' im' w' s o := by
  cases o with
  | dead => trivial
  | cells cs =>
    simp only [ORel] at h ⊢
    cases hr : ρ s with
    | none => simp [hr] at h
    | some l =>
      rw [h1 s l hr]
      rw [hr] at h
      cases l with
      | none => exact h
      | some loc =>
        obtain ⟨_, arr, ty, hw, hs, hd, hl⟩ := h
        obtain ⟨e1, e2⟩ := hb loc hr rfl
        exact ⟨e2, arr, ty, by rw [e1]; exact hw, hs, hd, hl.mono h1 h2⟩
  | map es =>
    simp only [ORel] at h ⊢
    obtain ⟨loc, hr, _, ents, clock, hw, hk, hv⟩ := h
    obtain ⟨e1, e2⟩ := hb loc hr rfl
    exact ⟨loc, h1 _ _ hr, e2, ents, clock, by rw [e1]; exact hw, hk.mono h1 h2, hv.mono h1 h2⟩
  | iter l pos =>
    simp only [ORel] at h ⊢
    obtain ⟨loc, hr, hd, _, bs, hbs, hw⟩ := h
    obtain ⟨e1, e2⟩ := hb loc hr rfl
    exact ⟨loc, h1 _ _ hr, hd, e2, bs, hbs, by rw [e1]; exact hw⟩

/-- A world that differs in no memory. -/
structure SameMem (w w' : World) : Prop where
  heap : w'.heap = w.heap
  os : w'.os = w.os
  tape : w'.tape = w.tape
  output : w'.output = w.output

theorem Inv.same [Inhabited Val] {B : Base} {ρ : Rho} {im : Im} {st : St} {w w' : World} (h : Inv B ρ im st w) (k : SameMem w w') : Inv B ρ im st w' :=
  ⟨h.rho, h.imx, h.imo, fun b o hb => by rw [k.heap]; exact h.imw b o hb,
   fun s o ho => (h.obj s o ho).mono (rhoExt_refl _) (imExt_refl _) fun l hl hlive => ⟨by rw [k.heap], ((h.obj s o ho).at_ hlive hl).1⟩,
   h.inj, h.new, h.cle, h.bar, k.os.trans h.os, k.tape.trans h.tape, k.output.trans h.output, by rw [k.heap]; exact h.size, h.own,
   fun b hb hn => by rw [k.heap]; exact h.frame b hb hn⟩

/-- A new block, at a stamp that nothing had yet. -/
theorem Inv.alloc [Inhabited Val] {B : Base} {ρ : Rho} {im : Im} {st : St} {w : World} (h : Inv B ρ im st w) {new : Nat} (hn : ρ new = none) (hc : new < st.c) (o : Obj) (ao : AObj) (l : Loc) (hl : l.blk = w.heap.size)
    (hobj : im l.blk = none → ORel (rset ρ new (some l)) im (w.alloc o) new ao) : Inv B (rset ρ new (some l)) im { st with h := hput st.h new ao } (w.alloc o) := by
  have hext := rset_ext (some l) hn
  have him : im l.blk = none := by
    cases e : im l.blk with
    | none => rfl
    | some x => have := lt_of_some (h.imw _ _ e); omega
  have hold : ∀ b, b < w.heap.size → (w.alloc o).heap[b]? = w.heap[b]? := fun b hb => heap_alloc_old w o b hb
  have hne : ∀ s x, hget st.h s = some x → x.live = true → ∀ k, ρ s = some (some k) → k.blk ≠ w.heap.size := fun s x hx hlive k hk => by
    have := ((h.obj s x hx).at_ hlive hk).2
    omega
  refine ⟨h.rho.trans hext, h.imx, h.imo, fun b x hb => ?_, fun s x hx => ?_, fun s s' x x' k k' hx hxl hx' hxl' hk hk' e => ?_, fun s hs => ?_, h.cle, h.bar, h.os, h.tape, h.output,
    Nat.le_trans h.size (by simp), fun b hb => ?_, fun b hb hno => ?_⟩
  · rw [hold b (lt_of_some (h.imw b x hb))]; exact h.imw b x hb
  · rw [hget_hput] at hx
    split at hx
    · rename_i e
      simp only [Option.some.injEq] at hx
      subst e
      subst hx
      exact hobj him
    · exact (h.obj s x hx).mono hext (imExt_refl _) fun k hk hlive => ⟨hold _ ((h.obj s x hx).at_ hlive hk).2, ((h.obj s x hx).at_ hlive hk).1⟩
  · rw [hget_hput] at hx hx'
    by_cases e1 : new = s <;> by_cases e2 : new = s'
    · exact e1.symm.trans e2
    · subst e1
      rw [rset_same] at hk
      rw [if_neg e2] at hx'
      rw [rset_other ρ _ (fun q => e2 q.symm)] at hk'
      simp only [Option.some.injEq] at hk
      subst hk
      exact absurd (e.symm.trans hl) (hne s' x' hx' hxl' k' hk')
    · subst e2
      rw [rset_same] at hk'
      rw [if_neg e1] at hx
      rw [rset_other ρ _ (fun q => e1 q.symm)] at hk
      simp only [Option.some.injEq] at hk'
      subst hk'
      exact absurd (e.trans hl) (hne s x hx hxl k hk)
    · rw [if_neg e1] at hx
      rw [if_neg e2] at hx'
      rw [rset_other ρ _ (fun q => e1 q.symm)] at hk
      rw [rset_other ρ _ (fun q => e2 q.symm)] at hk'
      exact h.inj s s' x x' k k' hx hxl hx' hxl' hk hk' e
  · have hs' : st.c ≤ s := hs
    rw [rset_other ρ _ (by omega)]
    exact h.new s hs'
  · obtain ⟨s, x, k, hx, hlive, hbar, hk, rfl⟩ := hb
    rw [hget_hput] at hx
    by_cases e : new = s
    · subst e
      rw [rset_same] at hk
      simp only [Option.some.injEq] at hk
      subst hk
      exact .inr (by have := h.size; omega)
    · rw [if_neg e] at hx
      rw [rset_other ρ _ (fun q => e q.symm)] at hk
      exact h.own _ ⟨s, x, k, hx, hlive, hbar, hk, rfl⟩
  · rw [hold b (Nat.lt_of_lt_of_le hb h.size)]
    exact h.frame b hb hno

/-- A stamp for what lies nowhere. -/
theorem Inv.virt [Inhabited Val] {B : Base} {ρ : Rho} {im : Im} {st : St} {w : World} (h : Inv B ρ im st w) {new : Nat} (hn : ρ new = none) (hc : new < st.c) :
    Inv B (rset ρ new none) im { st with h := hput st.h new (.cells []) } w := by
  have hext := rset_ext none hn
  refine ⟨h.rho.trans hext, h.imx, h.imo, h.imw, fun s x hx => ?_, fun s s' x x' k k' hx hxl hx' hxl' hk hk' e => ?_, fun s hs => ?_, h.cle, h.bar, h.os, h.tape, h.output, h.size, fun b hb => ?_, h.frame⟩
  · rw [hget_hput] at hx
    split at hx
    · rename_i e
      simp only [Option.some.injEq] at hx
      subst e
      subst hx
      simp [ORel, rset_same]
    · exact (h.obj s x hx).mono hext (imExt_refl _) fun k hk hlive => ⟨rfl, ((h.obj s x hx).at_ hlive hk).1⟩
  · rw [hget_hput] at hx hx'
    have e1 : ¬ new = s := fun q => by subst q; rw [rset_same] at hk; cases hk
    have e2 : ¬ new = s' := fun q => by subst q; rw [rset_same] at hk'; cases hk'
    rw [if_neg e1] at hx
    rw [if_neg e2] at hx'
    rw [rset_other ρ _ (fun q => e1 q.symm)] at hk
    rw [rset_other ρ _ (fun q => e2 q.symm)] at hk'
    exact h.inj s s' x x' k k' hx hxl hx' hxl' hk hk' e
  · have hs' : st.c ≤ s := hs
    rw [rset_other ρ _ (by omega)]
    exact h.new s hs'
  · obtain ⟨s, x, k, hx, hlive, hbar, hk, rfl⟩ := hb
    rw [hget_hput] at hx
    have e1 : ¬ new = s := fun q => by subst q; rw [rset_same] at hk; cases hk
    rw [if_neg e1] at hx
    rw [rset_other ρ _ (fun q => e1 q.symm)] at hk
    exact h.own _ ⟨s, x, k, hx, hlive, hbar, hk, rfl⟩

/-- Memory turned in one block alone. -/
structure Turned (blk : Nat) (w w' : World) : Prop where
  size : w'.heap.size = w.heap.size
  other : ∀ b, b ≠ blk → w'.heap[b]? = w.heap[b]?
  os : w'.os = w.os
  tape : w'.tape = w.tape
  output : w'.output = w.output

/-- A live block that may be written is turned. -/
theorem Inv.turn [Inhabited Val] {B : Base} {ρ : Rho} {im : Im} {st : St} {w w' : World} (h : Inv B ρ im st w) {s : Nat} {x ao : AObj} {l : Loc} (hs : hget st.h s = some x) (hlive : x.live = true) (hr : ρ s = some (some l)) (hbar : B.bar ≤ s)
    (ht : Turned l.blk w w') (hobj : ORel ρ im w' s ao) : Inv B ρ im { st with h := hput st.h s ao } w' := by
  have hat := (h.obj s x hs).at_ hlive hr
  have hne : ∀ s' x', s' ≠ s → hget st.h s' = some x' → x'.live = true → ∀ k, ρ s' = some (some k) → k.blk ≠ l.blk := fun s' x' hss hx' hl' k hk e =>
    hss (h.inj s' s x' x k l hx' hl' hs hlive hk hr e)
  refine ⟨h.rho, h.imx, h.imo, fun b o hb => ?_, fun s' x' hx' => ?_, fun s1 s2 x1 x2 k1 k2 h1 l1 h2 l2 r1 r2 e => ?_, h.new, h.cle, h.bar, ht.os.trans h.os, ht.tape.trans h.tape, ht.output.trans h.output,
    by rw [ht.size]; exact h.size, fun b hb => ?_, fun b hb hno => ?_⟩
  · rw [ht.other b (fun e => by subst e; rw [hat.1] at hb; cases hb)]
    exact h.imw b o hb
  · rw [hget_hput] at hx'
    split at hx'
    · rename_i e
      simp only [Option.some.injEq] at hx'
      subst e
      subst hx'
      exact hobj
    · rename_i e
      exact (h.obj s' x' hx').mono (rhoExt_refl _) (imExt_refl _) fun k hk hl' => ⟨ht.other _ (hne s' x' (fun q => e q.symm) hx' hl' k hk), ((h.obj s' x' hx').at_ hl' hk).1⟩
  · rw [hget_hput] at h1 h2
    have g : ∀ s' x' , (if s = s' then some ao else hget st.h s') = some x' → x'.live = true → ∃ y, hget st.h s' = some y ∧ y.live = true := fun s' x' hg hl' => by
      split at hg
      · rename_i e; subst e; exact ⟨x, hs, hlive⟩
      · exact ⟨x', hg, hl'⟩
    obtain ⟨y1, hy1, hl1⟩ := g s1 x1 h1 l1
    obtain ⟨y2, hy2, hl2⟩ := g s2 x2 h2 l2
    exact h.inj s1 s2 y1 y2 k1 k2 hy1 hl1 hy2 hl2 r1 r2 e
  · obtain ⟨s', x', k, hx', hl', hb', hk, rfl⟩ := hb
    rw [hget_hput] at hx'
    by_cases e : s = s'
    · subst e
      exact h.own _ ⟨s, x, k, hs, hlive, hb', hk, rfl⟩
    · rw [if_neg e] at hx'
      exact h.own _ ⟨s', x', k, hx', hl', hb', hk, rfl⟩
  · have : b ≠ l.blk := fun e => by
      subst e
      rcases h.own l.blk ⟨s, x, l, hs, hlive, hbar, hr, rfl⟩ with h1 | h1
      · exact hno h1
      · omega
    rw [ht.other b this]
    exact h.frame b hb hno

/-- A block that goes on under a new stamp (and the old one is dead). -/
theorem Inv.move [Inhabited Val] {B : Base} {ρ : Rho} {im : Im} {st : St} {w w' : World} (h : Inv B ρ im st w) {s new : Nat} {x ao : AObj} {l l' : Loc} (hs : hget st.h s = some x) (hlive : x.live = true) (hr : ρ s = some (some l)) (hbar : B.bar ≤ s)
    (hn : ρ new = none) (hc : new < st.c) (hl : l'.blk = l.blk) (ht : Turned l.blk w w') (hobj : ORel (rset ρ new (some l')) im w' new ao) :
    Inv B (rset ρ new (some l')) im { st with h := hput (hput st.h s .dead) new ao } w' := by
  have hext := rset_ext (some l') hn
  have hns : new ≠ s := fun e => by subst e; rw [hr] at hn; cases hn
  have hat := (h.obj s x hs).at_ hlive hr
  have hne : ∀ s' x', s' ≠ s → hget st.h s' = some x' → x'.live = true → ∀ k, ρ s' = some (some k) → k.blk ≠ l.blk := fun s' x' hss hx' hl' k hk e =>
    hss (h.inj s' s x' x k l hx' hl' hs hlive hk hr e)
  have hg : ∀ s' x', hget (hput (hput st.h s .dead) new ao) s' = some x' → x'.live = true → (s' = new ∧ x' = ao) ∨ (s' ≠ new ∧ s' ≠ s ∧ hget st.h s' = some x') := fun s' x' hx hl' => by
    rw [hget_hput, hget_hput] at hx
    split at hx
    · rename_i e; simp only [Option.some.injEq] at hx; exact .inl ⟨e.symm, hx.symm⟩
    · rename_i e
      split at hx
      · simp only [Option.some.injEq] at hx; subst hx; cases hl'
      · rename_i e2; exact .inr ⟨fun q => e q.symm, fun q => e2 q.symm, hx⟩
  refine ⟨h.rho.trans hext, h.imx, h.imo, fun b o hb => ?_, fun s' x' hx' => ?_, fun s1 s2 x1 x2 k1 k2 h1 l1 h2 l2 r1 r2 e => ?_, fun s' hs' => ?_, h.cle, h.bar, ht.os.trans h.os, ht.tape.trans h.tape, ht.output.trans h.output,
    by rw [ht.size]; exact h.size, fun b hb => ?_, fun b hb hno => ?_⟩
  · rw [ht.other b (fun e => by subst e; rw [hat.1] at hb; cases hb)]
    exact h.imw b o hb
  · by_cases hl' : x'.live = true
    · rcases hg s' x' hx' hl' with ⟨rfl, rfl⟩ | ⟨e1, e2, hx⟩
      · exact hobj
      · exact (h.obj s' x' hx).mono hext (imExt_refl _) fun k hk hl'' => ⟨ht.other _ (hne s' x' e2 hx hl'' k hk), ((h.obj s' x' hx).at_ hl'' hk).1⟩
    · cases x' with
      | dead => trivial
      | _ => exact absurd rfl hl'
  · rcases hg s1 x1 h1 l1 with ⟨rfl, rfl⟩ | ⟨e1, e2, hx1⟩ <;> rcases hg s2 x2 h2 l2 with ⟨rfl, rfl⟩ | ⟨e3, e4, hx2⟩
    · rfl
    · rw [rset_same] at r1
      rw [rset_other ρ _ e3] at r2
      simp only [Option.some.injEq] at r1
      subst r1
      exact absurd (e.symm.trans hl) (hne s2 x2 e4 hx2 l2 k2 r2)
    · rw [rset_same] at r2
      rw [rset_other ρ _ e1] at r1
      simp only [Option.some.injEq] at r2
      subst r2
      exact absurd (e.trans hl) (hne s1 x1 e2 hx1 l1 k1 r1)
    · rw [rset_other ρ _ e1] at r1
      rw [rset_other ρ _ e3] at r2
      exact h.inj s1 s2 x1 x2 k1 k2 hx1 l1 hx2 l2 r1 r2 e
  · have hs'' : st.c ≤ s' := hs'
    rw [rset_other ρ _ (by omega)]
    exact h.new s' hs''
  · obtain ⟨s', x', k, hx', hl', hb', hk, rfl⟩ := hb
    rcases hg s' x' hx' hl' with ⟨rfl, rfl⟩ | ⟨e1, e2, hx⟩
    · rw [rset_same] at hk
      simp only [Option.some.injEq] at hk
      subst hk
      rw [hl]
      exact h.own _ ⟨s, x, l, hs, hlive, hbar, hr, rfl⟩
    · rw [rset_other ρ _ e1] at hk
      exact h.own _ ⟨s', x', k, hx, hl', hb', hk, rfl⟩
  · have : b ≠ l.blk := fun e => by
      subst e
      rcases h.own l.blk ⟨s, x, l, hs, hlive, hbar, hr, rfl⟩ with h1 | h1
      · exact hno h1
      · omega
    rw [ht.other b this]
    exact h.frame b hb hno

/-- A block is given up: another one stands for what it held. -/
theorem Inv.kill [Inhabited Val] {B : Base} {ρ : Rho} {im : Im} {st : St} {w : World} (h : Inv B ρ im st w) (s : Nat) : Inv B ρ im { st with h := hput st.h s .dead } w := by
  have hg : ∀ s' x', hget (hput st.h s .dead) s' = some x' → x'.live = true → hget st.h s' = some x' := fun s' x' hx hl' => by
    rw [hget_hput] at hx
    split at hx
    · simp only [Option.some.injEq] at hx; subst hx; cases hl'
    · exact hx
  refine ⟨h.rho, h.imx, h.imo, h.imw, fun s' x' hx' => ?_, fun s1 s2 x1 x2 k1 k2 h1 l1 h2 l2 r1 r2 e => h.inj s1 s2 x1 x2 k1 k2 (hg _ _ h1 l1) l1 (hg _ _ h2 l2) l2 r1 r2 e, h.new, h.cle, h.bar, h.os, h.tape, h.output, h.size,
    fun b ⟨s', x', k, hx', hl', hb', hk, e⟩ => h.own b ⟨s', x', k, hg _ _ hx' hl', hl', hb', hk, e⟩, h.frame⟩
  cases x' with
  | dead => trivial
  | _ => exact h.obj s' _ (hg s' _ hx' rfl)

end Go.Ab
