/- What the program's functions answer, as plain Lean functions. -/
import Derived.Test.YtnmlmmakheckpaaGreatDoorAb10
import Derived.Lib.Bytealg
import Derived.Test.YtnmlmmakheckpaaGreatDoorAb09
namespace Go.Ab
open Go

def okByte (c : UInt8) : Bool := (97 ≤ c && c ≤ 122) || (65 ≤ c && c ≤ 90) || (48 ≤ c && c ≤ 57) || c == 45 || c == 95 || c == 46 || c == 40 || c == 41 || c == 32
/-- A name. -/
def isName (s : Str) : Bool := s != [] && decide (s.length ≤ 20) && s != [46] && s != [46, 46] && s.head? != some 32 && s.getLast? != some 32 && s.all okByte
/-- A path's names. -/
def names : Str → List Str
  | [] => [[]]
  | c :: r => if c = 47 then [] :: names r else match names r with
    | [] => [[c]]
    | n :: ns => (c :: n) :: ns
/-- Too many names, or bytes. -/
def great (p : Str) : Bool := decide (6 ≤ p.count 47) || decide (80 < p.length)
def checkPath (p : Str) : Int := if !(names p).all isName then 1 else if great p then 2 else 0
def checkPaths : List Str → Int
  | [] => 0
  | p :: r => if checkPath p ≠ 0 then checkPath p else checkPaths r

def strOf : List AV → Option Str
  | [.str s] => some s
  | _ => none
/-- path.check. -/
def checkF : Heap → Nat → Nat → List AV → Option (AV × List (Nat × AObj)) := pureF fun
  | [.rows _ l] => (l.mapM strOf).bind fun ss => if decide (ss.length ≤ 1099511627776) && ss.all (fun s => decide (s.length ≤ 1099511627776)) then some (.int .i64 (checkPaths ss)) else none
  | _ => none
theorem strOf_map (l : List Str) : (l.map sCells).mapM strOf = some l := by
  induction l with
  | nil => rfl
  | cons s l ih => rw [List.map_cons, List.mapM_cons, ih]; rfl
def idxF : Heap → Nat → Nat → List AV → Option (AV × List (Nat × AObj))
  | _, _, _, [.str s, .int .u8 c] => some (.int .i64 (Lib.indexByte s c.toNat.toUInt8), [])
  | _, _, _, _ => none
def cntF : Heap → Nat → Nat → List AV → Option (AV × List (Nat × AObj))
  | _, _, _, [.str s, .str [c]] => some (.int .i64 (Lib.countByte s c : Nat), [])
  | _, _, _, _ => none

theorem fnBy_of {P : Program} {g : Nat} {fn : Func} (h : P.funcs[g]? = some fn) (hb : fn.body.isSome = true) : fnBy P g = some fn := by
  unfold fnBy; rw [h]; simp [hb]

/-- The last place of a byte; -1: there is none. -/
def lastIdx (l : Str) (c : UInt8) : Int := l.zipIdx.foldl (fun acc p => if p.1 = c then (p.2 : Int) else acc) (-1)
theorem lastIdx_snoc (l : Str) (b c : UInt8) : lastIdx (l ++ [b]) c = if b = c then (l.length : Int) else lastIdx l c := by
  unfold lastIdx
  rw [List.zipIdx_append, List.foldl_append]
  simp
theorem snoc_ind {α : Type} {P : List α → Prop} (h0 : P []) (hs : ∀ l b, P l → P (l ++ [b])) (l : List α) : P l := by
  have : ∀ m : List α, P m.reverse := fun m => by
    induction m with
    | nil => exact h0
    | cons a m ih => rw [List.reverse_cons]; exact hs _ _ ih
  simpa using this l.reverse
theorem lastIdx_range (l : Str) (c : UInt8) : -1 ≤ lastIdx l c ∧ lastIdx l c < l.length := by
  induction l using snoc_ind with
  | h0 => simp [lastIdx]
  | hs l b ih =>
    rw [lastIdx_snoc]
    simp only [List.length_append, List.length_cons, List.length_nil]
    split <;> omega

def parentOf (p : Str) : Str := p.take (lastIdx p 47).toNat
def lastOf (p : Str) : Str := p.drop (lastIdx p 47 + 1).toNat
def isPre (p s : Str) : Bool := s.take p.length == p
def within (p q : Str) : Bool := p == q || isPre (q ++ [47]) p
def joined (p q : Str) : Str := if p = [] then q else p ++ [47] ++ q
/-- path.Moved. -/
def moved (p q r : Str) : Str × Int :=
  if checkPaths [p, q, r] ≠ 0 then ([], checkPaths [p, q, r]) else if !within p q then ([], 5) else if great (r ++ p.drop q.length) then ([], 2) else (r ++ p.drop q.length, 0)

theorem within_len {p q : Str} (h : within p q = true) : q.length ≤ p.length := by
  unfold within isPre at h
  simp only [Bool.or_eq_true, beq_iff_eq] at h
  rcases h with h | h
  · rw [h]; exact Nat.le_refl _
  · have := congrArg List.length h
    simp only [List.length_take, List.length_append, List.length_cons, List.length_nil] at this
    omega

theorem byte_all {P : UInt8 → Prop} (h : ∀ n : Fin 256, P (UInt8.ofNat n.1)) (c : UInt8) : P c := by
  have := h ⟨c.toNat, c.toNat_lt⟩
  rwa [UInt8.ofNat_toNat] at this
theorem okByte_eq : ∀ c : UInt8, okByte c = (decide ((97 : Int) ≤ c.toNat) && decide ((c.toNat : Int) ≤ 122) || (decide ((65 : Int) ≤ c.toNat) && decide ((c.toNat : Int) ≤ 90)) || (decide ((48 : Int) ≤ c.toNat) && decide ((c.toNat : Int) ≤ 57)) || decide (0 ≤ Lib.indexByte [45, 95, 46, 40, 41, 32] c)) :=
  byte_all (by decide +kernel)

/-- cmp.Compare of texts. -/
def cmpS (a b : Str) : Int := if Op.bytesLess a b then -1 else if a = b then 0 else 1
/-- slices.BinarySearchFunc. -/
def bsI {α : Type} (c : α → Int) (l : List α) : Nat := (l.takeWhile fun x => decide (c x < 0)).length
def bsF {α : Type} (c : α → Int) (l : List α) : Bool := match l[bsI c l]? with
  | some x => c x == 0
  | none => false
theorem bsI_eq {α : Type} {c : α → Int} : ∀ {l : List α} {i : Nat}, i ≤ l.length → (∀ q x, q < i → l[q]? = some x → c x < 0) → (∀ x, l[i]? = some x → ¬ c x < 0) → bsI c l = i
  | [], i, hi, _, _ => by simp at hi; subst hi; rfl
  | a :: l, 0, _, _, h2 => by
    have := h2 a (by simp)
    simp [bsI, List.takeWhile_cons, this]
  | a :: l, i + 1, hi, h1, h2 => by
    have h0 := h1 0 a (by omega) (by simp)
    have ih := bsI_eq (c := c) (l := l) (i := i) (by simpa using hi) (fun q x hq hx => h1 (q + 1) x (by omega) (by simpa using hx)) (fun x hx => h2 x (by simpa using hx))
    unfold bsI at ih ⊢
    rw [List.takeWhile_cons]
    simp [h0, ih]
theorem bsI_le {α : Type} (c : α → Int) (l : List α) : bsI c l ≤ l.length := by
  unfold bsI
  induction l with
  | nil => simp
  | cons a l ih => rw [List.takeWhile_cons]; split <;> simp <;> omega
/-- What comes ahead of what is less is less. -/
def Mono {α : Type} (c : α → Int) (l : List α) : Prop := ∀ (i j : Nat) (x y : α), i < j → l[i]? = some x → l[j]? = some y → c y < 0 → c x < 0

def bsFind {α : Type} (c : α → Int) (l : List α) : Option α := match l[bsI c l]? with
  | some x => if c x = 0 then some x else none
  | none => none
def atE (p : Str) : Entry → Int := fun x => cmpS x.path p
def zeroE : Entry := ⟨[], false, [], 0⟩
/-- tree.parent. -/
def parentE (t : List Entry) (p : Str) : Entry × Bool := if parentOf p = [] then (⟨[], true, [], 0⟩, true) else match bsFind (fun x : Entry => cmpS x.path (parentOf p)) t with
  | some x => (x, true)
  | none => (zeroE, false)
theorem bsF_find {α : Type} (c : α → Int) (l : List α) : (bsF c l = true ∧ ∃ x, l[bsI c l]? = some x ∧ bsFind c l = some x) ∨ (bsF c l = false ∧ bsFind c l = none) := by
  unfold bsF bsFind
  cases h : l[bsI c l]? with
  | none => right; exact ⟨rfl, rfl⟩
  | some x =>
    simp only
    by_cases hx : c x = 0
    · left; simp [hx]
    · right; simp [hx]
def isVersion (n : Int) : Bool := decide (1 ≤ n) && decide (n ≤ 1000000)
def checkEntry (x : Entry) : Int := if checkPath x.path ≠ 0 then checkPath x.path else if x.folder = true ∧ x.text ≠ [] then 1 else if 300 < x.text.length then 2 else if isVersion x.version = false then 3 else 0
/-- The first that is not 0. -/
def firstErr {α : Type} (f : α → Int) : List α → Int
  | [] => 0
  | x :: r => if f x ≠ 0 then f x else firstErr f r
theorem firstErr_append {α : Type} (f : α → Int) (l r : List α) : firstErr f (l ++ r) = if firstErr f l ≠ 0 then firstErr f l else firstErr f r := by
  induction l with
  | nil => simp [firstErr]
  | cons x l ih =>
    simp only [List.cons_append, firstErr]
    split
    · rename_i h; simp [h]
    · exact ih
theorem firstErr_all {α : Type} {f : α → Int} : ∀ {l : List α}, firstErr f l = 0 → ∀ x ∈ l, f x = 0
  | [], _, _, hx => by simp at hx
  | a :: l, h, x, hx => by
    simp only [firstErr] at h
    split at h
    · rename_i q; exact absurd h q
    · rename_i q
      rcases List.mem_cons.1 hx with rfl | hx
      · exact Classical.not_not.1 q
      · exact firstErr_all h x hx
def leS (a b : Str) : Bool := Op.bytesLess a b || a == b
/-- Is none at most the one ahead of it? -/
def ascBy {α : Type} (le : α → α → Bool) (l : List α) : Bool := (l.zip l.tail).all fun q => !le q.2 q.1
def lePath (x y : Entry) : Bool := leS x.path y.path
theorem zip_tail_get {α : Type} {l : List α} {i : Nat} {q : α × α} (h : (l.zip l.tail)[i]? = some q) : l[i]? = some q.1 ∧ l[i + 1]? = some q.2 := by
  rw [List.getElem?_zip_eq_some] at h
  exact ⟨h.1, by have := h.2; rwa [List.getElem?_tail] at this⟩
theorem zip_tail_len {α : Type} (l : List α) : (l.zip l.tail).length = l.length - 1 := by
  rw [List.length_zip, List.length_tail]; omega

theorem bytesLess_lt : ∀ (x y : Str), Op.bytesLess x y = decide (x < y)
  | [], [] => by simp [Op.bytesLess]
  | _ :: _, [] => by simp [Op.bytesLess]
  | [], _ :: _ => by simp [Op.bytesLess]
  | a :: x, b :: y => by
    rw [Op.bytesLess, bytesLess_lt x y, Bool.eq_iff_iff]
    simp [List.cons_lt_cons_iff]
theorem leS_iff (a b : Str) : leS a b = true ↔ ¬ b < a := by
  unfold leS
  rw [bytesLess_lt]
  simp only [Bool.or_eq_true, decide_eq_true_eq, beq_iff_eq]
  constructor
  · rintro (h | h) h2
    · exact List.lt_asymm h h2
    · subst h; exact List.lt_irrefl _ h2
  · intro h
    rcases Classical.em (a < b) with h1 | h1
    · exact .inl h1
    · exact .inr (List.le_antisymm (List.not_lt.1 h) (List.not_lt.1 h1))

theorem asc_lt {l : List Entry} (h : ascBy lePath l = true) : ∀ (i d : Nat) (x y : Entry), l[i]? = some x → l[i + d + 1]? = some y → x.path < y.path := by
  intro i d
  induction d with
  | zero =>
    intro x y hx hy
    unfold ascBy at h
    rw [List.all_eq_true] at h
    have hq : (x, y) ∈ l.zip l.tail := by
      refine List.mem_of_getElem? (i := i) ?_
      rw [List.getElem?_zip_eq_some]
      exact ⟨hx, by rw [List.getElem?_tail]; simpa using hy⟩
    have := h (x, y) hq
    simp only [lePath, Bool.not_eq_true'] at this
    have h3 : ¬ leS y.path x.path = true := by rw [this]; simp
    rw [leS_iff] at h3
    exact Classical.not_not.1 h3
  | succ d ih =>
    intro x y hx hy
    have hlt : i + d + 1 < l.length := by have := (List.getElem?_eq_some_iff.1 hy).1; omega
    have hz : l[i + d + 1]? = some l[i + d + 1] := by simp [hlt]
    have h1 := ih x _ hx hz
    have h2 : l[i + d + 1].path < y.path := by
      unfold ascBy at h
      rw [List.all_eq_true] at h
      have hq : (l[i + d + 1], y) ∈ l.zip l.tail := by
        refine List.mem_of_getElem? (i := i + d + 1) ?_
        rw [List.getElem?_zip_eq_some]
        exact ⟨hz, by rw [List.getElem?_tail]; exact hy⟩
      have := h (l[i + d + 1], y) hq
      simp only [lePath, Bool.not_eq_true'] at this
      have h3 : ¬ leS y.path l[i + d + 1].path = true := by rw [this]; simp
      rw [leS_iff] at h3
      exact Classical.not_not.1 h3
    exact List.lt_trans h1 h2

theorem cmpS_neg (a b : Str) : cmpS a b < 0 ↔ a < b := by
  unfold cmpS
  rw [bytesLess_lt]
  by_cases h : a < b
  · simp [h]
  · simp only [h, decide_false, Bool.false_eq_true, if_false, iff_false]
    split <;> omega

theorem asc_mono {l : List Entry} (h : ascBy lePath l = true) (p : Str) : Mono (fun x : Entry => cmpS x.path p) l := by
  intro i j x y hij hx hy hlt
  simp only [cmpS_neg] at hlt ⊢
  obtain ⟨d, rfl⟩ : ∃ d, j = i + d + 1 := ⟨j - i - 1, by omega⟩
  exact List.lt_trans (asc_lt h i d x y hx hy) hlt

/-- tree.checkTree. -/
def checkTree (t : List Entry) : Int :=
  if 60 < t.length then 2 else if firstErr checkEntry t ≠ 0 then firstErr checkEntry t else if ascBy lePath t = false then 4
  else if t.any (fun x => !(parentE t x.path).2) then 5 else if t.any (fun x => !(parentE t x.path).1.folder) then 4 else 0

theorem beqD {α : Type} [BEq α] [LawfulBEq α] [DecidableEq α] (a b : α) : (a == b) = decide (a = b) := by
  by_cases h : a = b <;> simp [h]
theorem bneD {α : Type} [BEq α] [LawfulBEq α] [DecidableEq α] (a b : α) : (a != b) = !decide (a = b) := by rw [bne, beqD]
def formRest (c : Change) : Int :=
  if ¬ c.kind = 3 ∧ ¬ c.to = [] then 1 else if ¬ c.kind = 2 ∧ ¬ c.text = [] then 1 else if (300 : Int) < c.text.length then 2 else if c.base < -1 then 3 else if 1000000 < c.base then 3 else 0
/-- tree.form. -/
def changeForm (c : Change) : Int :=
  if c.kind < 1 then 7 else if 4 < c.kind then 7 else if ¬ checkPath c.path = 0 then checkPath c.path else if c.kind = 3 then (if ¬ checkPath c.to = 0 then checkPath c.to else formRest c) else formRest c

/-- upload.session. -/
def checkSess (next : Int) (s : Session) : Int :=
  if ¬ (1 ≤ s.number ∧ s.number ≤ next - 1) then 3 else if ¬ (0 ≤ s.size ∧ s.size ≤ 300) then 3 else if ¬ (0 ≤ s.till ∧ s.till ≤ 2199023255552) then 3
  else if isName s.who = false then 1 else if s.size < (s.text.length : Int) then 2 else 0
/-- How much somebody has open. -/
def openOf (who : Str) : List Session → Int
  | [] => 0
  | s :: r => (if s.who = who then s.size else 0) + openOf who r
theorem openOf_append (who : Str) (l r : List Session) : openOf who (l ++ r) = openOf who l + openOf who r := by
  induction l with
  | nil => simp [openOf]
  | cons s l ih => simp only [List.cons_append, openOf, ih]; omega
theorem openOf_bd (who : Str) (l : List Session) (h : ∀ s ∈ l, 0 ≤ s.size ∧ s.size ≤ 300) : 0 ≤ openOf who l ∧ openOf who l ≤ 300 * l.length := by
  induction l with
  | nil => simp [openOf]
  | cons s l ih =>
    have h1 := h s (by simp)
    have h2 := ih fun s hs => h s (by simp [hs])
    simp only [openOf, List.length_cons]
    split <;> omega
def leNum (x y : Session) : Bool := decide (x.number ≤ y.number)
/-- upload.Check. -/
def checkUploads (u : Uploads) : Int :=
  if ¬ (1 ≤ u.lasts ∧ u.lasts ≤ 1000000) then 3 else if ¬ (0 ≤ u.room ∧ u.room ≤ 100000) then 3 else if ¬ (1 ≤ u.next ∧ u.next ≤ 1099511627776) then 3
  else if 20 < u.sessions.length then 2 else if firstErr (checkSess u.next) u.sessions ≠ 0 then firstErr (checkSess u.next) u.sessions
  else if ascBy leNum u.sessions = false then 4 else if u.sessions.any (fun s => decide (u.room < openOf s.who u.sessions)) then 10 else 0

/-- slices.IndexFunc. -/
def idxF' {α : Type} (p : α → Bool) (l : List α) : Int := match l.findIdx? p with
  | some i => (i : Int)
  | none => -1
theorem idxF_none {α : Type} {p : α → Bool} {l : List α} (h : l.any p = false) : idxF' p l = -1 := by
  unfold idxF'
  rw [List.findIdx?_eq_none_iff.2 fun x hx => by rw [List.any_eq_false] at h; simpa using h x hx]
theorem idxF_some {α : Type} {p : α → Bool} {l : List α} {k : Nat} {x : α} (h : (l.take k).any p = false) (hx : l[k]? = some x) (hp : p x = true) : idxF' p l = (k : Int) := by
  unfold idxF'
  have hk := (List.getElem?_eq_some_iff.1 hx).1
  have : l.findIdx? p = some k := by
    rw [List.findIdx?_eq_some_iff_getElem]
    refine ⟨hk, ?_, fun j hj => ?_⟩
    · have := (List.getElem?_eq_some_iff.1 hx).2; rw [this]; exact hp
    · rw [List.any_eq_false] at h
      have := h (l[j]'(by omega)) (by rw [List.mem_take_iff_getElem]; exact ⟨j, by omega, rfl⟩)
      simpa using this
  rw [this]
theorem idxF_nn {α : Type} (p : α → Bool) (l : List α) : (0 ≤ idxF' p l) ↔ l.any p = true := by
  unfold idxF'
  cases h : l.findIdx? p with
  | none =>
    rw [List.findIdx?_eq_none_iff] at h
    simp only [List.any_eq_true]
    constructor
    · intro q; omega
    · rintro ⟨x, hx, hp⟩; rw [h x hx] at hp; cases hp
  | some i =>
    rw [List.findIdx?_eq_some_iff_getElem] at h
    obtain ⟨h1, h2, _⟩ := h
    simp only [List.any_eq_true]
    exact ⟨fun _ => ⟨_, List.getElem_mem h1, h2⟩, fun _ => by omega⟩
def orderG (a b : Grant) : Int := if cmpS a.folder b.folder ≠ 0 then cmpS a.folder b.folder else cmpS a.who b.who

/-- Sets of texts, in the order in which they came. -/
def setAdd (l : List Str) (k : Str) : List Str := if k ∈ l then l else l ++ [k]
def setOf (l : List Str) : List Str := l.foldl setAdd []
def setE (l : List Str) : List (AV × AV) := l.map fun s => (.str s, .bool true)
theorem setOf_snoc (l : List Str) (k : Str) : setOf (l ++ [k]) = setAdd (setOf l) k := by simp [setOf, List.foldl_append]
theorem findA_set (k : Str) : ∀ (l : List Str) (i : Nat), (k ∉ l → findA (.str k) (setE l) i = some none) ∧ (k ∈ l → ∃ j, findA (.str k) (setE l) i = some (some (i + j, .bool true)) ∧ l[j]? = some k)
  | [], i => ⟨fun _ => rfl, fun h => by simp at h⟩
  | a :: l, i => by
    obtain ⟨h1, h2⟩ := findA_set k l (i + 1)
    by_cases h : k = a
    · subst h
      exact ⟨fun q => absurd (by simp) q, fun _ => ⟨0, by simp [setE, findA, eqOne], by simp⟩⟩
    · have e : (k == a) = false := by simpa using h
      refine ⟨fun q => ?_, fun q => ?_⟩
      · have := h1 (by simpa [h] using q)
        simpa [setE, findA, eqOne, e] using this
      · obtain ⟨j, h3, h4⟩ := h2 (by simpa [h] using q)
        refine ⟨j + 1, ?_, by simpa using h4⟩
        have : i + (j + 1) = i + 1 + j := by omega
        rw [this]
        simpa [setE, findA, eqOne, e] using h3
theorem mapSet_set (l : List Str) (k : Str) : mapSet (setE l) (.str k) (.bool true) = some (setE (setAdd l k)) := by
  obtain ⟨h1, h2⟩ := findA_set k l 0
  unfold mapSet setAdd
  by_cases h : k ∈ l
  · obtain ⟨j, h3, h4⟩ := h2 h
    rw [h3, if_pos h]
    simp only [Nat.zero_add, Option.some.injEq]
    apply List.ext_getElem?
    intro n
    rw [List.getElem?_modify]
    by_cases e : j = n
    · subst e
      simp [setE, h4]
    · simp [e]
  · rw [h1 h, if_neg h]
    simp [setE]
theorem setE_len (l : List Str) : (setE l).length = l.length := by simp [setE]

def checkG (g : Grant) : Int := if [g.folder, g.who].all isName = false then 1 else if g.right < 1 then 3 else if 3 < g.right then 3 else 0
def leG (x y : Grant) : Bool := decide (0 ≤ orderG y x)
def ownedB (l : List Grant) : Bool := decide ((setOf ((l.filter fun g => decide (g.right = 3)).map Grant.folder)).length = (setOf (l.map Grant.folder)).length)
/-- grant.Check. -/
def checkGrants (l : List Grant) : Int :=
  if 60 < l.length then 2 else if firstErr checkG l ≠ 0 then firstErr checkG l else if ascBy leG l = false then 4 else if ownedB l = false then 5 else 0

/-- Texts that a call has gathered. -/
def OwnT (h : Heap) (c : Nat) (v : AV) (l : List Str) : Prop :=
  (l = [] ∧ v = .rows true []) ∨ (l ≠ [] ∧ ∃ s, v = .osl 1 s 0 l.length l.length ∧ s < c ∧ hget h s = some (.cells (l.map AV.str)))
theorem chunks_map (l : List Str) : chunks 1 l.length (l.map AV.str) = l.map sCells := by
  induction l with
  | nil => rfl
  | cons a l ih => simp [chunks, ih, sCells]
theorem fin_strs (h : Heap) (c0 n : Nat) (inn : Bool) : ∀ l : List Str, (l.map sCells).mapM (fun r => r.mapM (fin h c0 inn (n + 1))) = some (l.map sCells)
  | [] => rfl
  | a :: l => by
    rw [List.map_cons, List.mapM_cons, fin_strs h c0 n inn l]
    simp [sCells, List.mapM_cons, fin]
theorem fin_ownT {h : Heap} {c : Nat} {v : AV} {l : List Str} (ho : OwnT h c v l) : fin h 0 false 8 v = some (.rows false (l.map sCells)) := by
  rcases ho with ⟨rfl, rfl⟩ | ⟨_, s, rfl, _, hg⟩
  · rfl
  · have hc : chunks 1 l.length (List.drop 0 (l.map AV.str)) = l.map sCells := by rw [List.drop_zero]; exact chunks_map l
    simp only [fin, Nat.not_lt_zero, if_false, hg, Nat.mul_one, Nat.zero_add, List.length_map, Nat.le_refl, if_true]
    rw [hc]
    have := fin_strs h 0 6 true l
    rw [this]
theorem OwnT.put {h : Heap} {c : Nat} {v : AV} {l : List Str} (ho : OwnT h c v l) {s : Nat} {o : AObj} (hs : c ≤ s) {c' : Nat} (hc : c ≤ c') : OwnT (hput h s o) c' v l := by
  rcases ho with ⟨h1, h2⟩ | ⟨h0, s', h1, h2, h3⟩
  · exact .inl ⟨h1, h2⟩
  · exact .inr ⟨h0, s', h1, by omega, by rw [hget_hput, if_neg (by omega)]; exact h3⟩

theorem OwnT.up {h : Heap} {c : Nat} {v : AV} {l : List Str} (ho : OwnT h c v l) {c' : Nat} (hc : c ≤ c') : OwnT h c' v l := by
  rcases ho with h1 | ⟨h0, s', h1, h2, h3⟩
  · exact .inl h1
  · exact .inr ⟨h0, s', h1, by omega, h3⟩
theorem names_ne (p : Str) : names p ≠ [] := by
  cases p with
  | nil => simp [names]
  | cons c r =>
    simp only [names]
    split
    · simp
    · split <;> simp
/-- Names, as far as a sign goes; and what is behind the last one. -/
theorem names_snoc_sep (p : Str) : names (p ++ [47]) = names p ++ [[]] := by
  induction p with
  | nil => rfl
  | cons c r ih =>
    simp only [List.cons_append, names, ih]
    split
    · simp
    · cases h : names r with
      | nil => exact absurd h (names_ne r)
      | cons n ns => simp
theorem names_snoc (p : Str) (c : UInt8) (hc : c ≠ 47) : ∃ ns n, names p = ns ++ [n] ∧ names (p ++ [c]) = ns ++ [n ++ [c]] := by
  induction p with
  | nil => exact ⟨[], [], rfl, by simp [names, hc]⟩
  | cons d r ih =>
    obtain ⟨ns, n, h1, h2⟩ := ih
    simp only [List.cons_append, names, h1, h2]
    split
    · exact ⟨[] :: ns, n, by simp, by simp⟩
    · cases ns with
      | nil => exact ⟨[], d :: n, by simp, by simp⟩
      | cons m ms => exact ⟨(d :: m) :: ms, n, by simp, by simp⟩

theorem names_len (p : Str) : (names p).length = p.count 47 + 1 := by
  induction p with
  | nil => rfl
  | cons c r ih =>
    simp only [names]
    by_cases h : c = 47
    · subst h; rw [if_pos rfl]; simp [ih]
    · rw [if_neg h]
      cases hn : names r with
      | nil => exact absurd hn (names_ne r)
      | cons n ns =>
        rw [hn] at ih
        simp only [List.length_cons] at ih ⊢
        rw [List.count_cons_of_ne (by simpa using h)]; exact ih
theorem great_eq (p : Str) : great p = (decide (6 < (names p).length) || decide (80 < p.length)) := by
  unfold great
  rw [names_len]
  congr 1
  exact decide_eq_decide.2 (by omega)
/-- Names, with signs between them. -/
def pathOf : List Str → Str
  | [] => []
  | [n] => n
  | n :: ns => n ++ 47 :: pathOf ns
theorem pathOf_cons (n : Str) {l : List Str} (h : l ≠ []) : pathOf (n :: l) = n ++ 47 :: pathOf l := by
  cases l with
  | nil => exact absurd rfl h
  | cons a l => rfl
theorem pathOf_snoc : ∀ (l : List Str) (n : Str), pathOf (l ++ [n]) = if l = [] then n else pathOf l ++ 47 :: n
  | [], n => rfl
  | [a], n => by simp [pathOf]
  | a :: b :: l, n => by
    rw [List.cons_append, pathOf_cons a (by simp), pathOf_snoc (b :: l) n, if_neg (by simp), if_neg (by simp), pathOf_cons a (by simp)]
    simp
theorem pathOf_names (p : Str) : pathOf (names p) = p := by
  induction p with
  | nil => rfl
  | cons c r ih =>
    simp only [names]
    split
    · rename_i h; rw [pathOf_cons _ (names_ne r), ih, h]; rfl
    · cases hn : names r with
      | nil => exact absurd hn (names_ne r)
      | cons n ns =>
        rw [hn] at ih
        cases ns with
        | nil => simpa [pathOf] using ih
        | cons m ms => rw [pathOf_cons _ (by simp)] at ih ⊢; simp [← ih]
theorem parent_names (p : Str) : parentOf p = pathOf (names p).dropLast := by
  induction p using snoc_ind with
  | h0 => rfl
  | hs l c ih =>
    unfold parentOf
    rw [lastIdx_snoc]
    by_cases hc : c = 47
    · subst hc
      rw [if_pos rfl, names_snoc_sep, List.dropLast_concat, pathOf_names]
      simp
    · rw [if_neg hc]
      obtain ⟨ns, n, h1, h2⟩ := names_snoc l c hc
      rw [h2, List.dropLast_concat]
      have h3 : parentOf l = pathOf ns := by rw [ih, h1, List.dropLast_concat]
      unfold parentOf at h3
      have hr := lastIdx_range l 47
      rw [List.take_append_of_le_length (by omega), h3]
theorem pathOf_take (l : List Str) (k : Nat) : (pathOf (l.take k)).length ≤ (pathOf l).length := by
  induction l generalizing k with
  | nil => simp
  | cons a l ih =>
    cases k with
    | zero => simp [pathOf]
    | succ k =>
      rw [List.take_succ_cons]
      cases hl : l.take k with
      | nil =>
        cases l with
        | nil => simp
        | cons b l => rw [show pathOf [a] = a from rfl, pathOf_cons a (l := b :: l) (by simp)]; simp
      | cons b m =>
        have hne : l ≠ [] := fun e => by subst e; simp at hl
        have := ih k
        rw [hl] at this
        rw [pathOf_cons a (by simp), pathOf_cons a hne]
        simp; omega
end Go.Ab
/- The lemmas that every run of the plain interpreter names, in two bundles. -/
namespace Go.Ab
open Go
theorem bD :
    type_of% @X_skip ∧
    type_of% @X_exit ∧
    type_of% @X_ret ∧
    type_of% @X_seq ∧
    type_of% @X_cond ∧
    type_of% @X_block ∧
    type_of% @X_region ∧
    type_of% @kseq_normal ∧
    type_of% @kseq_ret ∧
    type_of% @kseq_exit ∧
    type_of% @kblock_normal ∧
    type_of% @kblock_ret ∧
    type_of% @kblock_exit ∧
    type_of% @O_guard ∧
    type_of% @O_move ∧
    type_of% @O_assign ∧
    type_of% @O_pick ∧
    type_of% @O_binOp ∧
    type_of% @O_unOp ∧
    type_of% @O_convert ∧
    type_of% @O_slice ∧
    type_of% @O_alloc ∧
    type_of% @O_box ∧
    type_of% @O_load ∧
    type_of% @O_store ∧
    type_of% @O_nilCheck ∧
    type_of% @O_fieldAddr ∧
    type_of% @O_field ∧
    type_of% @O_indexAddr ∧
    type_of% @O_index ∧
    type_of% @O_extract ∧
    type_of% @O_build ∧
    type_of% @O_makeFunc ∧
    type_of% @O_makeMap ∧
    type_of% @O_len ∧
    type_of% @O_min ∧
    type_of% @O_max ∧
    type_of% @O_call ∧
    type_of% @O_append ∧
    type_of% @O_buildSlice ∧
    type_of% @P_some ∧
    type_of% @P_none ∧
    type_of% @end_normal ∧
    type_of% @end_ret ∧
    type_of% @X_draw ∧
    type_of% @O_mapUpdate :=
  ⟨@X_skip, @X_exit, @X_ret, @X_seq, @X_cond, @X_block, @X_region, @kseq_normal, @kseq_ret, @kseq_exit, @kblock_normal, @kblock_ret, @kblock_exit, @O_guard, @O_move, @O_assign, @O_pick, @O_binOp, @O_unOp, @O_convert, @O_slice, @O_alloc, @O_box, @O_load, @O_store, @O_nilCheck, @O_fieldAddr, @O_field, @O_indexAddr, @O_index, @O_extract, @O_build, @O_makeFunc, @O_makeMap, @O_len, @O_min, @O_max, @O_call, @O_append, @O_buildSlice, @P_some, @P_none, @end_normal, @end_ret, @X_draw, @O_mapUpdate⟩
theorem bL :
    type_of% @Co_true ∧
    type_of% @Co_false ∧
    type_of% @Co_bool ∧
    type_of% @List.toList_toArray.{0} ∧
    type_of% @List.map_cons.{0, 0} ∧
    type_of% @List.map_nil.{0, 0} ∧
    type_of% @List.getD_cons_zero.{0} ∧
    type_of% @List.getD_cons_succ.{0} ∧
    type_of% @List.getD_nil.{0} ∧
    type_of% @Os_cons ∧
    type_of% @Os_nil ∧
    type_of% @List.size_toArray.{0} ∧
    type_of% @List.length_cons.{0} ∧
    type_of% @List.length_nil.{0} ∧
    type_of% @S_some ∧
    type_of% @Fu_func ∧
    type_of% @Ce_some ∧
    type_of% @Ld_ptr ∧
    type_of% @Ld_iptr ∧
    type_of% @Sto_ptr ∧
    type_of% @Gu_bool ∧
    type_of% @Gu_undef ∧
    type_of% @pickA_true ∧
    type_of% @pickA_false ∧
    type_of% @pickA_bools ∧
    type_of% @ptrA_ptr ∧
    type_of% @ptrA_iptr ∧
    type_of% @tupA_tuple ∧
    type_of% @minA_int ∧
    type_of% @maxA_int ∧
    type_of% @tupOf_0 ∧
    type_of% @tupOf_1 ∧
    type_of% @tupOf_2 ∧
    type_of% @List.cons_append.{0} ∧
    type_of% @List.nil_append.{0} ∧
    type_of% @Option.or_some.{0} ∧
    type_of% @Option.map_some.{0, 0} ∧
    type_of% @Option.map_none.{0, 0} ∧
    type_of% @Option.bind_some.{0, 0} ∧
    type_of% @hget_hput ∧
    type_of% @List.getElem?_cons_zero.{0} ∧
    type_of% @List.getElem?_cons_succ.{0} ∧
    type_of% @true_and ∧
    type_of% @and_true ∧
    type_of% @false_and ∧
    type_of% @and_false ∧
    type_of% @or_false ∧
    type_of% @false_or ∧
    type_of% @or_true ∧
    type_of% @true_or ∧
    type_of% @ne_eq.{1} ∧
    type_of% @not_true_eq_false ∧
    type_of% @not_false_eq_true ∧
    type_of% @decide_true ∧
    type_of% @decide_false ∧
    type_of% @Bool.and_true ∧
    type_of% @Bool.true_and ∧
    type_of% @Bool.and_false ∧
    type_of% @Bool.false_and ∧
    type_of% @Bool.or_false ∧
    type_of% @Bool.false_or ∧
    type_of% @Bool.not_true ∧
    type_of% @Bool.not_false ∧
    type_of% @Bool.or_true ∧
    type_of% @Bool.true_or ∧
    type_of% @Nat.le_refl ∧
    type_of% @Nat.zero_le ∧
    type_of% @Nat.add_zero ∧
    type_of% @Nat.zero_add ∧
    type_of% @Bool.false_eq_true ∧
    type_of% @Bool.true_eq_false ∧
    type_of% @eq_self.{1} ∧
    type_of% @Nat.lt_irrefl ∧
    type_of% @Nat.zero_lt_succ ∧
    type_of% @Nat.one_ne_zero ∧
    type_of% @List.drop_zero.{0} ∧
    type_of% @List.drop_succ_cons.{0} ∧
    type_of% @List.take_succ_cons.{0} ∧
    type_of% @List.take_zero.{0} ∧
    type_of% @Nat.lt_add_one ∧
    type_of% @List.all_cons.{0} ∧
    type_of% @List.all_nil.{0} ∧
    type_of% @Array.toList_empty.{0} ∧
    type_of% @beq_self_eq_true.{0} ∧
    type_of% @bne_iff_ne.{0} ∧
    type_of% @beq_iff_eq.{0} ∧
    type_of% @decide_eq_true_eq ∧
    type_of% @Bool.not_eq_true ∧
    type_of% @Bool.not_eq_eq_eq_not ∧
    type_of% @Bool.and_eq_true ∧
    type_of% @Bool.or_eq_true ∧
    type_of% @bne_self_eq_false.{0} ∧
    type_of% @Option.pure_def.{0} ∧
    type_of% @Option.bind_eq_bind.{0} ∧
    type_of% @if_true.{1} ∧
    type_of% @if_false.{1} ∧
    type_of% @Bool.and_self ∧
    type_of% @and_self ∧
    type_of% @gt_iff_lt.{0} ∧
    type_of% @ge_iff_le.{0} ∧
    type_of% @List.flatMap_cons.{0, 0} ∧
    type_of% @List.flatMap_nil.{0, 0} ∧
    type_of% @hget_only1 ∧
    type_of% @List.append_nil.{0} ∧
    type_of% @List.length_map.{0, 0} ∧
    type_of% @Int.natCast_nonneg ∧
    type_of% @Int.toNat_natCast ∧
    type_of% @List.getElem?_map.{0, 0} ∧
    type_of% @getT_setT ∧
    type_of% @Entry.cells_eq ∧
    type_of% @Change.cells_eq ∧
    type_of% @Grant.cells_eq ∧
    type_of% @Session.cells_eq ∧
    type_of% @sCells_eq ∧
    type_of% @Commit.cells_eq ∧
    type_of% @Shared.cells_eq ∧
    type_of% @Copy.cells_eq ∧
    type_of% @Entry.eta ∧
    type_of% @Change.eta ∧
    type_of% @Grant.eta ∧
    type_of% @Session.eta ∧
    type_of% @Commit.eta ∧
    type_of% @Option.isSome_none.{0} ∧
    type_of% @Option.isSome_some.{0} ∧
    type_of% @Option.isNone_none.{0} ∧
    type_of% @Option.isNone_some.{0} ∧
    type_of% @Int.zero_le_ofNat ∧
    type_of% @Od_cons ∧
    type_of% @Od_nil ∧
    type_of% @seen_flat ∧
    type_of% @List.isEmpty_cons.{0} ∧
    type_of% @List.flatten_cons.{0} ∧
    type_of% @List.flatten_nil.{0} ∧
    type_of% @List.isEmpty_nil.{0} ∧
    type_of% @Mp_map ∧
    type_of% @Mo_some ∧
    type_of% @Nat.not_lt_zero ∧
    type_of% @Nat.add_eq_left ∧
    type_of% @Nat.left_eq_add ∧
    type_of% @Nat.mul_one ∧
    type_of% @Nat.one_mul ∧
    type_of% @List.length_append.{0} :=
  ⟨@Co_true, @Co_false, @Co_bool, @List.toList_toArray.{0}, @List.map_cons.{0, 0}, @List.map_nil.{0, 0}, @List.getD_cons_zero.{0}, @List.getD_cons_succ.{0}, @List.getD_nil.{0}, @Os_cons, @Os_nil, @List.size_toArray.{0}, @List.length_cons.{0}, @List.length_nil.{0}, @S_some, @Fu_func, @Ce_some, @Ld_ptr, @Ld_iptr, @Sto_ptr, @Gu_bool, @Gu_undef, @pickA_true, @pickA_false, @pickA_bools, @ptrA_ptr, @ptrA_iptr, @tupA_tuple, @minA_int, @maxA_int, @tupOf_0, @tupOf_1, @tupOf_2, @List.cons_append.{0}, @List.nil_append.{0}, @Option.or_some.{0}, @Option.map_some.{0, 0}, @Option.map_none.{0, 0}, @Option.bind_some.{0, 0}, @hget_hput, @List.getElem?_cons_zero.{0}, @List.getElem?_cons_succ.{0}, @true_and, @and_true, @false_and, @and_false, @or_false, @false_or, @or_true, @true_or, @ne_eq.{1}, @not_true_eq_false, @not_false_eq_true, @decide_true, @decide_false, @Bool.and_true, @Bool.true_and, @Bool.and_false, @Bool.false_and, @Bool.or_false, @Bool.false_or, @Bool.not_true, @Bool.not_false, @Bool.or_true, @Bool.true_or, @Nat.le_refl, @Nat.zero_le, @Nat.add_zero, @Nat.zero_add, @Bool.false_eq_true, @Bool.true_eq_false, @eq_self.{1}, @Nat.lt_irrefl, @Nat.zero_lt_succ, @Nat.one_ne_zero, @List.drop_zero.{0}, @List.drop_succ_cons.{0}, @List.take_succ_cons.{0}, @List.take_zero.{0}, @Nat.lt_add_one, @List.all_cons.{0}, @List.all_nil.{0}, @Array.toList_empty.{0}, @beq_self_eq_true.{0}, @bne_iff_ne.{0}, @beq_iff_eq.{0}, @decide_eq_true_eq, @Bool.not_eq_true, @Bool.not_eq_eq_eq_not, @Bool.and_eq_true, @Bool.or_eq_true, @bne_self_eq_false.{0}, @Option.pure_def.{0}, @Option.bind_eq_bind.{0}, @if_true.{1}, @if_false.{1}, @Bool.and_self, @and_self, @gt_iff_lt.{0}, @ge_iff_le.{0}, @List.flatMap_cons.{0, 0}, @List.flatMap_nil.{0, 0}, @hget_only1, @List.append_nil.{0}, @List.length_map.{0, 0}, @Int.natCast_nonneg, @Int.toNat_natCast, @List.getElem?_map.{0, 0}, @getT_setT, @Entry.cells_eq, @Change.cells_eq, @Grant.cells_eq, @Session.cells_eq, @sCells_eq, @Commit.cells_eq, @Shared.cells_eq, @Copy.cells_eq, @Entry.eta, @Change.eta, @Grant.eta, @Session.eta, @Commit.eta, @Option.isSome_none.{0}, @Option.isSome_some.{0}, @Option.isNone_none.{0}, @Option.isNone_some.{0}, @Int.zero_le_ofNat, @Od_cons, @Od_nil, @seen_flat, @List.isEmpty_cons.{0}, @List.flatten_cons.{0}, @List.flatten_nil.{0}, @List.isEmpty_nil.{0}, @Mp_map, @Mo_some, @Nat.not_lt_zero, @Nat.add_eq_left, @Nat.left_eq_add, @Nat.mul_one, @Nat.one_mul, @List.length_append.{0}⟩
end Go.Ab
/- lists of structs that a call builds in blocks of its own. -/
namespace Go.Ab
open Go
/-- A list that lies in a block of the call's own; none is nil. -/
def OwnR {α : Type} (w : Nat) (f : α → List AV) (b : Nat) (h : Heap) (c : Nat) (v : AV) (l : List α) : Prop :=
  (l = [] ∧ v = .rows true []) ∨ (l ≠ [] ∧ ∃ s, v = .osl w s 0 l.length l.length ∧ b ≤ s ∧ s < c ∧ hget h s = some (.cells (l.flatMap f)))
theorem chunks_flat {α : Type} {w : Nat} {f : α → List AV} (hf : ∀ x, (f x).length = w) (l : List α) : chunks w l.length (l.flatMap f) = l.map f := by
  induction l with
  | nil => rfl
  | cons x l ih =>
    simp only [List.length_cons, List.flatMap_cons, chunks, List.map_cons]
    rw [List.take_left' (hf x), List.drop_left' (hf x), ih]
theorem mapM_id {α : Type} {g : α → Option α} : ∀ {l : List α}, (∀ x ∈ l, g x = some x) → l.mapM g = some l
  | [], _ => rfl
  | x :: l, h => by
    rw [List.mapM_cons, h x (by simp), mapM_id fun y hy => h y (by simp [hy])]; rfl
/-- Values that a call hands out as they are. -/
def FinOk {α : Type} (f : α → List AV) : Prop := ∀ x, ∀ c ∈ f x, ∀ h c0 inn n, fin h c0 inn (n + 1) c = some c
theorem flat_len {α : Type} {w : Nat} {f : α → List AV} (hf : ∀ x, (f x).length = w) (l : List α) : (l.flatMap f).length = l.length * w := by
  induction l with
  | nil => simp
  | cons x l ih => rw [List.flatMap_cons, List.length_append, hf, ih, List.length_cons, Nat.add_mul]; omega
theorem fin_ownR {α : Type} {w : Nat} {f : α → List AV} (hf : ∀ x, (f x).length = w) (hk : FinOk f) {b : Nat} {h : Heap} {c : Nat} {v : AV} {l : List α} (ho : OwnR w f b h c v l) (n : Nat) : fin h 0 false (n + 2) v = some (.rows false (l.map f)) := by
  rcases ho with ⟨rfl, rfl⟩ | ⟨_, s, rfl, _, _, hg⟩
  · rfl
  · simp only [fin, Nat.not_lt_zero, if_false, hg, Nat.zero_add, List.drop_zero, flat_len hf, Nat.le_refl, if_true]
    rw [chunks_flat hf, mapM_id]
    intro r hr
    obtain ⟨x, _, rfl⟩ := List.mem_map.1 hr
    exact mapM_id fun y hy => hk x y hy h 0 true n
theorem OwnR.up {α : Type} {w : Nat} {f : α → List AV} {b : Nat} {h : Heap} {c : Nat} {v : AV} {l : List α} (ho : OwnR w f b h c v l) {c' : Nat} (hc : c ≤ c') : OwnR w f b h c' v l := by
  rcases ho with h1 | ⟨h0, s, h1, hb, h2, h3⟩
  · exact .inl h1
  · exact .inr ⟨h0, s, h1, hb, by omega, h3⟩
theorem OwnR.put {α : Type} {w : Nat} {f : α → List AV} {b : Nat} {h : Heap} {c : Nat} {v : AV} {l : List α} (ho : OwnR w f b h c v l) {s : Nat} {o : AObj} (hs : c ≤ s) {c' : Nat} (hc : c ≤ c') : OwnR w f b (hput h s o) c' v l := by
  rcases ho with h1 | ⟨h0, s', h1, hb, h2, h3⟩
  · exact .inl h1
  · exact .inr ⟨h0, s', h1, hb, by omega, by rw [hget_hput, if_neg (by omega)]; exact h3⟩
/-- A block that was made for a list. -/
theorem OwnR.mk {α : Type} {w : Nat} {f : α → List AV} {b : Nat} {h : Heap} {s c : Nat} {l : List α} (hl : l ≠ []) (hb : b ≤ s) (hs : s < c) (hg : hget h s = some (.cells (l.flatMap f))) : OwnR w f b h c (.osl w s 0 l.length l.length) l := .inr ⟨hl, s, rfl, hb, hs, hg⟩
theorem OwnR.mk' {α : Type} {w : Nat} {f : α → List AV} {b : Nat} {h : Heap} {s c n : Nat} {l : List α} (hl : l ≠ []) (hb : b ≤ s) (hs : s < c) (hn : l.length = n) (hg : hget h s = some (.cells (l.flatMap f))) : OwnR w f b h c (.osl w s 0 n n) l := by
  subst hn; exact .inr ⟨hl, s, rfl, hb, hs, hg⟩
theorem own_bds {n k t : Nat} {b : Bool} (hol : n ≤ k + (if b = true then 1 else 0)) (hk : k < t) (ht : t ≤ 1099511627776) : n ≤ k + 1 ∧ (n + 1) * 48 ≤ 140737488355328 ∧ (n + 1 + 1) * 48 ≤ 140737488355328 ∧ n ≤ 9223372036854775806 ∧ n ≤ 9223372036854775805 := by
  cases b <;> simp at hol <;> omega
theorem finOk_entry : FinOk Entry.cells := by
  intro x c hc h c0 inn n
  rw [Entry.cells_eq] at hc
  simp only [List.mem_cons, List.not_mem_nil, or_false] at hc
  rcases hc with rfl | rfl | rfl | rfl <;> rfl
theorem finOk_str : FinOk sCells := by
  intro x c hc h c0 inn n
  simp only [sCells, List.mem_cons, List.not_mem_nil, or_false] at hc
  rcases hc with rfl; rfl
theorem len_entry (x : Entry) : x.cells.length = 4 := by rw [Entry.cells_eq]; rfl

/-- The document's PutEntry: ahead of the first that does not come ahead of it, in the place of those of its path. -/
def putE (e : Entry) : List Entry → List Entry
  | [] => [e]
  | x :: r => if Op.bytesLess x.path e.path = true then x :: putE e r else e :: (x :: r).filter (fun y => !decide (y.path = e.path))
theorem bytesLess_ne {a b : Str} (h : Op.bytesLess a b = true) : ¬ a = b := by
  rintro rfl
  rw [bytesLess_lt] at h; exact absurd (of_decide_eq_true h) (List.lt_irrefl a)
end Go.Ab
/- A list in a block of the call's own, with room behind it. -/
namespace Go.Ab
open Go
def OwnS {α : Type} (w : Nat) (f : α → List AV) (s : Nat) (h : Heap) (v : AV) (l : List α) : Prop :=
  ∃ cp junk, v = .osl w s 0 l.length cp ∧ l.length ≤ cp ∧ hget h s = some (.cells (l.flatMap f ++ junk))
/-- What a call leaves as it was, one block aside. -/
structure Keep (s : Nat) (st st' : St) : Prop where
  c : st.c ≤ st'.c
  bar : st'.bar = st.bar
  k : ∀ k, k < st.c → k ≠ s → hget st'.h k = hget st.h k
theorem Keep.refl (s : Nat) (st : St) : Keep s st st := ⟨Nat.le_refl _, rfl, fun _ _ _ => rfl⟩
theorem chunks_junk {α : Type} {w : Nat} {f : α → List AV} (hf : ∀ x, (f x).length = w) (junk : List AV) (l : List α) : chunks w l.length (l.flatMap f ++ junk) = l.map f := by
  induction l with
  | nil => rfl
  | cons x l ih =>
    simp only [List.length_cons, List.flatMap_cons, chunks, List.map_cons, List.append_assoc]
    rw [List.take_left' (hf x), List.drop_left' (hf x), ih]
theorem flat_le {α : Type} {w : Nat} {f : α → List AV} (hf : ∀ x, (f x).length = w) (l : List α) (junk : List AV) : l.length * w ≤ (l.flatMap f ++ junk).length := by
  rw [List.length_append, flat_len hf]; omega
theorem flat_take {α : Type} {w : Nat} {f : α → List AV} (hf : ∀ x, (f x).length = w) (l : List α) (i : Nat) : (l.flatMap f).take (i * w) = (l.take i).flatMap f := by
  induction l generalizing i with
  | nil => simp
  | cons x l ih =>
    cases i with
    | zero => simp
    | succ i =>
      rw [List.flatMap_cons, List.take_succ_cons, List.flatMap_cons, List.take_append, hf, List.take_of_length_le (by rw [hf, Nat.add_mul]; omega), show (i + 1) * w - w = i * w by rw [Nat.add_mul]; omega, ih]
theorem flat_drop {α : Type} {w : Nat} {f : α → List AV} (hf : ∀ x, (f x).length = w) (l : List α) (i : Nat) : (l.flatMap f).drop (i * w) = (l.drop i).flatMap f := by
  induction l generalizing i with
  | nil => simp
  | cons x l ih =>
    cases i with
    | zero => simp
    | succ i =>
      rw [List.flatMap_cons, List.drop_succ_cons, List.drop_append, hf, List.drop_eq_nil_of_le (by rw [hf, Nat.add_mul]; omega), List.nil_append, show (i + 1) * w - w = i * w by rw [Nat.add_mul]; omega, ih]
theorem flat_junk_take {α : Type} {w : Nat} {f : α → List AV} (hf : ∀ x, (f x).length = w) (l : List α) (junk : List AV) : (l.flatMap f ++ junk).take (l.length * w) = l.flatMap f :=
  List.take_left' (flat_len hf l)
/-- One element is turned. -/
theorem put_one {α : Type} {w : Nat} {f : α → List AV} (hf : ∀ x, (f x).length = w) (l : List α) (junk : List AV) {i : Nat} (hi : i < l.length) (e : α) : putCells (l.flatMap f ++ junk) (i * w) (f e) = some ((l.set i e).flatMap f ++ junk) := by
  have hle : i * w + w ≤ l.length * w := by rw [← Nat.succ_mul]; exact Nat.mul_le_mul_right _ hi
  unfold putCells
  rw [if_pos (by rw [hf, List.length_append, flat_len hf]; omega), Option.some.injEq, hf]
  rw [List.take_append_of_le_length (by rw [flat_len hf]; omega), List.drop_append_of_le_length (by rw [flat_len hf]; omega), flat_take hf, show i * w + w = (i + 1) * w by rw [Nat.add_mul]; omega, flat_drop hf]
  rw [List.set_eq_take_append_cons_drop, if_pos hi]
  simp
theorem getE_flat {α : Type} {w : Nat} {f : α → List AV} (hf : ∀ x, (f x).length = w) (l : List α) (junk : List AV) {i : Nat} {x : α} (hx : l[i]? = some x) : ((l.flatMap f ++ junk).drop (i * w)).take w = f x ∧ i * w + w ≤ (l.flatMap f ++ junk).length := by
  have hi := (List.getElem?_eq_some_iff.1 hx).1
  have hle : i * w + w ≤ l.length * w := by rw [← Nat.succ_mul]; exact Nat.mul_le_mul_right _ hi
  have hl : i * w + w ≤ (l.flatMap f ++ junk).length := by rw [List.length_append, flat_len hf]; omega
  refine ⟨?_, hl⟩
  rw [List.drop_append_of_le_length (by rw [flat_len hf]; omega), flat_drop hf, List.drop_eq_getElem_cons hi, List.flatMap_cons]
  have := (List.getElem?_eq_some_iff.1 hx).2
  rw [this, List.append_assoc]
  exact List.take_left' (hf x)
end Go.Ab
