/- A configuration off the program itself: the types by a table that one closed fact checks; the functions as they stand. -/
import Derived.Test.YtneaijbbcbicnaaGreatDoorAbSound
namespace Go.Ab
open Go

def zrel : AV → Value → Bool
  | .bool a, .bool b => a == b
  | .int k a, .int k' b => decide (k = k') && decide (a = b)
  | .str [], .string s => s.data.toList.isEmpty
  | .rows true [], .slice none 0 0 => true
  | .nilptr, .pointer none => true
  | .nilmap, .map none => true
  | .nilfunc, .nilFunc => true
  | .nilIface, .nilIface => true
  | _, _ => false

theorem zrel_sound [Inhabited Val] {ρ : Rho} {im : Im} {c : AV} {v : Value} (h : zrel c v = true) : VRel ρ im c v := by
  unfold zrel at h
  split at h
  · simp only [beq_iff_eq] at h; subst h; exact .bool _
  · simp only [Bool.and_eq_true, decide_eq_true_eq] at h; obtain ⟨rfl, rfl⟩ := h; exact .int _ _
  · rename_i s; exact .str [] s (by simpa using h)
  · exact .rows true [] none 0 0 0 (fun _ _ => Go.undef) rfl (by simp) (Nat.le_refl _) (fun _ => rfl) (fun h => absurd rfl h) (fun i j => by simpa using VRel.bad _)
  · exact .nilptr
  · exact .nilmap
  · exact .nilfunc
  · exact .nilIface
  · cases h

def zrels : List AV → List Value → Bool
  | [], [] => true
  | c :: cs, v :: vs => zrel c v && zrels cs vs
  | _, _ => false

theorem zrels_sound [Inhabited Val] {ρ : Rho} {im : Im} : ∀ {cs : List AV} {vs : List Value}, zrels cs vs = true → LRel ρ im cs vs
  | [], [], _ => .nil _ _
  | c :: cs, v :: vs, h => by
    simp only [zrels, Bool.and_eq_true] at h
    exact (zrels_sound h.2).cons (zrel_sound h.1)
  | [], _ :: _, h => by simp [zrels] at h
  | _ :: _, [], h => by simp [zrels] at h

def fieldsB (P : Program) : List Field → List (Nat × Nat × Bool) → Bool
  | [], [] => true
  | f :: fs, fo :: fos => f.offset == fo.1 && (match P.info? f.type with | some i => i.size == fo.2.1 | none => false) &&
      (match P.underlying f.type with | some d => aggDesc d == fo.2.2 | none => false) && fieldsB P fs fos
  | _, _ => false

theorem fieldsB_sound {P : Program} : ∀ {fs : List Field} {fos : List (Nat × Nat × Bool)}, fieldsB P fs fos = true → fs.length = fos.length ∧
    ∀ (i : Nat) (f : Field) (fo : Nat × Nat × Bool), fs[i]? = some f → fos[i]? = some fo → f.offset = fo.1 ∧ (∃ fi, P.info? f.type = some fi ∧ fi.size = fo.2.1) ∧ ∃ d, P.underlying f.type = some d ∧ aggDesc d = fo.2.2
  | [], [], _ => ⟨rfl, fun i f fo h => by simp at h⟩
  | f :: fs, fo :: fos, h => by
    simp only [fieldsB, Bool.and_eq_true] at h
    obtain ⟨⟨⟨h1, h2⟩, h3⟩, h4⟩ := h
    obtain ⟨k1, k2⟩ := fieldsB_sound h4
    refine ⟨by simp [k1], fun i g go hg hgo => ?_⟩
    cases i with
    | zero =>
      simp at hg hgo
      subst hg hgo
      refine ⟨by simpa using h1, ?_, ?_⟩
      · split at h2
        · rename_i i hi; exact ⟨i, hi, by simpa using h2⟩
        · cases h2
      · split at h3
        · rename_i d hd; exact ⟨d, hd, by simpa using h3⟩
        · cases h3
    | succ i => exact k2 i g go (by simpa using hg) (by simpa using hgo)
  | [], _ :: _, h => by simp [fieldsB] at h
  | _ :: _, [], h => by simp [fieldsB] at h

def kindB (P : Program) (t : Nat) (ti : TI) : Bool :=
  match ti.kind, P.underlying t with
  | .bool, some .bool => true
  | .int k, some (.int k') => decide (k' = k)
  | .str, some .string => true
  | .struct, some (.struct fs) => fieldsB P fs.toList ti.fields
  | .slice e, some (.slice e') => e' == e
  | .ptr e, some (.pointer e') => e' == e
  | .map k e, some (.map k' e') => k' == k && e' == e
  | .func, some (.func ..) => true
  | .iface, some (.interface _) => true
  | .array n e, some (.array n' e') => n' == n && e' == e
  | .other, some d => !aggDesc d
  | _, _ => false

theorem kindB_sound [Inhabited Val] {P : Program} {t : Nat} {ti : TI} (h : kindB P t ti = true) : KindOk P t ti := by
  unfold kindB at h
  unfold KindOk
  cases hk : ti.kind with
  | bool => simp only [hk] at h ⊢; cases hu : P.underlying t with
    | none => rw [hu] at h; cases h
    | some d => rw [hu] at h; cases d <;> first | rfl | cases h
  | int k => simp only [hk] at h ⊢; cases hu : P.underlying t with
    | none => rw [hu] at h; cases h
    | some d => rw [hu] at h; cases d <;> first | cases h | skip
                simp only [decide_eq_true_eq] at h; subst h; rfl
  | str => simp only [hk] at h ⊢; cases hu : P.underlying t with
    | none => rw [hu] at h; cases h
    | some d => rw [hu] at h; cases d <;> first | rfl | cases h
  | struct => simp only [hk] at h ⊢; cases hu : P.underlying t with
    | none => rw [hu] at h; cases h
    | some d =>
      rw [hu] at h
      cases d <;> first | cases h | skip
      rename_i fs
      obtain ⟨h1, h2⟩ := fieldsB_sound h
      exact ⟨fs, rfl, by simpa using h1, fun i f fo hf hfo => h2 i f fo (by simpa using hf) hfo⟩
  | slice e => simp only [hk] at h ⊢; cases hu : P.underlying t with
    | none => rw [hu] at h; cases h
    | some d => rw [hu] at h; cases d <;> first | cases h | skip
                simp only [beq_iff_eq] at h; subst h; rfl
  | ptr e => simp only [hk] at h ⊢; cases hu : P.underlying t with
    | none => rw [hu] at h; cases h
    | some d => rw [hu] at h; cases d <;> first | cases h | skip
                simp only [beq_iff_eq] at h; subst h; rfl
  | map k e => simp only [hk] at h ⊢; cases hu : P.underlying t with
    | none => rw [hu] at h; cases h
    | some d => rw [hu] at h; cases d <;> first | cases h | skip
                simp only [Bool.and_eq_true, beq_iff_eq] at h; obtain ⟨rfl, rfl⟩ := h; rfl
  | func => simp only [hk] at h ⊢; cases hu : P.underlying t with
    | none => rw [hu] at h; cases h
    | some d => rw [hu] at h; cases d <;> first | cases h | skip
                exact ⟨_, _, _, rfl⟩
  | iface => simp only [hk] at h ⊢; cases hu : P.underlying t with
    | none => rw [hu] at h; cases h
    | some d => rw [hu] at h; cases d <;> first | cases h | skip
                exact ⟨_, rfl⟩
  | array n e => simp only [hk] at h ⊢; cases hu : P.underlying t with
    | none => rw [hu] at h; cases h
    | some d => rw [hu] at h; cases d <;> first | cases h | skip
                simp only [Bool.and_eq_true, beq_iff_eq] at h; obtain ⟨rfl, rfl⟩ := h; rfl
  | other => simp only [hk] at h ⊢; cases hu : P.underlying t with
    | none => rw [hu] at h; cases h
    | some d => rw [hu] at h; exact ⟨d, rfl, by simpa using h⟩

def tyCheck (P : Program) (t : Nat) (ti : TI) : Bool :=
  !ti.flat && kindB P t ti &&
  match P.info? t with
  | none => false
  | some i => i.size == ti.size && i.bytes == ti.bytes &&
    match i.zero with
    | none => false
    | some z => z.cells.size == ti.size && zrels ti.zero z.cells.toList &&
      (if ti.agg then (match z with | .agg _ => true | _ => false) else match ti.zero with | [c] => zrel c z | _ => true)

theorem tyCheck_sound [Inhabited Val] {P : Program} {t : Nat} {ti : TI} (h : tyCheck P t ti = true) : TyOk P t ti := by
  unfold tyCheck at h
  simp only [Bool.and_eq_true, Bool.not_eq_true'] at h
  obtain ⟨⟨hfl, hk⟩, h⟩ := h
  split at h
  · cases h
  · rename_i i hi
    simp only [Bool.and_eq_true, beq_iff_eq] at h
    obtain ⟨⟨h1, h2⟩, h⟩ := h
    split at h
    · cases h
    · rename_i z hz
      simp only [Bool.and_eq_true, beq_iff_eq] at h
      obtain ⟨⟨h3, h4⟩, h5⟩ := h
      refine ⟨⟨i, z, hi, h1, h2, hz, h3, fun ρ im => zrels_sound h4⟩, kindB_sound hk, fun i' z' hi' hz' ρ im u hu => ?_, fun q => by rw [hfl] at q; cases q⟩
      rw [hi] at hi'
      simp only [Option.some.injEq] at hi'
      subst hi'
      rw [hz] at hz'
      simp only [Option.some.injEq] at hz'
      subst hz'
      unfold zeroA at hu
      split at hu
      · rename_i hag
        simp only [Option.some.injEq] at hu
        subst hu
        rw [if_pos hag] at h5
        split at h5
        · exact VRel.agg' (zrels_sound h4)
        · cases h5
      · rename_i hag
        rw [if_neg hag] at h5
        split at hu
        · rename_i c hc
          simp only [Option.some.injEq] at hu
          subst hu
          rw [hc] at h5
          exact zrel_sound h5
        · cases hu

def look1 {α : Type} : List (Nat × α) → Nat → Option α
  | [], _ => none
  | (k, v) :: r, t => if Nat.beq k t then some v else look1 r t

theorem look1_mem {α : Type} : ∀ {l : List (Nat × α)} {t : Nat} {v : α}, look1 l t = some v → (t, v) ∈ l
  | [], _, _, h => by simp [look1] at h
  | (k, u) :: r, t, v, h => by
    simp only [look1] at h
    split at h
    · rename_i e
      simp only [Option.some.injEq] at h
      subst h
      have : k = t := Nat.eq_of_beq_eq_true e
      subst this
      simp
    · exact List.mem_cons_of_mem _ (look1_mem h)

def look2 {α : Type} : List (List (Nat × α)) → Nat → Nat → Option α
  | [], _, _ => none
  | l :: _, 0, t => look1 l t
  | _ :: r, n + 1, t => look2 r n t

theorem look2_mem [Inhabited Val] {α : Type} : ∀ {ll : List (List (Nat × α))} {n t : Nat} {v : α}, look2 ll n t = some v → ∃ l ∈ ll, (t, v) ∈ l
  | [], _, _, _, h => by simp [look2] at h
  | l :: r, 0, t, v, h => ⟨l, by simp, look1_mem (by simpa [look2] using h)⟩
  | _ :: r, n + 1, t, v, h => by
    obtain ⟨l, hl, hm⟩ := look2_mem (ll := r) (by simpa [look2] using h)
    exact ⟨l, by simp [hl], hm⟩

/-- The types' table, sixteen a leaf. -/
def tyBy (tt : List (List (Nat × TI))) (t : Nat) : Option TI := look2 tt (t / 16) t

theorem tok_of [Inhabited Val] {P : Program} {C : Cfg} {tt : List (List (Nat × TI))} (hC : C.ty = tyBy tt) (h : tt.all (fun l => l.all fun p => tyCheck P p.1 p.2) = true) : TOk P C := fun t ti ht => by
  rw [hC] at ht
  obtain ⟨l, hl, hm⟩ := look2_mem ht
  exact tyCheck_sound (List.all_eq_true.1 (List.all_eq_true.1 h l hl) _ hm)

/-- The program's own functions, as far as they have a body. -/
def fnBy (P : Program) (g : Nat) : Option Func :=
  match P.funcs[g]? with
  | some fn => if fn.body.isSome then some fn else none
  | none => none

def namesB (P : Program) : Bool := P.funcs.toList.all fun f => !(f.name == "runtime.NumGoroutine")

theorem enters_of_names {P : Program} (h : namesB P = true) {g : Nat} {fn : Func} (hg : P.funcs[g]? = some fn) (hb : fn.body.isSome = true) : Enters P g fn := by
  refine ⟨hg, ?_, hb⟩
  have hm : fn ∈ P.funcs.toList := by
    rw [← Array.getElem?_toList] at hg
    exact List.mem_of_getElem? hg
  simpa using List.all_eq_true.1 h fn hm

theorem fnBy_ok [Inhabited Val] {P : Program} (h : namesB P = true) {g : Nat} {fn : Func} (hg : fnBy P g = some fn) : Enters P g fn := by
  unfold fnBy at hg
  split at hg
  · rename_i f hf
    split at hg
    · rename_i hb
      simp only [Option.some.injEq] at hg
      subst hg
      exact enters_of_names h hf hb
    · cases hg
  · cases hg

end Go.Ab
