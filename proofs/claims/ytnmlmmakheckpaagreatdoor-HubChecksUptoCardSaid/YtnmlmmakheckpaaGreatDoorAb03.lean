/- Each operation of the machine does what 'plan' says of it. -/
import Derived.Test.YtnmlmmakheckpaaGreatDoorAb02
import Derived.Laws.CopyRow
import Derived.Laws.Append
import Derived.Laws.Entries
import Derived.Laws.AppendOwn
import Derived.ArgAppend
namespace Go.Ab
open Go

def aggDesc : TypeDesc → Bool
  | .struct _ | .array _ _ => true
  | _ => false

def KindOk (P : Program) (t : Nat) (ti : TI) : Prop :=
  match ti.kind with
  | .bool => P.underlying t = some .bool
  | .int k => P.underlying t = some (.int k)
  | .str => P.underlying t = some .string
  | .struct => ∃ fs, P.underlying t = some (.struct fs) ∧ fs.size = ti.fields.length ∧
      ∀ (i : Nat) (f : Field) (fo : Nat × Nat × Bool), fs[i]? = some f → ti.fields[i]? = some fo → f.offset = fo.1 ∧ (∃ fi, P.info? f.type = some fi ∧ fi.size = fo.2.1) ∧ ∃ d, P.underlying f.type = some d ∧ aggDesc d = fo.2.2
  | .slice e => P.underlying t = some (.slice e)
  | .ptr e => P.underlying t = some (.pointer e)
  | .map k e => P.underlying t = some (.map k e)
  | .func => ∃ a b c, P.underlying t = some (.func a b c)
  | .iface => ∃ ms, P.underlying t = some (.interface ms)
  | .array n e => P.underlying t = some (.array n e)
  | .other => ∃ d, P.underlying t = some d ∧ aggDesc d = false

structure TyOk [Inhabited Val] (P : Program) (t : Nat) (ti : TI) : Prop where
  info : ∃ i z, P.info? t = some i ∧ i.size = ti.size ∧ i.bytes = ti.bytes ∧ i.zero = some z ∧ z.cells.size = ti.size ∧ ∀ ρ im, LRel ρ im ti.zero z.cells.toList
  kind : KindOk P t ti
  zero : ∀ i z, P.info? t = some i → i.zero = some z → ∀ ρ im u, zeroA ti = some u → VRel ρ im u z
  flat : ti.flat = true → (∀ w xs ys b ρ im (cs ds : List AV), kindsOk ti.zero cs = true → kindsOk ti.zero ds = true → LRel ρ im cs xs.toList → LRel ρ im ds ys.toList → eqCells cs ds = some b → (Op.equal t (.agg xs) (.agg ys)).run P w = .ok b w) ∧ P.eqGuardType P.depth t = false

abbrev TOk [Inhabited Val] (P : Program) (C : Cfg) : Prop := ∀ t ti, C.ty t = some ti → TyOk P t ti

theorem TyOk.und [Inhabited Val] {P : Program} {t : Nat} {ti : TI} (h : TyOk P t ti) : ∃ d, P.underlying t = some d ∧ aggDesc d = ti.agg := by
  have k := h.kind
  unfold KindOk at k
  unfold TI.agg
  cases hk : ti.kind <;> simp only [hk] at k ⊢
  case struct => obtain ⟨fs, h1, _⟩ := k; exact ⟨_, h1, rfl⟩
  case func => obtain ⟨a, b, c, h1⟩ := k; exact ⟨_, h1, rfl⟩
  case iface => obtain ⟨ms, h1⟩ := k; exact ⟨_, h1, rfl⟩
  case other => exact k
  all_goals exact ⟨_, k, rfl⟩

theorem run_isAgg {P : Program} {t : TypeId} {d : TypeDesc} (h : P.underlying t = some d) (w : World) : (isAgg t).run P w = .ok (aggDesc d) w := by
  simp only [isAgg, Sem.run_bind, run_underlying h, Result.andThen_ok]
  cases d <;> rfl

theorem run_sizeOf' {P : Program} {t : TypeId} {i : TypeInfo} (h : P.info? t = some i) (w : World) : (sizeOf t).run P w = .ok i.size w := by
  simp [sizeOf, typeInfo, h]

/-- What is asked of an operation's run. -/
def Good [Inhabited Val] (P : Program) (B : Base) (ρ : Rho) (im : Im) (st : St) (h' : Heap) (new : Nat) (v : AV) (r : Result Next) : Prop :=
  ∃ rv w' ρ', (r = .ok (.value rv) w' ∨ (r = .ok .skip w' ∧ rv = undef)) ∧ VRel ρ' im v rv ∧ Inv B ρ' im { st with h := h' } w' ∧ RhoExt ρ ρ' ∧ ∀ s, s ≠ new → ρ' s = ρ s

section
variable {P : Program} {C : Cfg} {B : Base} {ρ : Rho} {im : Im} {st : St} {nt : Nat} {T : List AV} {a : Act} {w : World}

theorem Good.plain [Inhabited Val] {new : Nat} {v : AV} {rv : Value} {r : Result Next} (hi : Inv B ρ im st w) (hv : VRel ρ im v rv) (hr : r = .ok (.value rv) w) : Good P B ρ im st st.h new v r :=
  ⟨rv, w, ρ, .inl hr, hv, hi, rhoExt_refl _, fun _ _ => rfl⟩

theorem hget_only {h : Heap} {ss : List Nat} {s : Nat} {o : AObj} (hg : hget (only h ss) s = some o) : hget h s = some o := by
  unfold only at hg
  have := hget_filter (fun k => ss.contains k) h s
  rw [this] at hg
  split at hg
  · exact hg
  · cases hg

/-- The cells of a block, as the machine reads them. -/
theorem cells_at [Inhabited Val] {cs : List AV} {s : Nat} {loc : Loc} (hi : Inv B ρ im st w) (hg : hget st.h s = some (.cells cs)) (hr : ρ s = some (some loc)) :
    im loc.blk = none ∧ ∃ arr ty, w.heap[loc.blk]? = some (.cells arr ty (0, 0)) ∧ arr.size = loc.size ∧ loc.delta + cs.length ≤ loc.size ∧ LRel ρ im cs ((arr.toList.drop loc.delta).take cs.length) := by
  have := hi.obj s _ hg
  simp only [ORel, hr] at this
  exact this

theorem lrel_part [Inhabited Val] {cs : List AV} {vs : List Value} (h : LRel ρ im cs vs) (off n : Nat) : LRel ρ im ((cs.drop off).take n) ((vs.drop off).take n) := (h.drop off).take n

/-- A value read out of a row of cells. -/
theorem run_loadVar_lrel [Inhabited Val] {t : Nat} {ti : TI} (ht : TyOk P t ti) {cs : List AV} {vs : List Value} (hl : LRel ρ im cs vs) {off : Nat} {v : AV} (hv : loadObj ti cs off = some v) (b o : Nat)
    (hc : ∀ j x, vs[j]? = some x → w.cell? ⟨b, o + j, none⟩ = some x) : ∃ rv, (loadVar t ⟨b, o + off, none⟩).run P w = .ok rv w ∧ VRel ρ im v rv := by
  obtain ⟨d, hu, hd⟩ := ht.und
  obtain ⟨i, z, hinfo, hsize, _⟩ := ht.info
  unfold loadObj at hv
  split at hv
  · rename_i hagg
    split at hv
    · rename_i hle
      simp only [Option.some.injEq] at hv
      subst hv
      have hlen : ((vs.drop off).take ti.size).length = ti.size := by simp [hl.1]; omega
      have hrun := run_loadCells_list (P := P) w ⟨b, o + off, none⟩ ((vs.drop off).take ti.size) (fun j x hx => by
        rw [Addr.add_lit, Nat.add_assoc]
        refine hc (off + j) x ?_
        rw [List.getElem?_take] at hx
        split at hx
        · simpa using hx
        · cases hx)
      rw [hlen] at hrun
      refine ⟨_, ?_, VRel.agg' (vs := ((vs.drop off).take ti.size).toArray) (by simpa using lrel_part hl off ti.size)⟩
      simp [loadVar, run_isAgg hu, hd, hagg, run_sizeOf' hinfo, hsize, hrun]
    · cases hv
  · rename_i hagg
    obtain ⟨x, hx, hvx⟩ := hl.get hv
    refine ⟨x, ?_, hvx⟩
    have := hc off x hx
    simp only [loadVar, Sem.run_bind, run_isAgg hu, Result.andThen_ok, hd, hagg]
    simp [this]

theorem load_good [Inhabited Val] {t : Nat} {ti : TI} (ht : TyOk P t ti) (hi : Inv B ρ im st w) (hf : FRel ρ im nt T a) {x : Operand} {v : AV} {new : Nat} (o : Oper) (ho : o.op = .load t x)
    (h : (∃ s off cs, ev T x = .ptr s off ∧ hget st.h s = some (.cells cs) ∧ loadObj ti cs off = some v) ∨ (∃ cs off, ev T x = .iptr cs off ∧ loadObj ti cs off = some v)) :
    Good P B ρ im st st.h new v ((execOp a.eval o).run P w) := by
  have hx := hf.ev x
  rcases h with ⟨s, off, cs, he, hg, hl⟩ | ⟨cs, off, he, hl⟩
  · rw [he] at hx
    generalize hax : a.eval x = ax at hx
    cases hx with
    | ptr s off loc hr =>
      obtain ⟨_, arr, ty, hw, hs, _, hlr⟩ := cells_at hi hg hr
      obtain ⟨rv, hrun, hvr⟩ := run_loadVar_lrel ht hlr hl loc.blk loc.delta (fun j x hx => by
        rw [cell_of_row w _ _ arr ty _ hw]
        rw [List.getElem?_take] at hx
        split at hx
        · simpa using hx
        · cases hx)
      refine Good.plain hi hvr ?_
      simp only [execOp, ho, hax, Instr.loadAt, Instr.sureAddr, Sem.run_bind, Sem.run_pure, Result.andThen_ok, hrun]
  · rw [he] at hx
    generalize hax : a.eval x = ax at hx
    cases hx with
    | iptr cs off b k val hc hv =>
      have hlr : LRel ρ im cs ((List.range cs.length).map val) := ⟨by simp, fun i => by
        rcases Nat.lt_or_ge i cs.length with h' | h'
        · have := hv i
          simpa [List.getD_eq_getElem?_getD, h'] using this
        · simp [List.getD_eq_getElem?_getD, List.getElem?_eq_none h', VRel.bad]⟩
      obtain ⟨rv, hrun, hvr⟩ := run_loadVar_lrel ht hlr hl b k (fun j x hx => by
        have hj : j < cs.length := by
          rcases Nat.lt_or_ge j cs.length with h' | h'
          · exact h'
          · simp [List.getElem?_eq_none (show ((List.range cs.length).map val).length ≤ j by simpa using h')] at hx
        have h1 := hc j hj
        simp [hj] at hx
        subst hx
        unfold imCell at h1
        split at h1
        · rename_i c e f hb
          rw [cell_of_row w b (k + j) c e f (hi.imw _ _ hb)]
          exact h1
        · cases h1)
      refine Good.plain hi hvr ?_
      simp only [execOp, ho, hax, Instr.loadAt, Instr.sureAddr, Sem.run_bind, Sem.run_pure, Result.andThen_ok, hrun]

theorem alloc_orel [Inhabited Val] (w : World) (new : Nat) {cs : List AV} {vs : Array Value} (ty : TypeId) (hn : ρ new = none) (hl : LRel ρ im cs vs.toList) (him : im w.heap.size = none) :
    ORel (rset ρ new (some ⟨w.heap.size, 0, vs.size⟩)) im (w.alloc (.cells vs ty)) new (.cells cs) := by
  simp only [ORel, rset_same]
  refine ⟨him, vs, ty, heap_alloc_new w _, by first | rfl | trivial, by have := hl.1; simp at this; omega, ?_⟩
  have e : (vs.toList.drop 0).take cs.length = vs.toList := by rw [List.drop_zero, ← hl.1, List.take_length]
  simp only [e]
  exact hl.mono (rset_ext _ hn) (imExt_refl _)

theorem alloc_good [Inhabited Val] (hi : Inv B ρ im st w) {new : Nat} (hn : ρ new = none) (hc : new < st.c) {cs : List AV} {vs : Array Value} (ty : TypeId) (hl : LRel ρ im cs vs.toList) {r : Result Next} {off : Nat}
    (hr : r = .ok (.value (.pointer (some ⟨w.heap.size, off, none⟩))) (w.alloc (.cells vs ty))) : Good P B ρ im st (hputs st.h [(new, .cells cs)]) new (.ptr new off) r := by
  refine ⟨_, _, rset ρ new (some ⟨w.heap.size, 0, vs.size⟩), .inl hr, ?_, hi.alloc hn hc _ (.cells cs) ⟨w.heap.size, 0, vs.size⟩ rfl (fun him => alloc_orel w new ty hn hl him), rset_ext _ hn, fun s hs => rset_other ρ _ hs⟩
  have := VRel.ptr (ρ := rset ρ new (some ⟨w.heap.size, 0, vs.size⟩)) (im := im) new off ⟨w.heap.size, 0, vs.size⟩ (rset_same _ _ _)
  simpa using this

theorem vrel_not_bad [Inhabited Val] {v : AV} {x : Value} (hv : VRel ρ im v x) (h1 : v.one = true) : x.oneCell' = true := by
  cases hv <;> first | rfl | cases h1

theorem one_not_bad {v : AV} (h : v.cells.all AV.one = true) : v ≠ .bad := fun e => by subst e; cases h

/-- A store into a block. -/
theorem turn_cells [Inhabited Val] (hi : Inv B ρ im st w) {s : Nat} {cs cs' ds : List AV} {off : Nat} (hg : hget st.h s = some (.cells cs)) {loc : Loc} (hr : ρ s = some (some loc)) (hbar : B.bar ≤ s)
    (hp : putCells cs off ds = some cs') {us : List Value} (hl : LRel ρ im ds us) (h1 : ∀ v ∈ us, v.oneCell' = true) :
    ∃ w', (storeCells ⟨loc.blk, loc.delta + off, none⟩ us).run P w = .ok () w' ∧ Inv B ρ im { st with h := hput st.h s (.cells cs') } w' := by
  obtain ⟨him, arr, ty, hw, hs, hdl, hlr⟩ := cells_at hi hg hr
  unfold putCells at hp
  split at hp
  · rename_i hle
    simp only [Option.some.injEq] at hp
    have hus : us.length = ds.length := hl.1
    have hfit : loc.delta + off + us.length ≤ arr.size := by omega
    have hrun := run_storeCells_at P loc.blk (loc.delta + off) ty us 0 arr w hw (by simpa using hfit) h1
    refine ⟨_, hrun, ?_⟩
    refine hi.turn hg rfl hr hbar ⟨by simp, fun b hb => setRow_other w loc.blk b _ hb, rfl, rfl, rfl⟩ ?_
    simp only [ORel, hr]
    refine ⟨him, _, ty, setRow_heap w _ arr _ ty _ hw, ?_, ?_, ?_⟩
    · simp only [List.size_toArray, List.length_append, List.length_take, List.length_drop, Array.length_toList]
      omega
    · subst hp
      simp
      omega
    · subst hp
      have hcl : (cs.take off ++ (ds ++ cs.drop (off + ds.length))).length = cs.length := by simp; omega
      rw [hcl]
      have e : (((arr.toList.take (loc.delta + off + 0) ++ us ++ arr.toList.drop (loc.delta + off + 0 + us.length)).drop loc.delta).take cs.length) =
          (((arr.toList.drop loc.delta).take cs.length).take off ++ (us ++ ((arr.toList.drop loc.delta).take cs.length).drop (off + ds.length))) := by
        apply List.ext_getElem?
        intro j
        simp only [Nat.add_zero, List.getElem?_take, List.getElem?_drop, List.getElem?_append, List.length_take, List.length_append, Array.length_toList, List.length_drop]
        have m1 : min (loc.delta + off) arr.size = loc.delta + off := by omega
        have m2 : min off (min cs.length (arr.size - loc.delta)) = off := by omega
        rw [m1, m2, hus]
        by_cases hj : j < cs.length
        · simp only [hj, if_true]
          by_cases hj1 : j < off
          · have a1 : loc.delta + j < loc.delta + off + ds.length := by omega
            have a2 : loc.delta + j < loc.delta + off := by omega
            simp [a1, a2, hj1, hj]
          · by_cases hj2 : j < off + ds.length
            · have a1 : loc.delta + j < loc.delta + off + ds.length := by omega
              have a2 : ¬ loc.delta + j < loc.delta + off := by omega
              have a3 : j - off < ds.length := by omega
              have a4 : loc.delta + j - (loc.delta + off) = j - off := by omega
              simp [a1, a2, hj1, a3, a4]
            · have a1 : ¬ loc.delta + j < loc.delta + off + ds.length := by omega
              have a3 : ¬ j - off < ds.length := by omega
              have a5 : off + ds.length + (j - off - ds.length) < cs.length := by omega
              simp [a1, hj1, a3, a5]
              congr 1
              omega
        · have b1 : ¬ j < off := by omega
          have b2 : ¬ j - off < ds.length := by omega
          have b3 : ¬ off + ds.length + (j - off - ds.length) < cs.length := by omega
          simp [hj, b1, b2, b3]
      simp only [e]
      exact (hlr.take off).append (hl.append (hlr.drop _))
  · cases hp

end
end Go.Ab
