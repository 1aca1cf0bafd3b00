/- More operations: what is laid, stored, put together. -/
import Derived.Test.YtneaijbbcbicnaaGreatDoorAbOps2
import Derived.Laws.Tables
namespace Go.Ab
open Go

section
variable {P : Program} {C : Cfg} {B : Base} {ρ : Rho} {im : Im} {st : St} {nt : Nat} {T : List AV} {a : Act} {w : World} {new : Nat} {v : AV} {o : Oper}

theorem alloc_op_good [Inhabited Val] (tok : TOk P C) (hi : Inv B ρ im st w) (hn : ρ new = none) (hc : new < st.c) {t : TypeId} (ho : o.op = .alloc t) {ti : TI} (h1 : C.ty t = some ti) :
    Good P B ρ im st (hputs st.h [(new, .cells ti.zero)]) new (.ptr new 0) ((execOp a.eval o).run P w) := by
  obtain ⟨i, z, hinfo, _, _, hz, _, hl⟩ := (tok t ti h1).info
  refine alloc_good hi hn hc (vs := z.cells) t (hl ρ im) ?_
  simp [execOp, ho, Instr.alloc, zeroValue, typeInfo, hinfo, hz, newVar, newRow]

theorem box_good [Inhabited Val] (hi : Inv B ρ im st w) (hf : FRel ρ im nt T a) (hn : ρ new = none) (hc : new < st.c) {t : TypeId} {x : Operand} (ho : o.op = .box t x) (hb : ev T x ≠ .bad) :
    Good P B ρ im st (hputs st.h [(new, .cells (ev T x).cells)]) new (.ptr new 0) ((execOp a.eval o).run P w) := by
  refine alloc_good hi hn hc (vs := (a.eval x).cells) t ((hf.ev x).cells hb) ?_
  simp [execOp, ho, Instr.box, newVar, newRow]

theorem makeMap_good [Inhabited Val] (hi : Inv B ρ im st w) (hn : ρ new = none) (hc : new < st.c) {t : TypeId} (ho : o.op = .makeMap t none) :
    Good P B ρ im st (hputs st.h [(new, .map [])]) new (.map new) ((execOp a.eval o).run P w) := by
  refine ⟨.map (some w.heap.size), w.alloc (.map #[] 0), rset ρ new (some ⟨w.heap.size, 0, 0⟩), .inl ?_, ?_, hi.alloc hn hc _ (.map []) ⟨w.heap.size, 0, 0⟩ rfl (fun him => ?_), rset_ext _ hn, fun s hs => rset_other ρ _ hs⟩
  · simp [execOp, ho, Instr.makeMap]
  · exact VRel.map new ⟨w.heap.size, 0, 0⟩ (rset_same _ _ _)
  · refine ⟨⟨w.heap.size, 0, 0⟩, rset_same _ _ _, him, #[], 0, heap_alloc_new w _, ?_, ?_⟩ <;> exact .nil _ _

/-- Setting cells one behind the other. -/
theorem foldl_sets (off : Nat) : ∀ (vs : List Value) (k : Nat) (cs : Array Value), off + k + vs.length ≤ cs.size →
    ((vs.zipIdx k).foldl (fun (cs : Array Value) (p : Value × Nat) => cs.setIfInBounds (off + p.2) p.1) cs).toList = cs.toList.take (off + k) ++ (vs ++ cs.toList.drop (off + k + vs.length)) := by
  intro vs
  induction vs with
  | nil => intro k cs _; simp
  | cons v vs ih =>
    intro k cs h
    simp only [List.length_cons] at h
    simp only [List.zipIdx_cons, List.foldl_cons]
    rw [ih (k + 1) _ (by simp; omega)]
    apply List.ext_getElem?
    intro j
    simp only [Array.toList_setIfInBounds, List.getElem?_append, List.length_take, List.length_set, Array.length_toList, List.getElem?_take, List.getElem?_set, List.getElem?_drop, List.length_cons]
    have m1 : min (off + (k + 1)) cs.size = off + (k + 1) := by omega
    have m2 : min (off + k) cs.size = off + k := by omega
    rw [m1, m2]
    by_cases h1 : j < off + k
    · have a1 : j < off + (k + 1) := by omega
      have a2 : ¬ off + k = j := by omega
      simp [h1, a1, a2]
    · by_cases h2 : j = off + k
      · subst h2
        have a1 : off + k < off + (k + 1) := by omega
        have a2 : off + k < cs.size := by omega
        simp [a1, a2]
      · have a1 : ¬ j < off + (k + 1) := by omega
        have a2 : ¬ off + k = j := by omega
        by_cases h3 : j - (off + (k + 1)) < vs.length
        · have a3 : j - (off + k) < vs.length + 1 := by omega
          have e : j - (off + k) = (j - (off + (k + 1))) + 1 := by omega
          simp only [h1, a1, h3, a3, if_true, if_false]
          rw [e, List.getElem?_cons_succ]
        · have a3 : ¬ j - (off + k) < vs.length + 1 := by omega
          have a4 : ¬ off + k = off + (k + 1) + vs.length + (j - (off + (k + 1)) - vs.length) := by omega
          simp [h1, a1, h3, a3, a4]
          congr 1
          omega

theorem fill_rel [Inhabited Val] (pl pl' : Nat → Option (Nat × Nat)) (hpl : ∀ i q, pl i = some q → pl' i = some q) (hf : FRel ρ im nt T a) : ∀ (parts : List (Nat × Operand)) (cs : List AV) (vs : Array Value) (r : List AV), LRel ρ im cs vs.toList →
    fillA pl cs (parts.map fun p => (p.1, ev T p.2)) = some r → ∃ us, Instr.fill pl' vs (parts.map fun p => (p.1, a.eval p.2)) = some us ∧ LRel ρ im r us.toList := by
  intro parts
  induction parts with
  | nil =>
    intro cs vs r hl h
    simp only [List.map_nil, fillA, Option.some.injEq] at h
    subst h
    exact ⟨vs, rfl, hl⟩
  | cons p parts ih =>
    intro cs vs r hl h
    simp only [List.map_cons, fillA] at h
    cases hp : pl p.1 with
    | none => simp [hp] at h
    | some q =>
      obtain ⟨off, size⟩ := q
      simp only [hp] at h
      split at h
      · rename_i hc
        obtain ⟨hlen, hbad⟩ := hc
        split at h
        · rename_i cs' hput
          have hnb : ev T p.2 ≠ .bad := fun e => by rw [e] at hbad; simp [AV.cells] at hbad
          have hcl := (hf.ev p.2).cells hnb
          have hsz : (a.eval p.2).cells.size = size := by have := hcl.1; simp only [Array.length_toList] at this; omega
          unfold putCells at hput
          split at hput
          · rename_i hle
            simp only [Option.some.injEq] at hput
            have hvs : vs.size = cs.length := by simpa using hl.1
            have hfit : off + 0 + (a.eval p.2).cells.toList.length ≤ vs.size := by simp only [Array.length_toList]; omega
            have hset := foldl_sets off (a.eval p.2).cells.toList 0 vs hfit
            have hl' : LRel ρ im cs' ((a.eval p.2).cells.zipIdx.foldl (fun cs (c, j) => cs.setIfInBounds (off + j) c) vs).toList := by
              have e : ((a.eval p.2).cells.zipIdx.foldl (fun cs (c, j) => cs.setIfInBounds (off + j) c) vs) =
                  (((a.eval p.2).cells.toList.zipIdx 0).foldl (fun (cs : Array Value) (p : Value × Nat) => cs.setIfInBounds (off + p.2) p.1) vs) := by
                rw [← Array.foldl_toList]
                simp only [Array.toList_zipIdx]
              rw [e, hset, ← hput]
              simp only [Nat.add_zero, Array.length_toList]
              rw [hsz, ← hlen]
              exact (hl.take off).append (hcl.append (hl.drop _))
            obtain ⟨us, hus, hlu⟩ := ih cs' _ r hl' h
            refine ⟨us, ?_, hlu⟩
            simp only [List.map_cons, Instr.fill, hpl _ _ hp]
            rw [if_neg ?_]
            · exact hus
            · simp only [hsz]
              simp
              omega
          · cases hput
        · cases h
      · cases h

theorem places_of {fs : Array Field} {ti : TI} (hsz : fs.size = ti.fields.length) (hall : ∀ (i : Nat) (f : Field) (fo : Nat × Nat × Bool), fs[i]? = some f → ti.fields[i]? = some fo → f.offset = fo.1 ∧ (∃ fi, P.info? f.type = some fi ∧ fi.size = fo.2.1) ∧ ∃ d, P.underlying f.type = some d ∧ aggDesc d = fo.2.2) :
    fs.toList.mapM (fun f => (P.info? f.type).map fun i => (f.offset, i.size)) = some (ti.fields.map fun fo => (fo.1, fo.2.1)) := by
  have gen : ∀ (l : List Field) (q : List (Nat × Nat × Bool)), l.length = q.length → (∀ (i : Nat) (f : Field) (fo : Nat × Nat × Bool), l[i]? = some f → q[i]? = some fo → f.offset = fo.1 ∧ (∃ fi, P.info? f.type = some fi ∧ fi.size = fo.2.1)) →
      l.mapM (fun f => (P.info? f.type).map fun i => (f.offset, i.size)) = some (q.map fun fo => (fo.1, fo.2.1)) := by
    intro l
    induction l with
    | nil => intro q hq _; cases q with
      | nil => rfl
      | cons _ _ => simp at hq
    | cons f l ih =>
      intro q hq hh
      cases q with
      | nil => simp at hq
      | cons fo q =>
        obtain ⟨h1, fi, h2, h3⟩ := hh 0 f fo rfl rfl
        have := ih q (by simpa using hq) fun i f' fo' hf hfo => hh (i + 1) f' fo' hf hfo
        simp [this, h2, h1, h3]
  exact gen fs.toList ti.fields (by simpa using hsz) fun i f fo hf hfo => by
    obtain ⟨h1, h2, _⟩ := hall i f fo (by simpa using hf) hfo
    exact ⟨h1, h2⟩

theorem build_good [Inhabited Val] (tok : TOk P C) (hi : Inv B ρ im st w) (hf : FRel ρ im nt T a) {t : TypeId} {parts : Array (Nat × Operand)} (ho : o.op = .build t parts) {ti : TI} (h1 : C.ty t = some ti) (hk : ti.kind = .struct) {cs : List AV}
    (h : fillA (fun i => (ti.fields[i]?).map fun f => (f.1, f.2.1)) ti.zero (parts.toList.map fun p => (p.1, ev T p.2)) = some cs) : Good P B ρ im st st.h new (.agg cs) ((execOp a.eval o).run P w) := by
  have tk := tok t ti h1
  obtain ⟨i, z, hinfo, _, _, hz, _, hl⟩ := tk.info
  have q := tk.kind
  unfold KindOk at q
  simp only [hk] at q
  obtain ⟨fs, hu, hsz, hall⟩ := q
  have hpl := places_of hsz hall
  obtain ⟨us, hus, hlu⟩ := fill_rel (ρ := ρ) (im := im) (fun i => (ti.fields[i]?).map fun f => (f.1, f.2.1)) (fun i => (ti.fields.map fun fo => (fo.1, fo.2.1)).toArray[i]?) (fun i q hq => by simpa using hq) hf parts.toList ti.zero z.cells cs (hl ρ im) h
  refine Good.plain (rv := .agg us) hi (VRel.agg' hlu) ?_
  have hp : (parts.map fun (i, x) => (i, a.eval x)).toList = parts.toList.map fun p => (p.1, a.eval p.2) := by simp
  have hb : P.built t (parts.map fun (i, x) => (i, a.eval x)).toList = some us := by
    unfold Program.built
    rw [hinfo, hu]
    simp only [hz, hpl, hp]
    exact hus
  have hr := run_build (P := P) w t _ us hb
  simp only [execOp, ho]
  rw [Sem.run_bind, hr]
  rfl

end
end Go.Ab
