/- More operations: what is laid, stored, put together. -/
import Derived.Test.YtnmlmmakheckpaaGreatDoorAb04
import Derived.Laws.Tables
namespace Go.Ab
open Go

section
variable {P : Program} {C : Cfg} {B : Base} {ρ : Rho} {im : Im} {st : St} {nt : Nat} {T : List AV} {a : Act} {w : World} {new : Nat} {v : AV} {o : Oper}

theorem alloc_op_good [Inhabited Val] (tok : TOk P C) (hi : Inv B ρ im st w) (hn : ρ new = none) (hc : new < st.c) {t : TypeId} (ho : o.op = .alloc t) {ti : TI} (h1 : C.ty t = some ti) :
    Good P B ρ im st (hputs st.h [(new, .cells ti.zero)]) new (.ptr new 0) ((execOp a.eval o).run P w) := by
  obtain ⟨i, z, hinfo, _, _, hz, _, hl⟩ := (tok t ti h1).info
  refine alloc_good hi hn hc (vs := z.cells) t (hl ρ im) ?_
  simp [execOp, ho, Instr.alloc, zeroValue, typeInfo, hinfo, hz, newVar, newRow]

theorem box_good [Inhabited Val] (hi : Inv B ρ im st w) (hf : FRel ρ im nt T a) (hn : ρ new = none) (hc : new < st.c) {t : TypeId} {x : Operand} (ho : o.op = .box t x) (hb : ev T x ≠ .bad) :
    Good P B ρ im st (hputs st.h [(new, .cells (ev T x).cells)]) new (.ptr new 0) ((execOp a.eval o).run P w) := by
  refine alloc_good hi hn hc (vs := (a.eval x).cells) t ((hf.ev x).cells hb) ?_
  simp [execOp, ho, Instr.box, newVar, newRow]

theorem makeMap_good [Inhabited Val] (hi : Inv B ρ im st w) (hn : ρ new = none) (hc : new < st.c) {t : TypeId} (ho : o.op = .makeMap t none) :
    Good P B ρ im st (hputs st.h [(new, .map [])]) new (.map new) ((execOp a.eval o).run P w) := by
  refine ⟨.map (some w.heap.size), w.alloc (.map #[] 0), rset ρ new (some ⟨w.heap.size, 0, 0⟩), .inl ?_, ?_, hi.alloc hn hc _ (.map []) ⟨w.heap.size, 0, 0⟩ rfl (fun him => ?_), rset_ext _ hn, fun s hs => rset_other ρ _ hs⟩
  · simp [execOp, ho, Instr.makeMap]
  · exact VRel.map new ⟨w.heap.size, 0, 0⟩ (rset_same _ _ _)
  · refine ⟨⟨w.heap.size, 0, 0⟩, rset_same _ _ _, him, #[], 0, heap_alloc_new w _, ?_, ?_⟩ <;> exact .nil _ _

/-- Setting cells one behind the other. -/
theorem foldl_sets (off : Nat) : ∀ (vs : List Value) (k : Nat) (cs : Array Value), off + k + vs.length ≤ cs.size →
    ((vs.zipIdx k).foldl (fun (cs : Array Value) (p : Value × Nat) => cs.setIfInBounds (off + p.2) p.1) cs).toList = cs.toList.take (off + k) ++ (vs ++ cs.toList.drop (off + k + vs.length)) := by
  intro vs
  induction vs with
  | nil => intro k cs _; simp
  | cons v vs ih =>
    intro k cs h
    simp only [List.length_cons] at h
    simp only [List.zipIdx_cons, List.foldl_cons]
    rw [ih (k + 1) _ (by simp; omega)]
    apply List.ext_getElem?
    intro j
    simp only [Array.toList_setIfInBounds, List.getElem?_append, List.length_take, List.length_set, Array.length_toList, List.getElem?_take, List.getElem?_set, List.getElem?_drop, List.length_cons]
    have m1 : min (off + (k + 1)) cs.size = off + (k + 1) := by omega
    have m2 : min (off + k) cs.size = off + k := by omega
    rw [m1, m2]
    by_cases h1 : j < off + k
    · have a1 : j < off + (k + 1) := by omega
      have a2 : ¬ off + k = j := by omega
      simp [h1, a1, a2]
    · by_cases h2 : j = off + k
      · subst h2
        have a1 : off + k < off + (k + 1) := by omega
        have a2 : off + k < cs.size := by omega
        simp [a1, a2]
      · have a1 : ¬ j < off + (k + 1) := by omega
        have a2 : ¬ off + k = j := by omega
        by_cases h3 : j - (off + (k + 1)) < vs.length
        · have a3 : j - (off + k) < vs.length + 1 := by omega
          have e : j - (off + k) = (j - (off + (k + 1))) + 1 := by omega
          simp only [h1, a1, h3, a3, if_true, if_false]
          rw [e, List.getElem?_cons_succ]
        · have a3 : ¬ j - (off + k) < vs.length + 1 := by omega
          have a4 : ¬ off + k = off + (k + 1) + vs.length + (j - (off + (k + 1)) - vs.length) := by omega
          simp [h1, a1, h3, a3, a4]
          congr 1
          omega

theorem fill_rel [Inhabited Val] (pl pl' : Nat → Option (Nat × Nat)) (hpl : ∀ i q, pl i = some q → pl' i = some q) (hf : FRel ρ im nt T a) : ∀ (parts : List (Nat × Operand)) (cs : List AV) (vs : Array Value) (r : List AV), LRel ρ im cs vs.toList →
    fillA pl cs (parts.map fun p => (p.1, ev T p.2)) = some r → ∃ us, Instr.fill pl' vs (parts.map fun p => (p.1, a.eval p.2)) = some us ∧ LRel ρ im r us.toList := by
  intro parts
  induction parts with
  | nil =>
    intro cs vs r hl h
    simp only [List.map_nil, fillA, Option.some.injEq] at h
    subst h
    exact ⟨vs, rfl, hl⟩
  | cons p parts ih =>
    intro cs vs r hl h
    simp only [List.map_cons, fillA] at h
    cases hp : pl p.1 with
    | none => simp [hp] at h
    | some q =>
      obtain ⟨off, size⟩ := q
      simp only [hp] at h
      split at h
      · rename_i hc
        obtain ⟨hlen, hbad⟩ := hc
        split at h
        · rename_i cs' hput
          have hnb : ev T p.2 ≠ .bad := fun e => by rw [e] at hbad; simp [AV.cells] at hbad
          have hcl := (hf.ev p.2).cells hnb
          have hsz : (a.eval p.2).cells.size = size := by have := hcl.1; simp only [Array.length_toList] at this; omega
          unfold putCells at hput
          split at hput
          · rename_i hle
            simp only [Option.some.injEq] at hput
            have hvs : vs.size = cs.length := by simpa using hl.1
            have hfit : off + 0 + (a.eval p.2).cells.toList.length ≤ vs.size := by simp only [Array.length_toList]; omega
            have hset := foldl_sets off (a.eval p.2).cells.toList 0 vs hfit
            have hl' : LRel ρ im cs' ((a.eval p.2).cells.zipIdx.foldl (fun cs (c, j) => cs.setIfInBounds (off + j) c) vs).toList := by
              have e : ((a.eval p.2).cells.zipIdx.foldl (fun cs (c, j) => cs.setIfInBounds (off + j) c) vs) =
                  (((a.eval p.2).cells.toList.zipIdx 0).foldl (fun (cs : Array Value) (p : Value × Nat) => cs.setIfInBounds (off + p.2) p.1) vs) := by
                rw [← Array.foldl_toList]
                simp only [Array.toList_zipIdx]
              rw [e, hset, ← hput]
              simp only [Nat.add_zero, Array.length_toList]
              rw [hsz, ← hlen]
              exact (hl.take off).append (hcl.append (hl.drop _))
            obtain ⟨us, hus, hlu⟩ := ih cs' _ r hl' h
            refine ⟨us, ?_, hlu⟩
            simp only [List.map_cons, Instr.fill, hpl _ _ hp]
            rw [if_neg ?_]
            · exact hus
            · simp only [hsz]
              simp
              omega
          · cases hput
        · cases h
      · cases h

theorem places_of {fs : Array Field} {ti : TI} (hsz : fs.size = ti.fields.length) (hall : ∀ (i : Nat) (f : Field) (fo : Nat × Nat × Bool), fs[i]? = some f → ti.fields[i]? = some fo → f.offset = fo.1 ∧ (∃ fi, P.info? f.type = some fi ∧ fi.size = fo.2.1) ∧ ∃ d, P.underlying f.type = some d ∧ aggDesc d = fo.2.2) :
    fs.toList.mapM (fun f => (P.info? f.type).map fun i => (f.offset, i.size)) = some (ti.fields.map fun fo => (fo.1, fo.2.1)) := by
  have gen : ∀ (l : List Field) (q : List (Nat × Nat × Bool)), l.length = q.length → (∀ (i : Nat) (f : Field) (fo : Nat × Nat × Bool), l[i]? = some f → q[i]? = some fo → f.offset = fo.1 ∧ (∃ fi, P.info? f.type = some fi ∧ fi.size = fo.2.1)) →
      l.mapM (fun f => (P.info? f.type).map fun i => (f.offset, i.size)) = some (q.map fun fo => (fo.1, fo.2.1)) := by
    intro l
    induction l with
    | nil => intro q hq _; cases q with
      | nil => rfl
      | cons _ _ => simp at hq
    | cons f l ih =>
      intro q hq hh
      cases q with
      | nil => simp at hq
      | cons fo q =>
        obtain ⟨h1, fi, h2, h3⟩ := hh 0 f fo rfl rfl
        have := ih q (by simpa using hq) fun i f' fo' hf hfo => hh (i + 1) f' fo' hf hfo
        simp [this, h2, h1, h3]
  exact gen fs.toList ti.fields (by simpa using hsz) fun i f fo hf hfo => by
    obtain ⟨h1, h2, _⟩ := hall i f fo (by simpa using hf) hfo
    exact ⟨h1, h2⟩

theorem build_good [Inhabited Val] (tok : TOk P C) (hi : Inv B ρ im st w) (hf : FRel ρ im nt T a) {t : TypeId} {parts : Array (Nat × Operand)} (ho : o.op = .build t parts) {ti : TI} (h1 : C.ty t = some ti) (hk : ti.kind = .struct) {cs : List AV}
    (h : fillA (fun i => (ti.fields[i]?).map fun f => (f.1, f.2.1)) ti.zero (parts.toList.map fun p => (p.1, ev T p.2)) = some cs) : Good P B ρ im st st.h new (.agg cs) ((execOp a.eval o).run P w) := by
  have tk := tok t ti h1
  obtain ⟨i, z, hinfo, _, _, hz, _, hl⟩ := tk.info
  have q := tk.kind
  unfold KindOk at q
  simp only [hk] at q
  obtain ⟨fs, hu, hsz, hall⟩ := q
  have hpl := places_of hsz hall
  obtain ⟨us, hus, hlu⟩ := fill_rel (ρ := ρ) (im := im) (fun i => (ti.fields[i]?).map fun f => (f.1, f.2.1)) (fun i => (ti.fields.map fun fo => (fo.1, fo.2.1)).toArray[i]?) (fun i q hq => by simpa using hq) hf parts.toList ti.zero z.cells cs (hl ρ im) h
  refine Good.plain (rv := .agg us) hi (VRel.agg' hlu) ?_
  have hp : (parts.map fun (i, x) => (i, a.eval x)).toList = parts.toList.map fun p => (p.1, a.eval p.2) := by simp
  have hb : P.built t (parts.map fun (i, x) => (i, a.eval x)).toList = some us := by
    unfold Program.built
    rw [hinfo, hu]
    simp only [hz, hpl, hp]
    exact hus
  have hr := run_build (P := P) w t _ us hb
  simp only [execOp, ho]
  rw [Sem.run_bind, hr]
  rfl

end
end Go.Ab
/- More operations: slices. -/
namespace Go.Ab
open Go

section
variable {P : Program} {C : Cfg} {B : Base} {ρ : Rho} {im : Im} {st : St} {nt : Nat} {T : List AV} {a : Act} {w : World} {new : Nat} {v : AV} {o : Oper}

theorem sliceBound_run [Inhabited Val] (hf : FRel ρ im nt T a) {x : Operand} {d most n : Nat} (h : bound (some (ev T x)) d most = some n) {most' : Nat} (hle : most ≤ most') (code : BoundsCode) :
    (Instr.sliceBound (a.eval x) most' code).run P w = .ok n w ∧ n ≤ most := by
  unfold bound at h
  split at h
  · rename_i he; cases he
  · rename_i k i he
    simp only [Option.some.injEq] at he
    split at h
    · rename_i hc
      simp only [Option.some.injEq] at h
      subst h
      have hx := hf.ev x
      rw [he] at hx
      refine ⟨?_, by omega⟩
      have h2 : i ≤ (most' : Int) := by omega
      simp [of_int hx, Instr.sliceBound, asIntOf, hc.1, h2]
    · cases h
  · cases h

theorem bounds_none [Inhabited Val] (hf : FRel ρ im nt T a) {lo hi : Option Operand} {len cap most h l : Nat} (hh : bound (hi.map (ev T)) len most = some h) (hl : bound (lo.map (ev T)) 0 h = some l) (hle : most ≤ cap) (hlen : len ≤ most) (isS : Bool) :
    (Instr.sliceBounds isS len cap (lo.map a.eval) (hi.map a.eval) none).run P w = .ok (l, h, cap) w ∧ l ≤ h ∧ h ≤ most := by
  cases hi with
  | none =>
    simp only [Option.map_none, bound, Option.some.injEq] at hh
    subst hh
    cases lo with
    | none =>
      simp only [Option.map_none, bound, Option.some.injEq] at hl
      subst hl
      exact ⟨rfl, Nat.zero_le _, hlen⟩
    | some y =>
      obtain ⟨rl, hl'⟩ := sliceBound_run (P := P) (w := w) hf hl (Nat.le_refl len) .sliceB
      refine ⟨?_, hl', hlen⟩
      have e : Instr.sliceBounds isS len cap (Option.map a.eval (some y)) (Option.map a.eval none) none = (do let l ← Instr.sliceBound (a.eval y) len .sliceB; pure (l, len, cap)) := rfl
      rw [e, Sem.run_bind, rl]
      rfl
  | some x =>
    obtain ⟨r, hn⟩ := sliceBound_run (P := P) (w := w) hf hh hle (if isS then .sliceAcap else .sliceAlen)
    cases lo with
    | none =>
      simp only [Option.map_none, bound, Option.some.injEq] at hl
      subst hl
      refine ⟨?_, Nat.zero_le _, hn⟩
      have e : Instr.sliceBounds isS len cap (Option.map a.eval none) (Option.map a.eval (some x)) none = (do let h ← Instr.sliceBound (a.eval x) cap (if isS then .sliceAcap else .sliceAlen); pure (0, h, cap)) := rfl
      rw [e, Sem.run_bind, r]
      rfl
    | some y =>
      obtain ⟨rl, hl'⟩ := sliceBound_run (P := P) (w := w) hf hl (Nat.le_refl h) .sliceB
      refine ⟨?_, hl', hn⟩
      have e : Instr.sliceBounds isS len cap (Option.map a.eval (some y)) (Option.map a.eval (some x)) none = (do let h ← Instr.sliceBound (a.eval x) cap (if isS then .sliceAcap else .sliceAlen); let l ← Instr.sliceBound (a.eval y) h .sliceB; pure (l, h, cap)) := rfl
      rw [e, Sem.run_bind, r]
      simp only [Result.andThen_ok]
      rw [Sem.run_bind, rl]
      rfl

theorem bounds_max [Inhabited Val] (hf : FRel ρ im nt T a) {lo : Option Operand} {hi mx : Operand} {len cap most d d' h l m : Nat} (hm : bound (some (ev T mx)) d most = some m) (hh : bound (some (ev T hi)) d' m = some h) (hl : bound (lo.map (ev T)) 0 h = some l) (hle : most ≤ cap) :
    (Instr.sliceBounds true len cap (lo.map a.eval) (some (a.eval hi)) (some (a.eval mx))).run P w = .ok (l, h, m) w ∧ l ≤ h ∧ h ≤ m ∧ m ≤ most := by
  obtain ⟨rm, hm'⟩ := sliceBound_run (P := P) (w := w) hf hm hle .slice3Acap
  obtain ⟨rh, hh'⟩ := sliceBound_run (P := P) (w := w) hf hh (Nat.le_refl m) .slice3B
  cases lo with
  | none =>
    simp only [Option.map_none, bound, Option.some.injEq] at hl
    subst hl
    refine ⟨?_, Nat.zero_le _, hh', hm'⟩
    have e : Instr.sliceBounds true len cap (Option.map a.eval none) (some (a.eval hi)) (some (a.eval mx)) = (do let m ← Instr.sliceBound (a.eval mx) cap .slice3Acap; let h ← Instr.sliceBound (a.eval hi) m .slice3B; pure (0, h, m)) := rfl
    rw [e, Sem.run_bind, rm]
    simp only [Result.andThen_ok]
    rw [Sem.run_bind, rh]
    rfl
  | some x =>
    obtain ⟨rl, hl'⟩ := sliceBound_run (P := P) (w := w) hf hl (Nat.le_refl h) .slice3C
    refine ⟨?_, hl', hh', hm'⟩
    have e : Instr.sliceBounds true len cap (Option.map a.eval (some x)) (some (a.eval hi)) (some (a.eval mx)) = (do let m ← Instr.sliceBound (a.eval mx) cap .slice3Acap; let h ← Instr.sliceBound (a.eval hi) m .slice3B; let l ← Instr.sliceBound (a.eval x) h .slice3C; pure (l, h, m)) := rfl
    rw [e, Sem.run_bind, rm]
    simp only [Result.andThen_ok]
    rw [Sem.run_bind, rh]
    simp only [Result.andThen_ok]
    rw [Sem.run_bind, rl]
    rfl

/-- What the machine hands out of a slice of a slice. -/
def cutAddr (ad : Option Addr) (l m size : Nat) : Option Addr := if m = l then ad else ad.map (·.add (l * size))

theorem sliceAt_run [Inhabited Val] {t e : TypeId} {i : TypeInfo} (hu : P.underlying t = some (.slice e)) (hinfo : P.info? e = some i) {ad : Option Addr} {len cap l h m : Nat} {lo hi mx : Option Value}
    (hb : (Instr.sliceBounds true len cap lo hi mx).run P w = .ok (l, h, m) w) :
    (Instr.sliceAt t (.slice ad len cap) lo hi mx).run P w = .ok (.slice (cutAddr ad l m i.size) (h - l) (m - l)) w := by
  simp only [Instr.sliceAt, Sem.run_bind, run_underlying hu, Result.andThen_ok, Instr.slice]
  rw [hb]
  simp only [Result.andThen_ok, run_sizeOf' hinfo, Sem.run_pure]
  rfl

theorem rows_cut [Inhabited Val] {t1 : Bool} {l : List (List AV)} {ad : Option Addr} {n sz : Nat} {val : Nat → Nat → Value} (hn : n = l.length)
    (hlen : ∀ r, r ∈ l → r.length = sz)
    (ha : l ≠ [] → ∃ b o, ad = some ⟨b, o, none⟩ ∧ ∀ i j, i < l.length → j < sz → imCell im b (o + i * sz + j) = some (val i j))
    (hv : ∀ i j, VRel (fun _ => none) im ((l.getD i []).getD j .bad) (val i j)) {lw h m size : Nat} (hle : lw ≤ h) (hh : h ≤ n) (hm : h ≤ m) (hs : l ≠ [] → size = sz) (ht : t1 = true → m = h) :
    VRel ρ im (.rows t1 ((l.take h).drop lw)) (.slice (cutAddr ad lw m size) (h - lw) (m - lw)) := by
  refine .rows t1 _ _ _ _ sz (fun i j => val (lw + i) j) ?_ (fun r hr => hlen r (List.mem_of_mem_take (List.mem_of_mem_drop hr))) (by omega) (fun e => by have := ht e; omega) (fun hne => ?_) (fun i j => ?_)
  · simp [List.length_drop, List.length_take]; omega
  · have hlt : lw < h := by
      rcases Nat.lt_or_ge lw h with h' | h'
      · exact h'
      · exact absurd (by apply List.eq_nil_of_length_eq_zero; simp; omega) hne
    have hl0 : l ≠ [] := fun e => by subst e; simp at hn; omega
    obtain ⟨b, o, e, hc⟩ := ha hl0
    refine ⟨b, o + lw * sz, ?_, fun i j hi hj => ?_⟩
    · have : ¬ m = lw := by omega
      simp [cutAddr, this, e, Addr.add_lit, hs hl0]
    · simp only [List.length_drop, List.length_take] at hi
      have := hc (lw + i) j (by omega) hj
      rw [Nat.add_mul] at this
      rw [show o + lw * sz + i * sz + j = o + (lw * sz + i * sz) + j from by omega]
      exact this
  · by_cases hi : lw + i < h
    · have e : ((l.take h).drop lw).getD i [] = l.getD (lw + i) [] := by
        simp [List.getD_eq_getElem?_getD, List.getElem?_take, hi]
      rw [e]
      exact hv (lw + i) j
    · have e : ((l.take h).drop lw).getD i [] = [] := by
        simp [List.getD_eq_getElem?_getD, List.getElem?_take, hi]
      rw [e]
      simpa using VRel.bad _

theorem osl_cut [Inhabited Val] {sz s off : Nat} {lo : Option Loc} {ad : Option Addr} {cap : Nat} (hρ : ρ s = some lo)
    (hc : 0 < cap → ∃ loc, lo = some loc ∧ ad = some ⟨loc.blk, loc.delta + off, none⟩ ∧ loc.delta + off + cap * sz ≤ loc.size) {l h m m' : Nat} (h1 : l ≤ h) (h2 : h ≤ m) (h3 : m ≤ m') (h4 : m' ≤ cap) (h63 : cap ≤ 9223372036854775807) :
    VRel ρ im (.osl sz s (off + l * sz) (h - l) (m - l)) (.slice (cutAddr ad l m' sz) (h - l) (m' - l)) := by
  refine .osl _ _ _ _ _ lo _ _ hρ (fun hp => ?_) (by omega) (by omega) (by omega)
  obtain ⟨loc, e1, e2, e3⟩ := hc (by omega)
  refine ⟨loc, e1, ?_, ?_⟩
  · have : ¬ m' = l := by omega
    simp [cutAddr, this, e2, Addr.add_lit, Nat.add_assoc]
  · have : l * sz + (m' - l) * sz ≤ cap * sz := by rw [← Nat.add_mul]; exact Nat.mul_le_mul_right _ (by omega)
    omega

theorem slice_good [Inhabited Val] (tok : TOk P C) (hi : Inv B ρ im st w) (hf : FRel ρ im nt T a) {t : TypeId} {x : Operand} {lo hi' mx : Option Operand} (ho : o.op = .slice t x lo hi' mx) {ti : TI} (h1 : C.ty t = some ti)
    (h : sliceA C ti (ev T x) (lo.map (ev T)) (hi'.map (ev T)) (mx.map (ev T)) = some v) : Good P B ρ im st st.h new v ((execOp a.eval o).run P w) := by
  have hx := hf.ev x
  have tk := tok t ti h1
  have hsl : ∀ q, sliceOk C ti q = true → ∃ e te i, P.underlying t = some (.slice e) ∧ C.ty e = some te ∧ P.info? e = some i ∧ i.size = te.size ∧ (∀ n, q = some n → te.size = n) := fun q hq => by
    unfold sliceOk at hq
    split at hq
    · rename_i e hk
      split at hq
      · rename_i te hte
        obtain ⟨i, z, hinfo, hsize, _⟩ := (tok e te hte).info
        have hu : P.underlying t = some (.slice e) := by have k := tk.kind; unfold KindOk at k; simpa only [hk] using k
        refine ⟨e, te, i, hu, hte, hinfo, hsize, fun n hn => ?_⟩
        subst hn
        simpa using hq
      · cases hq
    · cases hq
  have fin : ∀ {rv : Value}, VRel ρ im v rv → (Instr.sliceAt t (a.eval x) (lo.map a.eval) (hi'.map a.eval) (mx.map a.eval)).run P w = .ok rv w → Good P B ρ im st st.h new v ((execOp a.eval o).run P w) := fun hv hr => by
    refine Good.plain hi hv ?_
    simp only [execOp, ho]
    rw [Sem.run_bind, hr]
    rfl
  unfold sliceA at h
  split at h
  · rename_i s e
    rw [e] at hx
    split at h
    · cases h
    · rename_i hc
      simp only [Bool.or_eq_true, not_or, Bool.not_eq_true, Option.isSome_eq_false_iff, Option.isNone_iff_eq_none, bne_eq_false_iff_eq] at hc
      obtain ⟨hmx, hk⟩ := hc
      have hmx' : mx = none := by cases mx <;> simp at hmx ⊢
      subst hmx'
      have hu : P.underlying t = some .string := by have k := tk.kind; unfold KindOk at k; simpa only [hk] using k
      split at h
      · cases h
      · rename_i hh hhe
        split at h
        · cases h
        · rename_i l hle
          simp only [Option.some.injEq] at h
          subst h
          obtain ⟨bs, e2, e3⟩ := of_str hx
          have hsz : bs.size = s.length := by rw [← e3]; simp
          obtain ⟨hr, hb1, hb2⟩ := bounds_none (P := P) (w := w) hf hhe hle (Nat.le_refl _) (Nat.le_refl _) false
          rw [e2] at fin
          refine fin (rv := .string (bs.extract l hh)) (.str _ _ ?_) ?_
          · rw [← e3]; simp [ByteArray.data_extract, Array.toList_extract, List.extract_eq_take_drop, List.drop_take]
          · simp only [Instr.sliceAt, Sem.run_bind, run_underlying hu, Result.andThen_ok, Instr.slice, Option.map_none, Option.isSome_none, Bool.false_eq_true, if_false, Sem.run_pure]
            rw [hsz, hr]
            rfl
  · rename_i tight l e
    rw [e] at hx
    split at h
    · cases h
    · rename_i hok
      simp only [Bool.not_eq_true', Bool.not_eq_false] at hok
      obtain ⟨el, te, i, hu, hte, hinfo, hsize, hq⟩ := hsl _ hok
      generalize hax : a.eval x = ax at hx
      rw [hax] at fin
      cases hx with
      | rows _ _ ad n cap sz val hn hlen hcap ht ha hv =>
        have hs : l ≠ [] → i.size = sz := fun hne => by
          cases l with
          | nil => exact absurd rfl hne
          | cons r l =>
            rw [hsize, hq r.length rfl]
            exact hlen r (by simp)
        cases mx with
        | none =>
          simp only [Option.map_none] at h fin
          split at h
          · cases h
          · rename_i hh hhe
            split at h
            · cases h
            · rename_i lw hle
              simp only [Option.some.injEq] at h
              subst h
              rw [← hn] at hhe
              obtain ⟨hr, hb1, hb2⟩ := bounds_none (P := P) (w := w) hf hhe hle hcap (Nat.le_refl _) true
              refine fin (rows_cut hn hlen ha hv hb1 hb2 (Nat.le_trans hb2 hcap) hs (fun e => ?_)) (sliceAt_run hu hinfo hr)
              simp only [Bool.and_eq_true, beq_iff_eq] at e
              have := ht e.1
              omega
        | some m =>
          simp only [Option.map_some] at h fin
          split at h
          · cases h
          · rename_i hhi
            cases hi' with
            | none => simp at hhi
            | some hi2 =>
              simp only [Option.map_some] at h fin
              split at h
              · cases h
              · rename_i mm hme
                split at h
                · cases h
                · rename_i hh hhe
                  split at h
                  · cases h
                  · rename_i lw hle
                    simp only [Option.some.injEq] at h
                    subst h
                    rw [← hn] at hme
                    obtain ⟨hr, hb1, hb2, hb3⟩ := bounds_max (P := P) (w := w) (len := n) hf hme hhe hle hcap
                    refine fin (rows_cut hn hlen ha hv hb1 (Nat.le_trans hb2 hb3) hb2 hs (fun e => ?_)) (sliceAt_run hu hinfo hr)
                    simp only [beq_iff_eq] at e
                    omega
  · rename_i sz s off len cp e
    rw [e] at hx
    split at h
    · cases h
    · rename_i hok
      simp only [Bool.not_eq_true', Bool.not_eq_false] at hok
      obtain ⟨el, te, i, hu, hte, hinfo, hsize, hq⟩ := hsl _ hok
      have hsz : i.size = sz := by rw [hsize]; exact hq sz rfl
      generalize hax : a.eval x = ax at hx
      rw [hax] at fin
      cases hx with
      | osl _ _ _ _ _ lo' ad cap hρ hc h2 h3 k4 =>
        cases mx with
        | none =>
          simp only [Option.map_none, Option.isSome_none, Bool.false_eq_true, if_false] at h fin
          split at h
          · cases h
          · rename_i hh hhe
            split at h
            · cases h
            · rename_i lw hle
              simp only [Option.some.injEq] at h
              subst h
              obtain ⟨hr, hb1, hb2⟩ := bounds_none (P := P) (w := w) hf hhe hle h3 h2 true
              refine fin ?_ (sliceAt_run hu hinfo hr)
              rw [hsz]
              exact osl_cut hρ hc hb1 hb2 h3 (Nat.le_refl _) k4
        | some m =>
          simp only [Option.map_some, Option.isSome_some, if_true] at h fin
          split at h
          · cases h
          · rename_i hhi
            cases hi' with
            | none => simp at hhi
            | some hi2 =>
              simp only [Option.map_some] at h fin
              split at h
              · cases h
              · rename_i mm hme
                split at h
                · cases h
                · rename_i hh hhe
                  split at h
                  · cases h
                  · rename_i lw hle
                    simp only [Option.some.injEq] at h
                    subst h
                    obtain ⟨hr, hb1, hb2, hb3⟩ := bounds_max (P := P) (w := w) (len := len) hf hme hhe hle h3
                    refine fin ?_ (sliceAt_run hu hinfo hr)
                    rw [hsz]
                    exact osl_cut hρ hc hb1 hb2 (Nat.le_refl _) (Nat.le_trans hb3 h3) k4
  · cases h

end
end Go.Ab
/- More operations: lists, stores, maps. -/
namespace Go.Ab
open Go

section
variable {P : Program} {C : Cfg} {B : Base} {ρ : Rho} {im : Im} {st : St} {nt : Nat} {T : List AV} {a : Act} {w : World} {new : Nat} {v : AV} {o : Oper}

theorem store_good [Inhabited Val] (tok : TOk P C) (hi : Inv B ρ im st w) (hf : FRel ρ im nt T a) {t : TypeId} {x y : Operand} (ho : o.op = .store t x y) {ti : TI} (h1 : C.ty t = some ti) {s off : Nat} (hx : ev T x = .ptr s off) (hbar : st.bar ≤ s)
    {cs cs' : List AV} (hg : hget st.h s = some (.cells cs)) (hlen : (ev T y).cells.length = ti.size) (hone : (ev T y).cells.all AV.one = true) (hp : putCells cs off (ev T y).cells = some cs') :
    Good P B ρ im st (hputs st.h [(s, .cells cs')]) new .undef ((execOp a.eval o).run P w) := by
  obtain ⟨i, z, hinfo, hsize, _⟩ := (tok t ti h1).info
  have hex := hf.ev x
  rw [hx] at hex
  generalize hax : a.eval x = ax at hex
  cases hex with
  | ptr _ _ loc hr =>
    have hl := (hf.ev y).cells (one_not_bad hone)
    have h1c : ∀ u ∈ (a.eval y).cells.toList, u.oneCell' = true := fun u hu => by
      obtain ⟨j, hj⟩ := List.getElem?_of_mem hu
      have hlt : j < (ev T y).cells.length := by
        rw [← hl.1]
        exact (List.getElem?_eq_some_iff.1 hj).1
      have hv := hl.2 j
      rw [List.getD_eq_getElem?_getD, List.getD_eq_getElem?_getD, hj, List.getElem?_eq_getElem hlt] at hv
      exact vrel_not_bad hv (List.all_eq_true.1 hone _ (List.getElem_mem hlt))
    obtain ⟨w', hrun, hinv⟩ := turn_cells (P := P) hi hg hr (by rw [← hi.bar]; exact hbar) hp hl h1c
    refine ⟨_, w', ρ, .inr ⟨?_, rfl⟩, .undef, hinv, rhoExt_refl _, fun _ _ => rfl⟩
    have hsz : (a.eval y).cells.size = i.size := by have := hl.1; simp only [Array.length_toList] at this; omega
    simp [execOp, ho, hax, Instr.storeAt, Instr.sureAddr, storeVar, run_sizeOf' hinfo, hsz, hrun]

theorem indexAddr_good [Inhabited Val] (tok : TOk P C) (hi : Inv B ρ im st w) (hf : FRel ρ im nt T a) {t e : TypeId} {x y : Operand} (ho : o.op = .indexAddr t x y) {ti te : TI} (h1 : C.ty t = some ti) (hk : ti.kind = .slice e) (h2 : C.ty e = some te)
    {k : IntKind} {n : Int} (hy : ev T y = .int k n)
    (h : (∃ tg l r, ev T x = .rows tg l ∧ 0 ≤ n ∧ n < (l.length : Int) ∧ l[n.toNat]? = some r ∧ r.length = te.size ∧ te.size ≠ 0 ∧ v = .iptr r 0) ∨
         (∃ sz s off len cp, ev T x = .osl sz s off len cp ∧ 0 ≤ n ∧ n < (len : Int) ∧ sz = te.size ∧ v = .ptr s (off + n.toNat * sz))) :
    Good P B ρ im st st.h new v ((execOp a.eval o).run P w) := by
  obtain ⟨i, z, hinfo, hsize, _⟩ := (tok e te h2).info
  have hu : P.underlying t = some (.slice e) := by have q := (tok t ti h1).kind; unfold KindOk at q; simpa only [hk] using q
  have hey := hf.ev y
  rw [hy] at hey
  have hvy := of_int hey
  have hex := hf.ev x
  rcases h with ⟨tg, l, r, hx, h0, hn, hr, hrl, hz, rfl⟩ | ⟨sz, s, off, len, cp, hx, h0, hn, hsz, rfl⟩
  · rw [hx] at hex
    generalize hax : a.eval x = ax at hex
    cases hex with
    | rows _ _ ad m cap sz val hm hlen hcap ht ha hv =>
      have hne : l ≠ [] := fun e => by subst e; simp at hr
      obtain ⟨b, q, e1, hc⟩ := ha hne
      have hrsz : r.length = sz := hlen r (List.mem_of_getElem? hr)
      have hlt : n.toNat < l.length := (List.getElem?_eq_some_iff.1 hr).1
      refine Good.plain (rv := .pointer (some ⟨b, q + n.toNat * sz + 0, none⟩)) hi (.iptr r 0 b (q + n.toNat * sz) (fun j => val n.toNat j) (fun j hj => hc _ _ hlt (by omega)) (fun j => ?_)) ?_
      · have := (hv n.toNat j).up (ρ := ρ)
        simpa [List.getD_eq_getElem?_getD, hr] using this
      · have hn' : n < (m : Int) := by omega
        have hs2 : i.size = sz := by omega
        simp [execOp, ho, hax, hvy, Instr.indexAt, asIntOf, run_underlying hu, e1, h0, hn', run_sizeOf' hinfo, hs2, Addr.add_lit]
  · rw [hx] at hex
    generalize hax : a.eval x = ax at hex
    cases hex with
    | osl _ _ _ _ _ lo ad cap hρ hc h2 h3 =>
      obtain ⟨loc, e1, e2, e3⟩ := hc (by omega)
      subst e1
      refine Good.plain (rv := .pointer (some ⟨loc.blk, loc.delta + (off + n.toNat * sz), none⟩)) hi (.ptr _ _ loc hρ) ?_
      have hs2 : i.size = sz := by omega
      simp [execOp, ho, hax, hvy, Instr.indexAt, asIntOf, run_underlying hu, e2, h0, hn, run_sizeOf' hinfo, hs2, Addr.add_lit, Nat.add_assoc]

theorem index_good [Inhabited Val] (tok : TOk P C) (hi : Inv B ρ im st w) (hf : FRel ρ im nt T a) {t : TypeId} {x y : Operand} (ho : o.op = .index t x y) {ti : TI} (h1 : C.ty t = some ti) (hk : ti.kind = .str)
    {l : List UInt8} (hx : ev T x = .str l) {k : IntKind} {n : Int} (hy : ev T y = .int k n) (h0 : 0 ≤ n) {b : UInt8} (hb : l[n.toNat]? = some b) : Good P B ρ im st st.h new (.int .u8 b.toNat) ((execOp a.eval o).run P w) := by
  have hu : P.underlying t = some .string := by have q := (tok t ti h1).kind; unfold KindOk at q; simpa only [hk] using q
  have hey := hf.ev y
  rw [hy] at hey
  have hvy := of_int hey
  have hex := hf.ev x
  rw [hx] at hex
  obtain ⟨s, e, hs⟩ := of_str hex
  refine Good.plain (rv := .int .u8 b.toNat) hi (.int _ _) ?_
  have hsb : s[n.toNat]? = some b := by
    have hlt : n.toNat < l.length := (List.getElem?_eq_some_iff.1 hb).1
    have hlt' : n.toNat < s.size := by rw [← hs] at hlt; simpa using hlt
    rw [← hs] at hb
    simp only [Array.getElem?_toList] at hb
    have e1 : s[n.toNat]? = some (s[n.toNat]'hlt') := by simp [hlt']
    rw [e1]
    have e2 : s.data[n.toNat]? = some (s.data[n.toNat]'(by simpa using hlt')) := by simp
    rw [e2] at hb
    simp only [Option.some.injEq] at hb ⊢
    exact hb
  simp [execOp, ho, e, hvy, Instr.index, asIntOf, run_underlying hu, h0, hsb]

theorem len_run [Inhabited Val] {h : Heap} (hi : Inv B ρ im st w) (hh : ∀ s o, hget h s = some o → hget st.h s = some o) {t : TypeId} {ti : TI} (tk : TyOk P t ti) {x : AV} {rx : Value} (hx : VRel ρ im x rx) {n : Nat} (hn : lenA ti h x = some n) (ty : TypeId) :
    (Builtin.len_ #[t] ty #[rx]).run P w = .ok (.int .i64 n) w := by
  have q := tk.kind
  unfold KindOk at q
  unfold lenA at hn
  split at hn
  · rename_i s
    split at hn
    · rename_i hk
      simp only [hk] at q
      simp only [Option.some.injEq] at hn
      obtain ⟨bs, rfl, e⟩ := of_str hx
      have : bs.size = n := by rw [← hn, ← e]; simp
      simp [Builtin.len_, run_underlying q, goInt, this]
    · cases hn
  · rename_i tg l
    split at hn
    · rename_i e hk
      simp only [hk] at q
      simp only [Option.some.injEq] at hn
      cases hx with
      | rows _ _ ad m cap sz val hm hlen hcap ht ha hv =>
        simp [Builtin.len_, run_underlying q, goInt]
        omega
    · cases hn
  · rename_i sz s off len cp
    split at hn
    · rename_i e hk
      simp only [hk] at q
      simp only [Option.some.injEq] at hn
      cases hx with
      | osl _ _ _ _ _ lo ad cap hρ hc h2 h3 =>
        simp [Builtin.len_, run_underlying q, goInt]
        omega
    · cases hn
  · split at hn
    · rename_i k e hk
      simp only [hk] at q
      simp only [Option.some.injEq] at hn
      subst hn
      cases hx
      simp [Builtin.len_, run_underlying q, goInt]
    · cases hn
  · rename_i s
    split at hn
    · rename_i k e hk
      simp only [hk] at q
      split at hn
      · rename_i es hg
        simp only [Option.some.injEq] at hn
        cases hx with
        | map _ loc hρ =>
          obtain ⟨loc', hr', _, ents, clock, hw, hke, _⟩ := hi.obj s _ (hh s _ hg)
          rw [hρ] at hr'
          simp only [Option.some.injEq] at hr'
          subst hr'
          have hsz : ents.size = n := by have := hke.1; simp at this; omega
          simp [Builtin.len_, run_underlying q, goInt, getObj, Sem.run, hw, hsz]
      · cases hn
    · cases hn
  · cases hn

theorem len_good [Inhabited Val] (tok : TOk P C) (hi : Inv B ρ im st w) (hf : FRel ρ im nt T a) {h : Heap} (hh : ∀ s o, hget h s = some o → hget st.h s = some o) {args : Array Operand} {ats : Array TypeId} (ho : o.op = .call { callee := .builtin .len, args, argTypes := ats })
    {x : Operand} (hargs : args.toList = [x]) {t : TypeId} (hat : ats.toList = [t]) {ti : TI} (h1 : C.ty t = some ti) {n : Nat} (hn : lenA ti h (ev T x) = some n) : Good P B ρ im st st.h new (.int .i64 n) ((execOp a.eval o).run P w) := by
  obtain rfl : args = #[x] := by rw [← hargs]
  obtain rfl : ats = #[t] := by rw [← hat]
  refine Good.plain (rv := .int .i64 n) hi (.int _ _) ?_
  have hr := len_run (P := P) hi hh (tok t ti h1) (hf.ev x) hn o.type
  simp only [execOp, ho, resolve, Sem.run_bind, Sem.run_pure, Result.andThen_ok, invoke, builtin]
  simp only [List.map_toArray, List.map_cons, List.map_nil]
  rw [hr]
  rfl

theorem min_good [Inhabited Val] (hi : Inv B ρ im st w) (hf : FRel ρ im nt T a) {args : Array Operand} {ats : Array TypeId} (ho : o.op = .call { callee := .builtin .min, args, argTypes := ats })
    {n m : Int} (hargs : args.toList.map (ev T) = [.int .i64 n, .int .i64 m]) : Good P B ρ im st st.h new (.int .i64 (if m < n then m else n)) ((execOp a.eval o).run P w) := by
  obtain ⟨l⟩ := args
  cases l with
  | nil => simp at hargs
  | cons x l => cases l with
    | nil => simp at hargs
    | cons y l => cases l with
      | cons _ _ => simp at hargs
      | nil =>
        simp only [List.map_cons, List.map_nil, List.cons.injEq, and_true] at hargs
        have h1 := hf.ev x
        have h2 := hf.ev y
        rw [hargs.1] at h1
        rw [hargs.2] at h2
        refine Good.plain (rv := .int .i64 (if m < n then m else n)) hi (.int _ _) ?_
        simp [execOp, ho, resolve, invoke, builtin, of_int h1, of_int h2, Builtin.min_, Builtin.min2]

theorem max_good [Inhabited Val] (hi : Inv B ρ im st w) (hf : FRel ρ im nt T a) {args : Array Operand} {ats : Array TypeId} (ho : o.op = .call { callee := .builtin .max, args, argTypes := ats })
    {n m : Int} (hargs : args.toList.map (ev T) = [.int .i64 n, .int .i64 m]) : Good P B ρ im st st.h new (.int .i64 (if m > n then m else n)) ((execOp a.eval o).run P w) := by
  obtain ⟨l⟩ := args
  cases l with
  | nil => simp at hargs
  | cons x l => cases l with
    | nil => simp at hargs
    | cons y l => cases l with
      | cons _ _ => simp at hargs
      | nil =>
        simp only [List.map_cons, List.map_nil, List.cons.injEq, and_true] at hargs
        have h1 := hf.ev x
        have h2 := hf.ev y
        rw [hargs.1] at h1
        rw [hargs.2] at h2
        refine Good.plain (rv := .int .i64 (if m > n then m else n)) hi (.int _ _) ?_
        simp [execOp, ho, resolve, invoke, builtin, of_int h1, of_int h2, Builtin.max_, Builtin.max2]

end
end Go.Ab
