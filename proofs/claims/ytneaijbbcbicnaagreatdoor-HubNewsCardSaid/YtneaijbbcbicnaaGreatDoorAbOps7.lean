/- More operations: append, clear, a list that is written out. -/
import Derived.Test.YtneaijbbcbicnaaGreatDoorAbOps6
namespace Go.Ab
open Go

section
variable {P : Program} {C : Cfg} {B : Base} {ρ : Rho} {im : Im} {st : St} {nt : Nat} {T : List AV} {a : Act} {w : World} {new : Nat} {v : AV} {o : Oper}

/-- Memory that nobody speaks of. -/
theorem Inv.garbage [Inhabited Val] (h : Inv B ρ im st w) (x : Obj) : Inv B ρ im st (w.alloc x) := by
  have hold : ∀ b, b < w.heap.size → (w.alloc x).heap[b]? = w.heap[b]? := fun b hb => heap_alloc_old w x b hb
  refine ⟨h.rho, h.imx, h.imo, fun b y hb => ?_, fun s y hy => (h.obj s y hy).mono (rhoExt_refl _) (imExt_refl _) fun k hk hl => ⟨hold _ ((h.obj s y hy).at_ hl hk).2, ((h.obj s y hy).at_ hl hk).1⟩, h.inj, h.new, h.cle, h.bar, h.os, h.tape, h.output,
    Nat.le_trans h.size (by simp), h.own, fun b hb hno => ?_⟩
  · rw [hold b (lt_of_some (h.imw b y hb))]; exact h.imw b y hb
  · rw [hold b (Nat.lt_of_lt_of_le hb h.size)]; exact h.frame b hb hno

theorem sameMem_drew (w : World) : SameMem w w.drew := ⟨rfl, rfl, rfl, rfl⟩

theorem lrel_replicate [Inhabited Val] {zs : List AV} {vs : List Value} (h : LRel ρ im zs vs) (n : Nat) : LRel ρ im (List.replicate n zs).flatten (List.replicate n vs).flatten := by
  induction n with
  | zero => exact .nil _ _
  | succ n ih => simp only [List.replicate_succ, List.flatten_cons]; exact h.append ih

theorem zeros_eq (zero : Array Value) (n : Nat) : ((Array.range (n * zero.size)).map (fun i => zero[i % zero.size]!)).toList = (List.replicate n zero.toList).flatten := by
  induction n with
  | zero => simp
  | succ n ih =>
    have e : (Array.range ((n + 1) * zero.size)).map (fun i => zero[i % zero.size]!) = (Array.range zero.size).map (fun i => zero[i % zero.size]!) ++ (Array.range (n * zero.size)).map (fun i => zero[i % zero.size]!) := by
      rw [Nat.add_mul, Nat.one_mul, Nat.add_comm (n * zero.size)]
      apply Array.ext
      · simp
      · intro i h1 h2
        simp only [Array.getElem_map, Array.getElem_range, Array.getElem_append, Array.size_map, Array.size_range]
        split
        · rfl
        · rename_i hge
          congr 1
          rw [Nat.mod_eq_sub_mod (by omega)]
    rw [e, Array.toList_append, ih, List.replicate_succ, List.flatten_cons]
    congr 1
    apply List.ext_getElem?
    intro i
    by_cases hi : i < zero.size
    · simp [hi, Nat.mod_eq_of_lt hi]
    · simp [hi]

theorem zeroCells_eq [Inhabited Val] (zero : Array Value) (n : Nat) : (Builtin.zeroCells zero n).toList = (List.replicate n zero.toList).flatten := zeros_eq zero n

theorem buildSlice_nil_good [Inhabited Val] (tok : TOk P C) (hi : Inv B ρ im st w) {t e : TypeId} {parts : Array (Nat × Operand)} (ho : o.op = .buildSlice t 0 parts) (hp : parts.isEmpty = true) {ti te : TI} (h1 : C.ty t = some ti) (hk : ti.kind = .slice e) (h2 : C.ty e = some te) :
    Good P B ρ im st st.h new (.rows true []) ((execOp a.eval o).run P w) := by
  obtain ⟨i, z, hinfo, hsize, _⟩ := (tok e te h2).info
  have hu : P.underlying t = some (.slice e) := by have q := (tok t ti h1).kind; unfold KindOk at q; simpa only [hk] using q
  obtain rfl : parts = #[] := by simpa using hp
  refine ⟨.slice (some ⟨w.heap.size, 0, none⟩) 0 0, w.alloc (.cells #[] e), ρ, .inl ?_, ?_, hi.garbage _, rhoExt_refl _, fun _ _ => rfl⟩
  · simp [execOp, ho, Instr.buildSlice, run_underlying hu, run_sizeOf' hinfo, Instr.fill, newRow, Array.range_zero']
  · exact .rows true [] _ 0 0 0 (fun _ _ => Go.undef) rfl (by simp) (Nat.le_refl _) (fun _ => rfl) (fun h => absurd rfl h) (fun i j => by simpa using VRel.bad _)

theorem buildSlice_good [Inhabited Val] (tok : TOk P C) (hi : Inv B ρ im st w) (hf : FRel ρ im nt T a) (hn : ρ new = none) (hc : new < st.c) {t e : TypeId} {len : Nat} {parts : Array (Nat × Operand)} (ho : o.op = .buildSlice t len parts) {ti te : TI} (h1 : C.ty t = some ti) (hk : ti.kind = .slice e) (h2 : C.ty e = some te)
    (hl0 : len ≠ 0) (hz0 : te.size ≠ 0) (hle : len * te.size ≤ 16777216) (hzl : te.zero.length = te.size) {cs : List AV} (h : fillA (fun i => some (i * te.size, te.size)) ((List.replicate len te.zero).flatten) (parts.toList.map fun p => (p.1, ev T p.2)) = some cs)
    (hcs : len * te.size ≤ cs.length) : Good P B ρ im st (hputs st.h [(new, .cells cs)]) new (.osl te.size new 0 len len) ((execOp a.eval o).run P w) := by
  obtain ⟨i, z, hinfo, hsize, _, hz, hzs, hlz⟩ := (tok e te h2).info
  have hu : P.underlying t = some (.slice e) := by have q := (tok t ti h1).kind; unfold KindOk at q; simpa only [hk] using q
  have hlr : LRel ρ im (List.replicate len te.zero).flatten ((Array.range (len * i.size)).map (fun q => z.cells[q % z.cells.size]!)).toList := by
    rw [hsize, ← hzs, zeros_eq]
    exact lrel_replicate (hlz ρ im) len
  obtain ⟨us, hus, hlu⟩ := fill_rel (ρ := ρ) (im := im) _ (fun q => some (q * i.size, i.size)) (fun q p hp => by rw [hsize]; exact hp) hf parts.toList _ _ cs hlr h
  have hne : len * i.size ≠ 0 := by rw [hsize]; exact Nat.mul_ne_zero hl0 hz0
  have hp : (parts.map fun (i, x) => (i, a.eval x)).toList = parts.toList.map fun p => (p.1, a.eval p.2) := by simp
  have hsz : us.size = cs.length := by have := hlu.1; simpa using this
  refine ⟨.slice (some ⟨w.heap.size, 0, none⟩) len len, w.alloc (.cells us e), rset ρ new (some ⟨w.heap.size, 0, us.size⟩), .inl ?_, ?_, hi.alloc hn hc _ (.cells cs) ⟨w.heap.size, 0, us.size⟩ rfl (fun him => alloc_orel w new e hn hlu him), rset_ext _ hn, fun s hs => rset_other ρ _ hs⟩
  · have h24 : ¬ (len * i.size > 2 ^ 24) := by rw [hsize]; omega
    simp only [execOp, ho, Instr.buildSlice, Sem.run_bind, run_underlying hu, Result.andThen_ok, run_sizeOf' hinfo, h24, if_false, hne, zeroValue, typeInfo, run_program, hinfo, Sem.run_pure, hz, hp, hus]
    simp [newRow]
  · refine .osl _ _ _ _ _ (some ⟨w.heap.size, 0, us.size⟩) _ _ (rset_same _ _ _) (fun _ => ⟨_, rfl, rfl, by simp; omega⟩) (Nat.le_refl _) (Nat.le_refl _)

theorem len_flat (sz : Nat) : ∀ (m : Nat) (f : Nat → Nat → Value), ((List.range m).flatMap fun i => (List.range sz).map (f i)).length = m * sz
  | 0, _ => by simp
  | m + 1, f => by
    simp only [List.range_succ_eq_map, List.flatMap_cons, List.flatMap_map, List.length_append, List.length_map, List.length_range]
    rw [len_flat sz m fun i => f (i + 1), Nat.add_mul]
    omega

/-- The elements that an append takes. -/
theorem elems_run [Inhabited Val] (hi : Inv B ρ im st w) {h : Heap} (hh : ∀ s o, hget h s = some o → hget st.h s = some o) {sz n : Nat} (hsz : sz ≠ 0) {x : AV} {rx : Value} (hx : VRel ρ im x rx) {cs : List AV} (he : elemsOf h sz x = some (n, cs)) :
    ∃ vs : List Value, LRel ρ im cs vs ∧ vs.length = n * sz ∧ (Builtin.lenOf rx).run P w = .ok n w ∧ (Builtin.firstCells sz n rx).run P w = .ok vs.toArray w ∧ (Builtin.firstCells sz n rx).run P w.drew = .ok vs.toArray w.drew := by
  unfold elemsOf at he
  split at he
  · rename_i tg l
    split at he
    · rename_i hall
      simp only [Option.some.injEq, Prod.mk.injEq] at he
      obtain ⟨rfl, rfl⟩ := he
      cases hx with
      | rows _ _ ad m cap sz' val hm hlen hcap ht ha hv =>
        subst hm
        cases hl : l with
        | nil =>
          refine ⟨[], by simpa using LRel.nil ρ im, by simp, by simp [Builtin.lenOf], ?_⟩
          cases ad with
          | none => simp [Builtin.firstCells]
          | some ad => simp [Builtin.firstCells, loadCells, loadCellsFrom]
        | cons r0 l0 =>
          have hne : l ≠ [] := by rw [hl]; simp
          have hs' : sz' = sz := by
            have h1 := hlen r0 (by rw [hl]; simp)
            have h2 := List.all_eq_true.1 hall r0 (by rw [hl]; simp)
            simp only [beq_iff_eq] at h2
            omega
          subst hs'
          rw [← hl]
          obtain ⟨b, q, e, hc⟩ := ha hne
          subst e
          have hcell : ∀ i j, i < l.length → j < sz' → w.cell? ⟨b, q + i * sz' + j, none⟩ = some (val i j) := fun i j hi' hj => by
            have h1 := hc i j hi' hj
            unfold imCell at h1
            split at h1
            · rename_i c e f hb
              rw [cell_of_row w b _ c e f (hi.imw _ _ hb)]
              exact h1
            · cases h1
          have key : ∀ (k : Nat) (l' : List (List AV)) (f : Nat → Nat → Value), (∀ r, r ∈ l' → r.length = sz') → (∀ i j, VRel ρ im ((l'.getD i []).getD j .bad) (f i j)) →
              LRel ρ im l'.flatten ((List.range l'.length).flatMap fun i => (List.range sz').map (f i)) := by
            intro k l'
            induction l' with
            | nil => intro f _ _; exact .nil _ _
            | cons r l' ih =>
              intro f h1 h2
              have := ih (fun i j => f (i + 1) j) (fun r hr => h1 r (by simp [hr])) (fun i j => by simpa using h2 (i + 1) j)
              simp only [List.flatten_cons, List.length_cons, List.range_succ_eq_map, List.flatMap_cons, List.flatMap_map]
              refine LRel.append ⟨by simp [h1 r (by simp)], fun j => ?_⟩ this
              have hr := h1 r (by simp)
              by_cases hj : j < sz'
              · have := h2 0 j
                simpa [List.getD_eq_getElem?_getD, hj] using this
              · have : r.getD j .bad = .bad := by simp [List.getD_eq_getElem?_getD, List.getElem?_eq_none (show r.length ≤ j by omega)]
                rw [this]
                exact .bad _
          have hlr := key 0 l val hlen fun i j => (hv i j).up
          have hlen' : ((List.range l.length).flatMap fun i => (List.range sz').map (val i)).length = l.length * sz' := len_flat sz' l.length val
          have hget : ∀ j u, ((List.range l.length).flatMap fun i => (List.range sz').map (val i))[j]? = some u → w.cell? ((⟨b, q, none⟩ : Addr).add j) = some u := by
            have g : ∀ (m : Nat) (f : Nat → Nat → Value) (j : Nat) (u : Value), ((List.range m).flatMap fun i => (List.range sz').map (f i))[j]? = some u → ∃ i k, j = i * sz' + k ∧ i < m ∧ k < sz' ∧ u = f i k := by
              intro m
              induction m with
              | zero => intro f j u hu; simp at hu
              | succ m ih =>
                intro f j u hu
                simp only [List.range_succ_eq_map, List.flatMap_cons, List.flatMap_map, List.getElem?_append, List.length_map, List.length_range] at hu
                split at hu
                · rename_i hj
                  refine ⟨0, j, by simp, by omega, hj, ?_⟩
                  simp [hj] at hu
                  exact hu.symm
                · rename_i hj
                  obtain ⟨i, k, e1, e2, e3, e4⟩ := ih (fun i k => f (i + 1) k) _ u hu
                  exact ⟨i + 1, k, by rw [Nat.add_mul]; omega, by omega, e3, e4⟩
            intro j u hu
            obtain ⟨i, k, e1, e2, e3, e4⟩ := g l.length val j u hu
            rw [Addr.add_lit, e4, e1, ← Nat.add_assoc]
            exact hcell i k e2 e3
          exact ⟨_, hlr, hlen', by simp [Builtin.lenOf], run_firstCells_some w sz' l.length ⟨b, q, none⟩ _ cap _ hlen' hget, run_firstCells_some w.drew sz' l.length ⟨b, q, none⟩ _ cap _ hlen' (fun j u hu => by rw [World.cell?_drew]; exact hget j u hu)⟩
    · cases he
  · rename_i sz' s off len cp
    split at he
    · cases he
    · rename_i hs'
      have hs'' : sz' = sz := Decidable.of_not_not hs'
      subst hs''
      split at he
      · rename_i ds hg
        split at he
        · rename_i hle
          simp only [Option.some.injEq, Prod.mk.injEq] at he
          obtain ⟨rfl, rfl⟩ := he
          cases hx with
          | osl _ _ _ _ _ lo ad cap hρ hc h2 h3 =>
            by_cases hl0 : len = 0
            · subst hl0
              refine ⟨[], by simpa using LRel.nil ρ im, by simp, by simp [Builtin.lenOf], ?_⟩
              cases ad with
              | none => simp [Builtin.firstCells]
              | some ad => simp [Builtin.firstCells, loadCells, loadCellsFrom]
            · obtain ⟨loc, e1, e2, e3⟩ := hc (by omega)
              subst e1 e2
              obtain ⟨_, arr, ty, hw, hs, hdl, hlr⟩ := cells_at hi (hh s _ hg) hρ
              have hl2 := lrel_part hlr off (len * sz')
              have hlen : ((((arr.toList.drop loc.delta).take ds.length).drop off).take (len * sz')).length = len * sz' := by
                simp only [List.length_take, List.length_drop, Array.length_toList]
                omega
              have hget : ∀ j u, ((((arr.toList.drop loc.delta).take ds.length).drop off).take (len * sz'))[j]? = some u → w.cell? ((⟨loc.blk, loc.delta + off, none⟩ : Addr).add j) = some u := fun j u hu => by
                rw [Addr.add_lit, cell_of_row w _ _ arr ty _ hw]
                rw [List.getElem?_take] at hu
                split at hu
                · rw [List.getElem?_drop, List.getElem?_take] at hu
                  split at hu
                  · rw [List.getElem?_drop] at hu
                    rw [← Array.getElem?_toList, Nat.add_assoc]
                    exact hu
                  · cases hu
                · cases hu
              exact ⟨_, hl2, hlen, by simp [Builtin.lenOf], run_firstCells_some w sz' len _ len cap _ hlen hget, run_firstCells_some w.drew sz' len _ len cap _ hlen (fun j u hu => by rw [World.cell?_drew]; exact hget j u hu)⟩
        · cases he
      · cases he
  · cases he

/-- The machine's append, where there is room. -/
theorem append_room_run {t e : TypeId} {i : TypeInfo} (ht : P.underlying t = some (.slice e)) (hi : P.info? e = some i) {n cap m : Nat} {ad : Option Addr} {rx : Value} {news : List Value} (hl : (Builtin.lenOf rx).run P w = .ok m w)
    (hf : (Builtin.firstCells i.size m rx).run P w = .ok news.toArray w) (hr : n + m ≤ cap) {w' : World} (hs : match ad with | none => w' = w | some a => (storeCells (a.add (n * i.size)) news).run P w = .ok () w') (ty : TypeId) :
    (Builtin.append_ #[t, t] ty #[.slice ad n cap, rx]).run P w = .ok (.slice ad (n + m) cap) w' := by
  cases ad with
  | none =>
    simp only at hs
    subst hs
    simp [Builtin.append_, run_underlying ht, sizeOf, typeInfo, hi, hl, hr, hf]
  | some a =>
    simp only at hs
    simp [Builtin.append_, run_underlying ht, sizeOf, typeInfo, hi, hl, hr, hf, hs]

/-- .. and where there is none. -/
theorem append_grow_run {t e : TypeId} {i : TypeInfo} {z : Value} (ht : P.underlying t = some (.slice e)) (hi : P.info? e = some i) (hz : i.zero = some z) {n cap m : Nat} {ad : Option Addr} {rx : Value} {olds news : List Value} (hl : (Builtin.lenOf rx).run P w = .ok m w)
    (hf : (Builtin.firstCells i.size m rx).run P w.drew = .ok news.toArray w.drew) (hfo : (Builtin.firstCells i.size n (.slice ad n cap)).run P w.drew = .ok olds.toArray w.drew) (hg : cap < n + m) (h63 : n + m ≤ 9223372036854775807) (hb : (n + m) * i.bytes ≤ 140737488355328) (ty : TypeId) :
    (Builtin.append_ #[t, t] ty #[.slice ad n cap, rx]).run P w = .ok (.slice (some ⟨w.heap.size, 0, none⟩) (n + m) (grownCap w (n + m) cap e))
      (w.drew.alloc (.cells (olds.toArray ++ news.toArray ++ Builtin.zeroCells z.cells (grownCap w (n + m) cap e - (n + m))) e)) := by
  have hn : ¬ (n + m ≤ cap) := by omega
  have h63' : ¬ (9223372036854775807 < ((n : Int) + (m : Int))) := by omega
  have hfit := growslice_fits hg hb
  have h48' : ¬ (281474976710656 < Builtin.nextslicecap (n + m) cap * i.bytes) := by omega
  simp [Builtin.append_, run_underlying ht, sizeOf, typeInfo, zeroValue, hi, hz, hl, hn, h63', h48', Question.forced, hf, hfo, newRow, grownCap]
  congr 2
  apply Array.ext'
  simp

end
end Go.Ab
