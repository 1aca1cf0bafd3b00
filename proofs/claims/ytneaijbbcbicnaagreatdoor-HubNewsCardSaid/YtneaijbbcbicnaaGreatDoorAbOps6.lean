/- More operations: maps. -/
import Derived.Test.YtneaijbbcbicnaaGreatDoorAbOps5
import Derived.MapKept
namespace Go.Ab
open Go MapKept

section
variable {P : Program} {C : Cfg} {B : Base} {ρ : Rho} {im : Im} {st : St} {nt : Nat} {T : List AV} {a : Act} {w : World} {new : Nat} {v : AV} {o : Oper}

theorem keyMatch_of [Inhabited Val] {t : TypeId} {tk : TI} (h : TyOk P t tk) {v : AV} {x : Value} (hm : keyMatch tk v = true) (hv : VRel ρ im v x) : ∃ d, P.underlying t = some d ∧ IsKey d x := by
  have q := h.kind
  unfold KindOk at q
  unfold keyMatch at hm
  split at hm
  · rename_i hk
    simp only [hk] at q
    obtain ⟨s, rfl, _⟩ := of_str hv
    exact ⟨_, q, trivial⟩
  · rename_i hk
    simp only [hk] at q
    obtain rfl := of_bool hv
    exact ⟨_, q, trivial⟩
  · rename_i hk
    simp only [hk] at q
    obtain rfl := of_int hv
    simp only [beq_iff_eq] at hm
    exact ⟨_, q, by simp [IsKey, hm]⟩
  · cases hm

theorem eqOne_now [Inhabited Val] {d : TypeDesc} {k q : AV} {rk rq : Value} (hd : IsKey d rk) (hk : VRel ρ im k rk) (hq : VRel ρ im q rq) {b : Bool} (h : eqOne k q = some b) : Instr.sameNow d rk rq = some b ∧ (b = true → rq = rk) := by
  unfold eqOne at h
  split at h
  · simp only [Option.some.injEq] at h; subst h
    obtain rfl := of_bool hk
    obtain rfl := of_bool hq
    cases d <;> simp [IsKey] at hd
    exact ⟨rfl, fun e => by rw [beq_iff_eq.1 e]⟩
  · split at h
    · rename_i e
      subst e
      simp only [Option.some.injEq] at h; subst h
      obtain rfl := of_int hk
      obtain rfl := of_int hq
      cases d <;> simp [IsKey] at hd
      exact ⟨by simp [Instr.sameNow], fun e => by rw [beq_iff_eq.1 e]⟩
    · cases h
  · simp only [Option.some.injEq] at h; subst h
    obtain ⟨s, rfl, e1⟩ := of_str hk
    obtain ⟨s', rfl, e2⟩ := of_str hq
    cases d <;> simp [IsKey] at hd
    have : (s == s') = (s.data.toList == s'.data.toList) := by
      have e : (s == s') = (s.data == s'.data) := rfl
      rw [e, Bool.eq_iff_iff]
      simp only [beq_iff_eq]
      exact ⟨fun h => by rw [h], fun h => Array.ext' h⟩
    rw [e1, e2] at this
    refine ⟨by simp only [Instr.sameNow]; exact congrArg some this, fun e => ?_⟩
    rw [← e1, ← e2] at e
    rw [ByteArray.ext (Array.ext' (beq_iff_eq.1 e))]
  · cases h

theorem findA_now [Inhabited Val] {d : TypeDesc} {k : AV} {rk : Value} (hd : IsKey d rk) (hk : VRel ρ im k rk) : ∀ (es : List (AV × AV)) (ents : List MapEntry) (i : Nat) (r : Option (Nat × AV)), LRel ρ im (es.map (·.1)) (ents.map (·.key)) → LRel ρ im (es.map (·.2)) (ents.map (·.val)) →
    findA k es i = some r → (r = none ∧ Instr.findNow d rk ents i = some none) ∨
      ∃ j u x e, r = some (i + j, u) ∧ Instr.findNow d rk ents i = some (some (i + j, x)) ∧ VRel ρ im u x ∧ ents[j]? = some e ∧ e.key = rk ∧ j < es.length := by
  intro es
  induction es with
  | nil =>
    intro ents i r h1 _ h
    obtain rfl : ents = [] := by have := h1.1; simpa using this
    simp only [findA, Option.some.injEq] at h
    exact .inl ⟨h.symm, rfl⟩
  | cons p es ih =>
    intro ents i r h1 h2 h
    obtain ⟨q, u⟩ := p
    cases ents with
    | nil => have := h1.1; simp at this
    | cons e ents =>
      simp only [List.map_cons] at h1 h2
      obtain ⟨hq, h1'⟩ := h1.head
      obtain ⟨hu, h2'⟩ := h2.head
      simp only [findA] at h
      split at h
      · rename_i he
        simp only [Option.some.injEq] at h
        obtain ⟨hs, hkey⟩ := eqOne_now hd hk hq he
        refine .inr ⟨0, u, e.val, e, by rw [← h]; simp, by simp [Instr.findNow, hs], hu, rfl, hkey rfl, by simp⟩
      · rename_i he
        obtain ⟨hs, _⟩ := eqOne_now hd hk hq he
        rcases ih ents (i + 1) r h1' h2' h with ⟨e1, e2⟩ | ⟨j, u', x, e', e1, e2, e3, e4, e5, e6⟩
        · exact .inl ⟨e1, by simp [Instr.findNow, hs, e2]⟩
        · refine .inr ⟨j + 1, u', x, e', by rw [e1, Nat.add_assoc, Nat.add_comm 1 j], ?_, e3, by simpa using e4, e5, by simp; omega⟩
          simp only [Instr.findNow, hs, e2]
          rw [Nat.add_assoc, Nat.add_comm 1 j]
      · cases h

theorem zero_run [Inhabited Val] {t : TypeId} {ti : TI} (tk : TyOk P t ti) {z : AV} (h : zeroA ti = some z) (w : World) : ∃ rz, (zeroValue t).run P w = .ok rz w ∧ VRel ρ im z rz := by
  obtain ⟨i, zv, hinfo, _, _, hz, _, hl⟩ := tk.info
  exact ⟨zv, by simp [zeroValue, typeInfo, hinfo, hz], tk.zero i zv hinfo hz ρ im z h⟩

theorem lookup_good [Inhabited Val] (tok : TOk P C) (hi : Inv B ρ im st w) (hf : FRel ρ im nt T a) {t k e : TypeId} {x ix : Operand} {ok : Bool} (ho : o.op = .lookup t x ix ok) {ti tk te : TI} (h1 : C.ty t = some ti) (hk : ti.kind = .map k e) (h2 : C.ty k = some tk) (h3 : C.ty e = some te)
    (hm : keyMatch tk (ev T ix) = true) {es : List (AV × AV)} (hx : (ev T x = .nilmap ∧ es = []) ∨ ∃ s, ev T x = .map s ∧ hget st.h s = some (.map es)) {r : Option (Nat × AV)} (hr : findA (ev T ix) es 0 = some r)
    (hv : (∃ j u, r = some (j, u) ∧ v = if ok then .tuple [u, .bool true] else u) ∨ (∃ z, r = none ∧ zeroA te = some z ∧ v = if ok then .tuple [z, .bool false] else z)) :
    Good P B ρ im st st.h new v ((execOp a.eval o).run P w) := by
  have hu : P.underlying t = some (.map k e) := by have q := (tok t ti h1).kind; unfold KindOk at q; simpa only [hk] using q
  have hix := hf.ev ix
  obtain ⟨d, hd, hkey⟩ := keyMatch_of (tok k tk h2) hm hix
  have hex := hf.ev x
  obtain ⟨ents, hents, hke, hva⟩ : ∃ ents : Array MapEntry, ((a.eval x = .map none ∧ ents = #[]) ∨ ∃ q clock, a.eval x = .map (some q) ∧ w.heap[q]? = some (.map ents clock)) ∧
      LRel ρ im (es.map (·.1)) (ents.toList.map (·.key)) ∧ LRel ρ im (es.map (·.2)) (ents.toList.map (·.val)) := by
    rcases hx with ⟨e1, rfl⟩ | ⟨s, e1, hg⟩
    · rw [e1] at hex
      generalize a.eval x = ax at hex
      cases hex
      exact ⟨#[], .inl ⟨rfl, rfl⟩, .nil _ _, .nil _ _⟩
    · rw [e1] at hex
      generalize a.eval x = ax at hex
      cases hex with
      | map _ loc hρ =>
        obtain ⟨loc', hr', _, ents, clock, hw, l1, l2⟩ := hi.obj s _ hg
        rw [hρ] at hr'
        simp only [Option.some.injEq] at hr'
        subst hr'
        exact ⟨ents, .inr ⟨_, clock, rfl, hw⟩, l1, l2⟩
  have fin : ∀ (u : AV) (ru : Value) (b : Bool), VRel ρ im u ru → (Instr.lookup t (a.eval x) (a.eval ix) ok).run P w = .ok (if ok then .tuple #[ru, .bool b] else ru) w → v = (if ok then .tuple [u, .bool b] else u) →
      Good P B ρ im st st.h new v ((execOp a.eval o).run P w) := fun u ru b hu' hrun hv' => by
    subst hv'
    refine Good.plain (rv := if ok then .tuple #[ru, .bool b] else ru) hi ?_ ?_
    · cases ok
      · exact hu'
      · exact VRel.tuple' (.cons hu' (.cons (.bool b) (.nil _ _)))
    · simp only [execOp, ho]
      rw [Sem.run_bind, hrun]
      rfl
  have hbody : ∀ (res : Option (Nat × Value)), Instr.findNow d (a.eval ix) ents.toList 0 = some res → (Instr.lookup t (a.eval x) (a.eval ix) ok).run P w =
      ((match res with | some (_, v) => pure (v, true) | none => do pure (← zeroValue e, false) : Sem (Value × Bool)).run P w).andThen fun p w => .ok (if ok then .tuple #[p.1, .bool p.2] else p.1) w := fun res hres => by
    have tail : (do
        Instr.checkKey ents.isEmpty 10000 k (a.eval ix)
        let __do_lift ← Instr.findKey k (a.eval ix) ents.toList
        match __do_lift with
          | some (_, v) => do
            let p ← pure (v, true)
            pure (if ok = true then Value.tuple #[p.1, Value.bool p.2] else p.1)
          | none => do
            let z ← zeroValue e
            let p ← pure (z, false)
            pure (if ok = true then Value.tuple #[p.1, Value.bool p.2] else p.1) : Sem Value).run P w =
        ((match (generalizing := false) res with | some (_, v) => pure (v, true) | none => do pure (← zeroValue e, false) : Sem (Value × Bool)).run P w).andThen fun p w => .ok (if ok then .tuple #[p.1, .bool p.2] else p.1) w := by
      rw [Sem.run_bind, run_checkKey hd hkey]
      simp only [Result.andThen_ok]
      rw [Sem.run_bind, run_findKey hd hres]
      cases res with
      | none =>
        simp only [Result.andThen_ok, Sem.run_bind]
        cases (zeroValue e).run P w with
        | ok z w' => rfl
        | halt _ _ => rfl
      | some p => rfl
    rcases hents with ⟨e1, e2⟩ | ⟨q, clock, e1, hw⟩
    · rw [e1]
      subst e2
      rw [← tail]
      simp only [Instr.lookup]
      rw [Sem.run_bind, run_underlying hu]
      rfl
    · rw [e1, ← tail]
      simp only [Instr.lookup]
      rw [Sem.run_bind, run_underlying hu]
      simp only [Result.andThen_ok]
      rw [Sem.run_bind, run_getObj_map hw]
      rfl
  rcases findA_now hkey hix es ents.toList 0 r hke hva hr with ⟨e1, e2⟩ | ⟨j, u, xv, en, e1, e2, e3, e4, e5, _⟩
  · rcases hv with ⟨j, u, e3, _⟩ | ⟨z, _, hz, hv⟩
    · rw [e1] at e3; cases e3
    · obtain ⟨rz, hrz, hvz⟩ := zero_run (P := P) (ρ := ρ) (im := im) (tok e te h3) hz w
      refine fin z rz false hvz ?_ hv
      rw [hbody none e2]
      simp [hrz]
  · rcases hv with ⟨j', u', e6, hv⟩ | ⟨z, e6, _, _⟩
    · rw [e1] at e6
      simp only [Option.some.injEq, Prod.mk.injEq] at e6
      obtain ⟨_, rfl⟩ := e6
      refine fin u xv true e3 ?_ hv
      rw [hbody _ e2]
      simp
    · rw [e1] at e6; cases e6

theorem lrel_set [Inhabited Val] {cs : List AV} {vs : List Value} (h : LRel ρ im cs vs) (i : Nat) {c : AV} {x : Value} (hv : VRel ρ im c x) : LRel ρ im (cs.set i c) (vs.set i x) := by
  refine ⟨by simpa using h.1, fun j => ?_⟩
  have h0 := h.1
  have := h.2 j
  rw [List.getD_eq_getElem?_getD, List.getD_eq_getElem?_getD] at this ⊢
  rw [List.getElem?_set, List.getElem?_set]
  by_cases e : i = j
  · subst e
    by_cases hl : i < cs.length
    · have : i < vs.length := by omega
      simpa [hl, this] using hv
    · have : ¬ i < vs.length := by omega
      simpa [hl, this] using VRel.bad _
  · simpa [e] using this

theorem turned_set {w : World} {r : Nat} (x : Obj) : Turned r w { w with heap := w.heap.setIfInBounds r x } :=
  ⟨by simp, fun b hb => by simp [Ne.symm hb], rfl, rfl, rfl⟩

theorem mapUpdate_good [Inhabited Val] (tok : TOk P C) (hi : Inv B ρ im st w) (hf : FRel ρ im nt T a) {t kt et : TypeId} {m k x : Operand} (ho : o.op = .mapUpdate t m k x ∨ o.op = .insert t m k x) {ti tk : TI} (h1 : C.ty t = some ti) (hk : ti.kind = .map kt et) (h2 : C.ty kt = some tk)
    (hm : keyMatch tk (ev T k) = true) {s : Nat} (hs : ev T m = .map s) (hbar : st.bar ≤ s) {es es' : List (AV × AV)} (hg : hget st.h s = some (.map es)) {r : Option (Nat × AV)} (hr : findA (ev T k) es 0 = some r)
    (he : (∃ j u, r = some (j, u) ∧ es' = es.modify j fun _ => (ev T k, ev T x)) ∨ (r = none ∧ es' = es ++ [(ev T k, ev T x)])) :
    Good P B ρ im st (hputs st.h [(s, .map es')]) new .undef ((execOp a.eval o).run P w) := by
  have hu : P.underlying t = some (.map kt et) := by have q := (tok t ti h1).kind; unfold KindOk at q; simpa only [hk] using q
  have hkv := hf.ev k
  obtain ⟨d, hd, hkey⟩ := keyMatch_of (tok kt tk h2) hm hkv
  have hem := hf.ev m
  rw [hs] at hem
  generalize hax : a.eval m = am at hem
  cases hem with
  | map _ loc hρ =>
    obtain ⟨loc', hr', him, ents, clock, hw, hke, hva⟩ := hi.obj s _ hg
    rw [hρ] at hr'
    simp only [Option.some.injEq] at hr'
    subst hr'
    have hlt := lt_of_some hw
    have done : ∀ (ents' : Array MapEntry) (clock' : Nat), (Instr.mapUpdate t (.map (some loc.blk)) (a.eval k) (a.eval x)).run P w = .ok () { w with heap := w.heap.setIfInBounds loc.blk (.map ents' clock') } →
        LRel ρ im (es'.map (·.1)) (ents'.toList.map (·.key)) → LRel ρ im (es'.map (·.2)) (ents'.toList.map (·.val)) → Good P B ρ im st (hputs st.h [(s, .map es')]) new .undef ((execOp a.eval o).run P w) := fun ents' clock' hrun l1 l2 => by
      refine ⟨_, { w with heap := w.heap.setIfInBounds loc.blk (.map ents' clock') }, ρ, .inr ⟨?_, rfl⟩, .undef, ?_, rhoExt_refl _, fun _ _ => rfl⟩
      · rcases ho with ho | ho <;> simp only [execOp, ho, hax] <;> rw [Sem.run_bind, hrun] <;> rfl
      · refine hi.turn hg rfl hρ (by rw [← hi.bar]; exact hbar) (turned_set _) ⟨loc, hρ, him, ents', clock', ?_, l1, l2⟩
        simp [hlt]
    rcases findA_now hkey hkv es ents.toList 0 r hke hva hr with ⟨e1, e2⟩ | ⟨j, u, xv, en, e1, e2, e3, e4, e5, e6⟩
    · rcases he with ⟨j, u, e3, _⟩ | ⟨_, rfl⟩
      · rw [e1] at e3; cases e3
      · refine done (ents.push { key := a.eval k, val := a.eval x, born := clock }) (clock + 1) ?_ ?_ ?_
        · simp [Instr.mapUpdate, run_underlying hu, run_getObj_map hw, run_checkKey hd hkey, run_findKey hd e2, run_setObj_map _ hw]
        · simpa using hke.append (.cons hkv (.nil _ _))
        · simpa using hva.append (.cons (hf.ev x) (.nil _ _))
    · rcases he with ⟨j', u', e7, rfl⟩ | ⟨e7, _⟩
      · rw [e1] at e7
        simp only [Nat.zero_add, Option.some.injEq, Prod.mk.injEq] at e7
        obtain ⟨rfl, _⟩ := e7
        rw [Nat.zero_add] at e2
        have hen : ents[j]? = some en := by simpa using e4
        have hjl : j < ents.size := lt_of_some hen
        refine done (ents.modify j fun e => { e with key := a.eval k, val := a.eval x }) clock ?_ ?_ ?_
        · have hst : (Instr.keyThatStays (((ents[j]?).map (·.key)).getD (a.eval k)) (a.eval k)).run P w = .ok (a.eval k) w := by
            rw [hen]
            simp only [Option.map_some, Option.getD_some, e5]
            exact run_keyThatStays hkey
          simp only [Instr.mapUpdate, Sem.run_bind, run_underlying hu, Result.andThen_ok, run_getObj_map hw, run_checkKey hd hkey, run_findKey hd e2, hst, run_setObj_map _ hw]
        · have e8 : (es.modify j fun _ => (ev T k, ev T x)).map (·.1) = (es.map (·.1)).set j (ev T k) := by
            apply List.ext_getElem?
            intro q
            simp only [List.getElem?_map, List.getElem?_modify, List.getElem?_set, List.length_map]
            by_cases eq : j = q
            · subst eq; simp [e6]
            · simp [eq]
          have e9 : (ents.modify j fun e => { e with key := a.eval k, val := a.eval x }).toList.map (·.key) = (ents.toList.map (·.key)).set j (a.eval k) := by
            apply List.ext_getElem?
            intro q
            simp only [List.getElem?_map, Array.toList_modify, List.getElem?_modify, List.getElem?_set, List.length_map, Array.length_toList]
            by_cases eq : j = q
            · subst eq; simp [hjl]
            · simp [eq]
          rw [e8, e9]
          exact lrel_set hke j hkv
        · have e8 : (es.modify j fun _ => (ev T k, ev T x)).map (·.2) = (es.map (·.2)).set j (ev T x) := by
            apply List.ext_getElem?
            intro q
            simp only [List.getElem?_map, List.getElem?_modify, List.getElem?_set, List.length_map]
            by_cases eq : j = q
            · subst eq; simp [e6]
            · simp [eq]
          have e9 : (ents.modify j fun e => { e with key := a.eval k, val := a.eval x }).toList.map (·.val) = (ents.toList.map (·.val)).set j (a.eval x) := by
            apply List.ext_getElem?
            intro q
            simp only [List.getElem?_map, Array.toList_modify, List.getElem?_modify, List.getElem?_set, List.length_map, Array.length_toList]
            by_cases eq : j = q
            · subst eq; simp [hjl]
            · simp [eq]
          rw [e8, e9]
          exact lrel_set hva j (hf.ev x)
      · rw [e1] at e7; cases e7

theorem range_good [Inhabited Val] (tok : TOk P C) (hi : Inv B ρ im st w) (hf : FRel ρ im nt T a) (hn : ρ new = none) (hc : new < st.c) {t : TypeId} {x : Operand} (ho : o.op = .range t x) {ti : TI} (h1 : C.ty t = some ti) (hk : ti.kind = .str) {l : List UInt8} (hx : ev T x = .str l) :
    Good P B ρ im st (hputs st.h [(new, .iter l 0)]) new (.ptr new 0) ((execOp a.eval o).run P w) := by
  have hu : P.underlying t = some .string := by have q := (tok t ti h1).kind; unfold KindOk at q; simpa only [hk] using q
  have hex := hf.ev x
  rw [hx] at hex
  generalize hax : a.eval x = ax at hex
  cases hex with
  | str _ bs hbs =>
    refine ⟨.pointer (some ⟨w.heap.size, 0, none⟩), w.alloc (.stringIter bs 0), rset ρ new (some ⟨w.heap.size, 0, 0⟩), .inl ?_, VRel.ptr new 0 ⟨w.heap.size, 0, 0⟩ (rset_same _ _ _), hi.alloc hn hc _ (.iter l 0) ⟨w.heap.size, 0, 0⟩ rfl (fun him => ?_), rset_ext _ hn, fun s hs => rset_other ρ _ hs⟩
    · simp [execOp, ho, hax, Instr.range, run_underlying hu]
    · exact ⟨⟨w.heap.size, 0, 0⟩, rset_same _ _ _, rfl, him, bs, hbs, heap_alloc_new w _⟩

theorem next_good [Inhabited Val] (hi : Inv B ρ im st w) (hf : FRel ρ im nt T a) {x : Operand} (ho : o.op = .next x true) {s : Nat} (hx : ev T x = .ptr s 0) (hbar : st.bar ≤ s) {l : List UInt8} {pos : Nat} (hg : hget st.h s = some (.iter l pos)) :
    (pos < l.length → Good P B ρ im st (hputs st.h [(s, .iter l (pos + (Utf8.decode ⟨l.toArray⟩ pos).2))]) new (.tuple [.bool true, .int .i64 (pos : Nat), .int .i32 ((Utf8.decode ⟨l.toArray⟩ pos).1 : Nat)]) ((execOp a.eval o).run P w)) ∧
    (¬ pos < l.length → Good P B ρ im st st.h new (.tuple [.bool false]) ((execOp a.eval o).run P w)) := by
  have hex := hf.ev x
  rw [hx] at hex
  generalize hax : a.eval x = ax at hex
  cases hex with
  | ptr _ _ loc hρ =>
    obtain ⟨loc', hr', hd, him, bs, hbs, hw⟩ := hi.obj s _ hg
    rw [hρ] at hr'
    simp only [Option.some.injEq] at hr'
    subst hr'
    have hbs' : bs = ⟨l.toArray⟩ := by rw [← hbs]
    subst hbs'
    have hlt := lt_of_some hw
    have hget : (getObj loc.blk).run P w = .ok (.stringIter ⟨l.toArray⟩ pos) w := by simp [getObj, Sem.run, hw]
    have hset : ∀ o', (setObj loc.blk o').run P w = .ok () { w with heap := w.heap.setIfInBounds loc.blk o' } := fun o' => by simp [setObj, Sem.run, hw]
    have hsz : (⟨l.toArray⟩ : ByteArray).size = l.length := by simp [ByteArray.size]
    refine ⟨fun hp => ?_, fun hp => ?_⟩
    · refine ⟨.tuple #[.bool true, goInt pos, .int .i32 ((Utf8.decode ⟨l.toArray⟩ pos).1 : Nat)], { w with heap := w.heap.setIfInBounds loc.blk (.stringIter ⟨l.toArray⟩ (pos + (Utf8.decode ⟨l.toArray⟩ pos).2)) }, ρ, .inl ?_, ?_, ?_, rhoExt_refl _, fun _ _ => rfl⟩
      · simp [execOp, ho, hax, Instr.next, hd, hget, hsz, hp, hset]
      · exact VRel.tuple' (.cons (.bool _) (.cons (.int _ _) (.cons (.int _ _) (.nil _ _))))
      · refine hi.turn hg rfl hρ (by rw [← hi.bar]; exact hbar) (turned_set _) ⟨loc, hρ, hd, him, ⟨l.toArray⟩, by simp, ?_⟩
        simp [hlt]
    · refine ⟨.tuple #[.bool false], w, ρ, .inl ?_, VRel.tuple' (.cons (.bool _) (.nil _ _)), hi, rhoExt_refl _, fun _ _ => rfl⟩
      simp [execOp, ho, hax, Instr.next, hd, hget, hsz, hp]

end
end Go.Ab
