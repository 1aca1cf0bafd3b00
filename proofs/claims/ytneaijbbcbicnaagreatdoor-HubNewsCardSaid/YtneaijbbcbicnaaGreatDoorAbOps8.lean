/- More operations: append and clear. -/
import Derived.Test.YtneaijbbcbicnaaGreatDoorAbOps7
namespace Go.Ab
open Go

section
variable {P : Program} {C : Cfg} {B : Base} {ρ : Rho} {im : Im} {st : St} {nt : Nat} {T : List AV} {a : Act} {w : World} {new : Nat} {v : AV} {o : Oper}

theorem Good.of_run [Inhabited Val] {st st' : St} {h' : Heap} {rv : Value} {w' : World} {ρ' : Rho} {r : Result Next} (hr : r = .ok (.value rv) w') (hv : VRel ρ' im v rv) (hi : Inv B ρ' im st' w') (hst : st' = { st with h := h' }) (he : RhoExt ρ ρ') (hn : ∀ s, s ≠ new → ρ' s = ρ s) :
    Good P B ρ im st h' new v r := ⟨rv, w', ρ', .inl hr, hv, hst ▸ hi, he, hn⟩

/-- A new row, with what was there, what comes, and spare room. -/
theorem grow_good [Inhabited Val] (hi : Inv B ρ im st w) (hn : ρ new = none) (hc : new < st.c) {e sz need cap : Nat} {os ns : List AV} {olds news : List Value} {zs : Array Value} (ho' : LRel ρ im os olds) (hn' : LRel ρ im ns news) (hlen : (os ++ ns).length = need * sz)
    (hzs : zs.size = (cap - need) * sz) (hcap : need ≤ cap) :
    ∃ ρ', VRel ρ' im (.osl sz new 0 need need) (.slice (some ⟨w.heap.size, 0, none⟩) need cap) ∧ Inv B ρ' im { st with h := hput st.h new (.cells (os ++ ns)) } (w.drew.alloc (.cells (olds.toArray ++ news.toArray ++ zs) e)) ∧ RhoExt ρ ρ' ∧ ∀ s, s ≠ new → ρ' s = ρ s := by
  have hd := hi.same (sameMem_drew w)
  have hl := ho'.append hn'
  have hsz : (olds.toArray ++ news.toArray ++ zs).size = cap * sz := by
    have h1 : olds.length + news.length = need * sz := by rw [← hlen, ← hl.1]; simp
    simp only [Array.size_append, List.size_toArray, hzs]
    rw [h1, ← Nat.add_mul]
    congr 1
    omega
  refine ⟨rset ρ new (some ⟨w.heap.size, 0, cap * sz⟩), ?_, hd.alloc hn hc _ (.cells (os ++ ns)) ⟨w.heap.size, 0, cap * sz⟩ rfl (fun him => ?_), rset_ext _ hn, fun s hs => rset_other ρ _ hs⟩
  · exact .osl _ _ _ _ _ (some ⟨w.heap.size, 0, cap * sz⟩) _ _ (rset_same _ _ _) (fun _ => ⟨_, rfl, rfl, by simp⟩) (Nat.le_refl _) hcap
  · simp only [ORel, rset_same]
    refine ⟨him, _, e, heap_alloc_new w.drew _, hsz, ?_, ?_⟩
    · rw [hlen, Nat.zero_add]; exact Nat.mul_le_mul_right _ hcap
    · have e1 : (((olds.toArray ++ news.toArray ++ zs).toList.drop 0).take (os ++ ns).length) = olds ++ news := by
        rw [← hl.1]
        simp only [List.drop_zero, Array.toList_append]
        exact List.take_left
      rw [e1]
      exact hl.mono (rset_ext _ hn) (imExt_refl _)

theorem oneCells [Inhabited Val] {cs : List AV} {vs : List Value} (h : LRel ρ im cs vs) (h1 : cs.all AV.one = true) : ∀ u ∈ vs, u.oneCell' = true := fun u hu => by
  obtain ⟨j, hj⟩ := List.getElem?_of_mem hu
  have hlt : j < cs.length := by rw [← h.1]; exact (List.getElem?_eq_some_iff.1 hj).1
  have hv := h.2 j
  rw [List.getD_eq_getElem?_getD, List.getD_eq_getElem?_getD, hj, List.getElem?_eq_getElem hlt] at hv
  exact vrel_not_bad hv (List.all_eq_true.1 h1 _ (List.getElem_mem hlt))

theorem append_good [Inhabited Val] (tok : TOk P C) (hi : Inv B ρ im st w) (hf : FRel ρ im nt T a) (hn : ρ new = none) (hc : new < st.c) {look : Heap} (hh : ∀ s o, hget look s = some o → hget st.h s = some o) {s x : Operand} {t e : TypeId}
    (ho : o.op = .call { callee := .builtin .append, args := #[s, x], argTypes := #[t, t] }) {ti te : TI} (h1 : C.ty t = some ti) (hk : ti.kind = .slice e) (h2 : C.ty e = some te) {n : Nat} {ns : List AV} (he : elemsOf look te.size (ev T x) = some (n, ns))
    (hz0 : te.size ≠ 0) (hzl : te.zero.length = te.size) (hone : ns.all AV.one = true) {h' : Heap}
    (h : (∃ l, ev T s = .rows true l ∧ (l.length + n) * te.bytes ≤ 140737488355328 ∧ l.length + n ≤ 9223372036854775807 ∧ l.all (·.length == te.size) = true ∧
            ((n = 0 ∧ l ≠ [] ∧ v = .rows true l ∧ h' = st.h) ∨ (¬ (n = 0 ∧ l ≠ []) ∧ v = .osl te.size new 0 (l.length + n) (l.length + n) ∧ h' = hputs st.h [(new, .cells (l.flatten ++ ns))]))) ∨
         (∃ q off len cp cs, ev T s = .osl te.size q off len cp ∧ st.bar ≤ q ∧ (len + n) * te.bytes ≤ 140737488355328 ∧ len + n ≤ 9223372036854775807 ∧ hget st.h q = some (.cells cs) ∧
            ((off + len * te.size = cs.length ∧ v = .osl te.size new 0 (len + n) (len + n) ∧ h' = hputs st.h [(q, .dead), (new, .cells (cs.drop off ++ ns))]) ∨
             (len + n ≤ cp ∧ ∃ cs', putCells cs (off + len * te.size) ns = some cs' ∧ v = .osl te.size q off (len + n) cp ∧ h' = hputs st.h [(q, .cells cs')])))) :
    Good P B ρ im st h' new v ((execOp a.eval o).run P w) := by
  obtain ⟨i, z, hinfo, hsize, hbytes, hz, hzs, hlz⟩ := (tok e te h2).info
  have hu : P.underlying t = some (.slice e) := by have q := (tok t ti h1).kind; unfold KindOk at q; simpa only [hk] using q
  obtain ⟨news, hln, hlen, hrl, hrf, hrfd⟩ := elems_run (P := P) hi hh hz0 (hf.ev x) he
  have hns : ns.length = n * te.size := by rw [← hln.1]; exact hlen
  have hop : (execOp a.eval o).run P w = ((Builtin.append_ #[t, t] o.type #[a.eval s, a.eval x]).run P w).andThen fun u w' => .ok (.value u) w' := by
    simp only [execOp, ho, resolve, Sem.run_bind, Sem.run_pure, Result.andThen_ok, invoke, builtin]
    simp only [List.map_toArray, List.map_cons, List.map_nil]
  have hes := hf.ev s
  rw [← hsize] at hrf hrfd
  rcases h with ⟨l, es, hb, h63, hall, hcase⟩ | ⟨q, off, len, cp, cs, es, hbar, hb, h63, hg, hcase⟩
  · rw [es] at hes
    generalize hax : a.eval s = ax at hes
    have hes' := hes
    cases hes with
    | rows _ _ ad m cap sz val hm hlen' hcap ht ha hv =>
      have hcm := ht rfl
      subst hcm
      subst hm
      by_cases hn0 : n = 0
      · subst hn0
        have hnw : news = [] := List.eq_nil_of_length_eq_zero (by rw [hlen]; simp)
        subst hnw
        have hnsn : ns = [] := List.eq_nil_of_length_eq_zero (by rw [hns]; simp)
        subst hnsn
        have hrun : (Builtin.append_ #[t, t] o.type #[.slice ad l.length l.length, a.eval x]).run P w = .ok (.slice ad (l.length + 0) l.length) w := by
          refine append_room_run hu hinfo hrl hrf (by omega) (w' := w) ?_ o.type
          cases ad with
          | none => rfl
          | some b => simp [storeCells]
        rcases hcase with ⟨_, hne, rfl, rfl⟩ | ⟨hno, rfl, rfl⟩
        · refine Good.plain hi hes' ?_
          rw [hop, hax, hrun]
          rfl
        · have hl0 : l = [] := Decidable.byContradiction fun hne => hno ⟨rfl, hne⟩
          subst hl0
          refine Good.of_run (ρ' := rset ρ new none) (st' := { st with h := hput st.h new (.cells []) }) (rv := .slice ad 0 0) ?_ ?_ (hi.virt hn hc) rfl (rset_ext _ hn) (fun s hs => rset_other ρ _ hs)
          · rw [hop, hax, hrun]; rfl
          · exact .osl _ _ _ _ _ none _ _ (rset_same _ _ _) (fun h => absurd h (by omega)) (by simp) (by simp)
      · rcases hcase with ⟨h0, _⟩ | ⟨_, rfl, rfl⟩
        · exact absurd h0 hn0
        · obtain ⟨olds, hlo, hleno, _, _, hro⟩ := elems_run (P := P) (h := look) (sz := te.size) (n := l.length) (cs := l.flatten) hi hh hz0 hes' (by simp [elemsOf]; exact fun r hr => by simpa using List.all_eq_true.1 hall r hr)
          rw [← hsize] at hro
          have hrun := append_grow_run (P := P) (w := w) hu hinfo hz hrl hrfd hro (by omega) h63 (by rw [hbytes]; exact hb) o.type
          obtain ⟨ρ', hv', hinv, hext, hoth⟩ := grow_good (e := e) (sz := te.size) (need := l.length + n) (cap := grownCap w (l.length + n) l.length e) hi hn hc hlo hln (by
            rw [List.length_append, hns, ← hlo.1, hleno, ← Nat.add_mul]) (zs := Builtin.zeroCells z.cells (grownCap w (l.length + n) l.length e - (l.length + n))) (by
            have := congrArg List.length (zeroCells_eq z.cells (grownCap w (l.length + n) l.length e - (l.length + n)))
            simp only [Array.length_toList, List.length_flatten, List.map_replicate, List.sum_replicate_nat] at this
            rw [this, hzs]) (grownCap_ge _ _ _ _)
          refine Good.of_run ?_ hv' hinv rfl hext hoth
          rw [hop, hax, hrun]
          rfl
  · rw [es] at hes
    generalize hax : a.eval s = ax at hes
    have hes' := hes
    cases hes with
    | osl _ _ _ _ _ lo ad cap hρ hcl k2 k3 =>
      by_cases hroom : len + n ≤ cap
      · -- room
        have hst : ∃ w', (match ad with | none => w' = w | some b => (storeCells (b.add (len * i.size)) news).run P w = .ok () w') ∧
            (news = [] → w' = w) ∧ (news ≠ [] → ∃ loc arr ty, lo = some loc ∧ ad = some ⟨loc.blk, loc.delta + off, none⟩ ∧ loc.delta + off + cap * te.size ≤ loc.size ∧ w.heap[loc.blk]? = some (.cells arr ty (0, 0)) ∧ arr.size = loc.size ∧
              w' = w.setRow loc.blk (arr.toList.take (loc.delta + off + len * te.size) ++ news ++ arr.toList.drop (loc.delta + off + len * te.size + news.length)).toArray) := by
          by_cases hnw : news = []
          · subst hnw
            refine ⟨w, ?_, fun _ => rfl, fun h => absurd rfl h⟩
            cases ad with
            | none => rfl
            | some b => simp [storeCells]
          · have hn1 : 0 < n := by
              rcases Nat.eq_zero_or_pos n with h0 | h0
              · subst h0; exact absurd (List.eq_nil_of_length_eq_zero (by rw [hlen]; simp)) hnw
              · exact h0
            obtain ⟨loc, e1, e2, e3⟩ := hcl (by omega)
            subst e1
            obtain ⟨him, arr, ty, hw, hs, hdl, hlr⟩ := cells_at hi hg hρ
            have hmul : len * te.size + n * te.size ≤ cap * te.size := by rw [← Nat.add_mul]; exact Nat.mul_le_mul_right _ hroom
            have hr := run_storeCells_at P loc.blk (loc.delta + off + len * te.size) ty news 0 arr w hw (by simp only [Nat.add_zero]; omega) (oneCells hln hone)
            refine ⟨_, ?_, fun h => absurd h hnw, fun _ => ⟨loc, arr, ty, rfl, e2, e3, hw, hs, rfl⟩⟩
            rw [e2]
            simp only [Addr.add_lit, hsize]
            simpa using hr
        obtain ⟨w', hst1, hst0, hstn⟩ := hst
        have hrun := append_room_run (P := P) (w := w) hu hinfo hrl hrf hroom hst1 o.type
        rcases hcase with ⟨hfr, rfl, rfl⟩ | ⟨hcp, cs', hp, rfl, rfl⟩
        · -- at the frontier
          cases lo with
          | none =>
            have hc0 : cap = 0 := by
              rcases Nat.eq_zero_or_pos cap with h0 | h0
              · exact h0
              · obtain ⟨loc, e1, _⟩ := hcl h0; cases e1
            have hlen0 : len = 0 := by omega
            have hn0 : n = 0 := by omega
            subst hc0 hlen0 hn0
            have hnw : news = [] := List.eq_nil_of_length_eq_zero (by rw [hlen]; simp)
            have hnsn : ns = [] := List.eq_nil_of_length_eq_zero (by rw [hns]; simp)
            subst hnsn
            rw [hst0 hnw] at hrun
            have hcs : cs = [] := by have := hi.obj q _ hg; simpa only [ORel, hρ] using this
            subst hcs
            refine Good.of_run (ρ' := rset ρ new none) (rv := .slice ad 0 0) ?_ ?_ ((hi.kill q).virt hn hc) (by simp [hputs]) (rset_ext _ hn) (fun s hs => rset_other ρ _ hs)
            · rw [hop, hax, hrun]; rfl
            · exact .osl _ _ _ _ _ none _ _ (rset_same _ _ _) (fun h => absurd h (by omega)) (by simp) (by simp)
          | some loc =>
            obtain ⟨him, arr, ty, hw, hs, hdl, hlr⟩ := cells_at hi hg hρ
            have hturn : Turned loc.blk w w' := by
              by_cases hnw : news = []
              · rw [hst0 hnw]; exact ⟨rfl, fun _ _ => rfl, rfl, rfl, rfl⟩
              · obtain ⟨loc', arr', ty', e1, _, _, _, _, e2⟩ := hstn hnw
                simp only [Option.some.injEq] at e1
                subst e1
                rw [e2]
                exact ⟨by simp, fun b hb => setRow_other w _ b _ hb, rfl, rfl, rfl⟩
            -- the new row's cells
            have hrow : ∃ arr', w'.heap[loc.blk]? = some (.cells arr' ty (0, 0)) ∧ arr'.size = loc.size ∧ loc.delta + off + (cs.drop off ++ ns).length ≤ loc.size ∧ LRel ρ im (cs.drop off ++ ns) ((arr'.toList.drop (loc.delta + off)).take (cs.drop off ++ ns).length) := by
              have hcl' : (cs.drop off).length = len * te.size := by simp; omega
              by_cases hnw : news = []
              · rw [hst0 hnw]
                have hnsn : ns = [] := by
                  rw [hnw] at hlen
                  have : ns.length = 0 := by rw [hns, ← hlen]; rfl
                  exact List.eq_nil_of_length_eq_zero this
                subst hnsn
                refine ⟨arr, hw, hs, by simp; omega, ?_⟩
                have := hlr.drop off
                rw [List.append_nil]
                have e : (List.drop off (List.take cs.length (List.drop loc.delta arr.toList))) = (arr.toList.drop (loc.delta + off)).take (cs.drop off).length := by
                  rw [List.drop_take, List.drop_drop, List.length_drop]
                rw [← e]
                exact this
              · obtain ⟨loc', arr', ty', e1, _, e3, e4, e5, e2⟩ := hstn hnw
                simp only [Option.some.injEq] at e1
                subst e1
                rw [hw] at e4
                simp only [Option.some.injEq, Obj.cells.injEq] at e4
                obtain ⟨rfl, rfl, _⟩ := e4
                have hmul : len * te.size + n * te.size ≤ cap * te.size := by rw [← Nat.add_mul]; exact Nat.mul_le_mul_right _ hroom
                refine ⟨_, by rw [e2]; exact setRow_heap w _ arr _ ty _ hw, ?_, ?_, ?_⟩
                · simp only [List.size_toArray, List.length_append, List.length_take, List.length_drop, Array.length_toList, hlen]
                  omega
                · rw [List.length_append, hcl', hns]; omega
                · have e : (((arr.toList.take (loc.delta + off + len * te.size) ++ news ++ arr.toList.drop (loc.delta + off + len * te.size + news.length)).toArray.toList.drop (loc.delta + off)).take (cs.drop off ++ ns).length) =
                      ((arr.toList.drop loc.delta).take cs.length).drop off ++ news := by
                    have hl1 : (arr.toList.take (loc.delta + off + len * te.size)).length = loc.delta + off + len * te.size := by simp; omega
                    rw [List.append_assoc, List.drop_append_of_le_length (by rw [hl1]; omega)]
                    have hl2 : (List.drop (loc.delta + off) (List.take (loc.delta + off + len * te.size) arr.toList)) = ((arr.toList.drop loc.delta).take cs.length).drop off := by
                      rw [List.drop_take, List.drop_take, List.drop_drop]
                      congr 1
                      omega
                    rw [hl2, ← List.append_assoc]
                    have hl3 : (((arr.toList.drop loc.delta).take cs.length).drop off ++ news).length = (cs.drop off ++ ns).length := by
                      rw [List.length_append, List.length_append, hlen, hns, hcl']
                      simp only [List.length_drop, List.length_take, Array.length_toList]
                      omega
                    rw [← hl3]
                    exact List.take_left
                  rw [e]
                  exact (hlr.drop off).append hln
            obtain ⟨arr', hw', hs', hd', hl'⟩ := hrow
            refine Good.of_run (ρ' := rset ρ new (some ⟨loc.blk, loc.delta + off, loc.size⟩)) (rv := .slice ad (len + n) cap) ?_ ?_
              (hi.move (l' := ⟨loc.blk, loc.delta + off, loc.size⟩) hg rfl hρ (by rw [← hi.bar]; exact hbar) hn hc rfl hturn ?_) rfl (rset_ext _ hn) (fun s hs => rset_other ρ _ hs)
            · rw [hop, hax, hrun]; rfl
            · refine .osl _ _ _ _ _ (some ⟨loc.blk, loc.delta + off, loc.size⟩) _ _ (rset_same _ _ _) (fun hp => ?_) (Nat.le_refl _) hroom
              obtain ⟨loc', e1, e2, e3⟩ := hcl hp
              simp only [Option.some.injEq] at e1
              subst e1
              exact ⟨_, rfl, by rw [e2]; simp, by simpa using e3⟩
            · simp only [ORel, rset_same]
              exact ⟨him, arr', ty, hw', hs', hd', hl'.mono (rset_ext _ hn) (imExt_refl _)⟩
        · -- over what is there
          refine Good.of_run (ρ' := ρ) (rv := .slice ad (len + n) cap) (st' := { st with h := hput st.h q (.cells cs') }) (w' := w') ?_ ?_ ?_ rfl (rhoExt_refl _) (fun _ _ => rfl)
          · rw [hop, hax, hrun]; rfl
          · exact .osl _ _ _ _ _ lo _ _ hρ hcl hcp k3
          · by_cases hnw : news = []
            · rw [hst0 hnw]
              have hnsn : ns = [] := by
                rw [hnw] at hlen
                have : ns.length = 0 := by rw [hns, ← hlen]; rfl
                exact List.eq_nil_of_length_eq_zero this
              subst hnsn
              have hcs' : cs' = cs := by
                unfold putCells at hp
                split at hp
                · simp only [List.length_nil, Nat.add_zero, List.nil_append, List.take_append_drop, Option.some.injEq] at hp; exact hp.symm
                · cases hp
              subst hcs'
              refine ⟨hi.rho, hi.imx, hi.imo, hi.imw, fun s' x' hx' => ?_, fun s1 s2 x1 x2 k1 k2 g1 l1 g2 l2 r1 r2 e => ?_, hi.new, hi.cle, hi.bar, hi.os, hi.tape, hi.output, hi.size, fun b hb => ?_, hi.frame⟩
              · rw [hget_hput] at hx'
                split at hx'
                · rename_i e; subst e; simp only [Option.some.injEq] at hx'; subst hx'; exact hi.obj _ _ hg
                · exact hi.obj _ _ hx'
              · have gg : ∀ s' x', hget (hput st.h q (.cells cs')) s' = some x' → hget st.h s' = some x' := fun s' x' hx' => by
                  rw [hget_hput] at hx'
                  split at hx'
                  · rename_i e; subst e; simp only [Option.some.injEq] at hx'; subst hx'; exact hg
                  · exact hx'
                exact hi.inj s1 s2 x1 x2 k1 k2 (gg _ _ g1) l1 (gg _ _ g2) l2 r1 r2 e
              · obtain ⟨s', x', k, hx', hl', hb', hk, e⟩ := hb
                rw [hget_hput] at hx'
                by_cases e2 : q = s'
                · subst e2
                  exact hi.own b ⟨q, _, k, hg, rfl, hb', hk, e⟩
                · rw [if_neg e2] at hx'
                  exact hi.own b ⟨s', x', k, hx', hl', hb', hk, e⟩
            · obtain ⟨loc, arr, ty, e1, e2, e3, e4, e5, e6⟩ := hstn hnw
              subst e1
              obtain ⟨w2, hst2, hinv⟩ := turn_cells (P := P) hi hg hρ (by rw [← hi.bar]; exact hbar) hp hln (oneCells hln hone)
              rw [e2] at hst1
              simp only [Addr.add_lit, hsize] at hst1
              rw [Nat.add_assoc] at hst1
              rw [hst1] at hst2
              simp only [Result.ok.injEq, true_and] at hst2
              rw [hst2]
              exact hinv
      · -- no room
        rcases hcase with ⟨hfr, rfl, rfl⟩ | ⟨hcp, _⟩
        · obtain ⟨olds, hlo, hleno, _, _, hro⟩ := elems_run (P := P) (h := st.h) (sz := te.size) (n := len) (cs := (cs.drop off).take (len * te.size)) hi (fun _ _ h => h) hz0 hes' (by
            have hle : off + len * te.size ≤ cs.length := by omega
            simp [elemsOf, hg, hle])
          have hcut : (cs.drop off).take (len * te.size) = cs.drop off := List.take_of_length_le (by simp; omega)
          rw [hcut] at hlo
          rw [← hsize] at hro
          have hrun := append_grow_run (P := P) (w := w) hu hinfo hz hrl hrfd hro (by omega) h63 (by rw [hbytes]; exact hb) o.type
          obtain ⟨ρ', hv', hinv, hext, hoth⟩ := grow_good (e := e) (sz := te.size) (need := len + n) (cap := grownCap w (len + n) cap e) (hi.kill q) hn hc hlo hln (by
            rw [List.length_append, hns, ← hlo.1, hleno, ← Nat.add_mul]) (zs := Builtin.zeroCells z.cells (grownCap w (len + n) cap e - (len + n))) (by
            have := congrArg List.length (zeroCells_eq z.cells (grownCap w (len + n) cap e - (len + n)))
            simp only [Array.length_toList, List.length_flatten, List.map_replicate, List.sum_replicate_nat] at this
            rw [this, hzs]) (grownCap_ge _ _ _ _)
          refine Good.of_run ?_ hv' hinv (by simp [hputs]) hext hoth
          rw [hop, hax, hrun]
          rfl
        · omega

theorem clear_good [Inhabited Val] (tok : TOk P C) (hi : Inv B ρ im st w) (hf : FRel ρ im nt T a) {s : Operand} {t e : TypeId} (ho : o.op = .call { callee := .builtin .clear, args := #[s], argTypes := #[t] }) {ti te : TI} (h1 : C.ty t = some ti) (hk : ti.kind = .slice e) (h2 : C.ty e = some te)
    {q off len cp : Nat} (hs : ev T s = .osl te.size q off len cp) (hbar : st.bar ≤ q) (hone : te.zero.all AV.one = true) {cs cs' : List AV} (hg : hget st.h q = some (.cells cs)) (hp : putCells cs off (List.replicate len te.zero).flatten = some cs') :
    Good P B ρ im st (hputs st.h [(q, .cells cs')]) new (.tuple []) ((execOp a.eval o).run P w) := by
  obtain ⟨i, z, hinfo, hsize, hbytes, hz, hzs, hlz⟩ := (tok e te h2).info
  have hu : P.underlying t = some (.slice e) := by have q := (tok t ti h1).kind; unfold KindOk at q; simpa only [hk] using q
  have hes := hf.ev s
  rw [hs] at hes
  generalize hax : a.eval s = ax at hes
  have hop : (execOp a.eval o).run P w = ((Builtin.clear_ #[t] o.type #[ax]).run P w).andThen fun u w' => .ok (.value u) w' := by
    simp only [execOp, ho, resolve, Sem.run_bind, Sem.run_pure, Result.andThen_ok, invoke, builtin]
    simp only [List.map_toArray, List.map_cons, List.map_nil, hax]
  cases hes with
  | osl _ _ _ _ _ lo ad cap hρ hcl k2 k3 =>
    by_cases hl0 : len = 0
    · subst hl0
      have hcs' : cs' = cs := by
        unfold putCells at hp
        split at hp
        · simp only [List.replicate_zero, List.flatten_nil, List.length_nil, Nat.add_zero, List.nil_append, List.take_append_drop, Option.some.injEq] at hp; exact hp.symm
        · cases hp
      subst hcs'
      have hrun : (Builtin.clear_ #[t] o.type #[.slice ad 0 cap]).run P w = .ok (.tuple #[]) w := by
        cases ad <;> simp [Builtin.clear_, run_underlying hu]
      have hinv : Inv B ρ im { st with h := hput st.h q (.cells cs') } w := by
        refine ⟨hi.rho, hi.imx, hi.imo, hi.imw, fun s' x' hx' => ?_, fun s1 s2 x1 x2 k1 k2 g1 l1 g2 l2 r1 r2 e => ?_, hi.new, hi.cle, hi.bar, hi.os, hi.tape, hi.output, hi.size, fun b hb => ?_, hi.frame⟩
        · rw [hget_hput] at hx'
          split at hx'
          · rename_i e; subst e; simp only [Option.some.injEq] at hx'; subst hx'; exact hi.obj _ _ hg
          · exact hi.obj _ _ hx'
        · have gg : ∀ s' x', hget (hput st.h q (.cells cs')) s' = some x' → hget st.h s' = some x' := fun s' x' hx' => by
            rw [hget_hput] at hx'
            split at hx'
            · rename_i e; subst e; simp only [Option.some.injEq] at hx'; subst hx'; exact hg
            · exact hx'
          exact hi.inj s1 s2 x1 x2 k1 k2 (gg _ _ g1) l1 (gg _ _ g2) l2 r1 r2 e
        · obtain ⟨s', x', k, hx', hl', hb', hk, e⟩ := hb
          rw [hget_hput] at hx'
          by_cases e2 : q = s'
          · subst e2
            exact hi.own b ⟨q, _, k, hg, rfl, hb', hk, e⟩
          · rw [if_neg e2] at hx'
            exact hi.own b ⟨s', x', k, hx', hl', hb', hk, e⟩
      refine Good.of_run (ρ' := ρ) (rv := .tuple #[]) ?_ (VRel.tuple' (.nil _ _)) hinv rfl (rhoExt_refl _) (fun _ _ => rfl)
      rw [hop, hrun]
      rfl
    · obtain ⟨loc, e1, e2, e3⟩ := hcl (by omega)
      subst e1 e2
      have hlz' := lrel_replicate (hlz ρ im) len
      have hone' : (List.replicate len te.zero).flatten.all AV.one = true := by
        rw [List.all_eq_true]
        intro u hu'
        obtain ⟨l, hl, hu2⟩ := List.mem_flatten.1 hu'
        rw [(List.mem_replicate.1 hl).2] at hu2
        exact List.all_eq_true.1 hone u hu2
      obtain ⟨w', hst, hinv⟩ := turn_cells (P := P) hi hg hρ (by rw [← hi.bar]; exact hbar) hp hlz' (oneCells hlz' hone')
      refine Good.of_run (ρ' := ρ) (rv := .tuple #[]) (w' := w') ?_ (VRel.tuple' (.nil _ _)) hinv rfl (rhoExt_refl _) (fun _ _ => rfl)
      rw [hop]
      obtain ⟨m, rfl⟩ : ∃ m, len = m + 1 := ⟨len - 1, by omega⟩
      have hzc : (Builtin.zeroCells z.cells (m + 1)).toList = (List.replicate (m + 1) z.cells.toList).flatten := zeroCells_eq _ _
      simp only [Builtin.clear_, Sem.run_bind, Sem.run_pure, Result.andThen_ok]
      simp [run_underlying hu, zeroValue, typeInfo, hinfo, hz, hzc, hst]

end
end Go.Ab
