/- Each operation, calls apart, does what 'plan' says. -/
import Derived.Test.YtneaijbbcbicnaaGreatDoorAbOps8
namespace Go.Ab
open Go

section
variable {P : Program} {C : Cfg} {B : Base} {ρ : Rho} {im : Im} {st : St} {nt : Nat} {T : List AV} {a : Act} {w : World} {new : Nat} {v : AV}

theorem plan_good [Inhabited Val] (tok : TOk P C) (fok : FactsOk C) (hi : Inv B ρ im st w) (hf : FRel ρ im nt T a) (hn : ρ new = none) (hc : new < st.c) {look : Heap} (hh : ∀ s x, hget look s = some x → hget st.h s = some x) {o : Oper} {es : List (Nat × AObj)}
    (h : plan C T look st.bar new o.op = some (v, es)) : Good P B ρ im st (hputs st.h es) new v ((execOp a.eval o).run P w) := by
  cases hop : o.op with
  | move x =>
    rw [hop] at h; simp only [plan, Option.some.injEq, Prod.mk.injEq] at h; obtain ⟨rfl, rfl⟩ := h
    exact move_good hi hf (.inl hop)
  | assign x =>
    rw [hop] at h; simp only [plan, Option.some.injEq, Prod.mk.injEq] at h; obtain ⟨rfl, rfl⟩ := h
    exact move_good hi hf (.inr hop)
  | pick c x y =>
    rw [hop] at h; simp only [plan] at h
    split at h
    · rename_i e; simp only [Option.some.injEq, Prod.mk.injEq] at h; obtain ⟨rfl, rfl⟩ := h
      exact pick_good hi hf hop e
    · rename_i e; simp only [Option.some.injEq, Prod.mk.injEq] at h; obtain ⟨rfl, rfl⟩ := h
      exact pick_good hi hf hop e
    · cases h
  | alloc t =>
    rw [hop] at h; simp only [plan] at h
    split at h
    · rename_i ti e; simp only [Option.some.injEq, Prod.mk.injEq] at h; obtain ⟨rfl, rfl⟩ := h
      exact alloc_op_good tok hi hn hc hop e
    · cases h
  | range t x =>
    rw [hop] at h; simp only [plan] at h
    split at h
    · rename_i ti e
      split at h
      · rename_i l hk hx
        simp only [Option.some.injEq, Prod.mk.injEq] at h; obtain ⟨rfl, rfl⟩ := h
        exact range_good tok hi hf hn hc hop e hk hx
      · cases h
    · cases h
  | next x isString =>
    rw [hop] at h; simp only [plan] at h
    split at h
    · rename_i s hx
      split at h
      · rename_i hbar
        split at h
        · rename_i l pos hg
          have hn := next_good (P := P) (new := new) hi hf hop hx hbar (hh _ _ hg)
          split at h
          · rename_i hp
            simp only [Option.some.injEq, Prod.mk.injEq] at h; obtain ⟨rfl, rfl⟩ := h
            exact hn.1 hp
          · rename_i hp
            simp only [Option.some.injEq, Prod.mk.injEq] at h; obtain ⟨rfl, rfl⟩ := h
            exact hn.2 hp
        · cases h
      · cases h
    · cases h
  | box t x =>
    rw [hop] at h; simp only [plan] at h
    split at h
    · cases h
    · rename_i e; simp only [Option.some.injEq, Prod.mk.injEq] at h; obtain ⟨rfl, rfl⟩ := h
      exact box_good hi hf hn hc hop e
  | build t parts =>
    rw [hop] at h; simp only [plan] at h
    split at h
    · rename_i ti e
      split at h
      · rename_i hk
        split at h
        · rename_i cs e2; simp only [Option.some.injEq, Prod.mk.injEq] at h; obtain ⟨rfl, rfl⟩ := h
          exact build_good tok hi hf hop e hk e2
        · cases h
      · cases h
    · cases h
  | buildSlice t len parts =>
    rw [hop] at h; simp only [plan] at h
    split at h
    · rename_i ti e1
      split at h
      · rename_i e hk
        split at h
        · rename_i te e2
          split at h
          · rename_i h0
            subst h0
            split at h
            · rename_i hp; simp only [Option.some.injEq, Prod.mk.injEq] at h; obtain ⟨rfl, rfl⟩ := h
              exact buildSlice_nil_good tok hi hop hp e1 hk e2
            · cases h
          · rename_i h0
            split at h
            · rename_i hcond
              split at h
              · rename_i cs e3
                split at h
                · rename_i hcs
                  simp only [Option.some.injEq, Prod.mk.injEq] at h; obtain ⟨rfl, rfl⟩ := h
                  exact buildSlice_good tok hi hf hn hc hop e1 hk e2 h0 hcond.1 hcond.2.1 hcond.2.2 e3 hcs
                · cases h
              · cases h
            · cases h
        · cases h
      · cases h
    · cases h
  | load t x =>
    rw [hop] at h; simp only [plan] at h
    split at h
    · rename_i ti e1
      split at h
      · rename_i s off e2
        split at h
        · rename_i cs e3
          obtain ⟨u, e4, h⟩ := Option.map_eq_some_iff.1 h
          simp only [Prod.mk.injEq] at h; obtain ⟨rfl, rfl⟩ := h
          exact load_good (tok _ _ e1) hi hf _ hop (.inl ⟨s, off, cs, e2, hh _ _ e3, e4⟩)
        · cases h
      · rename_i cs off e2
        obtain ⟨u, e4, h⟩ := Option.map_eq_some_iff.1 h
        simp only [Prod.mk.injEq] at h; obtain ⟨rfl, rfl⟩ := h
        exact load_good (tok _ _ e1) hi hf _ hop (.inr ⟨cs, off, e2, e4⟩)
      · cases h
    · cases h
  | store t x y =>
    rw [hop] at h; simp only [plan] at h
    split at h
    · rename_i ti e1
      split at h
      · rename_i s off e2
        split at h
        · rename_i hb
          split at h
          · rename_i cs e3
            split at h
            · rename_i hc2
              split at h
              · rename_i cs' e4
                simp only [Option.some.injEq, Prod.mk.injEq] at h; obtain ⟨rfl, rfl⟩ := h
                exact store_good tok hi hf hop e1 e2 hb (hh _ _ e3) hc2.1 hc2.2 e4
              · cases h
            · cases h
          · cases h
        · cases h
      · cases h
    · cases h
  | nilCheck x =>
    rw [hop] at h; simp only [plan] at h
    split at h
    · rename_i s k e; simp only [Option.some.injEq, Prod.mk.injEq] at h; obtain ⟨rfl, rfl⟩ := h
      rw [← e]; exact nilCheck_good hi hf hop (.inl ⟨s, k, e⟩)
    · rename_i cs k e; simp only [Option.some.injEq, Prod.mk.injEq] at h; obtain ⟨rfl, rfl⟩ := h
      rw [← e]; exact nilCheck_good hi hf hop (.inr ⟨cs, k, e⟩)
    · cases h
  | binOp op t x y yt =>
    rw [hop] at h; simp only [plan] at h
    obtain ⟨u, e, h⟩ := Option.map_eq_some_iff.1 h
    simp only [Prod.mk.injEq] at h; obtain ⟨rfl, rfl⟩ := h
    exact bin_good tok fok hi hf hop e
  | unOp op t x =>
    rw [hop] at h; simp only [plan] at h
    obtain ⟨u, e, h⟩ := Option.map_eq_some_iff.1 h
    simp only [Prod.mk.injEq] at h; obtain ⟨rfl, rfl⟩ := h
    exact un_good hi hf hop e
  | convert src dst x =>
    rw [hop] at h; simp only [plan] at h
    split at h
    · rename_i tis ti k n e1 e2 e3
      split at h
      · rename_i k' hk; simp only [Option.some.injEq, Prod.mk.injEq] at h; obtain ⟨rfl, rfl⟩ := h
        exact convert_good tok hi hf hop e1 e2 e3 hk
      · cases h
    · cases h
  | makeInterface t x =>
    rw [hop] at h; simp only [plan] at h
    split at h
    · rename_i ti e1
      split at h
      · cases h
      · rename_i hk; simp only [Option.some.injEq, Prod.mk.injEq] at h; obtain ⟨rfl, rfl⟩ := h
        exact mkiface_good tok hi hf hop e1 (fun e => hk (.inl e)) (fun e => hk (.inr e))
    · cases h
  | makeFunc fn first captured =>
    rw [hop] at h
    cases fn with
    | func f =>
      simp only [plan, Option.some.injEq, Prod.mk.injEq] at h; obtain ⟨rfl, rfl⟩ := h
      exact makeFunc_good hi hf hop
    | _ => simp only [plan] at h; cases h
  | makeMap t r =>
    rw [hop] at h
    cases r with
    | none =>
      simp only [plan, Option.some.injEq, Prod.mk.injEq] at h; obtain ⟨rfl, rfl⟩ := h
      exact makeMap_good hi hn hc hop
    | some _ => simp only [plan] at h; cases h
  | slice t x lo hi' mx =>
    rw [hop] at h; simp only [plan] at h
    split at h
    · rename_i ti e1
      obtain ⟨u, e, h⟩ := Option.map_eq_some_iff.1 h
      simp only [Prod.mk.injEq] at h; obtain ⟨rfl, rfl⟩ := h
      exact slice_good tok hi hf hop e1 e
    · cases h
  | fieldAddr t x f =>
    rw [hop] at h; simp only [plan] at h
    split at h
    · rename_i ti e1
      split at h
      · rename_i fo e2
        split at h
        · cases h
        · rename_i hz
          simp only [not_or, Decidable.not_not] at hz
          split at h
          · rename_i s k e3; simp only [Option.some.injEq, Prod.mk.injEq] at h; obtain ⟨rfl, rfl⟩ := h
            exact fieldAddr_good tok hi hf hop e1 hz.2 e2 hz.1 (.inl ⟨s, k, e3, rfl⟩)
          · rename_i cs k e3; simp only [Option.some.injEq, Prod.mk.injEq] at h; obtain ⟨rfl, rfl⟩ := h
            exact fieldAddr_good tok hi hf hop e1 hz.2 e2 hz.1 (.inr ⟨cs, k, e3, rfl⟩)
          · cases h
      · cases h
    · cases h
  | field t x f =>
    rw [hop] at h; simp only [plan] at h
    split at h
    · rename_i ti e1
      split at h
      · cases h
      · rename_i hk
        split at h
        · rename_i fo cs e2 e3
          obtain ⟨u, e4, h⟩ := Option.map_eq_some_iff.1 h
          simp only [Prod.mk.injEq] at h; obtain ⟨rfl, rfl⟩ := h
          exact field_good tok hi hf hop e1 (Decidable.of_not_not hk) e2 e3 e4
        · cases h
    · cases h
  | indexAddr t x ix =>
    rw [hop] at h; simp only [plan] at h
    split at h
    · rename_i ti e1
      split at h
      · rename_i e hk
        split at h
        · rename_i te k n e2 e3
          split at h
          · rename_i tg l e4
            split at h
            · rename_i hb
              split at h
              · rename_i r e5
                split at h
                · rename_i hr; simp only [Option.some.injEq, Prod.mk.injEq] at h; obtain ⟨rfl, rfl⟩ := h
                  exact indexAddr_good tok hi hf hop e1 hk e2 e3 (.inl ⟨tg, l, r, e4, hb.1, hb.2, e5, hr.1, hr.2, rfl⟩)
                · cases h
              · cases h
            · cases h
          · rename_i sz s off len cp e4
            split at h
            · rename_i hb; simp only [Option.some.injEq, Prod.mk.injEq] at h; obtain ⟨rfl, rfl⟩ := h
              exact indexAddr_good tok hi hf hop e1 hk e2 e3 (.inr ⟨sz, s, off, len, cp, e4, hb.1, hb.2.1, hb.2.2, rfl⟩)
            · cases h
          · cases h
        · cases h
      · cases h
    · cases h
  | index t x ix =>
    rw [hop] at h; simp only [plan] at h
    split at h
    · rename_i l k n e1 e2 e3
      split at h
      · rename_i h0
        split at h
        · rename_i b e4; simp only [Option.some.injEq, Prod.mk.injEq] at h; obtain ⟨rfl, rfl⟩ := h
          obtain ⟨ti, e5, e6⟩ := Option.map_eq_some_iff.1 e3
          exact index_good tok hi hf hop e5 e6 e1 e2 h0 e4
        · cases h
      · cases h
    · cases h
  | extract x i =>
    rw [hop] at h; simp only [plan] at h
    split at h
    · rename_i vs e1
      obtain ⟨u, e, h⟩ := Option.map_eq_some_iff.1 h
      simp only [Prod.mk.injEq] at h; obtain ⟨rfl, rfl⟩ := h
      exact extract_good hi hf hop e1 e
    · cases h
  | lookup t x ix ok =>
    rw [hop] at h; simp only [plan] at h
    split at h
    · rename_i ti e1
      split at h
      · rename_i k e hk
        split at h
        · rename_i tk te e2 e3
          split at h
          · cases h
          · rename_i hm
            simp only [Bool.not_eq_true', Bool.not_eq_false] at hm
            split at h
            · cases h
            · rename_i es' e4
              have hx : (ev T x = .nilmap ∧ es' = []) ∨ ∃ s, ev T x = .map s ∧ hget st.h s = some (.map es') := by
                split at e4
                · rename_i e5; simp only [Option.some.injEq] at e4; exact .inl ⟨e5, e4.symm⟩
                · rename_i s e5
                  split at e4
                  · rename_i es2 e6; simp only [Option.some.injEq] at e4; subst e4; exact .inr ⟨s, e5, hh _ _ e6⟩
                  · cases e4
                · cases e4
              split at h
              · cases h
              · rename_i j u e5; simp only [Option.some.injEq, Prod.mk.injEq] at h; obtain ⟨rfl, rfl⟩ := h
                exact lookup_good tok hi hf hop e1 hk e2 e3 hm hx e5 (.inl ⟨j, u, rfl, rfl⟩)
              · rename_i e5
                split at h
                · rename_i z e6; simp only [Option.some.injEq, Prod.mk.injEq] at h; obtain ⟨rfl, rfl⟩ := h
                  exact lookup_good tok hi hf hop e1 hk e2 e3 hm hx e5 (.inr ⟨z, rfl, e6, rfl⟩)
                · cases h
        · cases h
      · cases h
    · cases h
  | mapUpdate t m k x =>
    rw [hop] at h; simp only [plan] at h
    split at h
    · rename_i ti e1
      split at h
      · rename_i kt et hk
        split at h
        · rename_i tk e2
          split at h
          · cases h
          · rename_i hm
            simp only [Bool.not_eq_true', Bool.not_eq_false] at hm
            split at h
            · rename_i s e3
              split at h
              · rename_i hb
                split at h
                · rename_i es' e4
                  split at h
                  · rename_i j u e5; simp only [Option.some.injEq, Prod.mk.injEq] at h; obtain ⟨rfl, rfl⟩ := h
                    exact mapUpdate_good tok hi hf (.inl hop) e1 hk e2 hm e3 hb (hh _ _ e4) e5 (.inl ⟨j, u, rfl, rfl⟩)
                  · rename_i e5; simp only [Option.some.injEq, Prod.mk.injEq] at h; obtain ⟨rfl, rfl⟩ := h
                    exact mapUpdate_good tok hi hf (.inl hop) e1 hk e2 hm e3 hb (hh _ _ e4) e5 (.inr ⟨rfl, rfl⟩)
                  · cases h
                · cases h
              · cases h
            · cases h
        · cases h
      · cases h
    · cases h
  | insert t m k x =>
    rw [hop] at h; simp only [plan] at h
    split at h
    · rename_i ti e1
      split at h
      · rename_i kt et hk
        split at h
        · rename_i tk e2
          split at h
          · cases h
          · rename_i hm
            simp only [Bool.not_eq_true', Bool.not_eq_false] at hm
            split at h
            · rename_i s e3
              split at h
              · rename_i hb
                split at h
                · rename_i es' e4
                  split at h
                  · rename_i j u e5; simp only [Option.some.injEq, Prod.mk.injEq] at h; obtain ⟨rfl, rfl⟩ := h
                    exact mapUpdate_good tok hi hf (.inr hop) e1 hk e2 hm e3 hb (hh _ _ e4) e5 (.inl ⟨j, u, rfl, rfl⟩)
                  · rename_i e5; simp only [Option.some.injEq, Prod.mk.injEq] at h; obtain ⟨rfl, rfl⟩ := h
                    exact mapUpdate_good tok hi hf (.inr hop) e1 hk e2 hm e3 hb (hh _ _ e4) e5 (.inr ⟨rfl, rfl⟩)
                  · cases h
                · cases h
              · cases h
            · cases h
        · cases h
      · cases h
    · cases h
  | call c =>
    rw [hop] at h
    obtain ⟨callee, args, ats⟩ := c
    cases callee with
    | value f => simp only [plan] at h; cases h
    | invoke r m => simp only [plan] at h; cases h
    | builtin b =>
      cases b <;> try (simp only [plan] at h; cases h; done)
      case len =>
        simp only [plan] at h
        split at h
        · rename_i x t e1 e2
          split at h
          · rename_i ti e3
            obtain ⟨n, e, h⟩ := Option.map_eq_some_iff.1 h
            simp only [Prod.mk.injEq] at h; obtain ⟨rfl, rfl⟩ := h
            exact len_good tok hi hf hh hop e1 e2 e3 e
          · cases h
        · cases h
      case min =>
        simp only [plan] at h
        split at h
        · rename_i n m e1; simp only [Option.some.injEq, Prod.mk.injEq] at h; obtain ⟨rfl, rfl⟩ := h
          exact min_good hi hf hop e1
        · cases h
      case max =>
        simp only [plan] at h
        split at h
        · rename_i n m e1; simp only [Option.some.injEq, Prod.mk.injEq] at h; obtain ⟨rfl, rfl⟩ := h
          exact max_good hi hf hop e1
        · cases h
      case append =>
        simp only [plan] at h
        split at h
        · rename_i s x t t' e1 e2
          split at h
          · cases h
          · rename_i ht
            have ht' : t = t' := Decidable.of_not_not ht
            subst ht'
            have e1' : args = #[s, x] := by rw [← e1]
            have e2' : ats = #[t, t] := by rw [← e2]
            subst e1' e2'
            split at h
            · rename_i ti e3
              split at h
              · rename_i e hk
                split at h
                · rename_i te e4
                  split at h
                  · rename_i n ns e5
                    split at h
                    · cases h
                    · rename_i hz
                      simp only [not_or, Decidable.not_not] at hz
                      obtain ⟨hz1, hz2, hz3⟩ := hz
                      split at h
                      · rename_i l e6
                        split at h
                        · rename_i hb
                          split at h
                          · rename_i hz4; simp only [Option.some.injEq, Prod.mk.injEq] at h; obtain ⟨rfl, rfl⟩ := h
                            exact append_good tok hi hf hn hc hh hop e3 hk e4 e5 hz1 hz2 hz3 (.inl ⟨l, e6, hb.1, hb.2.1, hb.2.2, .inl ⟨hz4.1, hz4.2, rfl, rfl⟩⟩)
                          · rename_i hz4; simp only [Option.some.injEq, Prod.mk.injEq] at h; obtain ⟨rfl, rfl⟩ := h
                            exact append_good tok hi hf hn hc hh hop e3 hk e4 e5 hz1 hz2 hz3 (.inl ⟨l, e6, hb.1, hb.2.1, hb.2.2, .inr ⟨hz4, rfl, rfl⟩⟩)
                        · cases h
                      · rename_i sz q off len cp e6
                        split at h
                        · rename_i hb
                          obtain ⟨hb1, hb2, hb3, hb4⟩ := hb
                          subst hb1
                          split at h
                          · rename_i cs e7
                            split at h
                            · rename_i hfr; simp only [Option.some.injEq, Prod.mk.injEq] at h; obtain ⟨rfl, rfl⟩ := h
                              exact append_good tok hi hf hn hc hh hop e3 hk e4 e5 hz1 hz2 hz3 (.inr ⟨q, off, len, cp, cs, e6, hb2, hb3, hb4, hh _ _ e7, .inl ⟨hfr, rfl, rfl⟩⟩)
                            · split at h
                              · rename_i hcp
                                split at h
                                · rename_i cs' e8; simp only [Option.some.injEq, Prod.mk.injEq] at h; obtain ⟨rfl, rfl⟩ := h
                                  exact append_good tok hi hf hn hc hh hop e3 hk e4 e5 hz1 hz2 hz3 (.inr ⟨q, off, len, cp, cs, e6, hb2, hb3, hb4, hh _ _ e7, .inr ⟨hcp, cs', e8, rfl, rfl⟩⟩)
                                · cases h
                              · cases h
                          · cases h
                        · cases h
                      · cases h
                  · cases h
                · cases h
              · cases h
            · cases h
        · cases h
      case clear =>
        simp only [plan] at h
        split at h
        · rename_i s t e1 e2
          have e1' : args = #[s] := by rw [← e1]
          have e2' : ats = #[t] := by rw [← e2]
          subst e1' e2'
          split at h
          · rename_i ti e3
            split at h
            · rename_i e hk
              split at h
              · rename_i te e4
                split at h
                · rename_i sz q off len cp e5
                  split at h
                  · rename_i hb
                    obtain ⟨hb1, hb2, hb3, hb4⟩ := hb
                    subst hb1
                    split at h
                    · rename_i cs e6
                      split at h
                      · rename_i cs' e7; simp only [Option.some.injEq, Prod.mk.injEq] at h; obtain ⟨rfl, rfl⟩ := h
                        exact clear_good tok hi hf hop e3 hk e4 e5 hb3 hb4 (hh _ _ e6) e7
                      · cases h
                    · cases h
                  · cases h
                · cases h
              · cases h
            · cases h
          · cases h
        · cases h
  | _ => rw [hop] at h; simp only [plan] at h; cases h

end
end Go.Ab
