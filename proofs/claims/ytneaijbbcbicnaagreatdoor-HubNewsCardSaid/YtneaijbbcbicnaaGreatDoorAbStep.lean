/- One operation, calls too: the machine does what the plain interpreter says. -/
import Derived.Test.YtneaijbbcbicnaaGreatDoorAbFin
import Derived.Orders
namespace Go.Ab
open Go

/-- A contract for a function that the plain interpreter does not run. -/
def HookOk [Inhabited Val] (P : Program) (g : Nat) (F : Heap → Nat → Nat → List AV → Option (AV × List (Nat × AObj))) : Prop :=
  ∀ (B : Base) (ρ : Rho) (im : Im) (st : St) (w : World) (new : Nat) (args : List AV) (vargs : List Value) (look : Heap) (v : AV) (es : List (Nat × AObj)),
    Inv B ρ im st w → ρ new = none → new < st.c → (∀ s x, hget look s = some x → hget st.h s = some x) → LRel ρ im args vargs → F look st.bar new args = some (v, es) →
    Calls P g vargs.toArray w fun e w' => ∃ rv ρ', e = .returned rv ∧ VRel ρ' im v rv ∧ Inv B ρ' im { st with h := hputs st.h es } w' ∧ RhoExt ρ ρ' ∧ ∀ s, s ≠ new → ρ' s = ρ s

/-- A function of the program, as it is entered. -/
def Enters (P : Program) (g : Nat) (fn : Func) : Prop := P.funcs[g]? = some fn ∧ (fn.name == "runtime.NumGoroutine") = false ∧ fn.body.isSome = true

structure CfgOk [Inhabited Val] (P : Program) (C : Cfg) : Prop where
  ty : TOk P C
  facts : FactsOk C
  fn : ∀ g fn, C.fn g = some fn → Enters P g fn
  hook : ∀ g F, C.hook g = some F → HookOk P g F ∧ ∃ fn, Enters P g fn

/-- What is known behind a call. -/
def After [Inhabited Val] (B : Base) (ρ : Rho) (im : Im) (c : Nat) (st' : St) (r : AV) (e : Ending) (w' : World) : Prop :=
  ∃ rv ρ' im', e = .returned rv ∧ VRel ρ' im' r rv ∧ Inv B ρ' im' st' w' ∧ RhoExt ρ ρ' ∧ ImExt im im' ∧ ∀ s, s < c → ρ' s = ρ s

def CallsOk [Inhabited Val] (P : Program) (C : Cfg) (call : CallF) : Prop :=
  ∀ g args st r st', call g args st = some (r, st') → st.c ≤ st'.c ∧ (∃ fn, C.fn g = some fn) ∧
    (C.mode g = 2 → ∀ (B : Base) (ρ : Rho) (im : Im) (w : World) (vargs : List Value), Inv B ρ im st w → LRel ρ im args vargs → Calls P g vargs.toArray w (After B ρ im st.c st' r)) ∧
    (C.mode g ≠ 2 → ∀ (B : Base) (ρ : Rho) (im : Im) (hfull : Heap) (w : World) (vargs : List Value), Inv B ρ im { st with h := hfull } w → (∀ s o, hget st.h s = some o → hget hfull s = some o) → LRel ρ im args vargs →
      Calls P g vargs.toArray w (After B ρ im st.c { st with h := if C.mode g = 1 then (st'.h.filter fun p => decide (st.c ≤ p.1)) ++ hfull else hfull, c := st'.c } r))

section
variable {P : Program} {C : Cfg} {call : CallF} {B : Base} {ρ : Rho} {im : Im} {st st' : St} {nt : Nat} {T T' : List AV} {a : Act} {w : World} {ops : Array Oper} {Q : Exit → Act → World → Prop}

theorem run_callFunc {g : Nat} {fn : Func} (h : Enters P g fn) (args : Array Value) (w : World) : (callFunc g args).run P w = .ok (.enter g args) w := by
  obtain ⟨h1, h2, h3⟩ := h
  have h2' : ¬ fn.name = "runtime.NumGoroutine" := by simpa using h2
  have h3' : ¬ fn.body = none := fun e => by rw [e] at h3; cases h3
  simp [callFunc, h1, h2', h3']

theorem wanted_sound [Inhabited Val] (hf : FRel ρ im nt T a) {o : Oper} {b : Bool} (h : wantedA ops T o = some b) : Region.wanted o (yielded ops a.tmps) = b := by
  unfold wantedA at h
  unfold Region.wanted
  split at h
  · rename_i e; simp only [Option.some.injEq] at h; subst h; simp [e]
  · rename_i j want e
    simp only [e]
    unfold yielded
    split at h
    · rename_i e2
      simp only [Option.some.injEq] at h; subst h
      simp [e2]
    · rename_i d e2
      rw [e2]
      simp only [Option.bind_some]
      have hv := hf.val d
      split at h
      · rename_i b' e3
        simp only [Option.some.injEq] at h; subst h
        rw [e3] at hv
        have hd : a.tmps[d]? = some (.bool b') := by
          rw [Array.getD_eq_getD_getElem?] at hv
          cases hx : a.tmps[d]? with
          | none => rw [hx] at hv; simp only [Option.getD_none] at hv; cases hv
          | some x => rw [hx] at hv; simp only [Option.getD_some] at hv; rw [of_bool hv]
        rw [hd]
        simp
      · cases h
      · rename_i hnb hnbad
        simp only [Option.some.injEq] at h; subst h
        have hno : ∀ b', a.tmps[d]? ≠ some (.bool b') := fun b' e4 => by
          rw [Array.getD_eq_getD_getElem?, e4] at hv
          simp only [Option.getD_some] at hv
          generalize getT T d = u at *
          cases hv
          · exact hnbad rfl
          · exact hnb _ rfl
        cases hx : a.tmps[d]? with
        | none => rfl
        | some x =>
          cases x <;> first | rfl | exact absurd hx (hno _)

theorem hget_sees {f : Nat → Bool} (h : Heap) {s : Nat} {o : AObj} (hg : hget (h.filter fun p => f p.1) s = some o) : hget h s = some o := by
  rw [hget_filter] at hg
  split at hg
  · exact hg
  · cases hg

/-- An operation with its guard. -/
theorem step_sound [Inhabited Val] (ok : CfgOk P C) (cok : CallsOk P C call) {c0 i : Nat} {bl : Option (List (List Nat))} {f : Foot} (h : stepA C call nt c0 bl ops i T st = some (T', st', f)) (hi : Inv B ρ im st w) (hf : FRel ρ im nt T a) (hn : ρ (c0 + i) = none) (hin : i < ops.size) (hcn : c0 + ops.size ≤ st.c)
    {K : Act → World → Prop} (k : ∀ a' w' ρ' im', FRel ρ' im' nt T' a' → Inv B ρ' im' st' w' → (∀ s, s < c0 + ops.size → s ≠ c0 + i → ρ' s = ρ s) → K a' w') : wpOp P ops Q i K a w ∧ c0 + ops.size ≤ st'.c := by
  unfold stepA at h
  unfold wpOp
  split at h
  · cases h
  · rename_i o ho
    rw [ho]
    simp only
    have hnew : c0 + i < st.c := by omega
    unfold todo at h
    split at h
    · cases h
    · -- not wanted
      rename_i hw
      simp only [wanted_sound hf hw, Bool.false_eq_true, if_false]
      simp only [runTodo] at h
      obtain ⟨T2, hp, h⟩ := Option.map_eq_some_iff.1 h
      simp only [Prod.mk.injEq] at h
      obtain ⟨rfl, rfl, rfl⟩ := h
      exact ⟨k _ _ ρ im (hf.put .undef hp) (by simpa [hputs] using hi) (fun _ _ _ => rfl), hcn⟩
    · rename_i hw
      simp only [wanted_sound hf hw, if_true]
      have plainCase : ∀ (rd : List Nat) (F : Heap → Option (AV × List (Nat × AObj))), runTodo C call nt c0 ops.size (bl.map (·.getD i [])) o.dst T st (.plain rd F) = some (T', st', f) →
          (∀ v es, F (only st.h rd) = some (v, es) → (∀ T2, putT nt T o.dst v = some T2 → ∀ K2 : Act → World → Prop, (∀ a' w' ρ', FRel ρ' im nt T2 a' → Inv B ρ' im { st with h := hputs st.h es } w' → (∀ s, s ≠ c0 + i → ρ' s = ρ s) → K2 a' w') → o.wp P a w K2 Q)) →
          (o.wp P a w K Q ∨ o.asks P a w ∧ LetsOut Q) ∧ c0 + ops.size ≤ st'.c := fun rd F h hF => by
        simp only [runTodo] at h
        split at h
        · rename_i v es hv
          obtain ⟨T2, hp, h⟩ := Option.map_eq_some_iff.1 h
          simp only [Prod.mk.injEq] at h
          obtain ⟨rfl, rfl, rfl⟩ := h
          exact ⟨.inl (hF v es hv T2 hp K fun a' w' ρ' h1 h2 h3 => k a' w' ρ' im h1 h2 (fun s _ hs => h3 s hs)), hcn⟩
        · cases h
      split at h
      · -- a call of a value
        rename_i fo args ats hop
        have hfo := hf.ev fo
        split at h
        · rename_i g first captured hg
          rw [hg] at hfo
          generalize hax : a.eval fo = ax at hfo
          cases hfo with
          | func _ _ _ va vc h1 hh1 h2 hh2 =>
            have hl1 : LRel ρ im first va.toList := lrel_array h1 hh1
            have hl2 : LRel ρ im captured vc.toList := lrel_array h2 hh2
            have hargs : LRel ρ im (first ++ (args.toList.map (ev T) ++ captured)) (va.toList ++ (args.toList.map a.eval ++ vc.toList)) := hl1.append ((lrel_map hf args.toList).append hl2)
            have hexec : ∀ fn, Enters P g fn → (execOp a.eval o).run P w = .ok (.enter g (va.toList ++ (args.toList.map a.eval ++ vc.toList)).toArray) w := fun fn hen => by
              simp only [execOp, hop, resolve, hax, Deferred.ofValue, Sem.run_bind, Sem.run_pure, Result.andThen_ok, invoke]
              rw [run_callFunc hen]
              congr 2
              apply Array.ext'
              simp
            split at h
            · -- a hook
              rename_i F hF
              obtain ⟨hok, fn, hen⟩ := ok.hook g F hF
              refine plainCase _ _ h fun v es hv T2 hp K2 k2 => ?_
              have hc := hok B ρ im st w (c0 + i) _ _ _ v es hi hn hnew (fun s x hx => hget_only hx) hargs hv
              unfold Oper.wp
              rw [hexec fn hen]
              simp only [Oper.upon]
              refine hc.mono ?_
              rintro e w' ⟨rv, ρ', rfl, hv', hinv, hext, hoth⟩
              exact k2 _ w' ρ' ((hf.mono hext (imExt_refl _)).put hv' hp) hinv hoth
            · -- a function of the program's
              simp only [runTodo] at h
              split at h
              · rename_i hm
                split at h
                · rename_i v st2 hcall
                  obtain ⟨T2, hp, h⟩ := Option.map_eq_some_iff.1 h
                  simp only [Prod.mk.injEq] at h
                  obtain ⟨rfl, rfl, rfl⟩ := h
                  obtain ⟨hcc, ⟨fn, hfn⟩, h2', _⟩ := cok g _ st v st2 hcall
                  refine ⟨.inl ?_, by omega⟩
                  unfold Oper.wp
                  rw [hexec fn (ok.fn g fn hfn)]
                  simp only [Oper.upon]
                  refine (h2' hm B ρ im w _ hi hargs).mono ?_
                  rintro e w' ⟨rv, ρ', im', rfl, hv', hinv, hext, hiext, hoth⟩
                  exact k _ w' ρ' im' ((hf.mono hext hiext).put hv' hp) hinv (fun s hs _ => hoth s (by omega))
                · cases h
              · rename_i hm
                split at h
                · rename_i v st2 hcall
                  obtain ⟨T2, hp, h⟩ := Option.map_eq_some_iff.1 h
                  simp only [Prod.mk.injEq] at h
                  obtain ⟨rfl, rfl, rfl⟩ := h
                  obtain ⟨hcc, ⟨fn, hfn⟩, _, h2'⟩ := cok g _ _ v st2 hcall
                  simp only at hcc
                  refine ⟨.inl ?_, by show c0 + ops.size ≤ st2.c; omega⟩
                  unfold Oper.wp
                  rw [hexec fn (ok.fn g fn hfn)]
                  simp only [Oper.upon]
                  refine (h2' hm B ρ im st.h w _ (by exact hi) (fun s x hx => hget_sees st.h hx) hargs).mono ?_
                  rintro e w' ⟨rv, ρ', im', rfl, hv', hinv, hext, hiext, hoth⟩
                  exact k _ w' ρ' im' ((hf.mono hext hiext).put hv' hp) hinv (fun s hs _ => hoth s (by simp only; omega))
                · cases h
        · cases h
      · -- any other operation
        refine plainCase _ _ h fun v es hv T2 hp K2 k2 => ?_
        obtain ⟨rv, w', ρ', hr, hv', hinv, hext, hoth⟩ := plan_good ok.ty ok.facts hi hf hn hnew (fun s x hx => hget_only hx) hv
        unfold Oper.wp
        have hfin := k2 (a.put o.dst rv) w' ρ' ((hf.mono hext (imExt_refl _)).put hv' hp) hinv hoth
        rcases hr with hr | ⟨hr, rfl⟩
        · rw [hr]; exact hfin
        · rw [hr]; exact hfin

/-- A region whose order is fixed. -/
theorem ops_sound [Inhabited Val] (ok : CfgOk P C) (cok : CallsOk P C call) {c0 : Nat} {bl : Option (List (List Nat))} : ∀ (l : List Nat) (T : List AV) (st : St) (T' : List AV) (st' : St) (fs : List (Nat × Foot)) (ρ : Rho) (im : Im) (a : Act) (w : World), opsA C call nt c0 bl ops l T st = some (T', st', fs) →
    (∀ i ∈ l, i < ops.size) → l.Nodup → Inv B ρ im st w → FRel ρ im nt T a → (∀ i ∈ l, ρ (c0 + i) = none) → c0 + ops.size ≤ st.c →
    (∀ a' w' ρ' im', FRel ρ' im' nt T' a' → Inv B ρ' im' st' w' → (∀ s, s < c0 → ρ' s = ρ s) → Q .normal a' w') → wpOps P ops Q l a w := by
  intro l
  induction l with
  | nil =>
    intro T st T' st' fs ρ im a w h _ _ hi hf _ _ k
    simp only [opsA, Option.some.injEq, Prod.mk.injEq] at h
    obtain ⟨rfl, rfl, rfl⟩ := h
    exact k a w ρ im hf hi (fun _ _ => rfl)
  | cons i l ih =>
    intro T st T' st' fs ρ im a w h hl hnd hi hf hn hcn k
    simp only [opsA] at h
    split at h
    · cases h
    · rename_i T1 st1 f hs
      split at h
      · rename_i T2 st2 fs2 ht
        simp only [Option.some.injEq, Prod.mk.injEq] at h
        obtain ⟨rfl, rfl, rfl⟩ := h
        rw [wpOps_cons]
        have hc1 : c0 + ops.size ≤ st1.c := (step_sound (Q := Q) ok cok hs hi hf (hn i (by simp)) (hl i (by simp)) hcn (K := fun _ _ => True) (fun _ _ _ _ _ _ _ => trivial)).2
        refine (step_sound ok cok hs hi hf (hn i (by simp)) (hl i (by simp)) hcn ?_).1
        intro a' w' ρ' im' hf' hi' hoth
        refine ih T1 st1 T2 st2 fs2 ρ' im' a' w' ht (fun j hj => hl j (by simp [hj])) (List.nodup_cons.1 hnd).2 hi' hf' (fun j hj => ?_) hc1 ?_
        · have hjl := hl j (by simp [hj])
          rw [hoth (c0 + j) (by omega) (fun e => (List.nodup_cons.1 hnd).1 (by have : j = i := by omega
                                                                               rw [← this]; exact hj))]
          exact hn j (by simp [hj])
        · intro a2 w2 ρ2 im2 hf2 hi2 hs2
          exact k a2 w2 ρ2 im2 hf2 hi2 (fun s hs => by rw [hs2 s hs, hoth s (by omega) (by omega)])
      · cases h

end
end Go.Ab
