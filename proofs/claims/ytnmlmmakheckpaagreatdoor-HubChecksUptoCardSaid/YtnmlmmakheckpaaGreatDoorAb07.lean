/- One operation, calls too: the machine does what the plain interpreter says. -/
import Derived.Test.YtnmlmmakheckpaaGreatDoorAb06
import Derived.Orders
namespace Go.Ab
open Go

/-- A contract for a function that the plain interpreter does not run. -/
def HookOk [Inhabited Val] (P : Program) (g : Nat) (F : Heap → Nat → Nat → List AV → Option (AV × List (Nat × AObj))) : Prop :=
  ∀ (B : Base) (ρ : Rho) (im : Im) (st : St) (w : World) (new : Nat) (args : List AV) (vargs : List Value) (look : Heap) (v : AV) (es : List (Nat × AObj)),
    Inv B ρ im st w → ρ new = none → new < st.c → (∀ s x, hget look s = some x → hget st.h s = some x) → LRel ρ im args vargs → F look st.bar new args = some (v, es) →
    Calls P g vargs.toArray w fun e w' => ∃ rv ρ' im', e = .returned rv ∧ VRel ρ' im' v rv ∧ Inv B ρ' im' { st with h := hputs st.h es } w' ∧ RhoExt ρ ρ' ∧ ImExt im im' ∧ ∀ s, s ≠ new → ρ' s = ρ s

/-- A function of the program, as it is entered. -/
def Enters (P : Program) (g : Nat) (fn : Func) : Prop := P.funcs[g]? = some fn ∧ (fn.name == "runtime.NumGoroutine") = false ∧ fn.body.isSome = true

structure CfgOk [Inhabited Val] (P : Program) (C : Cfg) : Prop where
  ty : TOk P C
  facts : FactsOk C
  fn : ∀ g fn, C.fn g = some fn → Enters P g fn
  hook : ∀ g F, C.hook g = some F → HookOk P g F ∧ ∃ fn, Enters P g fn

/-- What is known behind a call. -/
def After [Inhabited Val] (B : Base) (ρ : Rho) (im : Im) (c : Nat) (st' : St) (r : AV) (e : Ending) (w' : World) : Prop :=
  ∃ rv ρ' im', e = .returned rv ∧ VRel ρ' im' r rv ∧ Inv B ρ' im' st' w' ∧ RhoExt ρ ρ' ∧ ImExt im im' ∧ ∀ s, s < c → ρ' s = ρ s

def CallsOk [Inhabited Val] (P : Program) (C : Cfg) (call : CallF) : Prop :=
  ∀ g args st r st', call g args st = some (r, st') → st.c ≤ st'.c ∧ (∃ fn, C.fn g = some fn) ∧
    (C.mode g = 2 → ∀ (B : Base) (ρ : Rho) (im : Im) (w : World) (vargs : List Value), Inv B ρ im st w → LRel ρ im args vargs → Calls P g vargs.toArray w (After B ρ im st.c st' r)) ∧
    (C.mode g ≠ 2 → ∀ (B : Base) (ρ : Rho) (im : Im) (hfull : Heap) (w : World) (vargs : List Value), Inv B ρ im { st with h := hfull } w → (∀ s o, hget st.h s = some o → hget hfull s = some o) → LRel ρ im args vargs →
      Calls P g vargs.toArray w (After B ρ im st.c { st with h := if C.mode g = 1 then (st'.h.filter fun p => decide (st.c ≤ p.1)) ++ hfull else hfull, c := st'.c } r))

section
variable {P : Program} {C : Cfg} {call : CallF} {B : Base} {ρ : Rho} {im : Im} {st st' : St} {nt : Nat} {T T' : List AV} {a : Act} {w : World} {ops : Array Oper} {Q : Exit → Act → World → Prop}

theorem run_callFunc {g : Nat} {fn : Func} (h : Enters P g fn) (args : Array Value) (w : World) : (callFunc g args).run P w = .ok (.enter g args) w := by
  obtain ⟨h1, h2, h3⟩ := h
  have h2' : ¬ fn.name = "runtime.NumGoroutine" := by simpa using h2
  have h3' : ¬ fn.body = none := fun e => by rw [e] at h3; cases h3
  simp [callFunc, h1, h2', h3']

theorem wanted_sound [Inhabited Val] (hf : FRel ρ im nt T a) {o : Oper} {b : Bool} (h : wantedA ops T o = some b) : Region.wanted o (yielded ops a.tmps) = b := by
  unfold wantedA at h
  unfold Region.wanted
  split at h
  · rename_i e; simp only [Option.some.injEq] at h; subst h; simp [e]
  · rename_i j want e
    simp only [e]
    unfold yielded
    split at h
    · rename_i e2
      simp only [Option.some.injEq] at h; subst h
      simp [e2]
    · rename_i d e2
      rw [e2]
      simp only [Option.bind_some]
      have hv := hf.val d
      split at h
      · rename_i b' e3
        simp only [Option.some.injEq] at h; subst h
        rw [e3] at hv
        have hd : a.tmps[d]? = some (.bool b') := by
          rw [Array.getD_eq_getD_getElem?] at hv
          cases hx : a.tmps[d]? with
          | none => rw [hx] at hv; simp only [Option.getD_none] at hv; cases hv
          | some x => rw [hx] at hv; simp only [Option.getD_some] at hv; rw [of_bool hv]
        rw [hd]
        simp
      · cases h
      · rename_i hnb hnbad
        simp only [Option.some.injEq] at h; subst h
        have hno : ∀ b', a.tmps[d]? ≠ some (.bool b') := fun b' e4 => by
          rw [Array.getD_eq_getD_getElem?, e4] at hv
          simp only [Option.getD_some] at hv
          generalize getT T d = u at *
          cases hv
          · exact hnbad rfl
          · exact hnb _ rfl
        cases hx : a.tmps[d]? with
        | none => rfl
        | some x =>
          cases x <;> first | rfl | exact absurd hx (hno _)

theorem hget_sees {f : Nat → Bool} (h : Heap) {s : Nat} {o : AObj} (hg : hget (h.filter fun p => f p.1) s = some o) : hget h s = some o := by
  rw [hget_filter] at hg
  split at hg
  · exact hg
  · cases hg

/-- An operation with its guard. -/
theorem step_sound [Inhabited Val] (ok : CfgOk P C) (cok : CallsOk P C call) {c0 i : Nat} {bl : Option (List (List Nat))} {f : Foot} (h : stepA C call nt c0 bl ops i T st = some (T', st', f)) (hi : Inv B ρ im st w) (hf : FRel ρ im nt T a) (hn : ρ (c0 + i) = none) (hin : i < ops.size) (hcn : c0 + ops.size ≤ st.c)
    {K : Act → World → Prop} (k : ∀ a' w' ρ' im', FRel ρ' im' nt T' a' → Inv B ρ' im' st' w' → (∀ s, s < c0 + ops.size → s ≠ c0 + i → ρ' s = ρ s) → K a' w') : wpOp P ops Q i K a w ∧ c0 + ops.size ≤ st'.c := by
  unfold stepA at h
  unfold wpOp
  split at h
  · cases h
  · rename_i o ho
    rw [ho]
    simp only
    have hnew : c0 + i < st.c := by omega
    unfold todo at h
    split at h
    · cases h
    · -- not wanted
      rename_i hw
      simp only [wanted_sound hf hw, Bool.false_eq_true, if_false]
      simp only [runTodo] at h
      obtain ⟨T2, hp, h⟩ := Option.map_eq_some_iff.1 h
      simp only [Prod.mk.injEq] at h
      obtain ⟨rfl, rfl, rfl⟩ := h
      exact ⟨k _ _ ρ im (hf.put .undef hp) (by simpa [hputs] using hi) (fun _ _ _ => rfl), hcn⟩
    · rename_i hw
      simp only [wanted_sound hf hw, if_true]
      have plainCase : ∀ (rd : List Nat) (F : Heap → Option (AV × List (Nat × AObj))), runTodo C call nt c0 ops.size (bl.map (·.getD i [])) o.dst T st (.plain rd F) = some (T', st', f) →
          (∀ v es, F (only st.h rd) = some (v, es) → (∀ T2, putT nt T o.dst v = some T2 → ∀ K2 : Act → World → Prop, (∀ a' w' ρ' im', FRel ρ' im' nt T2 a' → Inv B ρ' im' { st with h := hputs st.h es } w' → (∀ s, s ≠ c0 + i → ρ' s = ρ s) → K2 a' w') → o.wp P a w K2 Q)) →
          (o.wp P a w K Q ∨ o.asks P a w ∧ LetsOut Q) ∧ c0 + ops.size ≤ st'.c := fun rd F h hF => by
        simp only [runTodo] at h
        split at h
        · rename_i v es hv
          obtain ⟨T2, hp, h⟩ := Option.map_eq_some_iff.1 h
          simp only [Prod.mk.injEq] at h
          obtain ⟨rfl, rfl, rfl⟩ := h
          exact ⟨.inl (hF v es hv T2 hp K fun a' w' ρ' im' h1 h2 h3 => k a' w' ρ' im' h1 h2 (fun s _ hs => h3 s hs)), hcn⟩
        · cases h
      split at h
      · -- a call of a value
        rename_i fo args ats hop
        have hfo := hf.ev fo
        split at h
        · rename_i g first captured hg
          rw [hg] at hfo
          generalize hax : a.eval fo = ax at hfo
          cases hfo with
          | func _ _ _ va vc h1 hh1 h2 hh2 =>
            have hl1 : LRel ρ im first va.toList := lrel_array h1 hh1
            have hl2 : LRel ρ im captured vc.toList := lrel_array h2 hh2
            have hargs : LRel ρ im (first ++ (args.toList.map (ev T) ++ captured)) (va.toList ++ (args.toList.map a.eval ++ vc.toList)) := hl1.append ((lrel_map hf args.toList).append hl2)
            have hexec : ∀ fn, Enters P g fn → (execOp a.eval o).run P w = .ok (.enter g (va.toList ++ (args.toList.map a.eval ++ vc.toList)).toArray) w := fun fn hen => by
              simp only [execOp, hop, resolve, hax, Deferred.ofValue, Sem.run_bind, Sem.run_pure, Result.andThen_ok, invoke]
              rw [run_callFunc hen]
              congr 2
              apply Array.ext'
              simp
            split at h
            · -- a hook
              rename_i F hF
              obtain ⟨hok, fn, hen⟩ := ok.hook g F hF
              refine plainCase _ _ h fun v es hv T2 hp K2 k2 => ?_
              have hc := hok B ρ im st w (c0 + i) _ _ _ v es hi hn hnew (fun s x hx => hget_only hx) hargs hv
              unfold Oper.wp
              rw [hexec fn hen]
              simp only [Oper.upon]
              refine hc.mono ?_
              rintro e w' ⟨rv, ρ', im', rfl, hv', hinv, hext, hiext, hoth⟩
              exact k2 _ w' ρ' im' ((hf.mono hext hiext).put hv' hp) hinv hoth
            · -- a function of the program's
              simp only [runTodo] at h
              split at h
              · rename_i hm
                split at h
                · rename_i v st2 hcall
                  obtain ⟨T2, hp, h⟩ := Option.map_eq_some_iff.1 h
                  simp only [Prod.mk.injEq] at h
                  obtain ⟨rfl, rfl, rfl⟩ := h
                  obtain ⟨hcc, ⟨fn, hfn⟩, h2', _⟩ := cok g _ st v st2 hcall
                  refine ⟨.inl ?_, by omega⟩
                  unfold Oper.wp
                  rw [hexec fn (ok.fn g fn hfn)]
                  simp only [Oper.upon]
                  refine (h2' hm B ρ im w _ hi hargs).mono ?_
                  rintro e w' ⟨rv, ρ', im', rfl, hv', hinv, hext, hiext, hoth⟩
                  exact k _ w' ρ' im' ((hf.mono hext hiext).put hv' hp) hinv (fun s hs _ => hoth s (by omega))
                · cases h
              · rename_i hm
                split at h
                · rename_i v st2 hcall
                  obtain ⟨T2, hp, h⟩ := Option.map_eq_some_iff.1 h
                  simp only [Prod.mk.injEq] at h
                  obtain ⟨rfl, rfl, rfl⟩ := h
                  obtain ⟨hcc, ⟨fn, hfn⟩, _, h2'⟩ := cok g _ _ v st2 hcall
                  simp only at hcc
                  refine ⟨.inl ?_, by show c0 + ops.size ≤ st2.c; omega⟩
                  unfold Oper.wp
                  rw [hexec fn (ok.fn g fn hfn)]
                  simp only [Oper.upon]
                  refine (h2' hm B ρ im st.h w _ (by exact hi) (fun s x hx => hget_sees st.h hx) hargs).mono ?_
                  rintro e w' ⟨rv, ρ', im', rfl, hv', hinv, hext, hiext, hoth⟩
                  exact k _ w' ρ' im' ((hf.mono hext hiext).put hv' hp) hinv (fun s hs _ => hoth s (by simp only; omega))
                · cases h
        · cases h
      · -- any other operation
        refine plainCase _ _ h fun v es hv T2 hp K2 k2 => ?_
        obtain ⟨rv, w', ρ', hr, hv', hinv, hext, hoth⟩ := plan_good ok.ty ok.facts hi hf hn hnew (fun s x hx => hget_only hx) hv
        unfold Oper.wp
        have hfin := k2 (a.put o.dst rv) w' ρ' im ((hf.mono hext (imExt_refl _)).put hv' hp) hinv hoth
        rcases hr with hr | ⟨hr, rfl⟩
        · rw [hr]; exact hfin
        · rw [hr]; exact hfin

/-- A region whose order is fixed. -/
theorem ops_sound [Inhabited Val] (ok : CfgOk P C) (cok : CallsOk P C call) {c0 : Nat} {bl : Option (List (List Nat))} : ∀ (l : List Nat) (T : List AV) (st : St) (T' : List AV) (st' : St) (fs : List (Nat × Foot)) (ρ : Rho) (im : Im) (a : Act) (w : World), opsA C call nt c0 bl ops l T st = some (T', st', fs) →
    (∀ i ∈ l, i < ops.size) → l.Nodup → Inv B ρ im st w → FRel ρ im nt T a → (∀ i ∈ l, ρ (c0 + i) = none) → c0 + ops.size ≤ st.c →
    (∀ a' w' ρ' im', FRel ρ' im' nt T' a' → Inv B ρ' im' st' w' → (∀ s, s < c0 → ρ' s = ρ s) → Q .normal a' w') → wpOps P ops Q l a w := by
  intro l
  induction l with
  | nil =>
    intro T st T' st' fs ρ im a w h _ _ hi hf _ _ k
    simp only [opsA, Option.some.injEq, Prod.mk.injEq] at h
    obtain ⟨rfl, rfl, rfl⟩ := h
    exact k a w ρ im hf hi (fun _ _ => rfl)
  | cons i l ih =>
    intro T st T' st' fs ρ im a w h hl hnd hi hf hn hcn k
    simp only [opsA] at h
    split at h
    · cases h
    · rename_i T1 st1 f hs
      split at h
      · rename_i T2 st2 fs2 ht
        simp only [Option.some.injEq, Prod.mk.injEq] at h
        obtain ⟨rfl, rfl, rfl⟩ := h
        rw [wpOps_cons]
        have hc1 : c0 + ops.size ≤ st1.c := (step_sound (Q := Q) ok cok hs hi hf (hn i (by simp)) (hl i (by simp)) hcn (K := fun _ _ => True) (fun _ _ _ _ _ _ _ => trivial)).2
        refine (step_sound ok cok hs hi hf (hn i (by simp)) (hl i (by simp)) hcn ?_).1
        intro a' w' ρ' im' hf' hi' hoth
        refine ih T1 st1 T2 st2 fs2 ρ' im' a' w' ht (fun j hj => hl j (by simp [hj])) (List.nodup_cons.1 hnd).2 hi' hf' (fun j hj => ?_) hc1 ?_
        · have hjl := hl j (by simp [hj])
          rw [hoth (c0 + j) (by omega) (fun e => (List.nodup_cons.1 hnd).1 (by have : j = i := by omega
                                                                               rw [← this]; exact hj))]
          exact hn j (by simp [hj])
        · intro a2 w2 ρ2 im2 hf2 hi2 hs2
          exact k a2 w2 ρ2 im2 hf2 hi2 (fun s hs => by rw [hs2 s hs, hoth s (by omega) (by omega)])
      · cases h

end
end Go.Ab
/- Two operations of a region whose order is open, and that are free of each other, may change places. -/
namespace Go.Ab
open Go

section
variable {C : Cfg} {call : CallF} {ops : Array Oper}

theorem ev_set {T : List AV} {d : Nat} {u : AV} {x : Operand} (h : x ≠ .tmp d) : ev (setT T d u) x = ev T x := by
  cases x with
  | tmp t =>
    simp only [ev, getT_setT]
    rw [if_neg]
    intro e; exact h (by rw [e])
  | _ => rfl

theorem plan_set [Inhabited Val] {T : List AV} {d : Nat} {u : AV} {look : Heap} {bar new : Nat} {op : Op} (h : d ∉ tmpsOf op.operands.toList) :
    plan C (setT T d u) look bar new op = plan C T look bar new op ∧ looks (setT T d u) op = looks T op := by
  have key : ∀ x, x ∈ op.operands.toList → ev (setT T d u) x = ev T x := fun x hx => ev_set fun e => h (by
    subst e
    exact List.mem_filterMap.2 ⟨_, hx, rfl⟩)
  have lst : ∀ l : List Operand, (∀ x ∈ l, x ∈ op.operands.toList) → l.map (ev (setT T d u)) = l.map (ev T) := fun l hl => List.map_congr_left fun x hx => key x (hl x hx)
  cases op with
  | move x => have e := key x (by simp [Op.operands]); simp only [plan, looks, e, and_self]
  | assign x => have e := key x (by simp [Op.operands]); simp only [plan, looks, e, and_self]
  | pick c x y =>
    have e1 := key c (by simp [Op.operands]); have e2 := key x (by simp [Op.operands]); have e3 := key y (by simp [Op.operands])
    simp only [plan, looks, e1, e2, e3, and_self]
  | alloc t => exact ⟨rfl, rfl⟩
  | range t x => have e := key x (by simp [Op.operands]); simp only [plan, looks, e, and_self]
  | next x q => have e := key x (by simp [Op.operands]); simp only [plan, looks, e, and_self]
  | box t x => have e := key x (by simp [Op.operands]); simp only [plan, looks, e, and_self]
  | build t parts =>
    have e : (parts.toList.map fun p => (p.1, ev (setT T d u) p.2)) = parts.toList.map fun p => (p.1, ev T p.2) := List.map_congr_left fun p hp => by
      rw [key p.2 (by simp only [Op.operands, List.mem_map]; exact ⟨p, hp, rfl⟩)]
    simp only [plan, looks, e, and_self]
  | buildSlice t n parts =>
    have e : (parts.toList.map fun p => (p.1, ev (setT T d u) p.2)) = parts.toList.map fun p => (p.1, ev T p.2) := List.map_congr_left fun p hp => by
      rw [key p.2 (by simp only [Op.operands, List.mem_map]; exact ⟨p, hp, rfl⟩)]
    simp only [plan, looks, e, and_self]
  | load t x => have e := key x (by simp [Op.operands]); simp only [plan, looks, e, and_self]
  | store t x y =>
    have e1 := key x (by simp [Op.operands]); have e2 := key y (by simp [Op.operands])
    simp only [plan, looks, e1, e2, and_self]
  | nilCheck x => have e := key x (by simp [Op.operands]); simp only [plan, looks, e, and_self]
  | binOp op t x y yt =>
    have e1 := key x (by simp [Op.operands]); have e2 := key y (by simp [Op.operands])
    simp only [plan, looks, binP, eqOp, e1, e2, and_self]
  | unOp op t x => have e := key x (by simp [Op.operands]); simp only [plan, looks, e, and_self]
  | convert src dst x => have e := key x (by simp [Op.operands]); simp only [plan, looks, e, and_self]
  | makeInterface t x => have e := key x (by simp [Op.operands]); simp only [plan, looks, e, and_self]
  | makeFunc fn first captured =>
    have e1 := lst first.toList (fun x hx => by simp only [Op.operands, Array.toList_append, List.mem_append]; exact .inl hx)
    have e2 := lst captured.toList (fun x hx => by simp only [Op.operands, Array.toList_append, List.mem_append]; exact .inr hx)
    cases fn <;> simp only [plan, looks, e1, e2, and_self]
  | makeMap t r => cases r <;> exact ⟨rfl, rfl⟩
  | slice t x lo hi mx =>
    have e := key x (by simp [Op.operands])
    have e1 : lo.map (ev (setT T d u)) = lo.map (ev T) := by
      cases lo with
      | none => rfl
      | some y => simp only [Option.map_some]; rw [key y (by simp [Op.operands])]
    have e2 : hi.map (ev (setT T d u)) = hi.map (ev T) := by
      cases hi with
      | none => rfl
      | some y => simp only [Option.map_some]; rw [key y (by simp [Op.operands])]
    have e3 : mx.map (ev (setT T d u)) = mx.map (ev T) := by
      cases mx with
      | none => rfl
      | some y => simp only [Option.map_some]; rw [key y (by simp [Op.operands])]
    simp only [plan, looks, e, e1, e2, e3, and_self]
  | fieldAddr t x f => have e := key x (by simp [Op.operands]); simp only [plan, looks, e, and_self]
  | field t x f => have e := key x (by simp [Op.operands]); simp only [plan, looks, e, and_self]
  | indexAddr t x y =>
    have e1 := key x (by simp [Op.operands]); have e2 := key y (by simp [Op.operands])
    simp only [plan, looks, e1, e2, and_self]
  | index t x y =>
    have e1 := key x (by simp [Op.operands]); have e2 := key y (by simp [Op.operands])
    simp only [plan, looks, e1, e2, and_self]
  | lookup t x y ok =>
    have e1 := key x (by simp [Op.operands]); have e2 := key y (by simp [Op.operands])
    simp only [plan, looks, e1, e2, and_self]
  | mapUpdate t m k x =>
    have e1 := key m (by simp [Op.operands]); have e2 := key k (by simp [Op.operands]); have e3 := key x (by simp [Op.operands])
    simp only [plan, looks, e1, e2, e3, and_self]
  | insert t m k x =>
    have e1 := key m (by simp [Op.operands]); have e2 := key k (by simp [Op.operands]); have e3 := key x (by simp [Op.operands])
    simp only [plan, looks, e1, e2, e3, and_self]
  | extract x i => have e := key x (by simp [Op.operands]); simp only [plan, looks, e, and_self]
  | call c =>
    obtain ⟨callee, args, ats⟩ := c
    have hargs : ∀ x ∈ args.toList, ev (setT T d u) x = ev T x := fun x hx => key x (by simp only [Op.operands, Call.operands, Array.toList_append, List.mem_append]; exact .inr hx)
    have e1 : args.toList.map (ev (setT T d u)) = args.toList.map (ev T) := List.map_congr_left hargs
    have e2 : (args.toList.flatMap fun x => match ev (setT T d u) x with | .osl _ s _ _ _ => [s] | _ => []) = args.toList.flatMap fun x => match ev T x with | .osl _ s _ _ _ => [s] | _ => [] := by
      rw [List.flatMap_def, List.flatMap_def]
      congr 1
      exact List.map_congr_left fun x hx => by rw [hargs x hx]
    cases callee with
    | value f => exact ⟨rfl, rfl⟩
    | invoke r m => exact ⟨rfl, rfl⟩
    | builtin b =>
      have two : ∀ b, (b = .len ∨ b = .append ∨ b = .clear) → plan C (setT T d u) look bar new (.call { callee := .builtin b, args, argTypes := ats }) = plan C T look bar new (.call { callee := .builtin b, args, argTypes := ats }) := fun b hb => by
        have hat : (∃ t, ats.toList = [t]) ∨ (∃ t t', ats.toList = [t, t']) ∨ ((∀ t, ats.toList ≠ [t]) ∧ ∀ t t', ats.toList ≠ [t, t']) := by
          cases ats.toList with
          | nil => exact .inr (.inr ⟨by simp, by simp⟩)
          | cons t r => cases r with
            | nil => exact .inl ⟨t, rfl⟩
            | cons t' r => cases r with
              | nil => exact .inr (.inl ⟨t, t', rfl⟩)
              | cons _ _ => exact .inr (.inr ⟨by simp, by simp⟩)
        cases hl : args.toList with
        | nil => rcases hb with rfl | rfl | rfl <;> simp only [plan, hl]
        | cons x l => cases l with
          | nil =>
            have hx := hargs x (by rw [hl]; simp)
            rcases hat with ⟨t, ht⟩ | ⟨t, t', ht⟩ | ⟨h1, h2⟩
            · rcases hb with rfl | rfl | rfl <;> simp only [plan, hl, ht, hx]
            · rcases hb with rfl | rfl | rfl <;> simp only [plan, hl, ht]
            · cases ht : ats.toList with
              | nil => rcases hb with rfl | rfl | rfl <;> simp only [plan, hl, ht]
              | cons t r => cases r with
                | nil => exact absurd ht (h1 t)
                | cons t' r => rcases hb with rfl | rfl | rfl <;> simp only [plan, hl, ht]
          | cons y l => cases l with
            | nil =>
              have hx := hargs x (by rw [hl]; simp)
              have hy := hargs y (by rw [hl]; simp)
              cases ht : ats.toList with
              | nil => rcases hb with rfl | rfl | rfl <;> simp only [plan, hl, ht]
              | cons t r => cases r with
                | nil => rcases hb with rfl | rfl | rfl <;> simp only [plan, hl, ht]
                | cons t' r => cases r with
                  | nil => rcases hb with rfl | rfl | rfl <;> simp only [plan, hl, ht, hx, hy]
                  | cons _ _ => rcases hb with rfl | rfl | rfl <;> simp only [plan, hl, ht]
            | cons _ _ => rcases hb with rfl | rfl | rfl <;> simp only [plan, hl]
      cases b
      case len => exact ⟨two _ (.inl rfl), by simp only [looks, e1]⟩
      case append => exact ⟨two _ (.inr (.inl rfl)), by simp only [looks]; exact e2⟩
      case clear => exact ⟨two _ (.inr (.inr rfl)), by simp only [looks]; exact e2⟩
      case min => exact ⟨by simp only [plan, e1], rfl⟩
      case max => exact ⟨by simp only [plan, e1], rfl⟩
      all_goals exact ⟨rfl, rfl⟩
  | _ => exact ⟨rfl, rfl⟩

theorem todo_set [Inhabited Val] {T : List AV} {d : Nat} {u : AV} {bar new : Nat} {o : Oper} (h : d ∉ readsT ops o) : todo C ops bar new o (setT T d u) = todo C ops bar new o T := by
  unfold readsT at h
  simp only [List.mem_append, not_or] at h
  obtain ⟨h1, h2⟩ := h
  have hw : wantedA ops (setT T d u) o = wantedA ops T o := by
    unfold wantedA
    cases hg : o.guard with
    | none => rfl
    | some p =>
      obtain ⟨j, want⟩ := p
      simp only [hg] at h2 ⊢
      cases hd : (ops[j]?).bind (·.dst) with
      | none => rfl
      | some d' =>
        simp only [hd, Option.toList_some, List.mem_singleton] at h2 ⊢
        rw [getT_setT, if_neg h2]
  have hp := fun look => (plan_set (C := C) (T := T) (u := u) (look := look) (bar := bar) (new := new) (op := o.op) h1).1
  have hl := (plan_set (C := C) (T := T) (u := u) (look := []) (bar := bar) (new := new) (op := o.op) h1).2
  unfold todo
  rw [hw]
  split
  · rfl
  · rfl
  · split
    · rename_i f args ats hop
      rw [hop] at h1
      have key : ∀ x, x ∈ (Op.call { callee := Callee.value f, args, argTypes := ats }).operands.toList → ev (setT T d u) x = ev T x := fun x hx => ev_set fun e => h1 (by
        subst e
        exact List.mem_filterMap.2 ⟨_, hx, rfl⟩)
      have e1 : ev (setT T d u) f = ev T f := key f (by simp [Op.operands, Call.operands])
      have e2 : args.toList.map (ev (setT T d u)) = args.toList.map (ev T) := List.map_congr_left fun x hx => key x (by simp only [Op.operands, Call.operands, Array.toList_append, List.mem_append]; exact .inr hx)
      rw [e1, e2]
    · rw [hl]
      congr 1
      funext look
      exact hp look

theorem todo_put [Inhabited Val] {nt : Nat} {T T1 : List AV} {dst : Option Nat} {v : AV} (hp : putT nt T dst v = some T1) {bar new : Nat} {o : Oper} (h : ∀ d, dst = some d → d ∉ readsT ops o) : todo C ops bar new o T1 = todo C ops bar new o T := by
  cases dst with
  | none => simp only [putT, Option.some.injEq] at hp; rw [hp]
  | some d =>
    simp only [putT] at hp
    split at hp
    · simp only [Option.some.injEq] at hp; rw [← hp]; exact todo_set (h d rfl)
    · cases hp

theorem put_swap {nt : Nat} {T T1 T2 : List AV} {d1 d2 : Option Nat} {v1 v2 : AV} (h1 : putT nt T d1 v1 = some T1) (h2 : putT nt T1 d2 v2 = some T2) (hne : ∀ d, d1 = some d → d2 ≠ some d) :
    ∃ T1', putT nt T d2 v2 = some T1' ∧ putT nt T1' d1 v1 = some T2 := by
  cases d1 with
  | none =>
    simp only [putT, Option.some.injEq] at h1
    subst h1
    exact ⟨T2, h2, rfl⟩
  | some a =>
    simp only [putT] at h1
    split at h1
    · rename_i ha
      simp only [Option.some.injEq] at h1
      subst h1
      cases d2 with
      | none =>
        simp only [putT, Option.some.injEq] at h2
        subst h2
        exact ⟨T, rfl, by simp [putT, ha]⟩
      | some b =>
        simp only [putT] at h2
        split at h2
        · rename_i hb
          simp only [Option.some.injEq] at h2
          subst h2
          have hab : a ≠ b := fun e => hne a rfl (by rw [e])
          exact ⟨setT T b v2, by simp [putT, hb], by simp only [putT, ha, if_true, Option.some.injEq]; exact setT_comm T v2 v1 (Ne.symm hab)⟩
        · cases h2
    · cases h1

theorem filter_hput (f : Nat → Bool) (h : Heap) {s : Nat} {o : AObj} (hs : f s = false) : (hput h s o).filter (fun p => f p.1) = h.filter fun p => f p.1 := by
  induction h with
  | nil => simp [hput, hs]
  | cons p r ih =>
    obtain ⟨k, x⟩ := p
    unfold hput
    split
    · rename_i e; subst e; simp [hs]
    · split
      · simp [hs]
      · simp only [List.filter_cons, ih]

theorem filter_hputs [Inhabited Val] (f : Nat → Bool) : ∀ (es : List (Nat × AObj)) (h : Heap), (∀ p ∈ es, f p.1 = false) → (hputs h es).filter (fun p => f p.1) = h.filter fun p => f p.1
  | [], _, _ => rfl
  | (s, o) :: es, h, hh => by
    simp only [hputs]
    rw [filter_hputs f es _ (fun p hp => hh p (by simp [hp])), filter_hput f h (hh (s, o) (by simp))]

theorem hput_hputs : ∀ (es : List (Nat × AObj)) (h : Heap) (s : Nat) (o : AObj), (∀ p ∈ es, p.1 ≠ s) → hputs (hput h s o) es = hput (hputs h es) s o
  | [], _, _, _, _ => rfl
  | (k, x) :: es, h, s, o, hh => by
    simp only [hputs]
    rw [hput_comm h o x (Ne.symm (hh (k, x) (by simp))), hput_hputs es _ s o (fun p hp => hh p (by simp [hp]))]

theorem hputs_comm [Inhabited Val] : ∀ (es fs : List (Nat × AObj)) (h : Heap), (∀ p ∈ es, ∀ q ∈ fs, p.1 ≠ q.1) → hputs (hputs h es) fs = hputs (hputs h fs) es
  | [], _, _, _ => rfl
  | (k, x) :: es, fs, h, hh => by
    simp only [hputs]
    rw [hputs_comm es fs (hput h k x) (fun p hp q hq => hh p (by simp [hp]) q hq), hput_hputs fs h k x (fun q hq => Ne.symm (hh (k, x) (by simp) q hq))]

theorem hput_append (new h : Heap) {s : Nat} {o : AObj} (hs : ∀ p ∈ new, s < p.1) : hput (new ++ h) s o = new ++ hput h s o := by
  induction new with
  | nil => rfl
  | cons p r ih =>
    obtain ⟨k, x⟩ := p
    have hk := hs (k, x) (by simp)
    simp only at hk
    simp only [List.cons_append, hput]
    rw [if_neg (by omega), if_neg (by omega), ih fun p hp => hs p (by simp [hp])]

theorem hputs_append [Inhabited Val] : ∀ (es : List (Nat × AObj)) (new h : Heap), (∀ q ∈ es, ∀ p ∈ new, q.1 < p.1) → hputs (new ++ h) es = new ++ hputs h es
  | [], _, _, _ => rfl
  | (s, o) :: es, new, h, hh => by
    simp only [hputs]
    rw [hput_append new h (hh (s, o) (by simp)), hputs_append es new _ fun q hq => hh q (by simp [hq])]

theorem only_append {new h : Heap} {rd : List Nat} (hh : ∀ s ∈ rd, ∀ p ∈ new, s < p.1) : only (new ++ h) rd = only h rd := by
  unfold only
  rw [List.filter_append]
  have : new.filter (fun p => rd.contains p.1) = [] := by
    rw [List.filter_eq_nil_iff]
    intro p hp hc
    simp only [List.contains_iff_mem] at hc
    have := hh p.1 hc p hp
    omega
  rw [this, List.nil_append]

theorem disj_mem {a b : List Nat} (h : disj a b = true) {x : Nat} (ha : x ∈ a) : x ∉ b := fun hb => by
  have := List.all_eq_true.1 h x ha
  simp only [Bool.not_eq_true', List.contains_eq_mem, decide_eq_false_iff_not] at this
  exact this hb

/-- Calls keep the bar. -/
def BarOk (call : CallF) : Prop := ∀ g args st r st', call g args st = some (r, st') → st'.bar = st.bar

theorem run_plain {nt c0 n : Nat} {vis : Option (List Nat)} {dst : Option Nat} {T T' : List AV} {st st' : St} {rd : List Nat} {F : Heap → Option (AV × List (Nat × AObj))} {f : Foot} (h : runTodo C call nt c0 n vis dst T st (.plain rd F) = some (T', st', f)) :
    ∃ v es, F (only st.h rd) = some (v, es) ∧ putT nt T dst v = some T' ∧ st' = { st with h := hputs st.h es } ∧ f = ⟨rd, es.map (·.1), none, false⟩ := by
  simp only [runTodo] at h
  split at h
  · rename_i v es hv
    obtain ⟨T2, hp, h⟩ := Option.map_eq_some_iff.1 h
    simp only [Prod.mk.injEq] at h
    obtain ⟨rfl, rfl, rfl⟩ := h
    exact ⟨v, es, hv, hp, rfl, rfl⟩
  · cases h

theorem run_plain_mk {nt c0 n : Nat} {vis : Option (List Nat)} {dst : Option Nat} {T T' : List AV} {st : St} {rd : List Nat} {F : Heap → Option (AV × List (Nat × AObj))} {v : AV} {es : List (Nat × AObj)} (hv : F (only st.h rd) = some (v, es)) (hp : putT nt T dst v = some T') :
    runTodo C call nt c0 n vis dst T st (.plain rd F) = some (T', { st with h := hputs st.h es }, ⟨rd, es.map (·.1), none, false⟩) := by
  simp only [runTodo, hv, hp, Option.map_some]

theorem run_call2 {nt c0 n : Nat} {vis : Option (List Nat)} {dst : Option Nat} {T T' : List AV} {st st' : St} {g : Nat} {args : List AV} {f : Foot} (hm : C.mode g = 2) (h : runTodo C call nt c0 n vis dst T st (.call g args) = some (T', st', f)) :
    ∃ v, call g args st = some (v, st') ∧ putT nt T dst v = some T' ∧ f = ⟨[], [], none, true⟩ := by
  simp only [runTodo, hm, if_true] at h
  split at h
  · rename_i v st2 hv
    obtain ⟨T2, hp, h⟩ := Option.map_eq_some_iff.1 h
    simp only [Prod.mk.injEq] at h
    obtain ⟨rfl, rfl, rfl⟩ := h
    exact ⟨v, hv, hp, rfl⟩
  · cases h

theorem run_call2_mk {nt c0 n : Nat} {vis : Option (List Nat)} {dst : Option Nat} {T T' : List AV} {st st' : St} {g : Nat} {args : List AV} {v : AV} (hm : C.mode g = 2) (hv : call g args st = some (v, st')) (hp : putT nt T dst v = some T') :
    runTodo C call nt c0 n vis dst T st (.call g args) = some (T', st', ⟨[], [], none, true⟩) := by
  simp only [runTodo, hm, if_true, hv, hp, Option.map_some]

theorem run_call0 {nt c0 n : Nat} {vis : Option (List Nat)} {dst : Option Nat} {T T' : List AV} {st st' : St} {g : Nat} {args : List AV} {f : Foot} (hm : C.mode g ≠ 2) (h : runTodo C call nt c0 n vis dst T st (.call g args) = some (T', st', f)) :
    ∃ v s2, call g args { st with h := st.h.filter fun p => sees c0 n vis p.1 } = some (v, s2) ∧ putT nt T dst v = some T' ∧
      st' = { st with h := (if C.mode g = 1 then s2.h.filter fun p => decide (st.c ≤ p.1) else []) ++ st.h, c := s2.c } ∧ f = ⟨[], [], some (fun s => C.mode g = 1 && decide (st.c ≤ s), fun s => sees c0 n vis s || decide (st.c ≤ s)), false⟩ := by
  simp only [runTodo, hm, if_false] at h
  split at h
  · rename_i v st2 hv
    obtain ⟨T2, hp, h⟩ := Option.map_eq_some_iff.1 h
    simp only [Prod.mk.injEq] at h
    obtain ⟨rfl, rfl, rfl⟩ := h
    refine ⟨v, st2, hv, hp, ?_, rfl⟩
    split <;> simp
  · cases h

theorem run_call0_mk {nt c0 n : Nat} {vis : Option (List Nat)} {dst : Option Nat} {T T' : List AV} {st : St} {g : Nat} {args : List AV} {v : AV} {s2 : St} (hm : C.mode g ≠ 2) (hv : call g args { st with h := st.h.filter fun p => sees c0 n vis p.1 } = some (v, s2)) (hp : putT nt T dst v = some T') :
    runTodo C call nt c0 n vis dst T st (.call g args) = some (T', { st with h := (if C.mode g = 1 then s2.h.filter fun p => decide (st.c ≤ p.1) else []) ++ st.h, c := s2.c }, ⟨[], [], some (fun s => C.mode g = 1 && decide (st.c ≤ s), fun s => sees c0 n vis s || decide (st.c ≤ s)), false⟩) := by
  simp only [runTodo, hm, if_false, hv, hp, Option.map_some]
  congr 3
  split <;> simp

theorem swap_step [Inhabited Val] (bok : BarOk call) {nt c0 : Nat} {bl : Option (List (List Nat))} {y i : Nat} {T T1 T2 : List AV} {st st1 st2 : St} {fy fi : Foot} (h1 : stepA C call nt c0 bl ops y T st = some (T1, st1, fy)) (h2 : stepA C call nt c0 bl ops i T1 st1 = some (T2, st2, fi))
    (hap : apartT ops y i = true) (hfr : fy.free fi = true) : ∃ T1' st1', stepA C call nt c0 bl ops i T st = some (T1', st1', fi) ∧ stepA C call nt c0 bl ops y T1' st1' = some (T2, st2, fy) := by
  unfold stepA at h1 h2
  split at h1
  · cases h1
  · rename_i oy hoy
    split at h2
    · cases h2
    · rename_i oi hoi
      unfold apartT at hap
      simp only [hoy, hoi, Bool.and_eq_true] at hap
      obtain ⟨a1, a2⟩ := hap
      have ap1 : ∀ d, oy.dst = some d → d ∉ readsT ops oi := fun d hd => by
        rw [hd] at a1
        simp only [Bool.and_eq_true, Bool.not_eq_true', List.contains_eq_mem, decide_eq_false_iff_not] at a1
        exact a1.1
      have ap2 : ∀ d, oy.dst = some d → oi.dst ≠ some d := fun d hd => by
        rw [hd] at a1
        simp only [Bool.and_eq_true, bne_iff_ne, ne_eq] at a1
        exact a1.2
      have ap3 : ∀ d, oi.dst = some d → d ∉ readsT ops oy := fun d hd => by
        rw [hd] at a2
        simp only [Bool.not_eq_true', List.contains_eq_mem, decide_eq_false_iff_not] at a2
        exact a2
      have goal : ∀ (T1' : List AV) (st1' : St), st1'.bar = st.bar → runTodo C call nt c0 ops.size (bl.map (·.getD i [])) oi.dst T st (todo C ops st.bar (c0 + i) oi T) = some (T1', st1', fi) →
          runTodo C call nt c0 ops.size (bl.map (·.getD y [])) oy.dst T1' st1' (todo C ops st.bar (c0 + y) oy T1') = some (T2, st2, fy) →
          ∃ T1' st1', stepA C call nt c0 bl ops i T st = some (T1', st1', fi) ∧ stepA C call nt c0 bl ops y T1' st1' = some (T2, st2, fy) := fun T1' st1' hb g1 g2 => by
        refine ⟨T1', st1', ?_, ?_⟩
        · unfold stepA; rw [hoi]; exact g1
        · unfold stepA; rw [hoy]; simp only [hb]; exact g2
      have hput1 : ∀ {v : AV}, putT nt T oy.dst v = some T1 → ∀ b, todo C ops b (c0 + i) oi T1 = todo C ops b (c0 + i) oi T := fun hp b => todo_put hp ap1
      have hput2 : ∀ {v : AV} {T1' : List AV}, putT nt T oi.dst v = some T1' → ∀ b, todo C ops b (c0 + y) oy T1' = todo C ops b (c0 + y) oy T := fun hp b => todo_put hp ap3
      cases hty : todo C ops st.bar (c0 + y) oy T with
      | bad => rw [hty] at h1; cases h1
      | plain rdy Fy =>
        rw [hty] at h1
        obtain ⟨vy, ey, hFy, hpy, rfl, rfl⟩ := run_plain h1
        simp only at h2
        rw [hput1 hpy] at h2
        cases hti : todo C ops st.bar (c0 + i) oi T with
        | bad => rw [hti] at h2; cases h2
        | plain rdi Fi =>
          rw [hti] at h2
          obtain ⟨vi, ei, hFi, hpi, rfl, rfl⟩ := run_plain h2
          simp only [Foot.free, Bool.false_eq_true, if_false, Bool.and_eq_true] at hfr
          obtain ⟨⟨d1, d2⟩, d3⟩ := hfr
          obtain ⟨T1', g1, g2⟩ := put_swap hpy hpi ap2
          have e1 : only (hputs st.h ey) rdi = only st.h rdi := filter_hputs (fun k => rdi.contains k) ey st.h fun p hp => by
            have := disj_mem d1 (List.mem_map.2 ⟨p, hp, rfl⟩)
            simpa using this
          have e2 : only (hputs st.h ei) rdy = only st.h rdy := filter_hputs (fun k => rdy.contains k) ei st.h fun p hp => by
            simp only [List.contains_eq_mem, decide_eq_false_iff_not]
            intro hc
            exact disj_mem d3 hc (List.mem_map.2 ⟨p, hp, rfl⟩)
          simp only at hFi
          rw [e1] at hFi
          refine goal T1' { st with h := hputs st.h ei } rfl (by rw [hti]; exact run_plain_mk hFi g1) ?_
          rw [hput2 g1, hty]
          have := run_plain_mk (C := C) (call := call) (nt := nt) (c0 := c0) (n := ops.size) (vis := bl.map (·.getD y [])) (st := { st with h := hputs st.h ei }) (rd := rdy) (F := Fy) (by simp only; rw [e2]; exact hFy) g2
          rw [this]
          simp only
          rw [hputs_comm ei ey st.h fun p hp q hq e => disj_mem d2 (List.mem_map.2 ⟨q, hq, rfl⟩) (by rw [← e]; exact List.mem_map.2 ⟨p, hp, rfl⟩)]
        | call g args =>
          rw [hti] at h2
          by_cases hm : C.mode g = 2
          · obtain ⟨v, hv, hp, rfl⟩ := run_call2 hm h2
            simp only [Foot.free, Bool.false_eq_true, if_false, if_true, Bool.and_eq_true, List.isEmpty_iff, List.map_eq_nil_iff] at hfr
            obtain ⟨⟨rfl, rfl⟩, _⟩ := hfr
            simp only [hputs] at hv
            obtain ⟨T1', g1, g2⟩ := put_swap hpy hp ap2
            refine goal T1' st2 (bok _ _ _ _ _ hv) (by rw [hti]; exact run_call2_mk hm hv g1) ?_
            rw [hput2 g1, hty]
            have e0 : ∀ h : Heap, only h [] = [] := fun h => by unfold only; simp
            have := run_plain_mk (C := C) (call := call) (nt := nt) (c0 := c0) (n := ops.size) (vis := bl.map (·.getD y [])) (st := st2) (rd := []) (F := Fy) (by rw [e0]; rw [e0] at hFy; exact hFy) g2
            rw [this]
            rfl
          · obtain ⟨v, s2, hv, hp, rfl, rfl⟩ := run_call0 hm h2
            simp only [Foot.free, Bool.false_eq_true, if_false, Bool.and_eq_true, List.all_eq_true] at hfr
            obtain ⟨d1, d2⟩ := hfr
            obtain ⟨T1', g1, g2⟩ := put_swap hpy hp ap2
            have hw : ∀ p ∈ ey, sees c0 ops.size (bl.map (·.getD i [])) p.1 = false ∧ p.1 < st.c := fun p hp => by
              have := d2 p.1 (List.mem_map.2 ⟨p, hp, rfl⟩)
              simp only [Bool.not_eq_true', Bool.or_eq_false_iff, decide_eq_false_iff_not] at this
              exact ⟨this.1, by omega⟩
            have e1 : (hputs st.h ey).filter (fun p => sees c0 ops.size (bl.map (·.getD i [])) p.1) = st.h.filter fun p => sees c0 ops.size (bl.map (·.getD i [])) p.1 := filter_hputs _ ey st.h fun p hp => (hw p hp).1
            simp only at hv
            rw [e1] at hv
            have hnew : ∀ p ∈ (if C.mode g = 1 then s2.h.filter fun p => decide (st.c ≤ p.1) else []), st.c ≤ p.1 := fun p hp => by
              split at hp
              · simpa using (List.mem_filter.1 hp).2
              · cases hp
            refine goal T1' { st with h := (if C.mode g = 1 then s2.h.filter fun p => decide (st.c ≤ p.1) else []) ++ st.h, c := s2.c } rfl (by rw [hti]; exact run_call0_mk hm hv g1) ?_
            rw [hput2 g1, hty]
            have e2 : only ((if C.mode g = 1 then s2.h.filter fun p => decide (st.c ≤ p.1) else []) ++ st.h) rdy = only st.h rdy := by
              by_cases hm1 : C.mode g = 1
              · refine only_append fun s hs p hp => ?_
                have a := hnew p hp
                have b := d1 s hs
                simp only [hm1, decide_true, Bool.true_and, Bool.not_eq_true', decide_eq_false_iff_not] at b
                omega
              · simp [hm1]
            have := run_plain_mk (C := C) (call := call) (nt := nt) (c0 := c0) (n := ops.size) (vis := bl.map (·.getD y [])) (st := { st with h := (if C.mode g = 1 then s2.h.filter fun p => decide (st.c ≤ p.1) else []) ++ st.h, c := s2.c }) (rd := rdy) (F := Fy) (by simp only; rw [e2]; exact hFy) g2
            rw [this]
            simp only
            rw [hputs_append ey _ _ fun q hq p hp => by have := (hw q hq).2; have := hnew p hp; omega]
      | call g args =>
        rw [hty] at h1
        by_cases hm : C.mode g = 2
        · obtain ⟨v, hv, hpy, rfl⟩ := run_call2 hm h1
          rw [hput1 hpy, bok _ _ _ _ _ hv] at h2
          cases hti : todo C ops st.bar (c0 + i) oi T with
          | bad => rw [hti] at h2; cases h2
          | call g' args' =>
            rw [hti] at h2
            by_cases hm' : C.mode g' = 2
            · obtain ⟨_, _, _, rfl⟩ := run_call2 hm' h2
              simp [Foot.free] at hfr
            · obtain ⟨_, _, _, _, _, rfl⟩ := run_call0 hm' h2
              simp [Foot.free] at hfr
          | plain rdi Fi =>
            rw [hti] at h2
            obtain ⟨vi, ei, hFi, hpi, rfl, rfl⟩ := run_plain h2
            simp only [Foot.free, if_true, Bool.and_eq_true, List.isEmpty_iff, List.map_eq_nil_iff] at hfr
            obtain ⟨⟨⟨rfl, rfl⟩, _⟩, _⟩ := hfr
            obtain ⟨T1', g1, g2⟩ := put_swap hpy hpi ap2
            have e0 : ∀ h : Heap, only h [] = [] := fun h => by unfold only; simp
            rw [e0] at hFi
            have r1 := run_plain_mk (C := C) (call := call) (nt := nt) (c0 := c0) (n := ops.size) (vis := bl.map (·.getD i [])) (st := st) (rd := []) (F := Fi) (by rw [e0]; exact hFi) g1
            refine goal T1' st rfl (by rw [hti]; exact r1) ?_
            rw [hput2 g1, hty]
            exact run_call2_mk hm hv g2
        · obtain ⟨v, s2, hv, hpy, rfl, rfl⟩ := run_call0 hm h1
          simp only at h2
          rw [hput1 hpy] at h2
          cases hti : todo C ops st.bar (c0 + i) oi T with
          | bad => rw [hti] at h2; cases h2
          | call g' args' =>
            rw [hti] at h2
            by_cases hm' : C.mode g' = 2
            · obtain ⟨_, _, _, rfl⟩ := run_call2 hm' h2
              simp [Foot.free] at hfr
            · obtain ⟨_, _, _, _, _, rfl⟩ := run_call0 hm' h2
              simp [Foot.free] at hfr
          | plain rdi Fi =>
            rw [hti] at h2
            obtain ⟨vi, ei, hFi, hpi, rfl, rfl⟩ := run_plain h2
            simp only [Foot.free, Bool.false_eq_true, if_false, Bool.and_eq_true, List.all_eq_true] at hfr
            obtain ⟨d1, d2⟩ := hfr
            obtain ⟨T1', g1, g2⟩ := put_swap hpy hpi ap2
            have hw : ∀ p ∈ ei, sees c0 ops.size (bl.map (·.getD y [])) p.1 = false ∧ p.1 < st.c := fun p hp => by
              have := d2 p.1 (List.mem_map.2 ⟨p, hp, rfl⟩)
              simp only [Bool.not_eq_true', Bool.or_eq_false_iff, decide_eq_false_iff_not] at this
              exact ⟨this.1, by omega⟩
            have hnew : ∀ p ∈ (if C.mode g = 1 then s2.h.filter fun p => decide (st.c ≤ p.1) else []), st.c ≤ p.1 := fun p hp => by
              split at hp
              · simpa using (List.mem_filter.1 hp).2
              · cases hp
            have e2 : only ((if C.mode g = 1 then s2.h.filter fun p => decide (st.c ≤ p.1) else []) ++ st.h) rdi = only st.h rdi := by
              by_cases hm1 : C.mode g = 1
              · refine only_append fun s hs p hp => ?_
                have a := hnew p hp
                have b := d1 s hs
                simp only [hm1, decide_true, Bool.true_and, Bool.not_eq_true', decide_eq_false_iff_not] at b
                omega
              · simp [hm1]
            simp only at hFi
            rw [e2] at hFi
            refine goal T1' { st with h := hputs st.h ei } rfl (by rw [hti]; exact run_plain_mk hFi g1) ?_
            rw [hput2 g1, hty]
            have e1 : (hputs st.h ei).filter (fun p => sees c0 ops.size (bl.map (·.getD y [])) p.1) = st.h.filter fun p => sees c0 ops.size (bl.map (·.getD y [])) p.1 := filter_hputs _ ei st.h fun p hp => (hw p hp).1
            have := run_call0_mk (C := C) (call := call) (nt := nt) (c0 := c0) (n := ops.size) (vis := bl.map (·.getD y [])) (st := { st with h := hputs st.h ei }) hm (by simp only; rw [e1]; exact hv) g2
            rw [this]
            simp only
            rw [hputs_append ei _ _ fun q hq p hp => by have := (hw q hq).2; have := hnew p hp; omega]

/-- An operation that is free of all that stand ahead of it comes to the front. -/
theorem move_front [Inhabited Val] (bok : BarOk call) {nt c0 : Nat} {bl : Option (List (List Nat))} {i : Nat} : ∀ (l1 l2 : List Nat) (T T' : List AV) (st st' : St) (fs : List (Nat × Foot)), opsA C call nt c0 bl ops (l1 ++ i :: l2) T st = some (T', st', fs) →
    (∀ p ∈ fs, ∀ q ∈ fs, p.1 ∈ l1 → q.1 = i → apartT ops p.1 i = true ∧ p.2.free q.2 = true) → ∃ fs', opsA C call nt c0 bl ops (i :: (l1 ++ l2)) T st = some (T', st', fs') ∧ ∀ p, p ∈ fs' → p ∈ fs := by
  intro l1
  induction l1 with
  | nil => intro l2 T T' st st' fs h _; exact ⟨fs, h, fun _ h => h⟩
  | cons y l1 ih =>
    intro l2 T T' st st' fs h hfr
    simp only [List.cons_append, opsA] at h
    split at h
    · cases h
    · rename_i T1 st1 fy hs
      split at h
      · rename_i T2 st2 fs2 ht
        simp only [Option.some.injEq, Prod.mk.injEq] at h
        obtain ⟨rfl, rfl, rfl⟩ := h
        obtain ⟨fs3, h3, h4⟩ := ih l2 T1 T2 st1 st2 fs2 ht fun p hp q hq h5 h6 => hfr p (by simp [hp]) q (by simp [hq]) (by simp [h5]) h6
        simp only [opsA] at h3
        split at h3
        · cases h3
        · rename_i T4 st4 fi hsi
          split at h3
          · rename_i T5 st5 fs5 h5
            simp only [Option.some.injEq, Prod.mk.injEq] at h3
            obtain ⟨rfl, rfl, rfl⟩ := h3
            have hi : (i, fi) ∈ fs2 := h4 _ (by simp)
            obtain ⟨a1, a2⟩ := hfr (y, fy) (by simp) (i, fi) (by simp [hi]) (by simp) rfl
            obtain ⟨T6, st6, g1, g2⟩ := swap_step bok hs hsi a1 a2
            refine ⟨(i, fi) :: (y, fy) :: fs5, ?_, fun p hp => ?_⟩
            · simp only [opsA, List.cons_append, g1, g2, h5]
            · simp only [List.mem_cons] at hp ⊢
              rcases hp with rfl | rfl | hp
              · exact .inr hi
              · exact .inl rfl
              · exact .inr (h4 p (by simp [hp]))
          · cases h3
      · cases h

end
end Go.Ab
