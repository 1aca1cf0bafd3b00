/- Contracts of library functions that the plain interpreter does not run itself: what is alike in all of them; slices.Clone. -/
import Derived.Test.YtneaijbbcbicnaaGreatDoorAbCfgs
namespace Go.Ab
open Go

section
variable {P : Program} {C : Cfg} {B : Base} {ρ : Rho} {im : Im} {st : St} {nt : Nat} {T T' : List AV} {a : Act} {w : World} {ops : Array Oper} {Q : Exit → Act → World → Prop}

/-- New blocks behind what is there turn nothing. -/
theorem Inv.grown [Inhabited Val] (h : Inv B ρ im st w) {w' : World} (g : w.grownBy w' none) : Inv B ρ im st w' :=
  ⟨h.rho, h.imx, h.imo, fun b o hb => by rw [g.block b (lt_of_some (h.imw b o hb)) (by simp)]; exact h.imw b o hb,
   fun s o ho => (h.obj s o ho).mono (rhoExt_refl _) (imExt_refl _) fun l hl hlive => ⟨g.block _ ((h.obj s o ho).at_ hlive hl).2 (by simp), ((h.obj s o ho).at_ hlive hl).1⟩,
   h.inj, h.new, h.cle, h.bar, g.os.trans h.os, g.tape.trans h.tape, g.output.trans h.output, Nat.le_trans h.size g.size, h.own,
   fun b hb hn => by rw [g.block b (Nat.lt_of_lt_of_le hb h.size) (by simp)]; exact h.frame b hb hn⟩

/-- A function that hands back a value without memory, and turns nothing. -/
theorem hook_scalar [Inhabited Val] {g : Nat} {F : Heap → Nat → Nat → List AV → Option (AV × List (Nat × AObj))}
    (h : ∀ (B : Base) (ρ : Rho) (im : Im) (st : St) (w : World) (new bar : Nat) (args : List AV) (vargs : List Value) (look : Heap) (v : AV) (es : List (Nat × AObj)), Inv B ρ im st w → (∀ s x, hget look s = some x → hget st.h s = some x) → LRel ρ im args vargs → F look bar new args = some (v, es) →
      es = [] ∧ ∃ rv, VRel ρ im v rv ∧ Calls P g vargs.toArray w fun e w' => e = .returned rv ∧ w.grownBy w' none) : HookOk P g F := by
  intro B ρ im st w new args vargs look v es hi _ _ hl ha hF
  obtain ⟨rfl, rv, hv, hc⟩ := h B ρ im st w new st.bar args vargs look v es hi hl ha hF
  refine hc.mono ?_
  rintro e w' ⟨rfl, hg⟩
  exact ⟨rv, ρ, rfl, hv, hi.grown hg, rhoExt_refl _, fun _ _ => rfl⟩

theorem grown_refl (w : World) : w.grownBy w none := ⟨rfl, rfl, rfl, Nat.le_refl _, fun _ _ _ => rfl⟩

theorem wpOp_of {i : Nat} {o : Oper} {K : Act → World → Prop} (ho : ops[i]? = some o) (hg : o.guard = none) (h : o.wp P a w K Q) : wpOp P ops Q i K a w := by
  unfold wpOp
  rw [ho]
  have : Region.wanted o (yielded ops a.tmps) = true := by unfold Region.wanted; rw [hg]
  simp only [this, if_true]
  exact .inl h

theorem op_plan [Inhabited Val] (tok : TOk P C) (fok : FactsOk C) (hi : Inv B ρ im st w) (hf : FRel ρ im nt T a) {new : Nat} (hn : ρ new = none) (hc : new < st.c) {look : Heap} (hh : ∀ s x, hget look s = some x → hget st.h s = some x) {i : Nat} {o : Oper} (ho : ops[i]? = some o) (hg : o.guard = none) {v : AV} {es : List (Nat × AObj)} (h : plan C T look st.bar new o.op = some (v, es)) (hp : putT nt T o.dst v = some T')
    {K : Act → World → Prop} (k : ∀ a' w' ρ', FRel ρ' im nt T' a' → Inv B ρ' im { st with h := hputs st.h es } w' → RhoExt ρ ρ' → (∀ s, s ≠ new → ρ' s = ρ s) → K a' w') : wpOp P ops Q i K a w := by
  refine wpOp_of ho hg ?_
  obtain ⟨rv, w', ρ', hr, hv', hinv, hext, hoth⟩ := plan_good tok fok hi hf hn hc hh h
  unfold Oper.wp
  have hfin := k (a.put o.dst rv) w' ρ' ((hf.mono hext (imExt_refl _)).put hv' hp) hinv hext hoth
  rcases hr with hr | ⟨hr, rfl⟩
  · rw [hr]; exact hfin
  · rw [hr]; exact hfin

end

abbrev ph (n : Nat) : Edge := { on := n, ground := .phase }
abbrev da (n : Nat) : Edge := { on := n, ground := .data }
abbrev ch (n : Nat) : Edge := { on := n, ground := .chain }

def cl0 (t : TypeId) : Array Oper := #[{ dst := some 2, op := .assign (.const (.slice none 0 0)), type := t, pos := "slices.go:355", after := #[], guard := none }]
def cl1 (t b : TypeId) : Array Oper := #[{ dst := some 3, op := .move (.tmp 0), type := t, pos := "slices.go:357", after := #[], guard := none },
  { dst := some 4, op := .binOp .eql t (.tmp 3) (.const (.slice none 0 0)) t, type := b, pos := "slices.go:357", after := #[da 0], guard := none }]
def cl2 (t : TypeId) : Array Oper := #[{ dst := some 2, op := .assign (.const (.slice none 0 0)), type := t, pos := "slices.go:358", after := #[], guard := none }]
def cl3 (t : TypeId) : Array Oper := #[{ dst := some 5, op := .buildSlice t 0 #[], type := t, pos := "slices.go:362", after := #[], guard := none },
  { dst := some 6, op := .move (.tmp 0), type := t, pos := "slices.go:362", after := #[], guard := none },
  { dst := some 7, op := .call { callee := .builtin .append, args := #[.tmp 5, .tmp 6], argTypes := #[t, t] }, type := t, pos := "slices.go:362", after := #[da 0, da 1], guard := none },
  { dst := some 2, op := .assign (.tmp 7), type := t, pos := "slices.go:362", after := #[da 2, ch 2, ph 0, ph 1, ph 2], guard := none }]
/-- The text of slices.Clone. -/
def cloneCode (t b : TypeId) : Code :=
  .seq (.region 0 (cl0 t) false) (.seq (.seq (.region 1 (cl1 t b) false) (.cond (.tmp 4) (.seq (.region 2 (cl2 t) false) .ret) .skip)) (.seq (.region 3 (cl3 t) false) .ret))


/-- What slices.Clone answers: what an append to an empty slice does. -/
def cloneH (C : Cfg) (t : TypeId) (look : Heap) (bar new : Nat) (args : List AV) : Option (AV × List (Nat × AObj)) :=
  match args with
  | [x] => plan C [.rows true [], x] look bar new (.call { callee := .builtin .append, args := #[.tmp 0, .tmp 1], argTypes := #[t, t] })
  | _ => none

section
variable {P : Program} {C : Cfg}

theorem op_move [Inhabited Val] {ops : Array Oper} {Q : Exit → Act → World → Prop} {a : Act} {w : World} {i : Nat} {o : Oper} {x : Operand} {K : Act → World → Prop} (ho : ops[i]? = some o) (hg : o.guard = none) (hop : o.op = .move x ∨ o.op = .assign x) (k : K (a.put o.dst (a.eval x)) w) : wpOp P ops Q i K a w := by
  refine wpOp_of ho hg ?_
  unfold Oper.wp
  rcases hop with hop | hop <;> simpa [execOp, hop, Oper.upon] using k

theorem op_run [Inhabited Val] {ops : Array Oper} {Q : Exit → Act → World → Prop} {a : Act} {w w' : World} {i : Nat} {o : Oper} {rv : Value} {K : Act → World → Prop} (ho : ops[i]? = some o) (hg : o.guard = none) (hr : (execOp a.eval o).run P w = .ok (.value rv) w') (k : K (a.put o.dst rv) w') : wpOp P ops Q i K a w := by
  refine wpOp_of ho hg ?_
  unfold Oper.wp
  rw [hr]
  exact k

theorem wp_region_of {B : Base} {ρ : Rho} {im : Im} {id : Nat} {ops : Array Oper} {Q : Exit → Act → World → Prop} {a : Act} {w : World} (h : wpOps P ops Q (List.range ops.size) a w) : (Code.region id ops false).wp P Q a w := wp_region h

/-- Is a slice nil? -/
theorem run_eql_nil [Inhabited Val] {t e : TypeId} (hu : P.underlying t = some (.slice e)) (ad : Option Addr) (n cap : Nat) (w : World) (x : Operand) :
    (do eqGuard .eql t x (.const (.slice none 0 0)) (.slice ad n cap) (.slice none 0 0); binOp .eql t (.slice ad n cap) (.slice none 0 0) : Sem Value).run P w = .ok (.bool ad.isNone) w := by
  have q : (Op.equal t (.slice ad n cap) (.slice none 0 0)).run P w = .ok ad.isNone w := equal_of fun d => by cases ad <;> simp [Op.equalIn, run_underlying hu]
  simp [eqGuard_at_slice, binOp, q]

theorem clone_hook [Inhabited Val] (tok : TOk P C) (fok : FactsOk C) {g : Nat} {fn : Func} (hfn : P.funcs[g]? = some fn) {t b e : TypeId} (hbody : fn.body = some (cloneCode t b)) (hnt : fn.ntmps = 8) (hres : fn.results = #[.tmp 2]) {ti : TI} (h1 : C.ty t = some ti) (hk : ti.kind = .slice e) : HookOk P g (cloneH C t) := by
  have hu : P.underlying t = some (.slice e) := by have q := (tok t ti h1).kind; unfold KindOk at q; simpa only [hk] using q
  intro B ρ im st w new args vargs look v es hi hn hc hh hl hF
  unfold cloneH at hF
  split at hF
  · rename_i x
    obtain ⟨vx, r, rfl, hvx, hr⟩ := hl.of_cons
    obtain rfl := hr.of_nil
    refine calls_of_wp hfn hbody ?_
    have hf0 : FRel ρ im 8 [x] { tmps := #[vx] ++ Array.replicate (fn.ntmps - (#[vx] : Array Value).size) undef, defers := [] } := by
      rw [hnt]; exact frel_enter hl 8
    -- what comes of the append says what x is
    obtain ⟨te, n, ns, hte, hel, hz, hone, hval⟩ : ∃ te n ns, C.ty e = some te ∧ elemsOf look te.size x = some (n, ns) ∧ te.size ≠ 0 ∧ ns.all AV.one = true ∧ v = .osl te.size new 0 n n ∧ es = [(new, .cells ns)] := by
      simp only [plan, h1, hk] at hF
      split at hF
      · cases hF
      · split at hF
        · rename_i te hte
          split at hF
          · rename_i n ns hel
            split at hF
            · cases hF
            · rename_i hno
              simp only [ev, getT] at hF hel
              split at hF
              · simp only [ne_eq, not_true_eq_false, and_false, if_false, Option.some.injEq, Prod.mk.injEq, List.length_nil, Nat.zero_add, List.flatten_nil, List.nil_append] at hF
                refine ⟨te, n, ns, hte, hel, fun q => hno (.inl q), ?_, hF.1.symm, hF.2.symm⟩
                cases hb : ns.all AV.one with
                | true => rfl
                | false => exact absurd (.inr (.inr (by rw [hb]; simp))) hno
              · cases hF
          · cases hF
        · cases hF
    obtain ⟨rfl, rfl⟩ := hval
    -- x is a slice
    obtain ⟨ad, len, cap, rfl, hnil⟩ : ∃ ad len cap, vx = .slice ad len cap ∧ (ad = none → n = 0 ∧ ns = []) := by
      unfold elemsOf at hel
      split at hel
      · rename_i tg l
        split at hel
        · simp only [Option.some.injEq, Prod.mk.injEq] at hel
          obtain ⟨rfl, rfl⟩ := hel
          cases hvx with
          | rows _ _ ad n cap sz val hn' hlen hcap ht ha hv =>
            refine ⟨ad, n, cap, rfl, fun q => ?_⟩
            subst q
            cases l with
            | nil => exact ⟨rfl, rfl⟩
            | cons r l => obtain ⟨_, _, e, _⟩ := ha (by simp); cases e
        · cases hel
      · rename_i sz' s off len cp
        split at hel
        · cases hel
        · split at hel
          · split at hel
            · simp only [Option.some.injEq, Prod.mk.injEq] at hel
              obtain ⟨rfl, rfl⟩ := hel
              cases hvx with
              | osl _ _ _ _ _ lo ad cap hρ hcc h2 h3 =>
                refine ⟨ad, len, cap, rfl, fun q => ?_⟩
                subst q
                have : cap = 0 := by
                  rcases Nat.eq_zero_or_pos cap with h | h
                  · exact h
                  · obtain ⟨_, _, e, _⟩ := hcc h; cases e
                have : len = 0 := by omega
                subst this
                exact ⟨rfl, by simp⟩
            · cases hel
          · cases hel
      · cases hel
    -- the walk
    have post : ∀ (a' : Act) (w' : World) (ρ' : Rho), a'.defers = [] → VRel ρ' im (.osl te.size new 0 n n) (a'.tmps.getD 2 undef) → Inv B ρ' im { st with h := hputs st.h [(new, .cells ns)] } w' → RhoExt ρ ρ' → (∀ s, s ≠ new → ρ' s = ρ s) →
        bodyPost P fn (fun e w' => ∃ rv ρ', e = .returned rv ∧ VRel ρ' im (.osl te.size new 0 n n) rv ∧ Inv B ρ' im { st with h := hputs st.h [(new, .cells ns)] } w' ∧ RhoExt ρ ρ' ∧ ∀ s, s ≠ new → ρ' s = ρ s) .ret a' w' := fun a' w' ρ' hd hv hi' he ho => by
      refine ⟨hd, a'.tmps.getD 2 undef, ?_, _, ρ', rfl, hv, hi', he, ho⟩
      simp [results, hres]
    generalize hQ : bodyPost P fn _ = Q at post ⊢
    clear hQ
    rw [hnt] at hf0 ⊢
    unfold cloneCode
    have hf1 : FRel ρ im 8 [x, .undef, .rows true []] { tmps := #[.slice ad len cap, undef, .slice none 0 0, undef, undef, undef, undef, undef], defers := [] } := hf0.put (dst := some 2) (FRel.ev hf0 (.const (.slice none 0 0))) rfl
    have hf2 : FRel ρ im 8 [x, .undef, .rows true [], x] { tmps := #[.slice ad len cap, undef, .slice none 0 0, .slice ad len cap, undef, undef, undef, undef], defers := [] } := hf1.put (dst := some 3) (hf1.ev (.tmp 0)) rfl
    have hf3 : FRel ρ im 8 [x, .undef, .rows true [], x, .bool ad.isNone] { tmps := #[.slice ad len cap, undef, .slice none 0 0, .slice ad len cap, .bool ad.isNone, undef, undef, undef], defers := [] } := hf2.put (dst := some 4) (.bool _) rfl
    refine wp_seq (wp_region ?_)
    show wpOps P (cl0 t) _ [0] _ w
    rw [wpOps_cons]
    refine op_move (x := .const (.slice none 0 0)) rfl rfl (.inr rfl) ?_
    show (Code.wp P _ Q { tmps := #[.slice ad len cap, undef, .slice none 0 0, undef, undef, undef, undef, undef], defers := [] } w)
    refine wp_seq (wp_seq (wp_region ?_))
    show wpOps P (cl1 t b) _ [0, 1] _ w
    rw [wpOps_cons]
    refine op_move (x := .tmp 0) rfl rfl (.inl rfl) ?_
    show wpOps P (cl1 t b) _ [1] { tmps := #[.slice ad len cap, undef, .slice none 0 0, .slice ad len cap, undef, undef, undef, undef], defers := [] } w
    rw [wpOps_cons]
    refine op_run (rv := .bool ad.isNone) (w' := w) rfl rfl ?_ ?_
    · have q := run_eql_nil hu ad len cap w (.tmp 3)
      show (execOp _ { dst := some 4, op := .binOp .eql t (.tmp 3) (.const (.slice none 0 0)) t, type := b, pos := "slices.go:357", after := #[da 0], guard := none }).run P w = _
      simp only [execOp]
      rw [Sem.run_bind]
      exact (congrArg (fun r => Result.andThen r fun v w' => (pure (Next.value v) : Sem Next).run P w') q).trans rfl
    show Code.wp P (.cond (.tmp 4) (.seq (.region 2 (cl2 t) false) .ret) .skip) _ { tmps := #[.slice ad len cap, undef, .slice none 0 0, .slice ad len cap, .bool ad.isNone, undef, undef, undef], defers := [] } w
    cases ad with
    | none =>
      obtain ⟨rfl, rfl⟩ := hnil rfl
      refine wp_cond_true rfl (wp_seq (wp_region ?_))
      show wpOps P (cl2 t) _ [0] _ w
      rw [wpOps_cons]
      refine op_move (x := .const (.slice none 0 0)) rfl rfl (.inr rfl) ?_
      show Code.wp P .ret _ { tmps := #[.slice none len cap, undef, .slice none 0 0, .slice none len cap, .bool true, undef, undef, undef], defers := [] } w
      refine wp_ret ?_
      exact post _ w (rset ρ new none) rfl (.osl te.size new 0 0 0 none none 0 (rset_same _ _ _) (fun h => by omega) (Nat.le_refl _) (Nat.le_refl _)) (hi.virt hn hc) (rset_ext none hn) (fun s hs => rset_other ρ none hs)
    | some ad =>
      refine wp_cond_false rfl (wp_skip ?_)
      show Code.wp P (.seq (.region 3 (cl3 t) false) .ret) Q _ w
      refine wp_seq (wp_region ?_)
      show wpOps P (cl3 t) _ [0, 1, 2, 3] _ w
      rw [wpOps_cons]
      obtain ⟨i, z, hinfo, _⟩ := (tok e te hte).info
      refine op_run (rv := .slice (some ⟨w.heap.size, 0, none⟩) 0 0) (w' := w.alloc (.cells #[] e)) rfl rfl ?_ ?_
      · show (execOp _ { dst := some 5, op := .buildSlice t 0 #[], type := t, pos := "slices.go:362", after := #[], guard := none }).run P w = _
        simp [execOp, Instr.buildSlice, run_underlying hu, run_sizeOf' hinfo, Instr.fill, newRow, Array.range_zero']
      have hi4 : Inv B ρ im st (w.alloc (.cells #[] e)) := hi.garbage _
      have hf4 : FRel ρ im 8 [x, .undef, .rows true [], x, .bool false, .rows true []] { tmps := #[.slice (some ad) len cap, undef, .slice none 0 0, .slice (some ad) len cap, .bool false, .slice (some ⟨w.heap.size, 0, none⟩) 0 0, undef, undef], defers := [] } :=
        hf3.put (dst := some 5) (.rows true [] _ 0 0 0 (fun _ _ => Go.undef) rfl (by simp) (Nat.le_refl _) (fun _ => rfl) (fun h => absurd rfl h) (fun i j => by simpa using VRel.bad _)) rfl
      have hf5 : FRel ρ im 8 [x, .undef, .rows true [], x, .bool false, .rows true [], x] { tmps := #[.slice (some ad) len cap, undef, .slice none 0 0, .slice (some ad) len cap, .bool false, .slice (some ⟨w.heap.size, 0, none⟩) 0 0, .slice (some ad) len cap, undef], defers := [] } :=
        hf4.put (dst := some 6) (hf4.ev (.tmp 0)) rfl
      show wpOps P (cl3 t) _ [1, 2, 3] { tmps := #[.slice (some ad) len cap, undef, .slice none 0 0, .slice (some ad) len cap, .bool false, .slice (some ⟨w.heap.size, 0, none⟩) 0 0, undef, undef], defers := [] } _
      rw [wpOps_cons]
      refine op_move (x := .tmp 0) rfl rfl (.inl rfl) ?_
      show wpOps P (cl3 t) _ [2, 3] { tmps := #[.slice (some ad) len cap, undef, .slice none 0 0, .slice (some ad) len cap, .bool false, .slice (some ⟨w.heap.size, 0, none⟩) 0 0, .slice (some ad) len cap, undef], defers := [] } _
      rw [wpOps_cons]
      refine op_plan tok fok hi4 hf5 hn hc hh (i := 2) (o := { dst := some 7, op := .call { callee := .builtin .append, args := #[.tmp 5, .tmp 6], argTypes := #[t, t] }, type := t, pos := "slices.go:362", after := #[da 0, da 1], guard := none }) rfl rfl (by exact hF) rfl fun a6 w6 ρ6 hf6 hi6 he6 ho6 => ?_
      rw [wpOps_cons]
      refine op_move (x := .tmp 7) rfl rfl (.inr rfl) ?_
      show Code.wp P .ret Q (a6.put (some 2) (a6.eval (.tmp 7))) w6
      have hf7 := hf6.put (dst := some 2) (hf6.ev (.tmp 7)) rfl
      refine wp_ret ?_
      exact post _ w6 ρ6 hf7.defers (hf7.val 2) hi6 he6 ho6
  · cases hF

end
end Go.Ab
