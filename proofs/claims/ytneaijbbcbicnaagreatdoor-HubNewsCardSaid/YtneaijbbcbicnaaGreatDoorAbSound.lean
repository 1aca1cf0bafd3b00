/- The plain interpreter is sound: whole functions. -/
import Derived.Test.YtneaijbbcbicnaaGreatDoorAbExec
namespace Go.Ab
open Go

/-- What holds of every call, in plain terms. -/
def CallMono (C : Cfg) (call : CallF) : Prop := ∀ g args st r st', call g args st = some (r, st') → st.c ≤ st'.c ∧ st'.bar = st.bar ∧ ∃ fn, C.fn g = some fn

section
variable {P : Program} {C : Cfg} {call : CallF} {B : Base} {ρ : Rho} {im : Im} {st st' : St} {nt : Nat} {T T' : List AV} {a : Act} {w : World} {ops : Array Oper} {Q : Exit → Act → World → Prop}

theorem stepA_mono (cm : CallMono C call) {c0 i : Nat} {bl : Option (List (List Nat))} {f : Foot} (h : stepA C call nt c0 bl ops i T st = some (T', st', f)) : st.c ≤ st'.c ∧ st'.bar = st.bar := by
  unfold stepA at h
  split at h
  · cases h
  · rename_i o _
    generalize todo C ops st.bar (c0 + i) o T = t at h
    cases t with
    | bad => cases h
    | plain rd F =>
      simp only [runTodo] at h
      split at h
      · obtain ⟨T2, _, h⟩ := Option.map_eq_some_iff.1 h
        simp only [Prod.mk.injEq] at h
        obtain ⟨rfl, rfl, rfl⟩ := h
        exact ⟨Nat.le_refl _, rfl⟩
      · cases h
    | call g args =>
      simp only [runTodo] at h
      split at h
      · split at h
        · rename_i v s2 hv
          obtain ⟨T2, _, h⟩ := Option.map_eq_some_iff.1 h
          simp only [Prod.mk.injEq] at h
          obtain ⟨rfl, rfl, rfl⟩ := h
          exact ⟨(cm _ _ _ _ _ hv).1, (cm _ _ _ _ _ hv).2.1⟩
        · cases h
      · split at h
        · rename_i v s2 hv
          obtain ⟨T2, _, h⟩ := Option.map_eq_some_iff.1 h
          simp only [Prod.mk.injEq] at h
          obtain ⟨rfl, rfl, rfl⟩ := h
          exact ⟨(cm _ _ _ _ _ hv).1, rfl⟩
        · cases h

theorem opsA_mono [Inhabited Val] (cm : CallMono C call) {c0 : Nat} {bl : Option (List (List Nat))} : ∀ (l : List Nat) (T : List AV) (st : St) (T' : List AV) (st' : St) (fs : List (Nat × Foot)), opsA C call nt c0 bl ops l T st = some (T', st', fs) → st.c ≤ st'.c ∧ st'.bar = st.bar := by
  intro l
  induction l with
  | nil =>
    intro T st T' st' fs h
    simp only [opsA, Option.some.injEq, Prod.mk.injEq] at h
    obtain ⟨rfl, rfl, rfl⟩ := h
    exact ⟨Nat.le_refl _, rfl⟩
  | cons i l ih =>
    intro T st T' st' fs h
    simp only [opsA] at h
    split at h
    · cases h
    · rename_i T1 st1 f hs
      split at h
      · rename_i T2 st2 fs2 ht
        simp only [Option.some.injEq, Prod.mk.injEq] at h
        obtain ⟨rfl, rfl, rfl⟩ := h
        have h1 := stepA_mono cm hs
        have h2 := ih _ _ _ _ _ ht
        exact ⟨Nat.le_trans h1.1 h2.1, h2.2.trans h1.2⟩
      · cases h

def RunMono (run : RunF) : Prop := ∀ nt c T st e T' st', run nt c T st = some (e, T', st') → st.c ≤ st'.c ∧ st'.bar = st.bar

theorem execF_mono [Inhabited Val] {run : RunF} (rm : RunMono run) (cm : CallMono C call) : RunMono (execF C run call) := by
  intro nt c T st e T' st' h
  unfold execF at h
  split at h
  · simp only [Option.some.injEq, Prod.mk.injEq] at h; obtain ⟨rfl, rfl, rfl⟩ := h; exact ⟨Nat.le_refl _, rfl⟩
  · split at h
    · split at h
      · cases h
      · rename_i T1 st1 fs hs
        have := opsA_mono cm _ _ _ _ _ _ hs
        split at h
        · simp only [Option.some.injEq, Prod.mk.injEq] at h; obtain ⟨rfl, rfl, rfl⟩ := h
          exact ⟨by have := this.1; simp only at this; omega, this.2⟩
        · cases h
    · split at h
      · cases h
      · rename_i T1 st1 fs hs
        have := opsA_mono cm _ _ _ _ _ _ hs
        simp only [Option.some.injEq, Prod.mk.injEq] at h; obtain ⟨rfl, rfl, rfl⟩ := h
        exact ⟨by have := this.1; simp only at this; omega, this.2⟩
  · split at h
    · rename_i T1 st1 h1
      have e1 := rm _ _ _ _ _ _ _ h1
      have e2 := rm _ _ _ _ _ _ _ h
      exact ⟨Nat.le_trans e1.1 e2.1, e2.2.trans e1.2⟩
    · exact rm _ _ _ _ _ _ _ h
  · split at h
    · exact rm _ _ _ _ _ _ _ h
    · exact rm _ _ _ _ _ _ _ h
    · cases h
  · split at h
    · rename_i j T1 st1 h1
      have e1 := rm _ _ _ _ _ _ _ h1
      split at h <;> (simp only [Option.some.injEq, Prod.mk.injEq] at h; obtain ⟨rfl, rfl, rfl⟩ := h; exact e1)
    · exact rm _ _ _ _ _ _ _ h
  · split at h
    · rename_i T1 st1 h1
      have e1 := rm _ _ _ _ _ _ _ h1
      have e2 := rm _ _ _ _ _ _ _ h
      exact ⟨Nat.le_trans e1.1 e2.1, e2.2.trans e1.2⟩
    · exact rm _ _ _ _ _ _ _ h
  · simp only [Option.some.injEq, Prod.mk.injEq] at h; obtain ⟨rfl, rfl, rfl⟩ := h; exact ⟨Nat.le_refl _, rfl⟩
  · simp only [Option.some.injEq, Prod.mk.injEq] at h; obtain ⟨rfl, rfl, rfl⟩ := h; exact ⟨Nat.le_refl _, rfl⟩
  · cases h

/-- The ways of a call, one by one. -/
theorem callF_split {run : RunF} {g : Nat} {args : List AV} {r : AV} (h : callF C run g args st = some (r, st')) : ∃ fn body, C.fn g = some fn ∧ fn.body = some body ∧
    ((C.mode g = 3 ∧ ∃ pargs e T1 st1 r1, args.mapM (fin st.h 0 false 8) = some pargs ∧ run fn.ntmps body pargs ⟨[], 0, 0⟩ = some (e, T1, st1) ∧ (e = .normal ∨ e = .ret) ∧ resultsA C st1.h T1 fn.results = some r1 ∧
        fin st1.h 0 false 8 r1 = some r ∧ (args.all (plainN 8) = true ∨ scalarN 8 r = true) ∧ st' = st) ∨
     (C.mode g ≠ 3 ∧ ∃ e T1 st1 r1, run fn.ntmps body args (if C.mode g = 2 then st else { st with bar := st.c }) = some (e, T1, st1) ∧ (e = .normal ∨ e = .ret) ∧ resultsA C st1.h T1 fn.results = some r1 ∧
        (((C.mode g = 2 ∨ C.mode g = 1) ∧ r = r1 ∧ st' = { st1 with bar := st.bar }) ∨ (¬ (C.mode g = 2 ∨ C.mode g = 1) ∧ fin st1.h st.c false 8 r1 = some r ∧ st' = st)))) := by
  unfold callF at h
  split at h
  · cases h
  · rename_i fn hfn
    split at h
    · cases h
    · rename_i body hbody
      refine ⟨fn, body, hfn, hbody, ?_⟩
      split at h
      · rename_i hm
        split at h
        · cases h
        · rename_i pargs hp
          split at h
          · rename_i e T1 st1 h1
            split at h
            · rename_i he
              split at h
              · cases h
              · rename_i r1 hr
                split at h
                · cases h
                · rename_i r2 hf
                  split at h
                  · rename_i ha
                    simp only [Option.some.injEq, Prod.mk.injEq] at h
                    obtain ⟨rfl, rfl⟩ := h
                    exact .inl ⟨hm, pargs, e, T1, st1, r1, hp, h1, he, hr, hf, by simpa using ha, rfl⟩
                  · cases h
            · cases h
          · cases h
      · rename_i hm
        split at h
        · rename_i e T1 st1 h1
          split at h
          · rename_i he
            split at h
            · cases h
            · rename_i r1 hr
              split at h
              · rename_i hmm
                simp only [Option.some.injEq, Prod.mk.injEq] at h
                obtain ⟨rfl, rfl⟩ := h
                exact .inr ⟨hm, e, T1, st1, r1, h1, he, hr, .inl ⟨hmm, rfl, rfl⟩⟩
              · rename_i hmm
                obtain ⟨r', hf, h⟩ := Option.map_eq_some_iff.1 h
                simp only [Prod.mk.injEq] at h
                obtain ⟨rfl, rfl⟩ := h
                exact .inr ⟨hm, e, T1, st1, r1, h1, he, hr, .inr ⟨hmm, hf, rfl⟩⟩
          · cases h
        · cases h

theorem callF_mono [Inhabited Val] {run : RunF} (rm : RunMono run) : CallMono C (callF C run) := by
  intro g args st r st' h
  obtain ⟨fn, body, hfn, _, ⟨_, _, _, _, _, _, _, _, _, _, _, _, rfl⟩ | ⟨_, e, T1, st1, r1, h1, _, _, ⟨_, _, rfl⟩ | ⟨_, _, rfl⟩⟩⟩ := callF_split h
  · exact ⟨Nat.le_refl _, rfl, fn, hfn⟩
  · refine ⟨?_, rfl, fn, hfn⟩
    have := (rm _ _ _ _ _ _ _ h1).1
    split at this <;> exact this
  · exact ⟨Nat.le_refl _, rfl, fn, hfn⟩

theorem mono_all [Inhabited Val] (C : Cfg) : ∀ n, RunMono (exec C n) ∧ CallMono C (callN C n)
  | 0 => ⟨fun _ _ _ _ _ _ _ h => by simp [exec] at h, fun _ _ _ _ _ h => by simp [callN] at h⟩
  | n + 1 => by
    obtain ⟨h1, h2⟩ := mono_all C n
    exact ⟨fun nt c T st e T' st' h => execF_mono h1 h2 nt c T st e T' st' (by simpa only [exec] using h), fun g args st r st' h => callF_mono h1 g args st r st' (by simpa only [callN] using h)⟩

theorem callN_bar [Inhabited Val] (C : Cfg) (n : Nat) : BarOk (callN C n) := fun g args st r st' h => ((mono_all C n).2 g args st r st' h).2.1

def AExit.toExit : AExit → Exit
  | .normal => .normal
  | .exit id => .exit id
  | .ret => .ret

def RunOk [Inhabited Val] (P : Program) (run : RunF) : Prop := ∀ nt c T st e T' st', run nt c T st = some (e, T', st') → ∀ (B : Base) (ρ : Rho) (im : Im) (a : Act) (w : World) (Q : Exit → Act → World → Prop), Inv B ρ im st w → FRel ρ im nt T a →
  (∀ a' w' ρ' im', FRel ρ' im' nt T' a' → Inv B ρ' im' st' w' → (∀ s, s < st.c → ρ' s = ρ s) → Q e.toExit a' w') → c.wp P Q a w

theorem frel_enter [Inhabited Val] {ρ : Rho} {im : Im} {args : List AV} {vargs : List Value} (h : LRel ρ im args vargs) (nt : Nat) : FRel ρ im nt args { tmps := vargs.toArray ++ Array.replicate (nt - vargs.toArray.size) undef, defers := [] } := by
  refine ⟨rfl, by simp; omega, fun i => ?_⟩
  have hg : getT args i = args.getD i .undef := by
    clear h
    induction args generalizing i with
    | nil => simp [getT]
    | cons x r ih => cases i with
      | zero => simp [getT]
      | succ i => simpa [getT] using ih i
  rw [hg]
  by_cases hi : i < args.length
  · have := h.2 i
    have hv : i < vargs.length := by rw [h.1]; exact hi
    rw [List.getD_eq_getElem?_getD, List.getElem?_eq_getElem hi] at this ⊢
    simp only [Option.getD_some] at this ⊢
    rw [Array.getD_eq_getD_getElem?, Array.getElem?_append_left (by simpa using hv)]
    simpa [hv] using this
  · have e1 : args.getD i .undef = .undef := by rw [List.getD_eq_getElem?_getD, List.getElem?_eq_none (by omega)]; rfl
    rw [e1]
    have hv : ¬ i < vargs.length := by rw [h.1]; exact hi
    have e2 : (vargs.toArray ++ Array.replicate (nt - vargs.toArray.size) undef).getD i undef = undef := by
      rw [Array.getD_eq_getD_getElem?, Array.getElem?_append_right (by simp; omega), Array.getElem?_replicate]
      split <;> rfl
    rw [e2]
    exact .undef

theorem exit_then_toExit {e : AExit} {K : Act → World → Prop} (h : e ≠ .normal) {a : Act} {w : World} (hq : Q e.toExit a w) : Exit.then K Q e.toExit a w := by
  cases e with
  | normal => exact absurd rfl h
  | _ => exact hq

def LoopOk [Inhabited Val] (P : Program) (run : RunF) (n : Nat) : Prop := ∀ nt b T st e T' st', run nt (.loop b) T st = some (e, T', st') → ∀ (B : Base) (ρ : Rho) (im : Im) (a : Act) (w : World) (Q : Exit → Act → World → Prop), Inv B ρ im st w → FRel ρ im nt T a →
  (∀ a' w' ρ' im', FRel ρ' im' nt T' a' → Inv B ρ' im' st' w' → (∀ s, s < st.c → ρ' s = ρ s) → Q e.toExit a' w') → Code.rounds P b Q n a w

theorem loopF_sound [Inhabited Val] {run : RunF} (hrun : RunOk P run) (rm : RunMono run) {n : Nat} (hloop : LoopOk P run n) : LoopOk P (execF C run call) (n + 1) := by
  intro nt b T st e T' st' h B ρ im a w Q hi hf k
  rw [rounds_succ]
  simp only [execF] at h
  split at h
  · rename_i T1 st1 h1
    have e1 := rm _ _ _ _ _ _ _ h1
    refine hrun _ _ _ _ _ _ _ h1 B ρ im a w _ hi hf fun a1 w1 ρ1 im1 hf1 hi1 hs1 => ?_
    refine hloop _ _ _ _ _ _ _ h B ρ1 im1 a1 w1 _ hi1 hf1 fun a2 w2 ρ2 im2 hf2 hi2 hs2 => ?_
    exact k a2 w2 ρ2 im2 hf2 hi2 fun s hs => by rw [hs2 s (by omega), hs1 s hs]
  · rename_i hno
    refine hrun _ _ _ _ _ _ _ h B ρ im a w _ hi hf fun a1 w1 ρ1 im1 hf1 hi1 hs1 => ?_
    exact exit_then_toExit (fun q => by subst q; exact hno _ _ h) (k a1 w1 ρ1 im1 hf1 hi1 hs1)

theorem execF_sound [Inhabited Val] (ok : CfgOk P C) (hm : P.follows .mixedOrders = true) {run : RunF} (hrun : RunOk P run) (rm : RunMono run) {n : Nat} (hloop : LoopOk P run n)
    (cok : CallsOk P C call) (bok : BarOk call) (_ : CallMono C call) : RunOk P (execF C run call) := by
  intro nt c T st e T' st' h B ρ im a w Q hi hf k
  unfold execF at h
  split at h
  · simp only [Option.some.injEq, Prod.mk.injEq] at h; obtain ⟨rfl, rfl, rfl⟩ := h
    exact wp_skip (k a w ρ im hf hi (fun _ _ => rfl))
  · rename_i id ops draw
    split at h
    · rename_i hdraw
      subst hdraw
      split at h
      · cases h
      · rename_i T1 st1 fs hs
        split at h
        · rename_i hok
          simp only [Option.some.injEq, Prod.mk.injEq] at h; obtain ⟨rfl, rfl, rfl⟩ := h
          unfold drawOk at hok
          rw [Bool.and_eq_true] at hok
          obtain ⟨hedge, hok⟩ := hok
          have hi' : Inv B ρ im { st with c := st.c + ops.size } { w with drawn := w.drawn + 1 } := (hi.reserve ops.size).same ⟨rfl, rfl, rfl, rfl⟩
          refine wp_region_any hm (draw_sound ok cok bok hedge ops.size (Array.replicate ops.size false) (List.range ops.size) T { st with c := st.c + ops.size } T1 st1 fs ρ im a _ hs (by simp) ?_ (fun i hlt => ?_) (fun i hin => List.mem_range.1 hin) (by simp) (fun j hj hnj => absurd (List.mem_range.2 hj) hnj) (fun q hq p hp => ?_) hi' hf (fun i _ => hi.new _ (by omega)) (Nat.le_refl _) ?_)
          · exact List.pairwise_lt_range
          · simp [hlt]
          · rw [List.all_eq_true] at hok
            have h1 := hok q hq
            rw [List.all_eq_true] at h1
            have h2 := h1 p hp
            simp only [Bool.or_eq_true, Bool.and_eq_true, decide_eq_true_eq, List.contains_eq_mem] at h2
            rcases h2 with (h2 | h2) | h2
            · exact .inl h2
            · exact .inr (.inl h2)
            · exact .inr (.inr h2)
          · intro a' w' ρ' im' hf' hi2 hs'
            exact k a' w' ρ' im' hf' hi2 hs'
        · cases h
    · rename_i hdraw
      simp only [Bool.not_eq_true] at hdraw
      subst hdraw
      split at h
      · cases h
      · rename_i T1 st1 fs hs
        simp only [Option.some.injEq, Prod.mk.injEq] at h; obtain ⟨rfl, rfl, rfl⟩ := h
        have hi' : Inv B ρ im { st with c := st.c + ops.size } w := hi.reserve ops.size
        refine wp_region (ops_sound ok cok (c0 := st.c) (List.range ops.size) T { st with c := st.c + ops.size } T1 st1 fs ρ im a w hs (fun i hin => List.mem_range.1 hin) List.nodup_range hi' hf (fun i _ => hi.new _ (by omega)) (Nat.le_refl _) ?_)
        intro a' w' ρ' im' hf' hi2 hs'
        exact k a' w' ρ' im' hf' hi2 hs'
  · rename_i x y
    refine wp_seq ?_
    split at h
    · rename_i T1 st1 h1
      have e1 := rm _ _ _ _ _ _ _ h1
      refine hrun _ _ _ _ _ _ _ h1 B ρ im a w _ hi hf fun a1 w1 ρ1 im1 hf1 hi1 hs1 => ?_
      refine hrun _ _ _ _ _ _ _ h B ρ1 im1 a1 w1 _ hi1 hf1 fun a2 w2 ρ2 im2 hf2 hi2 hs2 => ?_
      exact k a2 w2 ρ2 im2 hf2 hi2 fun s hs => by rw [hs2 s (by omega), hs1 s hs]
    · rename_i hno
      refine hrun _ _ _ _ _ _ _ h B ρ im a w _ hi hf fun a1 w1 ρ1 im1 hf1 hi1 hs1 => ?_
      exact exit_then_toExit (fun q => by subst q; exact hno _ _ h) (k a1 w1 ρ1 im1 hf1 hi1 hs1)
  · rename_i c x y
    have hv := hf.ev c
    split at h
    · rename_i hc
      rw [hc] at hv
      generalize hax : a.eval c = ax at hv
      cases hv
      exact wp_cond_true hax (hrun _ _ _ _ _ _ _ h B ρ im a w _ hi hf k)
    · rename_i hc
      rw [hc] at hv
      generalize hax : a.eval c = ax at hv
      cases hv
      exact wp_cond_false hax (hrun _ _ _ _ _ _ _ h B ρ im a w _ hi hf k)
    · cases h
  · rename_i id b
    refine wp_block ?_
    split at h
    · rename_i j T1 st1 h1
      refine hrun _ _ _ _ _ _ _ h1 B ρ im a w _ hi hf fun a1 w1 ρ1 im1 hf1 hi1 hs1 => ?_
      split at h
      · rename_i hj
        simp only [Option.some.injEq, Prod.mk.injEq] at h; obtain ⟨rfl, rfl, rfl⟩ := h
        simp only [AExit.toExit, Exit.inBlock, hj, if_true]
        exact k a1 w1 ρ1 im1 hf1 hi1 hs1
      · rename_i hj
        simp only [Option.some.injEq, Prod.mk.injEq] at h; obtain ⟨rfl, rfl, rfl⟩ := h
        simp only [AExit.toExit, Exit.inBlock, hj, if_false]
        exact k a1 w1 ρ1 im1 hf1 hi1 hs1
    · rename_i hno
      refine hrun _ _ _ _ _ _ _ h B ρ im a w _ hi hf fun a1 w1 ρ1 im1 hf1 hi1 hs1 => ?_
      cases e with
      | exit j => exact absurd h (hno j _ _)
      | _ => exact k a1 w1 ρ1 im1 hf1 hi1 hs1
  · rename_i b
    exact wp_loop_rounds (n + 1) (loopF_sound (C := C) (call := call) hrun rm hloop nt b T st e T' st' (by simp only [execF]; exact h) B ρ im a w Q hi hf k)
  · simp only [Option.some.injEq, Prod.mk.injEq] at h; obtain ⟨rfl, rfl, rfl⟩ := h
    exact wp_exit (k a w ρ im hf hi (fun _ _ => rfl))
  · simp only [Option.some.injEq, Prod.mk.injEq] at h; obtain ⟨rfl, rfl, rfl⟩ := h
    exact wp_ret (k a w ρ im hf hi (fun _ _ => rfl))
  · cases h

theorem lrel_mapM [Inhabited Val] {ρ ρ' : Rho} {im im' : Im} {f : AV → Option AV} (hf : ∀ v r x, VRel ρ im v x → f v = some r → VRel ρ' im' r x) {cs rs : List AV} {vs : List Value} (hl : LRel ρ im cs vs) (hm : cs.mapM f = some rs) : LRel ρ' im' rs vs := by
  obtain ⟨e1, e2⟩ := mapM_get _ cs rs hm
  refine ⟨by rw [hl.1, e1], fun i => ?_⟩
  cases hc : cs[i]? with
  | none =>
    have : rs[i]? = none := by
      rw [List.getElem?_eq_none_iff] at hc ⊢
      omega
    rw [List.getD_eq_getElem?_getD, this]
    exact .bad _
  | some c =>
    obtain ⟨y, hy, hfy⟩ := e2 i c hc
    obtain ⟨u, hu, hvu⟩ := hl.get hc
    rw [List.getD_eq_getElem?_getD, List.getD_eq_getElem?_getD, hy, hu]
    exact hf c y u hvu hfy

theorem lrel_frz_plain [Inhabited Val] (hp : Heap) {ρ : Rho} {im : Im} : ∀ {cs rs : List AV} {vs : List Value}, LRel ρ im cs vs → cs.all (plainN 8) = true → cs.mapM (fin hp 0 false 8) = some rs → LRel (fun _ => none) im rs vs := by
  intro cs rs vs hl ha hm
  obtain ⟨e1, e2⟩ := mapM_get _ cs rs hm
  refine ⟨by rw [hl.1, e1], fun i => ?_⟩
  cases hc : cs[i]? with
  | none =>
    have : rs[i]? = none := by
      rw [List.getElem?_eq_none_iff] at hc ⊢
      omega
    rw [List.getD_eq_getElem?_getD, this]
    exact .bad _
  | some c =>
    obtain ⟨y, hy, hfy⟩ := e2 i c hc
    obtain ⟨u, hu, hvu⟩ := hl.get hc
    rw [List.getD_eq_getElem?_getD, List.getD_eq_getElem?_getD, hy, hu]
    exact frz_plain 8 8 hp c y u ρ im hvu (List.all_eq_true.1 ha c (List.mem_of_getElem? hc)) hfy

theorem callF_sound [Inhabited Val] (ok : CfgOk P C) {run : RunF} (hrun : RunOk P run) (rm : RunMono run) : CallsOk P C (callF C run) := by
  intro g args st r st' h
  obtain ⟨m1, m2, m3⟩ := callF_mono (C := C) rm g args st r st' h
  obtain ⟨fn, body, hfn, hbody, hway⟩ := callF_split h
  have wpb : ∀ {B : Base} {ρ : Rho} {im : Im} {st0 : St} {w : World} {as : List AV} {vargs : List Value} {e : AExit} {T1 : List AV} {st1 : St} {r1 : AV} {R : Ending → World → Prop}, run fn.ntmps body as st0 = some (e, T1, st1) → (e = .normal ∨ e = .ret) → resultsA C st1.h T1 fn.results = some r1 →
      Inv B ρ im st0 w → LRel ρ im as vargs → (∀ w' ρ' im', Inv B ρ' im' st1 w' → (∀ s, s < st0.c → ρ' s = ρ s) → ∀ rv, VRel ρ' im' r1 rv → R (.returned rv) w') → Calls P g vargs.toArray w R := fun {B ρ im st0 w as vargs e T1 st1 r1 R} h1 he hr hi hl k =>
    calls_of_wp (ok.fn g fn hfn).1 hbody (hrun _ _ _ _ _ _ _ h1 B ρ im _ w _ hi (frel_enter hl fn.ntmps) fun a' w' ρ' im' hf' hi' hs => by
      obtain ⟨rv, hrr, hv⟩ := results_sound ok.ty hi' hf' hr
      have := k w' ρ' im' hi' hs rv hv
      rcases he with rfl | rfl
      · exact ⟨hf'.defers, rv, hrr, this⟩
      · exact ⟨hf'.defers, rv, hrr, this⟩)
  refine ⟨m1, m3, fun hmode B ρ im w vargs hi hl => ?_, fun hmode B ρ im hfull w vargs hi hsub hl => ?_⟩
  · rcases hway with ⟨hm, _⟩ | ⟨_, e, T1, st1, r1, h1, he, hr, ⟨_, rfl, rfl⟩ | ⟨hno, _⟩⟩
    · omega
    · simp only [hmode, if_true] at h1
      refine wpb h1 he hr hi.enter2 hl fun w' ρ' im' hi' hs rv hv => ?_
      have hbar : st1.bar = st.bar := hi'.bar
      have hst : ({ st1 with bar := st.bar } : St) = st1 := by rw [← hbar]
      exact ⟨rv, ρ', im', rfl, hv, by rw [hst]; exact hi.trans hi', hi'.rho, hi'.imx, hs⟩
    · exact absurd (.inl hmode) hno
  · have hp : Inv B ρ im st w := hi.part (hp := st.h) hsub
    rcases hway with ⟨hm, pargs, e, T1, st1, r1, hpa, h1, he, hr, hfin, hsc, rfl⟩ | ⟨hm, e, T1, st1, r1, h1, he, hr, ⟨hmm, rfl, rfl⟩ | ⟨hmm, hfin, rfl⟩⟩
    · -- a call that is handed plain values
      have hm1 : ¬ C.mode g = 1 := by omega
      have key : ∀ im0 : Im, (∀ b o, im0 b = some o → w.heap[b]? = some o) → LRel (fun _ => none) im0 pargs vargs → (∀ rv w1, VRel (fun _ => none) (imOut im0 w w1) r rv → VRel ρ (imOut im w w1) r rv) →
          Calls P g vargs.toArray w (After B ρ im st'.c { st' with h := if C.mode g = 1 then (st'.h.filter fun p => decide (st'.c ≤ p.1)) ++ hfull else hfull, c := st'.c } r) := fun im0 him hla hres => by
        have hfree := hp.free him
        refine wpb h1 he hr hfree hla fun w1 ρ1 im1 hi1 hs rv hv => ?_
        refine ⟨rv, ρ, imOut im w w1, rfl, hres rv w1 ?_, ?_, rhoExt_refl _, imOut_ext hp w1, fun _ _ => rfl⟩
        · refine fin_gen hi1 (im' := imOut im0 w w1) (fun b o hb => ?_) (c0 := 0) (ρ' := fun _ => none) (fun s l hlt _ => absurd hlt (Nat.not_lt_zero _)) (fun s cs loc _ hg hρ => ?_) 8 false r1 r rv hv hfin
          · unfold imOut
            split
            · rename_i hlt; exact hi1.imo b o hb hlt
            · exact hi1.imw b o hb
          · have hblk : w.heap.size ≤ loc.blk := by
              rcases hi1.own loc.blk ⟨s, _, loc, hg, rfl, Nat.zero_le _, hρ, rfl⟩ with h2 | h2
              · obtain ⟨s2, o2, l2, q1, _⟩ := h2; simp [hget] at q1
              · exact h2
            have : ¬ loc.blk < w.heap.size := by omega
            simp [imOut, this]
        · simp only [hm1, if_false]
          exact hi.back3 hi1
      rcases hsc with hsc | hsc
      · exact key im hp.imw (lrel_frz_plain st'.h hl hsc hpa) fun rv w1 hv => hv.up
      · exact key (imAll w) (fun b o hb => hb) (lrel_mapM (fun v r x hv hf => frz_sound hp hv hf) hl hpa) fun rv w1 hv => scalar_sound 8 _ _ _ _ _ _ hv hsc
    · -- what it lays stays its caller's
      have hm1 : C.mode g = 1 := hmm.resolve_left hmode
      simp only [hmode, if_false] at h1
      refine wpb h1 he hr hp.enter hl fun w' ρ' im' hi' hs rv hv => ⟨rv, ρ', im', rfl, hv, ?_, hi'.rho, hi'.imx, hs⟩
      simp only [hm1, if_true]
      exact hi.back1 (hp := st.h) hsub hi'
    · simp only [hmode, if_false] at h1
      have hm1 : ¬ C.mode g = 1 := fun q => hmm (.inr q)
      refine wpb h1 he hr hp.enter hl fun w' ρ' im' hi' hs rv hv => ⟨rv, ρ, imOut im w w', rfl, fin_sound hp hi' hs hv hfin, ?_, rhoExt_refl _, imOut_ext hp w', fun _ _ => rfl⟩
      simp only [hm1, if_false]
      exact hi.back (hp := st'.h) hsub hi'

theorem sound_all [Inhabited Val] (ok : CfgOk P C) (hm : P.follows .mixedOrders = true) : ∀ n, RunOk P (exec C n) ∧ LoopOk P (exec C n) n ∧ CallsOk P C (callN C n)
  | 0 => ⟨fun _ _ _ _ _ _ _ h => by simp [exec] at h, fun _ _ _ _ _ _ _ h => by simp [exec] at h, fun _ _ _ _ _ h => by simp [callN] at h⟩
  | n + 1 => by
    obtain ⟨h1, h2, h3⟩ := sound_all ok hm n
    obtain ⟨rm, cm⟩ := mono_all C n
    refine ⟨?_, ?_, ?_⟩
    · have := execF_sound ok hm h1 rm h2 h3 (callN_bar C n) cm
      intro nt c T st e T' st' h
      exact this nt c T st e T' st' (by simpa only [exec] using h)
    · have := loopF_sound (C := C) (call := callN C n) h1 rm h2
      intro nt b T st e T' st' h
      exact this nt b T st e T' st' (by simpa only [exec] using h)
    · have := callF_sound ok h1 rm
      intro g args st r st' h
      exact this g args st r st' (by simpa only [callN] using h)

theorem callN_sound [Inhabited Val] (ok : CfgOk P C) (hm : P.follows .mixedOrders = true) (n : Nat) : CallsOk P C (callN C n) := (sound_all ok hm n).2.2

end
end Go.Ab
