/- The plain interpreter is sound: what it says of a call, the machine does, in whatever order it draws. -/
import Derived.Test.YtnmlmmakheckpaaGreatDoorAb07
import Derived.LoopN
namespace Go.Ab
open Go

section
variable {P : Program} {C : Cfg} {call : CallF} {B : Base} {ρ : Rho} {im : Im} {st st' : St} {nt : Nat} {T T' : List AV} {a : Act} {w : World} {ops : Array Oper} {Q : Exit → Act → World → Prop}

theorem foldl_spec {α β : Type} (f : List β → α → β) : ∀ (l : List α) (acc : List β), (∃ r, l.foldl (fun acc o => acc ++ [f acc o]) acc = acc ++ r) ∧
    ∀ i o, l[i]? = some o → ∃ p r, l.foldl (fun acc o => acc ++ [f acc o]) acc = p ++ r ∧ (l.foldl (fun acc o => acc ++ [f acc o]) acc)[acc.length + i]? = some (f p o)
  | [], acc => ⟨⟨[], by simp⟩, fun i o h => by simp at h⟩
  | x :: l, acc => by
    obtain ⟨⟨r, hr⟩, h2⟩ := foldl_spec f l (acc ++ [f acc x])
    refine ⟨⟨f acc x :: r, by rw [List.foldl_cons, hr]; simp⟩, fun i o h => ?_⟩
    cases i with
    | zero =>
      simp only [List.getElem?_cons_zero, Option.some.injEq] at h
      subst h
      refine ⟨acc, f acc x :: r, by rw [List.foldl_cons, hr]; simp, ?_⟩
      rw [List.foldl_cons, hr]
      simp
    | succ i =>
      obtain ⟨p, r2, h3, h4⟩ := h2 i o (by simpa using h)
      refine ⟨p, r2, by rw [List.foldl_cons, h3], ?_⟩
      rw [List.foldl_cons, ← h4]
      congr 1
      simp; omega

theorem before_spec [Inhabited Val] {i y : Nat} {o : Oper} (ho : ops[i]? = some o) (hy : y ∈ (beforeL ops).getD i []) : ∃ e ∈ o.after, Region.binds .any e = true ∧ (y = e.on ∨ y ∈ (beforeL ops).getD e.on []) := by
  obtain ⟨_, h2⟩ := foldl_spec (fun acc (o : Oper) => o.after.toList.flatMap fun e => if Region.binds .any e then e.on :: acc.getD e.on [] else []) ops.toList []
  obtain ⟨p, r, h3, h4⟩ := h2 i o (by rw [Array.getElem?_toList]; exact ho)
  simp only [List.length_nil, Nat.zero_add] at h4
  have h4' : (beforeL ops)[i]? = some (o.after.toList.flatMap fun e => if Region.binds .any e then e.on :: p.getD e.on [] else []) := h4
  rw [List.getD_eq_getElem?_getD, h4'] at hy
  simp only [Option.getD_some, List.mem_flatMap] at hy
  obtain ⟨e, he, hy⟩ := hy
  refine ⟨e, by simpa using he, ?_⟩
  split at hy
  · rename_i hb
    refine ⟨hb, ?_⟩
    simp only [List.mem_cons] at hy
    rcases hy with rfl | hy
    · exact .inl rfl
    · right
      have h3' : beforeL ops = p ++ r := h3
      rw [h3', List.getD_eq_getElem?_getD]
      rw [List.getD_eq_getElem?_getD] at hy
      by_cases hl : e.on < p.length
      · rw [List.getElem?_append_left hl]; exact hy
      · rw [List.getElem?_eq_none (by omega)] at hy
        simp at hy
  · cases hy

theorem Inv.reserve [Inhabited Val] (h : Inv B ρ im st w) (n : Nat) : Inv B ρ im { st with c := st.c + n } w :=
  ⟨h.rho, h.imx, h.imo, h.imw, h.obj, h.inj, fun s hs => h.new s (by simp only at hs; omega), by have := h.cle; simp only; omega, h.bar, h.os, h.tape, h.output, h.size, h.own, h.frame⟩

/-- A region whose order is open. -/
theorem draw_sound [Inhabited Val] (ok : CfgOk P C) (cok : CallsOk P C call) (bok : BarOk call) {c0 : Nat} (hedge : edgesOk ops = true) : ∀ (fuel : Nat) (listed : Array Bool) (L : List Nat) (T : List AV) (st : St) (T' : List AV) (st' : St) (fs : List (Nat × Foot)) (ρ : Rho) (im : Im) (a : Act) (w : World),
    opsA C call nt c0 (some (beforeL ops)) ops L T st = some (T', st', fs) → listed.size = ops.size → L.Pairwise (· < ·) → (∀ i, i < ops.size → (listed.getD i true = false ↔ i ∈ L)) → (∀ i ∈ L, i < ops.size) → L.length ≤ fuel →
    (∀ j, j < ops.size → j ∉ L → ∀ y ∈ (beforeL ops).getD j [], y ∉ L) →
    (∀ q ∈ fs, ∀ p ∈ fs, q.1 ≤ p.1 ∨ p.1 ∈ (beforeL ops).getD q.1 [] ∨ (apartT ops p.1 q.1 = true ∧ p.2.free q.2 = true)) →
    Inv B ρ im st w → FRel ρ im nt T a → (∀ i ∈ L, ρ (c0 + i) = none) → c0 + ops.size ≤ st.c →
    (∀ a' w' ρ' im', FRel ρ' im' nt T' a' → Inv B ρ' im' st' w' → (∀ s, s < c0 → ρ' s = ρ s) → Q .normal a' w') → wpAny P .any ops Q fuel listed a w := by
  intro fuel
  induction fuel with
  | zero =>
    intro listed L T st T' st' fs ρ im a w h hls _ hmem _ hlen _ _ hi hf _ _ k
    obtain rfl : L = [] := List.eq_nil_of_length_eq_zero (by omega)
    simp only [opsA, Option.some.injEq, Prod.mk.injEq] at h
    obtain ⟨rfl, rfl, rfl⟩ := h
    refine ⟨?_, k a w ρ im hf hi (fun _ _ => rfl)⟩
    rw [List.eq_nil_iff_forall_not_mem]
    intro j hj
    obtain ⟨h1, o, h2, _⟩ := mem_ready.1 hj
    have := (hmem j (Array.getElem?_eq_some_iff.1 h2).1).1 h1
    cases this
  | succ fuel ih =>
    intro listed L T st T' st' fs ρ im a w h hls hsort hmem hlt hlen hcl hfree hi hf hn hcn k
    have hlisted : ∀ j, j < ops.size → j ∉ L → listed.getD j false = true := fun j hj hnl => by
      cases e : listed.getD j true with
      | true =>
        rw [Array.getD_eq_getD_getElem?] at e ⊢
        have : j < listed.size := by omega
        simp only [Array.getElem?_eq_getElem this, Option.getD_some] at e ⊢
        exact e
      | false => exact absurd ((hmem j hj).1 e) hnl
    have hunl : ∀ j, j < ops.size → listed.getD j false = true → j ∉ L := fun j hj e hl => by
      have e2 := (hmem j hj).2 hl
      rw [Array.getD_eq_getD_getElem?] at e e2
      have : j < listed.size := by omega
      simp only [Array.getElem?_eq_getElem this, Option.getD_some] at e e2
      rw [e2] at e; cases e
    have hedge' : ∀ i o, ops[i]? = some o → ∀ e ∈ o.after, Region.binds .any e = true → e.on < i := fun i o ho e he hb => by
      unfold edgesOk at hedge
      rw [List.all_eq_true] at hedge
      have := hedge i (List.mem_range.2 (Array.getElem?_eq_some_iff.1 ho).1)
      rw [ho] at this
      simp only [List.all_eq_true, Bool.or_eq_true, Bool.not_eq_true', decide_eq_true_eq] at this
      exact (this e (by simpa using he)).resolve_left (by rw [hb]; simp)
    refine ⟨fun hr => ?_, fun i hir => ?_⟩
    · cases L with
      | nil =>
        simp only [opsA, Option.some.injEq, Prod.mk.injEq] at h
        obtain ⟨rfl, rfl, rfl⟩ := h
        exact k a w ρ im hf hi (fun _ _ => rfl)
      | cons x r =>
        exfalso
        have hx := hlt x (by simp)
        have : x ∈ Region.ready .any ops listed := mem_ready.2 ⟨(hmem x hx).2 (by simp), ops[x], by simp [hx], fun e he hb => by
          have hlt' := hedge' x ops[x] (by simp [hx]) e he hb
          refine hlisted e.on (by omega) fun hin => ?_
          rcases List.mem_cons.1 hin with e1 | hin
          · omega
          · have := (List.pairwise_cons.1 hsort).1 _ hin
            omega⟩
        rw [hr] at this
        cases this
    · obtain ⟨h1, o, ho, hall⟩ := mem_ready.1 hir
      have his : i < ops.size := (Array.getElem?_eq_some_iff.1 ho).1
      have hiL : i ∈ L := (hmem i his).1 h1
      obtain ⟨l1, l2, rfl⟩ := List.append_of_mem hiL
      have hbi : ∀ y ∈ (beforeL ops).getD i [], y ∉ l1 ++ i :: l2 := fun y hy => by
        obtain ⟨e, he, hb, hye⟩ := before_spec ho hy
        have hlt' := hedge' i o ho e he hb
        have hne := hunl e.on (by omega) (hall e he hb)
        rcases hye with rfl | hye
        · exact hne
        · exact hcl e.on (by omega) hne y hye
      have hs1 : ∀ y ∈ l1, y < i := fun y hy => (List.pairwise_append.1 hsort).2.2 y hy i (by simp)
      have hs2 : ∀ y ∈ l2, i < y := fun y hy => (List.pairwise_cons.1 (List.pairwise_append.1 hsort).2.1).1 y hy
      obtain ⟨fs', h', hfs⟩ := move_front bok l1 l2 T T' st st' fs h fun p hp q hq hp1 hq1 => by
        rcases hfree q hq p hp with h3 | h3 | h3
        · have := hs1 _ hp1; omega
        · rw [hq1] at h3
          exact absurd (List.mem_append_left _ hp1) (hbi _ h3)
        · rw [hq1] at h3; exact h3
      simp only [opsA] at h'
      split at h'
      · cases h'
      · rename_i T1 st1 fi hs
        split at h'
        · rename_i T2 st2 fs2 ht
          simp only [Option.some.injEq, Prod.mk.injEq] at h'
          obtain ⟨rfl, rfl, rfl⟩ := h'
          have hc1 : c0 + ops.size ≤ st1.c := (step_sound (Q := Q) ok cok hs hi hf (hn i hiL) his hcn (K := fun _ _ => True) (fun _ _ _ _ _ _ _ => trivial)).2
          refine (step_sound ok cok hs hi hf (hn i hiL) his hcn ?_).1
          intro a' w' ρ' im' hf' hi' hoth
          have hsub : ∀ y, y ∈ l1 ++ l2 ↔ (y ∈ l1 ++ i :: l2 ∧ y ≠ i) := fun y => by
            simp only [List.mem_append, List.mem_cons]
            constructor
            · rintro (hy | hy)
              · have := hs1 y hy; exact ⟨.inl hy, by omega⟩
              · have := hs2 y hy; exact ⟨.inr (.inr hy), by omega⟩
            · rintro ⟨hy | hy | hy, hne⟩
              · exact .inl hy
              · exact absurd hy hne
              · exact .inr hy
          refine ih (listed.setIfInBounds i true) (l1 ++ l2) T1 st1 T2 st2 fs2 ρ' im' a' w' ht (by simpa using hls) ?_ (fun j hj => ?_) (fun j hj => hlt j ((hsub j).1 hj).1) ?_ (fun j hj hnj y hy => ?_) (fun q hq p hp => hfree q (hfs _ (by simp [hq])) p (hfs _ (by simp [hp]))) hi' hf' (fun j hj => ?_) hc1 ?_
          · obtain ⟨q1, q2, q3⟩ := List.pairwise_append.1 hsort
            exact List.pairwise_append.2 ⟨q1, (List.pairwise_cons.1 q2).2, fun x hx y hy => q3 x hx y (by simp [hy])⟩
          · rw [hsub j]
            by_cases e : j = i
            · subst e
              have : j < listed.size := by omega
              simp [this]
            · rw [Array.getD_eq_getD_getElem?, Array.getElem?_setIfInBounds_ne (Ne.symm e), ← Array.getD_eq_getD_getElem?, hmem j hj]
              simp [e]
          · simp only [List.length_append, List.length_cons] at hlen ⊢; omega
          · rw [hsub] at hnj ⊢
            intro hc
            by_cases e : j = i
            · subst e; exact hbi y hy hc.1
            · exact hcl j hj (fun q => hnj ⟨q, e⟩) y hy hc.1
          · have hj' := (hsub j).1 hj
            have := hlt j hj'.1
            rw [hoth (c0 + j) (by omega) (by omega)]
            exact hn j hj'.1
          · intro a2 w2 ρ2 im2 hf2 hi2 hs2
            exact k a2 w2 ρ2 im2 hf2 hi2 (fun s hs => by rw [hs2 s hs, hoth s (by omega) (by omega)])
        · cases h'

end
end Go.Ab
/- The plain interpreter is sound: whole functions. -/
namespace Go.Ab
open Go

/-- What holds of every call, in plain terms. -/
def CallMono (C : Cfg) (call : CallF) : Prop := ∀ g args st r st', call g args st = some (r, st') → st.c ≤ st'.c ∧ st'.bar = st.bar ∧ ∃ fn, C.fn g = some fn

section
variable {P : Program} {C : Cfg} {call : CallF} {B : Base} {ρ : Rho} {im : Im} {st st' : St} {nt : Nat} {T T' : List AV} {a : Act} {w : World} {ops : Array Oper} {Q : Exit → Act → World → Prop}

theorem stepA_mono (cm : CallMono C call) {c0 i : Nat} {bl : Option (List (List Nat))} {f : Foot} (h : stepA C call nt c0 bl ops i T st = some (T', st', f)) : st.c ≤ st'.c ∧ st'.bar = st.bar := by
  unfold stepA at h
  split at h
  · cases h
  · rename_i o _
    generalize todo C ops st.bar (c0 + i) o T = t at h
    cases t with
    | bad => cases h
    | plain rd F =>
      simp only [runTodo] at h
      split at h
      · obtain ⟨T2, _, h⟩ := Option.map_eq_some_iff.1 h
        simp only [Prod.mk.injEq] at h
        obtain ⟨rfl, rfl, rfl⟩ := h
        exact ⟨Nat.le_refl _, rfl⟩
      · cases h
    | call g args =>
      simp only [runTodo] at h
      split at h
      · split at h
        · rename_i v s2 hv
          obtain ⟨T2, _, h⟩ := Option.map_eq_some_iff.1 h
          simp only [Prod.mk.injEq] at h
          obtain ⟨rfl, rfl, rfl⟩ := h
          exact ⟨(cm _ _ _ _ _ hv).1, (cm _ _ _ _ _ hv).2.1⟩
        · cases h
      · split at h
        · rename_i v s2 hv
          obtain ⟨T2, _, h⟩ := Option.map_eq_some_iff.1 h
          simp only [Prod.mk.injEq] at h
          obtain ⟨rfl, rfl, rfl⟩ := h
          exact ⟨(cm _ _ _ _ _ hv).1, rfl⟩
        · cases h

theorem opsA_mono [Inhabited Val] (cm : CallMono C call) {c0 : Nat} {bl : Option (List (List Nat))} : ∀ (l : List Nat) (T : List AV) (st : St) (T' : List AV) (st' : St) (fs : List (Nat × Foot)), opsA C call nt c0 bl ops l T st = some (T', st', fs) → st.c ≤ st'.c ∧ st'.bar = st.bar := by
  intro l
  induction l with
  | nil =>
    intro T st T' st' fs h
    simp only [opsA, Option.some.injEq, Prod.mk.injEq] at h
    obtain ⟨rfl, rfl, rfl⟩ := h
    exact ⟨Nat.le_refl _, rfl⟩
  | cons i l ih =>
    intro T st T' st' fs h
    simp only [opsA] at h
    split at h
    · cases h
    · rename_i T1 st1 f hs
      split at h
      · rename_i T2 st2 fs2 ht
        simp only [Option.some.injEq, Prod.mk.injEq] at h
        obtain ⟨rfl, rfl, rfl⟩ := h
        have h1 := stepA_mono cm hs
        have h2 := ih _ _ _ _ _ ht
        exact ⟨Nat.le_trans h1.1 h2.1, h2.2.trans h1.2⟩
      · cases h

def RunMono (run : RunF) : Prop := ∀ nt c T st e T' st', run nt c T st = some (e, T', st') → st.c ≤ st'.c ∧ st'.bar = st.bar

theorem execF_mono [Inhabited Val] {run : RunF} (rm : RunMono run) (cm : CallMono C call) : RunMono (execF C run call) := by
  intro nt c T st e T' st' h
  unfold execF at h
  split at h
  · simp only [Option.some.injEq, Prod.mk.injEq] at h; obtain ⟨rfl, rfl, rfl⟩ := h; exact ⟨Nat.le_refl _, rfl⟩
  · split at h
    · split at h
      · cases h
      · rename_i T1 st1 fs hs
        have := opsA_mono cm _ _ _ _ _ _ hs
        split at h
        · simp only [Option.some.injEq, Prod.mk.injEq] at h; obtain ⟨rfl, rfl, rfl⟩ := h
          exact ⟨by have := this.1; simp only at this; omega, this.2⟩
        · cases h
    · split at h
      · cases h
      · rename_i T1 st1 fs hs
        have := opsA_mono cm _ _ _ _ _ _ hs
        simp only [Option.some.injEq, Prod.mk.injEq] at h; obtain ⟨rfl, rfl, rfl⟩ := h
        exact ⟨by have := this.1; simp only at this; omega, this.2⟩
  · split at h
    · rename_i T1 st1 h1
      have e1 := rm _ _ _ _ _ _ _ h1
      have e2 := rm _ _ _ _ _ _ _ h
      exact ⟨Nat.le_trans e1.1 e2.1, e2.2.trans e1.2⟩
    · exact rm _ _ _ _ _ _ _ h
  · split at h
    · exact rm _ _ _ _ _ _ _ h
    · exact rm _ _ _ _ _ _ _ h
    · cases h
  · split at h
    · rename_i j T1 st1 h1
      have e1 := rm _ _ _ _ _ _ _ h1
      split at h <;> (simp only [Option.some.injEq, Prod.mk.injEq] at h; obtain ⟨rfl, rfl, rfl⟩ := h; exact e1)
    · exact rm _ _ _ _ _ _ _ h
  · split at h
    · rename_i T1 st1 h1
      have e1 := rm _ _ _ _ _ _ _ h1
      have e2 := rm _ _ _ _ _ _ _ h
      exact ⟨Nat.le_trans e1.1 e2.1, e2.2.trans e1.2⟩
    · exact rm _ _ _ _ _ _ _ h
  · simp only [Option.some.injEq, Prod.mk.injEq] at h; obtain ⟨rfl, rfl, rfl⟩ := h; exact ⟨Nat.le_refl _, rfl⟩
  · simp only [Option.some.injEq, Prod.mk.injEq] at h; obtain ⟨rfl, rfl, rfl⟩ := h; exact ⟨Nat.le_refl _, rfl⟩
  · cases h

/-- The ways of a call, one by one. -/
theorem callF_split {run : RunF} {g : Nat} {args : List AV} {r : AV} (h : callF C run g args st = some (r, st')) : ∃ fn body, C.fn g = some fn ∧ fn.body = some body ∧
    ((C.mode g = 3 ∧ ∃ pargs e T1 st1 r1, args.mapM (fin st.h 0 false 8) = some pargs ∧ run fn.ntmps body (padT fn.ntmps pargs) ⟨[], 0, 0⟩ = some (e, T1, st1) ∧ (e = .normal ∨ e = .ret) ∧ resultsA C st1.h T1 fn.results = some r1 ∧
        fin st1.h 0 false 8 r1 = some r ∧ (args.all (plainN 8) = true ∨ scalarN 8 r = true) ∧ st' = st) ∨
     (C.mode g ≠ 3 ∧ ∃ e T1 st1 r1, run fn.ntmps body (padT fn.ntmps args) (if C.mode g = 2 then st else { st with bar := st.c }) = some (e, T1, st1) ∧ (e = .normal ∨ e = .ret) ∧ resultsA C st1.h T1 fn.results = some r1 ∧
        (((C.mode g = 2 ∨ C.mode g = 1) ∧ r = r1 ∧ st' = { st1 with bar := st.bar }) ∨ (¬ (C.mode g = 2 ∨ C.mode g = 1) ∧ fin st1.h st.c false 8 r1 = some r ∧ st' = st)))) := by
  unfold callF at h
  split at h
  · cases h
  · rename_i fn hfn
    split at h
    · cases h
    · rename_i body hbody
      refine ⟨fn, body, hfn, hbody, ?_⟩
      split at h
      · rename_i hm
        split at h
        · cases h
        · rename_i pargs hp
          split at h
          · rename_i e T1 st1 h1
            split at h
            · rename_i he
              split at h
              · cases h
              · rename_i r1 hr
                split at h
                · cases h
                · rename_i r2 hf
                  split at h
                  · rename_i ha
                    simp only [Option.some.injEq, Prod.mk.injEq] at h
                    obtain ⟨rfl, rfl⟩ := h
                    exact .inl ⟨hm, pargs, e, T1, st1, r1, hp, h1, he, hr, hf, by simpa using ha, rfl⟩
                  · cases h
            · cases h
          · cases h
      · rename_i hm
        split at h
        · rename_i e T1 st1 h1
          split at h
          · rename_i he
            split at h
            · cases h
            · rename_i r1 hr
              split at h
              · rename_i hmm
                simp only [Option.some.injEq, Prod.mk.injEq] at h
                obtain ⟨rfl, rfl⟩ := h
                exact .inr ⟨hm, e, T1, st1, r1, h1, he, hr, .inl ⟨hmm, rfl, rfl⟩⟩
              · rename_i hmm
                obtain ⟨r', hf, h⟩ := Option.map_eq_some_iff.1 h
                simp only [Prod.mk.injEq] at h
                obtain ⟨rfl, rfl⟩ := h
                exact .inr ⟨hm, e, T1, st1, r1, h1, he, hr, .inr ⟨hmm, hf, rfl⟩⟩
          · cases h
        · cases h

theorem callF_mono [Inhabited Val] {run : RunF} (rm : RunMono run) : CallMono C (callF C run) := by
  intro g args st r st' h
  obtain ⟨fn, body, hfn, _, ⟨_, _, _, _, _, _, _, _, _, _, _, _, rfl⟩ | ⟨_, e, T1, st1, r1, h1, _, _, ⟨_, _, rfl⟩ | ⟨_, _, rfl⟩⟩⟩ := callF_split h
  · exact ⟨Nat.le_refl _, rfl, fn, hfn⟩
  · refine ⟨?_, rfl, fn, hfn⟩
    have := (rm _ _ _ _ _ _ _ h1).1
    split at this <;> exact this
  · exact ⟨Nat.le_refl _, rfl, fn, hfn⟩

theorem mono_all [Inhabited Val] (C : Cfg) : ∀ n, RunMono (exec C n) ∧ CallMono C (callN C n)
  | 0 => ⟨fun _ _ _ _ _ _ _ h => by simp [exec] at h, fun _ _ _ _ _ h => by simp [callN] at h⟩
  | n + 1 => by
    obtain ⟨h1, h2⟩ := mono_all C n
    exact ⟨fun nt c T st e T' st' h => execF_mono h1 h2 nt c T st e T' st' (by simpa only [exec] using h), fun g args st r st' h => callF_mono h1 g args st r st' (by simpa only [callN] using h)⟩

theorem callN_bar [Inhabited Val] (C : Cfg) (n : Nat) : BarOk (callN C n) := fun g args st r st' h => ((mono_all C n).2 g args st r st' h).2.1

def AExit.toExit : AExit → Exit
  | .normal => .normal
  | .exit id => .exit id
  | .ret => .ret

def RunOk [Inhabited Val] (P : Program) (run : RunF) : Prop := ∀ nt c T st e T' st', run nt c T st = some (e, T', st') → ∀ (B : Base) (ρ : Rho) (im : Im) (a : Act) (w : World) (Q : Exit → Act → World → Prop), Inv B ρ im st w → FRel ρ im nt T a →
  (∀ a' w' ρ' im', FRel ρ' im' nt T' a' → Inv B ρ' im' st' w' → (∀ s, s < st.c → ρ' s = ρ s) → Q e.toExit a' w') → c.wp P Q a w

theorem frel_enter [Inhabited Val] {ρ : Rho} {im : Im} {args : List AV} {vargs : List Value} (h : LRel ρ im args vargs) (nt : Nat) : FRel ρ im nt (padT nt args) { tmps := vargs.toArray ++ Array.replicate (nt - vargs.toArray.size) undef, defers := [] } := by
  refine ⟨rfl, by simp; omega, fun i => ?_⟩
  have hg0 : ∀ (l : List AV) (k i : Nat), getT (l ++ List.replicate k .undef) i = getT l i := by
    intro l
    induction l with
    | nil =>
      intro k
      induction k with
      | zero => intro i; rfl
      | succ k ih => intro i; cases i with
        | zero => simp [List.replicate, getT]
        | succ i => simpa [List.replicate, getT] using ih i
    | cons x r ih => intro k i; cases i with
      | zero => simp [getT]
      | succ i => simpa [getT] using ih k i
  unfold padT
  rw [hg0]
  have hg : getT args i = args.getD i .undef := by
    clear h
    induction args generalizing i with
    | nil => simp [getT]
    | cons x r ih => cases i with
      | zero => simp [getT]
      | succ i => simpa [getT] using ih i
  rw [hg]
  by_cases hi : i < args.length
  · have := h.2 i
    have hv : i < vargs.length := by rw [h.1]; exact hi
    rw [List.getD_eq_getElem?_getD, List.getElem?_eq_getElem hi] at this ⊢
    simp only [Option.getD_some] at this ⊢
    rw [Array.getD_eq_getD_getElem?, Array.getElem?_append_left (by simpa using hv)]
    simpa [hv] using this
  · have e1 : args.getD i .undef = .undef := by rw [List.getD_eq_getElem?_getD, List.getElem?_eq_none (by omega)]; rfl
    rw [e1]
    have hv : ¬ i < vargs.length := by rw [h.1]; exact hi
    have e2 : (vargs.toArray ++ Array.replicate (nt - vargs.toArray.size) undef).getD i undef = undef := by
      rw [Array.getD_eq_getD_getElem?, Array.getElem?_append_right (by simp; omega), Array.getElem?_replicate]
      split <;> rfl
    rw [e2]
    exact .undef

theorem exit_then_toExit {e : AExit} {K : Act → World → Prop} (h : e ≠ .normal) {a : Act} {w : World} (hq : Q e.toExit a w) : Exit.then K Q e.toExit a w := by
  cases e with
  | normal => exact absurd rfl h
  | _ => exact hq

def LoopOk [Inhabited Val] (P : Program) (run : RunF) (n : Nat) : Prop := ∀ nt b T st e T' st', run nt (.loop b) T st = some (e, T', st') → ∀ (B : Base) (ρ : Rho) (im : Im) (a : Act) (w : World) (Q : Exit → Act → World → Prop), Inv B ρ im st w → FRel ρ im nt T a →
  (∀ a' w' ρ' im', FRel ρ' im' nt T' a' → Inv B ρ' im' st' w' → (∀ s, s < st.c → ρ' s = ρ s) → Q e.toExit a' w') → Code.rounds P b Q n a w

theorem loopF_sound [Inhabited Val] {run : RunF} (hrun : RunOk P run) (rm : RunMono run) {n : Nat} (hloop : LoopOk P run n) : LoopOk P (execF C run call) (n + 1) := by
  intro nt b T st e T' st' h B ρ im a w Q hi hf k
  rw [rounds_succ]
  simp only [execF] at h
  split at h
  · rename_i T1 st1 h1
    have e1 := rm _ _ _ _ _ _ _ h1
    refine hrun _ _ _ _ _ _ _ h1 B ρ im a w _ hi hf fun a1 w1 ρ1 im1 hf1 hi1 hs1 => ?_
    refine hloop _ _ _ _ _ _ _ h B ρ1 im1 a1 w1 _ hi1 hf1 fun a2 w2 ρ2 im2 hf2 hi2 hs2 => ?_
    exact k a2 w2 ρ2 im2 hf2 hi2 fun s hs => by rw [hs2 s (by omega), hs1 s hs]
  · rename_i hno
    refine hrun _ _ _ _ _ _ _ h B ρ im a w _ hi hf fun a1 w1 ρ1 im1 hf1 hi1 hs1 => ?_
    exact exit_then_toExit (fun q => by subst q; exact hno _ _ h) (k a1 w1 ρ1 im1 hf1 hi1 hs1)

theorem execF_sound [Inhabited Val] (ok : CfgOk P C) (hm : P.follows .mixedOrders = true) {run : RunF} (hrun : RunOk P run) (rm : RunMono run) {n : Nat} (hloop : LoopOk P run n)
    (cok : CallsOk P C call) (bok : BarOk call) (_ : CallMono C call) : RunOk P (execF C run call) := by
  intro nt c T st e T' st' h B ρ im a w Q hi hf k
  unfold execF at h
  split at h
  · simp only [Option.some.injEq, Prod.mk.injEq] at h; obtain ⟨rfl, rfl, rfl⟩ := h
    exact wp_skip (k a w ρ im hf hi (fun _ _ => rfl))
  · rename_i id ops draw
    split at h
    · rename_i hdraw
      subst hdraw
      split at h
      · cases h
      · rename_i T1 st1 fs hs
        split at h
        · rename_i hok
          simp only [Option.some.injEq, Prod.mk.injEq] at h; obtain ⟨rfl, rfl, rfl⟩ := h
          unfold drawOk at hok
          rw [Bool.and_eq_true] at hok
          obtain ⟨hedge, hok⟩ := hok
          have hi' : Inv B ρ im { st with c := st.c + ops.size } { w with drawn := w.drawn + 1 } := (hi.reserve ops.size).same ⟨rfl, rfl, rfl, rfl⟩
          refine wp_region_any hm (draw_sound ok cok bok hedge ops.size (Array.replicate ops.size false) (List.range ops.size) T { st with c := st.c + ops.size } T1 st1 fs ρ im a _ hs (by simp) ?_ (fun i hlt => ?_) (fun i hin => List.mem_range.1 hin) (by simp) (fun j hj hnj => absurd (List.mem_range.2 hj) hnj) (fun q hq p hp => ?_) hi' hf (fun i _ => hi.new _ (by omega)) (Nat.le_refl _) ?_)
          · exact List.pairwise_lt_range
          · simp [hlt]
          · rw [List.all_eq_true] at hok
            have h1 := hok q hq
            rw [List.all_eq_true] at h1
            have h2 := h1 p hp
            simp only [Bool.or_eq_true, Bool.and_eq_true, decide_eq_true_eq, List.contains_eq_mem] at h2
            rcases h2 with (h2 | h2) | h2
            · exact .inl h2
            · exact .inr (.inl h2)
            · exact .inr (.inr h2)
          · intro a' w' ρ' im' hf' hi2 hs'
            exact k a' w' ρ' im' hf' hi2 hs'
        · cases h
    · rename_i hdraw
      simp only [Bool.not_eq_true] at hdraw
      subst hdraw
      split at h
      · cases h
      · rename_i T1 st1 fs hs
        simp only [Option.some.injEq, Prod.mk.injEq] at h; obtain ⟨rfl, rfl, rfl⟩ := h
        have hi' : Inv B ρ im { st with c := st.c + ops.size } w := hi.reserve ops.size
        refine wp_region (ops_sound ok cok (c0 := st.c) (List.range ops.size) T { st with c := st.c + ops.size } T1 st1 fs ρ im a w hs (fun i hin => List.mem_range.1 hin) List.nodup_range hi' hf (fun i _ => hi.new _ (by omega)) (Nat.le_refl _) ?_)
        intro a' w' ρ' im' hf' hi2 hs'
        exact k a' w' ρ' im' hf' hi2 hs'
  · rename_i x y
    refine wp_seq ?_
    split at h
    · rename_i T1 st1 h1
      have e1 := rm _ _ _ _ _ _ _ h1
      refine hrun _ _ _ _ _ _ _ h1 B ρ im a w _ hi hf fun a1 w1 ρ1 im1 hf1 hi1 hs1 => ?_
      refine hrun _ _ _ _ _ _ _ h B ρ1 im1 a1 w1 _ hi1 hf1 fun a2 w2 ρ2 im2 hf2 hi2 hs2 => ?_
      exact k a2 w2 ρ2 im2 hf2 hi2 fun s hs => by rw [hs2 s (by omega), hs1 s hs]
    · rename_i hno
      refine hrun _ _ _ _ _ _ _ h B ρ im a w _ hi hf fun a1 w1 ρ1 im1 hf1 hi1 hs1 => ?_
      exact exit_then_toExit (fun q => by subst q; exact hno _ _ h) (k a1 w1 ρ1 im1 hf1 hi1 hs1)
  · rename_i c x y
    have hv := hf.ev c
    split at h
    · rename_i hc
      rw [hc] at hv
      generalize hax : a.eval c = ax at hv
      cases hv
      exact wp_cond_true hax (hrun _ _ _ _ _ _ _ h B ρ im a w _ hi hf k)
    · rename_i hc
      rw [hc] at hv
      generalize hax : a.eval c = ax at hv
      cases hv
      exact wp_cond_false hax (hrun _ _ _ _ _ _ _ h B ρ im a w _ hi hf k)
    · cases h
  · rename_i id b
    refine wp_block ?_
    split at h
    · rename_i j T1 st1 h1
      refine hrun _ _ _ _ _ _ _ h1 B ρ im a w _ hi hf fun a1 w1 ρ1 im1 hf1 hi1 hs1 => ?_
      split at h
      · rename_i hj
        simp only [Option.some.injEq, Prod.mk.injEq] at h; obtain ⟨rfl, rfl, rfl⟩ := h
        simp only [AExit.toExit, Exit.inBlock, hj, if_true]
        exact k a1 w1 ρ1 im1 hf1 hi1 hs1
      · rename_i hj
        simp only [Option.some.injEq, Prod.mk.injEq] at h; obtain ⟨rfl, rfl, rfl⟩ := h
        simp only [AExit.toExit, Exit.inBlock, hj, if_false]
        exact k a1 w1 ρ1 im1 hf1 hi1 hs1
    · rename_i hno
      refine hrun _ _ _ _ _ _ _ h B ρ im a w _ hi hf fun a1 w1 ρ1 im1 hf1 hi1 hs1 => ?_
      cases e with
      | exit j => exact absurd h (hno j _ _)
      | _ => exact k a1 w1 ρ1 im1 hf1 hi1 hs1
  · rename_i b
    exact wp_loop_rounds (n + 1) (loopF_sound (C := C) (call := call) hrun rm hloop nt b T st e T' st' (by simp only [execF]; exact h) B ρ im a w Q hi hf k)
  · simp only [Option.some.injEq, Prod.mk.injEq] at h; obtain ⟨rfl, rfl, rfl⟩ := h
    exact wp_exit (k a w ρ im hf hi (fun _ _ => rfl))
  · simp only [Option.some.injEq, Prod.mk.injEq] at h; obtain ⟨rfl, rfl, rfl⟩ := h
    exact wp_ret (k a w ρ im hf hi (fun _ _ => rfl))
  · cases h

theorem lrel_mapM [Inhabited Val] {ρ ρ' : Rho} {im im' : Im} {f : AV → Option AV} (hf : ∀ v r x, VRel ρ im v x → f v = some r → VRel ρ' im' r x) {cs rs : List AV} {vs : List Value} (hl : LRel ρ im cs vs) (hm : cs.mapM f = some rs) : LRel ρ' im' rs vs := by
  obtain ⟨e1, e2⟩ := mapM_get _ cs rs hm
  refine ⟨by rw [hl.1, e1], fun i => ?_⟩
  cases hc : cs[i]? with
  | none =>
    have : rs[i]? = none := by
      rw [List.getElem?_eq_none_iff] at hc ⊢
      omega
    rw [List.getD_eq_getElem?_getD, this]
    exact .bad _
  | some c =>
    obtain ⟨y, hy, hfy⟩ := e2 i c hc
    obtain ⟨u, hu, hvu⟩ := hl.get hc
    rw [List.getD_eq_getElem?_getD, List.getD_eq_getElem?_getD, hy, hu]
    exact hf c y u hvu hfy

theorem lrel_frz_plain [Inhabited Val] (hp : Heap) {ρ : Rho} {im : Im} : ∀ {cs rs : List AV} {vs : List Value}, LRel ρ im cs vs → cs.all (plainN 8) = true → cs.mapM (fin hp 0 false 8) = some rs → LRel (fun _ => none) im rs vs := by
  intro cs rs vs hl ha hm
  obtain ⟨e1, e2⟩ := mapM_get _ cs rs hm
  refine ⟨by rw [hl.1, e1], fun i => ?_⟩
  cases hc : cs[i]? with
  | none =>
    have : rs[i]? = none := by
      rw [List.getElem?_eq_none_iff] at hc ⊢
      omega
    rw [List.getD_eq_getElem?_getD, this]
    exact .bad _
  | some c =>
    obtain ⟨y, hy, hfy⟩ := e2 i c hc
    obtain ⟨u, hu, hvu⟩ := hl.get hc
    rw [List.getD_eq_getElem?_getD, List.getD_eq_getElem?_getD, hy, hu]
    exact frz_plain 8 8 hp c y u ρ im hvu (List.all_eq_true.1 ha c (List.mem_of_getElem? hc)) hfy

theorem callF_sound [Inhabited Val] (ok : CfgOk P C) {run : RunF} (hrun : RunOk P run) (rm : RunMono run) : CallsOk P C (callF C run) := by
  intro g args st r st' h
  obtain ⟨m1, m2, m3⟩ := callF_mono (C := C) rm g args st r st' h
  obtain ⟨fn, body, hfn, hbody, hway⟩ := callF_split h
  have wpb : ∀ {B : Base} {ρ : Rho} {im : Im} {st0 : St} {w : World} {as : List AV} {vargs : List Value} {e : AExit} {T1 : List AV} {st1 : St} {r1 : AV} {R : Ending → World → Prop}, run fn.ntmps body (padT fn.ntmps as) st0 = some (e, T1, st1) → (e = .normal ∨ e = .ret) → resultsA C st1.h T1 fn.results = some r1 →
      Inv B ρ im st0 w → LRel ρ im as vargs → (∀ w' ρ' im', Inv B ρ' im' st1 w' → (∀ s, s < st0.c → ρ' s = ρ s) → ∀ rv, VRel ρ' im' r1 rv → R (.returned rv) w') → Calls P g vargs.toArray w R := fun {B ρ im st0 w as vargs e T1 st1 r1 R} h1 he hr hi hl k =>
    calls_of_wp (ok.fn g fn hfn).1 hbody (hrun _ _ _ _ _ _ _ h1 B ρ im _ w _ hi (frel_enter hl fn.ntmps) fun a' w' ρ' im' hf' hi' hs => by
      obtain ⟨rv, hrr, hv⟩ := results_sound ok.ty hi' hf' hr
      have := k w' ρ' im' hi' hs rv hv
      rcases he with rfl | rfl
      · exact ⟨hf'.defers, rv, hrr, this⟩
      · exact ⟨hf'.defers, rv, hrr, this⟩)
  refine ⟨m1, m3, fun hmode B ρ im w vargs hi hl => ?_, fun hmode B ρ im hfull w vargs hi hsub hl => ?_⟩
  · rcases hway with ⟨hm, _⟩ | ⟨_, e, T1, st1, r1, h1, he, hr, ⟨_, rfl, rfl⟩ | ⟨hno, _⟩⟩
    · omega
    · simp only [hmode, if_true] at h1
      refine wpb h1 he hr hi.enter2 hl fun w' ρ' im' hi' hs rv hv => ?_
      have hbar : st1.bar = st.bar := hi'.bar
      have hst : ({ st1 with bar := st.bar } : St) = st1 := by rw [← hbar]
      exact ⟨rv, ρ', im', rfl, hv, by rw [hst]; exact hi.trans hi', hi'.rho, hi'.imx, hs⟩
    · exact absurd (.inl hmode) hno
  · have hp : Inv B ρ im st w := hi.part (hp := st.h) hsub
    rcases hway with ⟨hm, pargs, e, T1, st1, r1, hpa, h1, he, hr, hfin, hsc, rfl⟩ | ⟨hm, e, T1, st1, r1, h1, he, hr, ⟨hmm, rfl, rfl⟩ | ⟨hmm, hfin, rfl⟩⟩
    · -- a call that is handed plain values
      have hm1 : ¬ C.mode g = 1 := by omega
      have key : ∀ im0 : Im, (∀ b o, im0 b = some o → w.heap[b]? = some o) → LRel (fun _ => none) im0 pargs vargs → (∀ rv w1, VRel (fun _ => none) (imOut im0 w w1) r rv → VRel ρ (imOut im w w1) r rv) →
          Calls P g vargs.toArray w (After B ρ im st'.c { st' with h := if C.mode g = 1 then (st'.h.filter fun p => decide (st'.c ≤ p.1)) ++ hfull else hfull, c := st'.c } r) := fun im0 him hla hres => by
        have hfree := hp.free him
        refine wpb h1 he hr hfree hla fun w1 ρ1 im1 hi1 hs rv hv => ?_
        refine ⟨rv, ρ, imOut im w w1, rfl, hres rv w1 ?_, ?_, rhoExt_refl _, imOut_ext hp w1, fun _ _ => rfl⟩
        · refine fin_gen hi1 (im' := imOut im0 w w1) (fun b o hb => ?_) (c0 := 0) (ρ' := fun _ => none) (fun s l hlt _ => absurd hlt (Nat.not_lt_zero _)) (fun s cs loc _ hg hρ => ?_) 8 false r1 r rv hv hfin
          · unfold imOut
            split
            · rename_i hlt; exact (hi1.imo b o hb hlt).resolve_right (fun ⟨s, o, l, h1, _⟩ => by simp [hget] at h1)
            · exact hi1.imw b o hb
          · have hblk : w.heap.size ≤ loc.blk := by
              rcases hi1.own loc.blk ⟨s, _, loc, hg, rfl, Nat.zero_le _, hρ, rfl⟩ with h2 | h2
              · obtain ⟨s2, o2, l2, q1, _⟩ := h2; simp [hget] at q1
              · exact h2
            have : ¬ loc.blk < w.heap.size := by omega
            simp [imOut, this]
        · simp only [hm1, if_false]
          exact hi.back3 hi1
      rcases hsc with hsc | hsc
      · exact key im hp.imw (lrel_frz_plain st'.h hl hsc hpa) fun rv w1 hv => hv.up
      · exact key (imAll w) (fun b o hb => hb) (lrel_mapM (fun v r x hv hf => frz_sound hp hv hf) hl hpa) fun rv w1 hv => scalar_sound 8 _ _ _ _ _ _ hv hsc
    · -- what it lays stays its caller's
      have hm1 : C.mode g = 1 := hmm.resolve_left hmode
      simp only [hmode, if_false] at h1
      refine wpb h1 he hr hp.enter hl fun w' ρ' im' hi' hs rv hv => ⟨rv, ρ', im', rfl, hv, ?_, hi'.rho, hi'.imx, hs⟩
      simp only [hm1, if_true]
      exact hi.back1 (hp := st.h) hsub hi'
    · simp only [hmode, if_false] at h1
      have hm1 : ¬ C.mode g = 1 := fun q => hmm (.inr q)
      refine wpb h1 he hr hp.enter hl fun w' ρ' im' hi' hs rv hv => ⟨rv, ρ, imOut im w w', rfl, fin_sound hp hi' hs hv hfin, ?_, rhoExt_refl _, imOut_ext hp w', fun _ _ => rfl⟩
      simp only [hm1, if_false]
      exact hi.back (hp := st'.h) hsub hi'

theorem sound_all [Inhabited Val] (ok : CfgOk P C) (hm : P.follows .mixedOrders = true) : ∀ n, RunOk P (exec C n) ∧ LoopOk P (exec C n) n ∧ CallsOk P C (callN C n)
  | 0 => ⟨fun _ _ _ _ _ _ _ h => by simp [exec] at h, fun _ _ _ _ _ _ _ h => by simp [exec] at h, fun _ _ _ _ _ h => by simp [callN] at h⟩
  | n + 1 => by
    obtain ⟨h1, h2, h3⟩ := sound_all ok hm n
    obtain ⟨rm, cm⟩ := mono_all C n
    refine ⟨?_, ?_, ?_⟩
    · have := execF_sound ok hm h1 rm h2 h3 (callN_bar C n) cm
      intro nt c T st e T' st' h
      exact this nt c T st e T' st' (by simpa only [exec] using h)
    · have := loopF_sound (C := C) (call := callN C n) h1 rm h2
      intro nt b T st e T' st' h
      exact this nt b T st e T' st' (by simpa only [exec] using h)
    · have := callF_sound ok h1 rm
      intro g args st r st' h
      exact this g args st r st' (by simpa only [callN] using h)

theorem callN_sound [Inhabited Val] (ok : CfgOk P C) (hm : P.follows .mixedOrders = true) (n : Nat) : CallsOk P C (callN C n) := (sound_all ok hm n).2.2

end
end Go.Ab
/- The plain interpreter without fuel: what stands behind a piece of code, as a proposition that simp can take apart. -/
namespace Go.Ab
open Go

def LeR (f g : RunF) : Prop := ∀ nt c T st r, f nt c T st = some r → g nt c T st = some r
def LeC (f g : CallF) : Prop := ∀ k args st r, f k args st = some r → g k args st = some r

section
variable {C : Cfg}

theorem runTodo_le {call call' : CallF} (h : LeC call call') {nt c0 n : Nat} {vis : Option (List Nat)} {dst : Option Nat} {T : List AV} {st : St} {td : Todo} {r : List AV × St × Foot}
    (he : runTodo C call nt c0 n vis dst T st td = some r) : runTodo C call' nt c0 n vis dst T st td = some r := by
  cases td with
  | bad => exact he
  | plain rd F => exact he
  | call g args =>
    simp only [runTodo] at he ⊢
    split at he
    · rename_i hm
      rw [if_pos hm]
      split at he
      · rename_i v st' hc
        rw [h _ _ _ _ hc]; exact he
      · cases he
    · rename_i hm
      rw [if_neg hm]
      split at he
      · rename_i v st' hc
        rw [h _ _ _ _ hc]; exact he
      · cases he

theorem opsA_le {call call' : CallF} (h : LeC call call') {nt c0 : Nat} {bl : Option (List (List Nat))} {ops : Array Oper} : ∀ (is : List Nat) (T : List AV) (st : St) (r : List AV × St × List (Nat × Foot)),
    opsA C call nt c0 bl ops is T st = some r → opsA C call' nt c0 bl ops is T st = some r
  | [], _, _, _, he => he
  | i :: is, T, st, r, he => by
    simp only [opsA] at he ⊢
    split at he
    · cases he
    · rename_i T' st' f hs
      have hs' : stepA C call' nt c0 bl ops i T st = some (T', st', f) := by
        unfold stepA at hs ⊢
        split at hs
        · cases hs
        · exact runTodo_le h hs
      rw [hs']
      simp only
      split at he
      · rename_i T2 st2 fs ht
        rw [opsA_le h is T' st' _ ht]
        exact he
      · cases he

theorem execF_le {rec rec' : RunF} {call call' : CallF} (hr : LeR rec rec') (hc : LeC call call') : LeR (execF C rec call) (execF C rec' call') := by
  intro nt c T st r h
  cases c with
  | skip => exact h
  | region id ops draw =>
    simp only [execF] at h ⊢
    split at h
    · rename_i hd
      simp only [hd, if_true]
      split at h
      · cases h
      · rename_i T' st' fs ht
        rw [opsA_le hc _ _ _ _ ht]
        exact h
    · rename_i hd
      simp only [hd]
      split at h
      · cases h
      · rename_i T' st' fs ht
        rw [opsA_le hc _ _ _ _ ht]
        exact h
  | seq a b =>
    simp only [execF] at h ⊢
    split at h
    · rename_i T' st' ht
      rw [hr _ _ _ _ _ ht]
      exact hr _ _ _ _ _ h
    · rename_i hno
      rw [hr _ _ _ _ _ h]
      split
      · rename_i T' st' e
        simp only [Option.some.injEq] at e
        subst e
        exact absurd h (hno _ _)
      · rfl
  | cond c a b =>
    simp only [execF] at h ⊢
    split at h
    · exact hr _ _ _ _ _ h
    · exact hr _ _ _ _ _ h
    · cases h
  | block id b =>
    simp only [execF] at h ⊢
    split at h
    · rename_i j T' st' ht
      rw [hr _ _ _ _ _ ht]
      exact h
    · rename_i hno
      rw [hr _ _ _ _ _ h]
      split
      · rename_i j T' st' e
        simp only [Option.some.injEq] at e
        subst e
        exact absurd h (hno _ _ _)
      · rfl
  | loop b =>
    simp only [execF] at h ⊢
    split at h
    · rename_i T' st' ht
      rw [hr _ _ _ _ _ ht]
      exact hr _ _ _ _ _ h
    · rename_i hno
      rw [hr _ _ _ _ _ h]
      split
      · rename_i T' st' e
        simp only [Option.some.injEq] at e
        subst e
        exact absurd h (hno _ _)
      · rfl
  | exit id => exact h
  | ret => exact h
  | _ => simp only [execF] at h; cases h

theorem callF_le {rec rec' : RunF} (hr : LeR rec rec') : LeC (callF C rec) (callF C rec') := by
  intro g args st r h
  simp only [callF] at h ⊢
  split at h
  · cases h
  · rename_i fn hfn
    split at h
    · cases h
    · rename_i body hbody
      split at h
      · rename_i hm
        simp only [hm, if_true]
        split at h
        · cases h
        · rename_i pargs hp
          split at h
          · rename_i e T' st' ht
            rw [hr _ _ _ _ _ ht]
            exact h
          · cases h
      · rename_i hm
        simp only [hm, if_false]
        split at h
        · rename_i e T' st' ht
          rw [hr _ _ _ _ _ ht]
          exact h
        · cases h

theorem fuel_le : ∀ n, LeR (exec C n) (exec C (n + 1)) ∧ LeC (callN C n) (callN C (n + 1))
  | 0 => ⟨fun _ _ _ _ _ h => by simp [exec] at h, fun _ _ _ _ h => by simp [callN] at h⟩
  | n + 1 => by
    obtain ⟨h1, h2⟩ := fuel_le n
    refine ⟨fun nt c T st r h => ?_, fun g args st r h => ?_⟩
    · simp only [exec] at h ⊢
      exact execF_le h1 h2 _ _ _ _ _ h
    · simp only [callN] at h ⊢
      exact callF_le h1 _ _ _ _ h

theorem fuel_mono {n m : Nat} (h : n ≤ m) : LeR (exec C n) (exec C m) ∧ LeC (callN C n) (callN C m) := by
  induction h with
  | refl => exact ⟨fun _ _ _ _ _ h => h, fun _ _ _ _ h => h⟩
  | step _ ih => exact ⟨fun _ _ _ _ _ h => (fuel_le _).1 _ _ _ _ _ (ih.1 _ _ _ _ _ h), fun _ _ _ _ h => (fuel_le _).2 _ _ _ _ (ih.2 _ _ _ _ h)⟩

end

/-- What stands behind a piece of code. -/
def Ex (C : Cfg) (nt : Nat) (c : Code) (T : List AV) (st : St) (Q : AExit → List AV → St → Prop) : Prop := ∃ n r, exec C n nt c T st = some r ∧ Q r.1 r.2.1 r.2.2
/-- What stands behind a call. -/
def Ca (C : Cfg) (g : Nat) (args : List AV) (st : St) (Q : AV → St → Prop) : Prop := ∃ n r, callN C n g args st = some r ∧ Q r.1 r.2

section
variable {C : Cfg} {nt : Nat} {T : List AV} {st : St} {Q : AExit → List AV → St → Prop}

theorem Ex.mono {c : Code} {Q' : AExit → List AV → St → Prop} (h : Ex C nt c T st Q) (hq : ∀ e T' st', Q e T' st' → Q' e T' st') : Ex C nt c T st Q' := by
  obtain ⟨n, r, h1, h2⟩ := h
  exact ⟨n, r, h1, hq _ _ _ h2⟩

theorem Ex_skip : Ex C nt .skip T st Q ↔ Q .normal T st := by
  constructor
  · rintro ⟨n, r, h, hq⟩
    cases n with
    | zero => simp [exec] at h
    | succ n => simp only [exec, execF, Option.some.injEq] at h; subst h; exact hq
  · intro hq; exact ⟨1, (.normal, T, st), by simp only [exec, execF], hq⟩

theorem Ex_exit {id : Nat} : Ex C nt (.exit id) T st Q ↔ Q (.exit id) T st := by
  constructor
  · rintro ⟨n, r, h, hq⟩
    cases n with
    | zero => simp [exec] at h
    | succ n => simp only [exec, execF, Option.some.injEq] at h; subst h; exact hq
  · intro hq; exact ⟨1, (.exit id, T, st), by simp only [exec, execF], hq⟩

theorem Ex_ret : Ex C nt .ret T st Q ↔ Q .ret T st := by
  constructor
  · rintro ⟨n, r, h, hq⟩
    cases n with
    | zero => simp [exec] at h
    | succ n => simp only [exec, execF, Option.some.injEq] at h; subst h; exact hq
  · intro hq; exact ⟨1, (.ret, T, st), by simp only [exec, execF], hq⟩

def kseq (P : List AV → St → Prop) (Q : AExit → List AV → St → Prop) : AExit → List AV → St → Prop
  | .normal => P
  | .exit j => Q (.exit j)
  | .ret => Q .ret

theorem kseq_normal {P : List AV → St → Prop} : kseq P Q .normal T st = P T st := rfl
theorem kseq_ret {P : List AV → St → Prop} : kseq P Q .ret T st = Q .ret T st := rfl
theorem kseq_exit {P : List AV → St → Prop} {j : Nat} : kseq P Q (.exit j) T st = Q (.exit j) T st := rfl

theorem Ex_seq {a b : Code} : Ex C nt (.seq a b) T st Q ↔ Ex C nt a T st (kseq (fun T st => Ex C nt b T st Q) Q) := by
  constructor
  · rintro ⟨n, r, h, hq⟩
    cases n with
    | zero => simp [exec] at h
    | succ n =>
      simp only [exec, execF] at h
      split at h
      · rename_i T' st' h1
        exact ⟨n, _, h1, n, r, h, hq⟩
      · rename_i hno
        refine ⟨n, r, h, ?_⟩
        obtain ⟨e, T', st'⟩ := r
        cases e with
        | normal => exact absurd h (hno _ _)
        | _ => exact hq
  · rintro ⟨n, ⟨e, T', st'⟩, h, hq⟩
    cases e with
    | normal =>
      obtain ⟨m, r, h2, hq⟩ := hq
      refine ⟨max n m + 1, r, ?_, hq⟩
      simp only [exec, execF]
      rw [(fuel_mono (Nat.le_max_left n m)).1 _ _ _ _ _ h]
      exact (fuel_mono (Nat.le_max_right n m)).1 _ _ _ _ _ h2
    | exit j => exact ⟨n + 1, (.exit j, T', st'), by simp only [exec, execF, h], hq⟩
    | ret => exact ⟨n + 1, (.ret, T', st'), by simp only [exec, execF, h], hq⟩

def condW (v : AV) (p q : Prop) : Prop := match v with
  | .bool b => if b = true then p else q
  | _ => False

theorem condW_bool {b : Bool} {p q : Prop} : condW (.bool b) p q = if b = true then p else q := rfl

theorem Ex_cond {c : Operand} {a b : Code} : Ex C nt (.cond c a b) T st Q ↔ condW (ev T c) (Ex C nt a T st Q) (Ex C nt b T st Q) := by
  constructor
  · rintro ⟨n, r, h, hq⟩
    cases n with
    | zero => simp [exec] at h
    | succ n =>
      simp only [exec, execF] at h
      split at h
      · rename_i e; rw [e]; exact ⟨n, r, h, hq⟩
      · rename_i e; rw [e]; exact ⟨n, r, h, hq⟩
      · cases h
  · intro h
    unfold condW at h
    split at h
    · rename_i b' e
      cases b' with
      | true => obtain ⟨n, r, h1, hq⟩ := h; exact ⟨n + 1, r, by simp only [exec, execF, e]; exact h1, hq⟩
      | false => obtain ⟨n, r, h1, hq⟩ := h; exact ⟨n + 1, r, by simp only [exec, execF, e]; exact h1, hq⟩
    · cases h

def kblock (id : Nat) (Q : AExit → List AV → St → Prop) : AExit → List AV → St → Prop
  | .normal => Q .normal
  | .exit j => if j = id then Q .normal else Q (.exit j)
  | .ret => Q .ret

theorem kblock_normal {id : Nat} : kblock id Q .normal T st = Q .normal T st := rfl
theorem kblock_ret {id : Nat} : kblock id Q .ret T st = Q .ret T st := rfl
theorem kblock_exit {id j : Nat} : kblock id Q (.exit j) T st = if j = id then Q .normal T st else Q (.exit j) T st := by
  simp only [kblock]; split <;> rfl

theorem Ex_block {id : Nat} {b : Code} : Ex C nt (.block id b) T st Q ↔ Ex C nt b T st (kblock id Q) := by
  constructor
  · rintro ⟨n, r, h, hq⟩
    cases n with
    | zero => simp [exec] at h
    | succ n =>
      simp only [exec, execF] at h
      split at h
      · rename_i j T' st' h1
        refine ⟨n, _, h1, ?_⟩
        rw [kblock_exit]
        split at h
        · rename_i hj
          simp only [Option.some.injEq] at h; subst h
          rw [if_pos hj]; exact hq
        · rename_i hj
          simp only [Option.some.injEq] at h; subst h
          rw [if_neg hj]; exact hq
      · rename_i hno
        refine ⟨n, r, h, ?_⟩
        obtain ⟨e, T', st'⟩ := r
        cases e with
        | exit j => exact absurd h (hno _ _ _)
        | _ => exact hq
  · rintro ⟨n, ⟨e, T', st'⟩, h, hq⟩
    cases e with
    | exit j =>
      simp only at hq
      rw [kblock_exit] at hq
      by_cases hj : j = id
      · rw [if_pos hj] at hq
        exact ⟨n + 1, (.normal, T', st'), by simp only [exec, execF, h, hj, if_true], hq⟩
      · rw [if_neg hj] at hq
        exact ⟨n + 1, (.exit j, T', st'), by simp only [exec, execF, h, hj, if_false], hq⟩
    | normal => exact ⟨n + 1, (.normal, T', st'), by simp only [exec, execF, h], hq⟩
    | ret => exact ⟨n + 1, (.ret, T', st'), by simp only [exec, execF, h], hq⟩

theorem Ex_loop {b : Code} : Ex C nt (.loop b) T st Q ↔ Ex C nt b T st (kseq (fun T st => Ex C nt (.loop b) T st Q) Q) := by
  constructor
  · rintro ⟨n, r, h, hq⟩
    cases n with
    | zero => simp [exec] at h
    | succ n =>
      simp only [exec, execF] at h
      split at h
      · rename_i T' st' h1
        exact ⟨n, _, h1, n, r, h, hq⟩
      · rename_i hno
        refine ⟨n, r, h, ?_⟩
        obtain ⟨e, T', st'⟩ := r
        cases e with
        | normal => exact absurd h (hno _ _)
        | _ => exact hq
  · rintro ⟨n, ⟨e, T', st'⟩, h, hq⟩
    cases e with
    | normal =>
      obtain ⟨m, r, h2, hq⟩ := hq
      refine ⟨max n m + 1, r, ?_, hq⟩
      simp only [exec, execF]
      rw [(fuel_mono (Nat.le_max_left n m)).1 _ _ _ _ _ h]
      exact (fuel_mono (Nat.le_max_right n m)).1 _ _ _ _ _ h2
    | exit j => exact ⟨n + 1, (.exit j, T', st'), by simp only [exec, execF, h], hq⟩
    | ret => exact ⟨n + 1, (.ret, T', st'), by simp only [exec, execF, h], hq⟩

/-- A loop, by an invariant with a measure. -/
theorem Ex_while {b : Code} (I : Nat → List AV → St → Prop)
    (body : ∀ k T st, I k T st → Ex C nt b T st (kseq (fun T' st' => ∃ k', k' < k ∧ I k' T' st') Q)) : ∀ k T st, I k T st → Ex C nt (.loop b) T st Q := by
  intro k
  induction k using Nat.strongRecOn with
  | _ k ih =>
    intro T st h
    rw [Ex_loop]
    refine (body k T st h).mono fun e T' st' hq => ?_
    cases e with
    | normal => obtain ⟨k', hk, h'⟩ := hq; exact ih k' hk T' st' h'
    | exit j => exact hq
    | ret => exact hq

end

/-! Regions whose order is fixed. -/

structure Stp where
  dst : Option Nat
  op : Op
  gd : Option (Option Nat × Bool)

def stpOf (dsts : List (Option Nat)) (o : Oper) : Stp := ⟨o.dst, o.op, match o.guard with
  | none => none
  | some (j, w) => some (dsts.getD j none, w)⟩

def stps (ops : Array Oper) : List Stp := ops.toList.map (stpOf (ops.toList.map fun o => o.dst))

def wantS (gd : Option (Option Nat × Bool)) (T : List AV) : Option Bool := match gd with
  | none => some true
  | some (none, _) => some false
  | some (some d, want) => match getT T d with
    | .bool b => some (b == want)
    | .bad => none
    | _ => some false

def todoS (C : Cfg) (s : Stp) (bar new : Nat) (T : List AV) : Todo :=
  match wantS s.gd T with
  | none => .bad
  | some false => .plain [] fun _ => some (.undef, [])
  | some true =>
    match s.op with
    | .call { callee := .value f, args, argTypes := _ } =>
      match ev T f with
      | .func g first captured =>
        match C.hook g with
        | some F => .plain (hookLooks (first ++ (args.toList.map (ev T) ++ captured))) fun look => F look bar new (first ++ (args.toList.map (ev T) ++ captured))
        | none => .call g (first ++ (args.toList.map (ev T) ++ captured))
      | _ => .bad
    | op => .plain (looks T op) fun look => plan C T look bar new op

theorem wantS_eq (ops : Array Oper) (T : List AV) (o : Oper) : wantedA ops T o = wantS (stpOf (ops.toList.map fun o => o.dst) o).gd T := by
  unfold wantedA stpOf wantS
  cases hg : o.guard with
  | none => rfl
  | some p =>
    obtain ⟨j, want⟩ := p
    simp only
    have : (ops.toList.map fun o => o.dst).getD j none = (ops[j]?).bind (·.dst) := by
      rw [List.getD_eq_getElem?_getD, List.getElem?_map, Array.getElem?_toList]
      cases ops[j]? <;> rfl
    rw [this]
    cases (ops[j]?).bind (·.dst) <;> rfl

theorem todoS_eq (C : Cfg) (ops : Array Oper) (T : List AV) (o : Oper) (bar new : Nat) : todo C ops bar new o T = todoS C (stpOf (ops.toList.map fun o => o.dst) o) bar new T := by
  unfold todo todoS
  rw [wantS_eq, show (stpOf (ops.toList.map fun o => o.dst) o).op = o.op from rfl]
  rfl


/-- Where an operation stands: the region's first stamp, its size, what surely stands ahead. -/
structure Ctx where
  c0 : Nat
  n : Nat
  vis : Option (List Nat)

def flatC : Ctx := ⟨0, 0, none⟩

/-- What stands behind an operation. -/
def OpW (C : Cfg) (nt : Nat) (x : Ctx) (new : Nat) (s : Stp) (T : List AV) (st : St) (K : List AV → St → Foot → Prop) : Prop :=
  ∃ n r, runTodo C (callN C n) nt x.c0 x.n x.vis s.dst T st (todoS C s st.bar new T) = some r ∧ K r.1 r.2.1 r.2.2

def OpsW (C : Cfg) (nt new : Nat) : List Stp → List AV → St → (List AV → St → Prop) → Prop
  | [], T, st, K => K T st
  | s :: r, T, st, K => OpW C nt flatC new s T st fun T st _ => OpsW C nt (new + 1) r T st K

/-- A region whose order is open. -/
def OpsD (C : Cfg) (nt c0 n : Nat) (bl : List (List Nat)) : Nat → List Stp → List (Nat × Foot) → List AV → St → (List AV → St → List (Nat × Foot) → Prop) → Prop
  | _, [], fs, T, st, K => K T st fs
  | i, s :: r, fs, T, st, K => OpW C nt ⟨c0, n, some (bl.getD i [])⟩ (c0 + i) s T st fun T st f => OpsD C nt c0 n bl (i + 1) r (fs ++ [(i, f)]) T st K

theorem runTodo_n {C : Cfg} {call : CallF} {nt c0 n c0' n' : Nat} {dst : Option Nat} {T : List AV} {st : St} {td : Todo} :
    (runTodo C call nt c0 n none dst T st td).map (fun r => (r.1, r.2.1)) = (runTodo C call nt c0' n' none dst T st td).map (fun r => (r.1, r.2.1)) := by
  cases td with
  | bad => rfl
  | plain rd F => rfl
  | call g args =>
    simp only [runTodo, sees]


theorem opsW_of {C : Cfg} {nt c0 : Nat} {ops : Array Oper} : ∀ (k : Nat) (i : Nat), ops.size = i + k → ∀ (T : List AV) (st : St) (K : List AV → St → Prop),
    (OpsW C nt (c0 + i) ((stps ops).drop i) T st K ↔ ∃ n r, opsA C (callN C n) nt c0 none ops (List.range' i k) T st = some r ∧ K r.1 r.2.1)
  | 0, i, hi, T, st, K => by
    have : (stps ops).drop i = [] := by
      apply List.drop_eq_nil_of_le
      simp [stps]; omega
    rw [this]
    simp only [OpsW, List.range'_zero, opsA]
    constructor
    · intro h; exact ⟨0, _, rfl, h⟩
    · rintro ⟨_, r, h, hk⟩
      simp only [Option.some.injEq] at h
      subst h; exact hk
  | k + 1, i, hi, T, st, K => by
    have hlt : i < ops.size := by omega
    have hd : (stps ops).drop i = stpOf (ops.toList.map fun o => o.dst) ops[i] :: (stps ops).drop (i + 1) := by
      rw [List.drop_eq_getElem_cons (by simpa [stps] using hlt)]
      simp [stps]
    rw [hd]
    simp only [OpsW, List.range'_succ, opsA]
    have ho : ops[i]? = some ops[i] := by simp [hlt]
    constructor
    · rintro ⟨n, r, h1, h2⟩
      rw [show c0 + i + 1 = c0 + (i + 1) from rfl] at h2
      rw [opsW_of k (i + 1) (by omega)] at h2
      obtain ⟨m, r2, h3, h4⟩ := h2
      have h1' : ∃ f, stepA C (callN C n) nt c0 none ops i T st = some (r.1, r.2.1, f) := by
        unfold stepA
        rw [ho]
        simp only [Option.map_none]
        rw [todoS_eq]
        have := runTodo_n (C := C) (call := callN C n) (nt := nt) (c0 := c0) (n := ops.size) (c0' := 0) (n' := 0) (dst := ops[i].dst) (T := T) (st := st) (td := todoS C (stpOf (ops.toList.map fun o => o.dst) ops[i]) st.bar (c0 + i) T)
        have h1'' : runTodo C (callN C n) nt 0 0 none ops[i].dst T st (todoS C (stpOf (ops.toList.map fun o => o.dst) ops[i]) st.bar (c0 + i) T) = some r := h1
        rw [h1''] at this
        simp only [Option.map_some] at this
        obtain ⟨⟨a1, a2, a3⟩, e1, e2⟩ := Option.map_eq_some_iff.1 this
        simp only [Prod.mk.injEq] at e2
        obtain ⟨rfl, rfl⟩ := e2
        exact ⟨a3, e1⟩
      obtain ⟨f, h1'⟩ := h1'
      have h1m : stepA C (callN C (max n m)) nt c0 none ops i T st = some (r.1, r.2.1, f) := by
        unfold stepA at h1' ⊢
        rw [ho] at h1' ⊢
        exact runTodo_le (fuel_mono (Nat.le_max_left n m)).2 h1'
      refine ⟨max n m, (r2.1, r2.2.1, (i, f) :: r2.2.2), ?_, h4⟩
      rw [h1m]
      simp only
      rw [opsA_le (fuel_mono (Nat.le_max_right n m)).2 _ _ _ _ h3]
    · rintro ⟨n, r, h, hk⟩
      split at h
      · cases h
      · rename_i T1 st1 f hs
        split at h
        · rename_i T2 st2 fs ht
          simp only [Option.some.injEq] at h
          subst h
          unfold stepA at hs
          rw [ho] at hs
          simp only [Option.map_none] at hs
          rw [todoS_eq] at hs
          have := runTodo_n (C := C) (call := callN C n) (nt := nt) (c0 := c0) (n := ops.size) (c0' := 0) (n' := 0) (dst := ops[i].dst) (T := T) (st := st) (td := todoS C (stpOf (ops.toList.map fun o => o.dst) ops[i]) st.bar (c0 + i) T)
          rw [hs] at this
          simp only [Option.map_some] at this
          obtain ⟨⟨a1, a2, a3⟩, e1, e2⟩ := Option.map_eq_some_iff.1 this.symm
          simp only [Prod.mk.injEq] at e2
          obtain ⟨rfl, rfl⟩ := e2
          refine ⟨n, _, e1, ?_⟩
          exact (opsW_of (ops := ops) (c0 := c0) k (i + 1) (by omega) a1 a2 K).2 ⟨n, _, ht, hk⟩
        · cases h

theorem Ex_region {C : Cfg} {nt : Nat} {T : List AV} {st : St} {Q : AExit → List AV → St → Prop} {id : Nat} {ops : Array Oper} :
    Ex C nt (.region id ops false) T st Q ↔ OpsW C nt st.c (stps ops) T ⟨st.h, st.c + ops.size, st.bar⟩ (Q .normal) := by
  have h0 := opsW_of (C := C) (nt := nt) (c0 := st.c) (ops := ops) ops.size 0 (by simp) T ⟨st.h, st.c + ops.size, st.bar⟩ (Q .normal)
  simp only [List.drop_zero, Nat.add_zero, ← List.range_eq_range'] at h0
  rw [h0]
  constructor
  · rintro ⟨n, r, h, hq⟩
    cases n with
    | zero => simp [exec] at h
    | succ n =>
      simp only [exec, execF] at h
      simp only [Bool.false_eq_true, if_false] at h
      split at h
      · cases h
      · rename_i T' st' fs ht
        simp only [Option.some.injEq] at h
        subst h
        exact ⟨n, _, ht, hq⟩
  · rintro ⟨n, r, h, hq⟩
    refine ⟨n + 1, (.normal, r.1, r.2.1), ?_, hq⟩
    simp only [exec, execF, Bool.false_eq_true, if_false]
    rw [h]


theorem opsD_of {C : Cfg} {nt c0 : Nat} {ops : Array Oper} {bl : List (List Nat)} : ∀ (k : Nat) (i : Nat), ops.size = i + k → ∀ (gs : List (Nat × Foot)) (T : List AV) (st : St) (K : List AV → St → List (Nat × Foot) → Prop),
    (OpsD C nt c0 ops.size bl i ((stps ops).drop i) gs T st K ↔ ∃ n r, opsA C (callN C n) nt c0 (some bl) ops (List.range' i k) T st = some r ∧ K r.1 r.2.1 (gs ++ r.2.2))
  | 0, i, hi, gs, T, st, K => by
    have : (stps ops).drop i = [] := by
      apply List.drop_eq_nil_of_le
      simp [stps]; omega
    rw [this]
    simp only [OpsD, List.range'_zero, opsA]
    constructor
    · intro h; exact ⟨0, _, rfl, by simpa using h⟩
    · rintro ⟨_, r, h, hk⟩
      simp only [Option.some.injEq] at h
      subst h; simpa using hk
  | k + 1, i, hi, gs, T, st, K => by
    have hlt : i < ops.size := by omega
    have hd : (stps ops).drop i = stpOf (ops.toList.map fun o => o.dst) ops[i] :: (stps ops).drop (i + 1) := by
      rw [List.drop_eq_getElem_cons (by simpa [stps] using hlt)]
      simp [stps]
    rw [hd]
    simp only [OpsD, List.range'_succ, opsA]
    have ho : ops[i]? = some ops[i] := by simp [hlt]
    have hstep : ∀ n, stepA C (callN C n) nt c0 (some bl) ops i T st = runTodo C (callN C n) nt c0 ops.size (some (bl.getD i [])) ops[i].dst T st (todoS C (stpOf (ops.toList.map fun o => o.dst) ops[i]) st.bar (c0 + i) T) := fun n => by
      unfold stepA
      rw [ho]
      simp only [Option.map_some]
      rw [todoS_eq]
    constructor
    · rintro ⟨n, r, h1, h2⟩
      rw [opsD_of k (i + 1) (by omega)] at h2
      obtain ⟨m, r2, h3, h4⟩ := h2
      have h1' : stepA C (callN C (max n m)) nt c0 (some bl) ops i T st = some r := by
        rw [hstep]
        exact runTodo_le (fuel_mono (Nat.le_max_left n m)).2 h1
      refine ⟨max n m, (r2.1, r2.2.1, (i, r.2.2) :: r2.2.2), ?_, by simpa using h4⟩
      rw [h1']
      simp only
      rw [opsA_le (fuel_mono (Nat.le_max_right n m)).2 _ _ _ _ h3]
    · rintro ⟨n, r, h, hk⟩
      split at h
      · cases h
      · rename_i T1 st1 f hs
        split at h
        · rename_i T2 st2 fs ht
          simp only [Option.some.injEq] at h
          subst h
          rw [hstep] at hs
          refine ⟨n, _, hs, ?_⟩
          exact (opsD_of (ops := ops) (c0 := c0) (bl := bl) k (i + 1) (by omega) (gs ++ [(i, f)]) T1 st1 K).2 ⟨n, _, ht, by simpa using hk⟩
        · cases h

theorem Ex_draw {C : Cfg} {nt : Nat} {T : List AV} {st : St} {Q : AExit → List AV → St → Prop} {id : Nat} {ops : Array Oper} :
    Ex C nt (.region id ops true) T st Q ↔ OpsD C nt st.c ops.size (beforeL ops) 0 (stps ops) [] T ⟨st.h, st.c + ops.size, st.bar⟩ (fun T st fs => drawOk ops (beforeL ops) fs = true ∧ Q .normal T st) := by
  have h0 := opsD_of (C := C) (nt := nt) (c0 := st.c) (ops := ops) (bl := beforeL ops) ops.size 0 (by simp) [] T ⟨st.h, st.c + ops.size, st.bar⟩ (fun T st fs => drawOk ops (beforeL ops) fs = true ∧ Q .normal T st)
  simp only [List.drop_zero, List.nil_append, ← List.range_eq_range'] at h0
  rw [h0]
  constructor
  · rintro ⟨n, r, h, hq⟩
    cases n with
    | zero => simp [exec] at h
    | succ n =>
      simp only [exec, execF, if_true] at h
      split at h
      · cases h
      · rename_i T' st' fs ht
        split at h
        · rename_i hd
          simp only [Option.some.injEq] at h
          subst h
          exact ⟨n, _, ht, hd, hq⟩
        · cases h
  · rintro ⟨n, r, h, hd, hq⟩
    refine ⟨n + 1, (.normal, r.1, r.2.1), ?_, hq⟩
    simp only [exec, execF, if_true]
    rw [h]
    simp only [hd, if_true]

end Go.Ab
/- Each operation of the plain interpreter, as a proposition that simp can take apart. -/
namespace Go.Ab
open Go

def putW (nt : Nat) (T : List AV) (dst : Option Nat) (v : AV) (K : List AV → Prop) : Prop := match dst with
  | none => K T
  | some d => d < nt ∧ K (setT T d v)

section
variable {C : Cfg} {nt new : Nat} {T : List AV} {st : St} {K : List AV → St → Foot → Prop} {x0 : Ctx} {dst : Option Nat} {h : Heap} {c bar : Nat}

theorem putW_some {d : Nat} {v : AV} {K : List AV → Prop} : putW nt T (some d) v K = (d < nt ∧ K (setT T d v)) := rfl
theorem putW_none {v : AV} {K : List AV → Prop} : putW nt T none v K = K T := rfl

theorem putW_iff {dst : Option Nat} {v : AV} {K : List AV → Prop} : putW nt T dst v K ↔ ∃ T', putT nt T dst v = some T' ∧ K T' := by
  cases dst with
  | none => simp [putW, putT]
  | some d =>
    by_cases h : d < nt
    · simp [putW, putT, h]
    · simp [putW, putT, h]

theorem ex2 {α β : Type} {a : α} {b : β} {P : α → β → Prop} : (∃ v es, (a = v ∧ b = es) ∧ P v es) ↔ P a b :=
  ⟨fun ⟨_, _, ⟨h1, h2⟩, h⟩ => by subst h1 h2; exact h, fun h => ⟨_, _, ⟨rfl, rfl⟩, h⟩⟩

def PlanW (C : Cfg) (nt new : Nat) (dst : Option Nat) (op : Op) (T : List AV) (st : St) (K : List AV → St → Foot → Prop) : Prop :=
  ∃ v es, plan C T (only st.h (looks T op)) st.bar new op = some (v, es) ∧ putW nt T dst v fun T' => K T' { st with h := hputs st.h es } ⟨looks T op, es.map (·.1), none, false⟩

def isCallV : Op → Bool
  | .call { callee := .value _, args := _, argTypes := _ } => true
  | _ => false

theorem OpW_plan {op : Op} (hop : isCallV op = false) : OpW C nt x0 new ⟨dst, op, none⟩ T st K ↔ PlanW C nt new dst op T st K := by
  have ht : todoS C ⟨dst, op, none⟩ st.bar new T = .plain (looks T op) fun look => plan C T look st.bar new op := by
    unfold todoS
    cases op with
    | call c =>
      obtain ⟨callee, args, ats⟩ := c
      cases callee with
      | value f => simp [isCallV] at hop
      | _ => rfl
    | _ => rfl
  unfold OpW PlanW
  rw [ht]
  simp only [runTodo]
  constructor
  · rintro ⟨n, r, h, hk⟩
    split at h
    · rename_i v es hv
      obtain ⟨T', hp, e⟩ := Option.map_eq_some_iff.1 h
      subst e
      exact ⟨v, es, hv, putW_iff.2 ⟨T', hp, hk⟩⟩
    · cases h
  · rintro ⟨v, es, hv, hk⟩
    obtain ⟨T', hp, hk⟩ := putW_iff.1 hk
    refine ⟨0, (T', { st with h := hputs st.h es }, ⟨looks T op, es.map (·.1), none, false⟩), ?_, hk⟩
    rw [hv]
    simp only [hp, Option.map_some]

/-- A guarded operation. -/
def guardW (v : AV) (want : Bool) (p q : Prop) : Prop := match v with
  | .bool b => if b = want then p else q
  | .bad => False
  | _ => q

theorem guardW_bool {b want : Bool} {p q : Prop} : guardW (.bool b) want p q = if b = want then p else q := rfl
theorem guardW_undef {want : Bool} {p q : Prop} : guardW .undef want p q = q := rfl

theorem OpW_guard {op : Op} {d : Nat} {want : Bool} : OpW C nt x0 new ⟨dst, op, some (some d, want)⟩ T st K ↔
    guardW (getT T d) want (OpW C nt x0 new ⟨dst, op, none⟩ T st K) (putW nt T dst .undef fun T' => K T' st ⟨[], [], none, false⟩) := by
  have hno : wantS (some (some d, want)) T = some false → (OpW C nt x0 new ⟨dst, op, some (some d, want)⟩ T st K ↔ putW nt T dst .undef fun T' => K T' st ⟨[], [], none, false⟩) := fun hw => by
    unfold OpW
    have : todoS C ⟨dst, op, some (some d, want)⟩ st.bar new T = .plain [] fun _ => some (.undef, []) := by
      unfold todoS; simp only [hw]
    rw [this]
    simp only [runTodo, hputs]
    constructor
    · rintro ⟨n, r, h, hk⟩
      obtain ⟨T', hp, e⟩ := Option.map_eq_some_iff.1 h
      subst e
      exact putW_iff.2 ⟨T', hp, hk⟩
    · intro hk
      obtain ⟨T', hp, hk⟩ := putW_iff.1 hk
      exact ⟨0, (T', st, ⟨[], [], none, false⟩), by rw [hp]; rfl, hk⟩
  have hyes : wantS (some (some d, want)) T = some true → (OpW C nt x0 new ⟨dst, op, some (some d, want)⟩ T st K ↔ OpW C nt x0 new ⟨dst, op, none⟩ T st K) := fun hw => by
    unfold OpW
    have : todoS C ⟨dst, op, some (some d, want)⟩ st.bar new T = todoS C ⟨dst, op, none⟩ st.bar new T := by
      unfold todoS; simp only [hw]; simp only [wantS]
    rw [this]
  unfold guardW
  split
  · rename_i b e
    by_cases hb : b = want
    · rw [if_pos hb]; exact hyes (by simp [wantS, e, hb])
    · rw [if_neg hb]; exact hno (by simp [wantS, e, hb])
  · rename_i e
    unfold OpW
    have : todoS C ⟨dst, op, some (some d, want)⟩ st.bar new T = .bad := by
      unfold todoS; simp only [wantS, e]
    rw [this]
    constructor
    · rintro ⟨n, r, h, _⟩; simp [runTodo] at h
    · exact False.elim
  · rename_i h1 h2
    refine hno ?_
    have : ∀ v : AV, (∀ b, v = .bool b → False) → (v = .bad → False) → (match v with | .bool b => some (b == want) | .bad => none | _ => some false) = some false := fun v h1 h2 => by
      cases v <;> first | rfl | exact (h1 _ rfl).elim | exact (h2 rfl).elim
    exact this _ h1 h2

def someW {α : Type} (o : Option α) (f : α → Prop) : Prop := match o with
  | some a => f a
  | none => False
theorem someW_some {α : Type} {a : α} {f : α → Prop} : someW (some a) f = f a := rfl
theorem someW_iff {α : Type} {o : Option α} {f : α → Prop} : someW o f ↔ ∃ a, o = some a ∧ f a := by
  cases o <;> simp [someW]

def boolW (v : AV) (f : Bool → Prop) : Prop := match v with
  | .bool b => f b
  | _ => False
theorem boolW_bool {b : Bool} {f : Bool → Prop} : boolW (.bool b) f = f b := rfl
def intW (v : AV) (f : Int → Prop) : Prop := match v with
  | .int _ n => f n
  | _ => False
theorem intW_int {k : IntKind} {n : Int} {f : Int → Prop} : intW (.int k n) f = f n := rfl
def funcW (v : AV) (f : Nat → List AV → List AV → Prop) : Prop := match v with
  | .func g a b => f g a b
  | _ => False
theorem funcW_func {g : Nat} {a b : List AV} {f : Nat → List AV → List AV → Prop} : funcW (.func g a b) f = f g a b := rfl
def cellsW (o : Option AObj) (f : List AV → Prop) : Prop := match o with
  | some (.cells cs) => f cs
  | _ => False
theorem cellsW_some {cs : List AV} {f : List AV → Prop} : cellsW (some (.cells cs)) f = f cs := rfl

theorem hget_only1 {h : Heap} {s : Nat} : hget (only h [s]) s = hget h s := by
  unfold only
  rw [hget_filter (fun x => [s].contains x)]
  simp

theorem W_move {x : Operand} : OpW C nt x0 new ⟨dst, .move x, none⟩ T st K ↔ putW nt T dst (ev T x) fun T' => K T' st ⟨looks T (.move x), [], none, false⟩ := by
  rw [OpW_plan rfl]
  simp only [PlanW, plan, Option.some.injEq, Prod.mk.injEq]
  constructor
  · rintro ⟨v, es, ⟨rfl, rfl⟩, h⟩; exact h
  · intro h; exact ⟨_, _, ⟨rfl, rfl⟩, h⟩

theorem W_assign {x : Operand} : OpW C nt x0 new ⟨dst, .assign x, none⟩ T st K ↔ putW nt T dst (ev T x) fun T' => K T' st ⟨looks T (.assign x), [], none, false⟩ := by
  rw [OpW_plan rfl]
  simp only [PlanW, plan, Option.some.injEq, Prod.mk.injEq]
  constructor
  · rintro ⟨v, es, ⟨rfl, rfl⟩, h⟩; exact h
  · intro h; exact ⟨_, _, ⟨rfl, rfl⟩, h⟩

/-- An operation that answers a value and turns nothing. -/
theorem plain_iff {op : Op} {o : Option AV} (h : ∀ look bar new, plan C T look bar new op = o.map fun v => (v, [])) : PlanW C nt new dst op T st K ↔ someW o fun v => putW nt T dst v fun T' => K T' st ⟨looks T op, [], none, false⟩ := by
  unfold PlanW
  rw [h]
  cases o with
  | none => simp [someW]
  | some v =>
    simp only [Option.map_some, Option.some.injEq, Prod.mk.injEq, someW]
    constructor
    · rintro ⟨v, es, ⟨rfl, rfl⟩, h⟩; exact h
    · intro h; exact ⟨_, _, ⟨rfl, rfl⟩, h⟩

def pickA (c a b : AV) : Option AV := match c with
  | .bool true => some a
  | .bool false => some b
  | _ => none
theorem pickA_true {a b : AV} : pickA (.bool true) a b = some a := rfl
theorem pickA_false {a b : AV} : pickA (.bool false) a b = some b := rfl
theorem pickA_bools {p a b : Bool} : pickA (.bool p) (.bool a) (.bool b) = some (.bool (if p = true then a else b)) := by cases p <;> rfl

theorem W_pick {x a b : Operand} : OpW C nt x0 new ⟨dst, .pick x a b, none⟩ T st K ↔ someW (pickA (ev T x) (ev T a) (ev T b)) fun v => putW nt T dst v fun T' => K T' st ⟨looks T (.pick x a b), [], none, false⟩ := by
  rw [OpW_plan rfl]
  refine plain_iff fun look bar new => ?_
  simp only [plan, pickA]
  generalize ev T x = v
  cases v <;> try rfl
  rename_i b; cases b <;> rfl

theorem W_binOp {op : BinOp} {t t' : TypeId} {x y : Operand} : OpW C nt x0 new ⟨dst, .binOp op t x y t', none⟩ T st K ↔ someW (binP C T op t x y) fun v => putW nt T dst v fun T' => K T' st ⟨looks T (.binOp op t x y t'), [], none, false⟩ := by
  rw [OpW_plan rfl]
  exact plain_iff fun look bar new => by simp only [plan]

theorem W_unOp {op : UnOp} {t : TypeId} {x : Operand} : OpW C nt x0 new ⟨dst, .unOp op t x, none⟩ T st K ↔ someW (unA op (ev T x)) fun v => putW nt T dst v fun T' => K T' st ⟨looks T (.unOp op t x), [], none, false⟩ := by
  rw [OpW_plan rfl]
  exact plain_iff fun look bar new => by simp only [plan]

def convA (s d : Option TI) (x : AV) : Option AV := match s, d, x with
  | some _, some ti, .int _ n => match ti.kind with
    | .int k => some (.int k (k.wrap n))
    | _ => none
  | _, _, _ => none
theorem W_convert {s d : TypeId} {x : Operand} : OpW C nt x0 new ⟨dst, .convert s d x, none⟩ T st K ↔ someW (convA (C.ty s) (C.ty d) (ev T x)) fun v => putW nt T dst v fun T' => K T' st ⟨looks T (.convert s d x), [], none, false⟩ := by
  rw [OpW_plan rfl]
  refine plain_iff fun look bar new => ?_
  simp only [plan, convA]
  generalize ev T x = v
  cases C.ty s <;> cases C.ty d <;> cases v <;> try rfl
  rename_i ti k n
  simp only
  cases ti.kind <;> rfl

theorem W_slice {t : TypeId} {x : Operand} {lo hi mx : Option Operand} : OpW C nt x0 new ⟨dst, .slice t x lo hi mx, none⟩ T st K ↔
    someW (C.ty t) fun ti => someW (sliceA C ti (ev T x) (lo.map (ev T)) (hi.map (ev T)) (mx.map (ev T))) fun v => putW nt T dst v fun T' => K T' st ⟨looks T (.slice t x lo hi mx), [], none, false⟩ := by
  rw [OpW_plan rfl]
  rw [plain_iff (o := match C.ty t with | some ti => sliceA C ti (ev T x) (lo.map (ev T)) (hi.map (ev T)) (mx.map (ev T)) | none => none) (fun look bar new => by
    simp only [plan]; cases C.ty t <;> rfl)]
  cases C.ty t <;> rfl

theorem W_alloc {t : TypeId} : OpW C nt x0 new ⟨dst, .alloc t, none⟩ T st K ↔ someW (C.ty t) fun ti => putW nt T dst (.ptr new 0) fun T' => K T' { st with h := hput st.h new (.cells ti.zero) } ⟨looks T (.alloc t), [new], none, false⟩ := by
  rw [OpW_plan rfl]
  simp only [PlanW, plan]
  cases C.ty t with
  | none => simp [someW]
  | some ti =>
    simp only [Option.some.injEq, Prod.mk.injEq, someW]
    constructor
    · rintro ⟨v, es, ⟨rfl, rfl⟩, h⟩; exact h
    · intro h; exact ⟨_, _, ⟨rfl, rfl⟩, h⟩

def notBad : AV → Bool
  | .bad => false
  | _ => true

theorem W_box {t : TypeId} {x : Operand} : OpW C nt x0 new ⟨dst, .box t x, none⟩ T st K ↔ notBad (ev T x) = true ∧ putW nt T dst (.ptr new 0) fun T' => K T' { st with h := hput st.h new (.cells (ev T x).cells) } ⟨looks T (.box t x), [new], none, false⟩ := by
  rw [OpW_plan rfl]
  simp only [PlanW, plan]
  generalize ev T x = v
  cases v <;> simp [notBad, ex2] <;> rfl

def loadW (ti : TI) (h : Heap) (a : AV) (f : AV → Prop) : Prop := match a with
  | .ptr s off => cellsW (hget h s) fun cs => someW (loadObj ti cs off) f
  | .iptr cs off => someW (loadObj ti cs off) f
  | _ => False
theorem loadW_ptr {ti : TI} {s off : Nat} {f : AV → Prop} : loadW ti h (.ptr s off) f = cellsW (hget h s) fun cs => someW (loadObj ti cs off) f := rfl
theorem loadW_iptr {ti : TI} {cs : List AV} {off : Nat} {f : AV → Prop} : loadW ti h (.iptr cs off) f = someW (loadObj ti cs off) f := rfl

theorem W_load {t : TypeId} {x : Operand} : OpW C nt x0 new ⟨dst, .load t x, none⟩ T st K ↔ someW (C.ty t) fun ti => loadW ti st.h (ev T x) fun v => putW nt T dst v fun T' => K T' st ⟨looks T (.load t x), [], none, false⟩ := by
  rw [OpW_plan rfl]
  simp only [PlanW, plan, looks]
  cases C.ty t with
  | none => simp [someW]
  | some ti =>
    simp only [someW]
    generalize ev T x = v
    cases v <;> simp [loadW, hget_only1, someW_iff]
    · rename_i s off
      generalize hget st.h s = o
      cases o with
      | none => simp [cellsW]
      | some o => cases o <;> simp [cellsW, someW_iff]
                  constructor
                  · rintro ⟨v, es, ⟨u, h1, rfl, rfl⟩, h2⟩; exact ⟨u, h1, h2⟩
                  · rintro ⟨v, h1, h2⟩; exact ⟨v, [], ⟨v, h1, rfl, rfl⟩, h2⟩
    · constructor
      · rintro ⟨v, es, ⟨u, h1, rfl, rfl⟩, h2⟩; exact ⟨u, h1, h2⟩
      · rintro ⟨v, h1, h2⟩; exact ⟨v, [], ⟨v, h1, rfl, rfl⟩, h2⟩

def storeOk (ti : TI) (v : AV) : Bool := decide (v.cells.length = ti.size) && v.cells.all AV.one
def storeW (bar : Nat) (ti : TI) (h : Heap) (a v : AV) (f : Heap → Prop) : Prop := match a with
  | .ptr s off => bar ≤ s ∧ storeOk ti v = true ∧ cellsW (hget h s) fun cs => someW (putCells cs off v.cells) fun cs' => f (hput h s (.cells cs'))
  | _ => False
theorem storeW_ptr {ti : TI} {s off : Nat} {v : AV} {f : Heap → Prop} : storeW bar ti h (.ptr s off) v f =
    (bar ≤ s ∧ storeOk ti v = true ∧ cellsW (hget h s) fun cs => someW (putCells cs off v.cells) fun cs' => f (hput h s (.cells cs'))) := rfl

theorem W_store {t : TypeId} {a x : Operand} : OpW C nt x0 new ⟨dst, .store t a x, none⟩ T st K ↔ someW (C.ty t) fun ti => storeW st.bar ti st.h (ev T a) (ev T x) fun h' => putW nt T dst .undef fun T' => K T' { st with h := h' } ⟨looks T (.store t a x), looks T (.store t a x), none, false⟩ := by
  rw [OpW_plan rfl]
  simp only [PlanW, plan, looks]
  cases C.ty t with
  | none => simp [someW]
  | some ti =>
    simp only [someW]
    have hs : ((ev T x).cells.length = ti.size ∧ (ev T x).cells.all AV.one = true) ↔ storeOk ti (ev T x) = true := by
      simp [storeOk]
    generalize ev T a = v
    cases v <;> simp only [storeW, hget_only1, reduceCtorEq, false_and, exists_false]
    rename_i s off
    by_cases hb : st.bar ≤ s
    · simp only [hb, if_true, true_and]
      generalize hget st.h s = o
      cases o with
      | none => simp [cellsW]
      | some o =>
        cases o <;> simp only [cellsW, reduceCtorEq, false_and, exists_false, and_false]
        rename_i cs
        by_cases hq : storeOk ti (ev T x) = true
        · rw [if_pos (hs.2 hq)]
          cases putCells cs off (ev T x).cells with
          | none => simp [someW]
          | some cs' => simp [someW, hq, ex2]; rfl
        · rw [if_neg (fun q => hq (hs.1 q))]
          simp [hq]
    · simp [hb]

def ptrA (x : AV) : Option AV := match x with
  | .ptr s o => some (.ptr s o)
  | .iptr cs o => some (.iptr cs o)
  | _ => none
theorem ptrA_ptr {s o : Nat} : ptrA (.ptr s o) = some (.ptr s o) := rfl
theorem ptrA_iptr {cs : List AV} {o : Nat} : ptrA (.iptr cs o) = some (.iptr cs o) := rfl
theorem W_nilCheck {x : Operand} : OpW C nt x0 new ⟨dst, .nilCheck x, none⟩ T st K ↔ someW (ptrA (ev T x)) fun v => putW nt T dst v fun T' => K T' st ⟨looks T (.nilCheck x), [], none, false⟩ := by
  rw [OpW_plan rfl]
  exact plain_iff fun look bar new => by simp only [plan, ptrA]; generalize ev T x = v; cases v <;> rfl

def fieldAddrA (ti : TI) (f : Nat) (x : AV) : Option AV := match ti.fields[f]? with
  | some fo => if fo.2.1 = 0 ∨ ti.kind ≠ .struct then none else match x with
    | .ptr s off => some (.ptr s (off + fo.1))
    | .iptr cs off => some (.iptr cs (off + fo.1))
    | _ => none
  | none => none
theorem W_fieldAddr {t : TypeId} {x : Operand} {f : Nat} : OpW C nt x0 new ⟨dst, .fieldAddr t x f, none⟩ T st K ↔ someW (C.ty t) fun ti => someW (fieldAddrA ti f (ev T x)) fun v => putW nt T dst v fun T' => K T' st ⟨looks T (.fieldAddr t x f), [], none, false⟩ := by
  rw [OpW_plan rfl]
  rw [plain_iff (o := match C.ty t with | some ti => fieldAddrA ti f (ev T x) | none => none) (fun look bar new => by
    simp only [plan]
    cases C.ty t with
    | none => rfl
    | some ti =>
      simp only [fieldAddrA]
      cases ti.fields[f]? with
      | none => rfl
      | some fo =>
        simp only
        split
        · rfl
        · generalize ev T x = v; cases v <;> rfl)]
  cases C.ty t <;> rfl

def fieldA (ti : TI) (f : Nat) (x : AV) : Option AV := if ti.kind ≠ .struct then none else match ti.fields[f]?, x with
  | some fo, .agg cs => part cs fo.1 fo.2.1 fo.2.2
  | _, _ => none
theorem W_field {t : TypeId} {x : Operand} {f : Nat} : OpW C nt x0 new ⟨dst, .field t x f, none⟩ T st K ↔ someW (C.ty t) fun ti => someW (fieldA ti f (ev T x)) fun v => putW nt T dst v fun T' => K T' st ⟨looks T (.field t x f), [], none, false⟩ := by
  rw [OpW_plan rfl]
  rw [plain_iff (o := match C.ty t with | some ti => fieldA ti f (ev T x) | none => none) (fun look bar new => by
    simp only [plan]
    cases C.ty t with
    | none => rfl
    | some ti =>
      simp only [fieldA]
      split
      · rfl
      · generalize ev T x = v
        cases ti.fields[f]? <;> cases v <;> rfl)]
  cases C.ty t <;> rfl

def indexAddrA (te : TI) (x ix : AV) : Option AV := match ix with
  | .int _ i => match x with
    | .rows _ l => if 0 ≤ i ∧ i < (l.length : Int) then
        (match l[i.toNat]? with
         | some r => if r.length = te.size ∧ te.size ≠ 0 then some (.iptr r 0) else none
         | none => none) else none
    | .osl sz s off len _ => if 0 ≤ i ∧ i < (len : Int) ∧ sz = te.size then some (.ptr s (off + i.toNat * sz)) else none
    | _ => none
  | _ => none
theorem W_indexAddr {t : TypeId} {x ix : Operand} : OpW C nt x0 new ⟨dst, .indexAddr t x ix, none⟩ T st K ↔
    someW ((C.ty t).bind fun ti => match ti.kind with | .slice e => C.ty e | _ => none) fun te => someW (indexAddrA te (ev T x) (ev T ix)) fun v => putW nt T dst v fun T' => K T' st ⟨looks T (.indexAddr t x ix), [], none, false⟩ := by
  rw [OpW_plan rfl]
  rw [plain_iff (o := match ((C.ty t).bind fun ti => match ti.kind with | .slice e => C.ty e | _ => none) with | some te => indexAddrA te (ev T x) (ev T ix) | none => none) (fun look bar new => by
    simp only [plan]
    cases C.ty t with
    | none => rfl
    | some ti =>
      simp only [Option.bind_some]
      generalize ti.kind = kd
      cases kd <;> try rfl
      rename_i e
      simp only
      generalize ev T ix = u
      generalize ev T x = v
      cases C.ty e with
      | none => rfl
      | some te =>
        cases u <;> try rfl
        rename_i i
        cases v <;> simp only [indexAddrA, Option.map_none]
        · split
          · rename_i l _
            cases l[i.toNat]? with
            | none => rfl
            | some r => simp only; split <;> rfl
          · rfl
        · split <;> rfl)]
  cases ((C.ty t).bind fun ti => match ti.kind with | .slice e => C.ty e | _ => none) <;> rfl

def indexA (k : Option TK) (x ix : AV) : Option AV := match x, ix, k with
  | .str s, .int _ i, some TK.str => if 0 ≤ i then (match s[i.toNat]? with | some b => some (.int .u8 b.toNat) | none => none) else none
  | _, _, _ => none
theorem W_index {t : TypeId} {x ix : Operand} : OpW C nt x0 new ⟨dst, .index t x ix, none⟩ T st K ↔ someW (indexA ((C.ty t).map fun ti : TI => ti.kind) (ev T x) (ev T ix)) fun v => putW nt T dst v fun T' => K T' st ⟨looks T (.index t x ix), [], none, false⟩ := by
  rw [OpW_plan rfl]
  refine plain_iff fun look bar new => ?_
  simp only [plan, indexA]
  generalize ev T ix = u
  generalize ev T x = v
  generalize (C.ty t).map (fun ti : TI => ti.kind) = kd
  cases v <;> cases u <;> try rfl
  cases kd with
  | none => rfl
  | some kd =>
    cases kd <;> try rfl
    rename_i l k i
    simp only
    split
    · cases l[i.toNat]? <;> rfl
    · rfl

def tupA (x : AV) (i : Nat) : Option AV := match x with
  | .tuple vs => vs[i]?
  | _ => none
theorem tupA_tuple {vs : List AV} {i : Nat} : tupA (.tuple vs) i = vs[i]? := rfl
theorem W_extract {x : Operand} {i : Nat} : OpW C nt x0 new ⟨dst, .extract x i, none⟩ T st K ↔ someW (tupA (ev T x) i) fun v => putW nt T dst v fun T' => K T' st ⟨looks T (.extract x i), [], none, false⟩ := by
  rw [OpW_plan rfl]
  exact plain_iff fun look bar new => by simp only [plan, tupA]; generalize ev T x = v; cases v <;> rfl

def buildA (ti : TI) (parts : List (Nat × AV)) : Option AV := match ti.kind with
  | .struct => (fillA (fun i => (ti.fields[i]?).map fun f => (f.1, f.2.1)) ti.zero parts).map .agg
  | _ => none
theorem W_build {t : TypeId} {parts : Array (Nat × Operand)} : OpW C nt x0 new ⟨dst, .build t parts, none⟩ T st K ↔
    someW (C.ty t) fun ti => someW (buildA ti (parts.toList.map fun p => (p.1, ev T p.2))) fun v => putW nt T dst v fun T' => K T' st ⟨looks T (.build t parts), [], none, false⟩ := by
  rw [OpW_plan rfl]
  rw [plain_iff (o := match C.ty t with | some ti => buildA ti (parts.toList.map fun p => (p.1, ev T p.2)) | none => none) (fun look bar new => by
    simp only [plan]
    cases C.ty t with
    | none => rfl
    | some ti =>
      simp only [buildA]
      generalize ti.kind = kd
      cases kd <;> try rfl
      simp only
      cases fillA (fun i => (ti.fields[i]?).map fun f => (f.1, f.2.1)) ti.zero (parts.toList.map fun p => (p.1, ev T p.2)) <;> rfl)]
  cases C.ty t <;> rfl

def ifaceA (ti : TI) (t : TypeId) (x : AV) : Option AV := if ti.kind = .iface ∨ ti.kind = .other then none else some (.iface t x)
theorem W_makeFunc {f : Nat} {first captured : Array Operand} : OpW C nt x0 new ⟨dst, .makeFunc (.func f) first captured, none⟩ T st K ↔
    putW nt T dst (.func f (first.toList.map (ev T)) (captured.toList.map (ev T))) fun T' => K T' st ⟨looks T (.makeFunc (.func f) first captured), [], none, false⟩ := by
  rw [OpW_plan rfl]
  rw [plain_iff (o := some (.func f (first.toList.map (ev T)) (captured.toList.map (ev T)))) (fun look bar new => by simp only [plan]; rfl)]
  rfl

theorem W_makeMap {t : TypeId} : OpW C nt x0 new ⟨dst, .makeMap t none, none⟩ T st K ↔ putW nt T dst (.map new) fun T' => K T' { st with h := hput st.h new (.map []) } ⟨looks T (.makeMap t none), [new], none, false⟩ := by
  rw [OpW_plan rfl]
  simp only [PlanW, plan, Option.some.injEq, Prod.mk.injEq]
  constructor
  · rintro ⟨v, es, ⟨rfl, rfl⟩, h⟩; exact h
  · intro h; exact ⟨_, _, ⟨rfl, rfl⟩, h⟩

def isMap : AV → Bool
  | .map _ => true
  | _ => false

theorem W_len {x : Operand} {t : TypeId} : OpW C nt x0 new ⟨dst, .call { callee := .builtin .len, args := #[x], argTypes := #[t] }, none⟩ T st K ↔
    someW (C.ty t) fun ti => someW (lenA ti st.h (ev T x)) fun n => putW nt T dst (.int .i64 (n : Int)) fun T' => K T' st ⟨looks T (.call { callee := .builtin .len, args := #[x], argTypes := #[t] }), [], none, false⟩ := by
  rw [OpW_plan rfl]
  have hl : ∀ ti, lenA ti (only st.h (looks T (.call { callee := .builtin .len, args := #[x], argTypes := #[t] }))) (ev T x) = lenA ti st.h (ev T x) := fun ti => by
    cases hx : ev T x <;> simp only [lenA]
    rename_i s
    simp only [looks, List.map_cons, List.map_nil, hx, hget_only1]
  simp only [PlanW, plan]
  cases C.ty t with
  | none => simp [someW]
  | some ti =>
    simp only [someW_some]
    rw [hl ti]
    cases lenA ti st.h (ev T x) with
    | none => simp [someW]
    | some n =>
      simp only [Option.map_some, Option.some.injEq, Prod.mk.injEq, someW]
      constructor
      · rintro ⟨v, es, ⟨rfl, rfl⟩, h⟩; exact h
      · intro h; exact ⟨_, _, ⟨rfl, rfl⟩, h⟩

def minA (x y : AV) : Option AV := match x, y with
  | .int .i64 a, .int .i64 b => some (.int .i64 (if b < a then b else a))
  | _, _ => none
theorem minA_int {a b : Int} : minA (.int .i64 a) (.int .i64 b) = some (.int .i64 (if b < a then b else a)) := rfl
theorem W_min {x y : Operand} {ts : Array TypeId} : OpW C nt x0 new ⟨dst, .call { callee := .builtin .min, args := #[x, y], argTypes := ts }, none⟩ T st K ↔
    someW (minA (ev T x) (ev T y)) fun v => putW nt T dst v fun T' => K T' st ⟨looks T (.call { callee := .builtin .min, args := #[x, y], argTypes := ts }), [], none, false⟩ := by
  rw [OpW_plan rfl]
  refine plain_iff fun look bar new => ?_
  simp only [plan, minA, List.map_cons, List.map_nil]
  generalize ev T x = u
  generalize ev T y = v
  cases u <;> try rfl
  rename_i k n
  cases k <;> try rfl
  cases v <;> try rfl
  rename_i k n
  cases k <;> rfl
def maxA (x y : AV) : Option AV := match x, y with
  | .int .i64 a, .int .i64 b => some (.int .i64 (if b > a then b else a))
  | _, _ => none
theorem maxA_int {a b : Int} : maxA (.int .i64 a) (.int .i64 b) = some (.int .i64 (if b > a then b else a)) := rfl
theorem W_max {x y : Operand} {ts : Array TypeId} : OpW C nt x0 new ⟨dst, .call { callee := .builtin .max, args := #[x, y], argTypes := ts }, none⟩ T st K ↔
    someW (maxA (ev T x) (ev T y)) fun v => putW nt T dst v fun T' => K T' st ⟨looks T (.call { callee := .builtin .max, args := #[x, y], argTypes := ts }), [], none, false⟩ := by
  rw [OpW_plan rfl]
  refine plain_iff fun look bar new => ?_
  simp only [plan, maxA, List.map_cons, List.map_nil]
  generalize ev T x = u
  generalize ev T y = v
  cases u <;> try rfl
  rename_i k n
  cases k <;> try rfl
  cases v <;> try rfl
  rename_i k n
  cases k <;> rfl

end
end Go.Ab
/- Calls, appends, literals of slices and maps, as propositions that simp can take apart. -/
namespace Go.Ab
open Go

section
variable {C : Cfg} {nt new : Nat} {T : List AV} {st : St} {K : List AV → St → Foot → Prop} {x0 : Ctx} {dst : Option Nat} {h : Heap} {c bar : Nat}

/-- A call of a function value. -/
def CallW (C : Cfg) (nt : Nat) (x0 : Ctx) (new : Nat) (dst : Option Nat) (g : Nat) (args : List AV) (T : List AV) (st : St) (K : List AV → St → Foot → Prop) : Prop :=
  match C.hook g with
  | some F => someW (F (only st.h (hookLooks args)) st.bar new args) fun r => putW nt T dst r.1 fun T' => K T' { st with h := hputs st.h r.2 } ⟨hookLooks args, r.2.map (·.1), none, false⟩
  | none =>
    if C.mode g = 2 then Ca C g args st fun v st' => putW nt T dst v fun T' => K T' st' ⟨[], [], none, true⟩
    else Ca C g args { st with h := st.h.filter fun p => sees x0.c0 x0.n x0.vis p.1 } fun v st' => putW nt T dst v fun T' => K T' { st with h := if C.mode g = 1 then (st'.h.filter fun p => decide (st.c ≤ p.1)) ++ st.h else st.h, c := st'.c }
      ⟨[], [], some (fun s => C.mode g = 1 && decide (st.c ≤ s), fun s => sees x0.c0 x0.n x0.vis s || decide (st.c ≤ s)), false⟩

theorem W_call {f : Operand} {args : Array Operand} {ts : Array TypeId} : OpW C nt x0 new ⟨dst, .call { callee := .value f, args := args, argTypes := ts }, none⟩ T st K ↔
    funcW (ev T f) fun g a b => CallW C nt x0 new dst g (a ++ (args.toList.map (ev T) ++ b)) T st K := by
  unfold OpW todoS
  simp only [wantS]
  have hbad : (∃ n r, runTodo C (callN C n) nt x0.c0 x0.n x0.vis dst T st .bad = some r ∧ K r.1 r.2.1 r.2.2) ↔ False := by
    simp [runTodo]
  generalize ev T f = v
  cases v <;> simp only [funcW] <;> try exact hbad
  rename_i g first captured
  unfold CallW
  cases hk : C.hook g with
  | some F =>
    simp only [runTodo]
    constructor
    · rintro ⟨n, r, h, hk⟩
      split at h
      · rename_i v es hv
        obtain ⟨T', hp, e⟩ := Option.map_eq_some_iff.1 h
        subst e
        rw [someW_iff]
        exact ⟨_, hv, putW_iff.2 ⟨T', hp, hk⟩⟩
      · cases h
    · intro h
      rw [someW_iff] at h
      obtain ⟨⟨v, es⟩, hv, h⟩ := h
      obtain ⟨T', hp, h⟩ := putW_iff.1 h
      refine ⟨0, (T', { st with h := hputs st.h es }, ⟨hookLooks (first ++ (args.toList.map (ev T) ++ captured)), es.map (·.1), none, false⟩), ?_, h⟩
      rw [hv]
      simp only [hp, Option.map_some]
  | none =>
    simp only [runTodo]
    split
    · constructor
      · rintro ⟨n, r, h, hk⟩
        split at h
        · rename_i v st' hv
          obtain ⟨T', hp, e⟩ := Option.map_eq_some_iff.1 h
          subst e
          exact ⟨n, _, hv, putW_iff.2 ⟨T', hp, hk⟩⟩
        · cases h
      · rintro ⟨n, ⟨v, st'⟩, hv, h⟩
        obtain ⟨T', hp, h⟩ := putW_iff.1 h
        refine ⟨n, (T', st', ⟨[], [], none, true⟩), ?_, h⟩
        rw [hv]
        simp only [hp, Option.map_some]
    · constructor
      · rintro ⟨n, r, h, hk⟩
        split at h
        · rename_i v st' hv
          obtain ⟨T', hp, e⟩ := Option.map_eq_some_iff.1 h
          subst e
          exact ⟨n, _, hv, putW_iff.2 ⟨T', hp, hk⟩⟩
        · cases h
      · rintro ⟨n, ⟨v, st'⟩, hv, h⟩
        obtain ⟨T', hp, h⟩ := putW_iff.1 h
        refine ⟨n, (T', { st with h := if C.mode g = 1 then (st'.h.filter fun p => decide (st.c ≤ p.1)) ++ st.h else st.h, c := st'.c }, ⟨[], [], some (fun s => C.mode g = 1 && decide (st.c ≤ s), fun s => sees x0.c0 x0.n x0.vis s || decide (st.c ≤ s)), false⟩), ?_, h⟩
        rw [hv]
        simp only [hp, Option.map_some]

theorem CallW_hook {g : Nat} {F : Heap → Nat → Nat → List AV → Option (AV × List (Nat × AObj))} {args : List AV} (hg : C.hook g = some F) :
    CallW C nt x0 new dst g args T st K ↔ someW (F (only st.h (hookLooks args)) st.bar new args) fun r => putW nt T dst r.1 fun T' => K T' { st with h := hputs st.h r.2 } ⟨hookLooks args, r.2.map (·.1), none, false⟩ := by
  unfold CallW; rw [hg]

/-- A function's results. -/
def resA (C : Cfg) (h : Heap) (T : List AV) : List ResultVar → Option (List AV)
  | [] => some []
  | .tmp t :: r => (resA C h T r).map fun vs => getT T t :: vs
  | .cell a t :: r => match C.ty t, getT T a with
    | some ti, .ptr s off => match hget h s with
      | some (.cells cs) => match loadObj ti cs off with
        | some v => (resA C h T r).map fun vs => v :: vs
        | none => none
      | _ => none
    | _, _ => none

def tupOf : List AV → AV
  | [v] => v
  | vs => .tuple vs
theorem tupOf_1 {v : AV} : tupOf [v] = v := rfl
theorem tupOf_2 {u v : AV} {r : List AV} : tupOf (u :: v :: r) = .tuple (u :: v :: r) := rfl
theorem tupOf_0 : tupOf [] = .tuple [] := rfl

def resOne (C : Cfg) (h : Heap) (T : List AV) : ResultVar → Option AV
  | .tmp t => some (getT T t)
  | .cell a t => match C.ty t, getT T a with
    | some ti, .ptr s off => match hget h s with
      | some (.cells cs) => loadObj ti cs off
      | _ => none
    | _, _ => none

theorem resA_mapM {T : List AV} {h : Heap} : ∀ l : List ResultVar, l.mapM (resOne C h T) = resA C h T l
  | [] => rfl
  | x :: r => by
    rw [List.mapM_cons, resA_mapM r]
    cases x with
    | tmp t => simp only [resA, resOne]; cases resA C h T r <;> rfl
    | cell a t =>
      simp only [resA, resOne]
      generalize C.ty t = ot
      generalize getT T a = v
      cases ot <;> cases v <;> try rfl
      rename_i ti s off
      simp only
      generalize hget h s = o
      cases o with
      | none => rfl
      | some o => cases o <;> try rfl
                  simp only
                  cases loadObj ti _ off <;> try rfl
                  cases resA C h T r <;> rfl

theorem resA_eq {T : List AV} {h : Heap} (rs : Array ResultVar) : resultsA C h T rs = (resA C h T rs.toList).map tupOf := by
  have e : resultsA C h T rs = match rs.toList.mapM (resOne C h T) with
    | some [v] => some v
    | some vs => some (.tuple vs)
    | none => none := rfl
  rw [e, resA_mapM]
  cases resA C h T rs.toList with
  | none => rfl
  | some vs => cases vs with
    | nil => rfl
    | cons u r => cases r <;> rfl

/-- What becomes of a run of a function's text. -/
def endW (C : Cfg) (rs : List ResultVar) (R : AV → St → Prop) : AExit → List AV → St → Prop
  | .exit _ => fun _ _ => False
  | _ => fun T st => someW (resA C st.h T rs) fun vs => R (tupOf vs) st
theorem endW_normal {rs : List ResultVar} {R : AV → St → Prop} : endW C rs R .normal T st = someW (resA C st.h T rs) fun vs => R (tupOf vs) st := rfl
theorem endW_ret {rs : List ResultVar} {R : AV → St → Prop} : endW C rs R .ret T st = someW (resA C st.h T rs) fun vs => R (tupOf vs) st := rfl

theorem endW_iff {rs : Array ResultVar} {R : AV → St → Prop} {e : AExit} : endW C rs.toList R e T st ↔ (e = .normal ∨ e = .ret) ∧ ∃ r, resultsA C st.h T rs = some r ∧ R r st := by
  rw [resA_eq]
  cases e with
  | exit j => simp [endW]
  | normal =>
    simp only [endW, someW_iff, true_or, true_and, Option.map_eq_some_iff]
    exact ⟨fun ⟨a, h1, h2⟩ => ⟨_, ⟨a, h1, rfl⟩, h2⟩, fun ⟨_, ⟨a, h1, e⟩, h2⟩ => ⟨a, h1, e ▸ h2⟩⟩
  | ret =>
    simp only [endW, someW_iff, or_true, true_and, Option.map_eq_some_iff]
    exact ⟨fun ⟨a, h1, h2⟩ => ⟨_, ⟨a, h1, rfl⟩, h2⟩, fun ⟨_, ⟨a, h1, e⟩, h2⟩ => ⟨a, h1, e ▸ h2⟩⟩

/-- A call that works on its caller's memory: its text in place. -/
theorem Ca_mode2 {g : Nat} {fn : Func} {body : Code} {args : List AV} {R : AV → St → Prop} (hf : C.fn g = some fn) (hb : fn.body = some body) (hm : C.mode g = 2) :
    Ca C g args st R ↔ Ex C fn.ntmps body (padT fn.ntmps args) st (endW C fn.results.toList fun r st' => R r ⟨st'.h, st'.c, st.bar⟩) := by
  constructor
  · rintro ⟨n, r, h, hr⟩
    cases n with
    | zero => simp [callN] at h
    | succ n =>
      simp only [callN, callF, hf, hb, hm] at h
      simp only [show (2 : Nat) ≠ 3 by decide, if_false, if_true, true_or] at h
      split at h
      · rename_i e T' st' ht
        split at h
        · rename_i he
          split at h
          · cases h
          · rename_i r1 hr1
            simp only [Option.some.injEq] at h
            subst h
            exact ⟨n, _, ht, endW_iff.2 ⟨he, r1, hr1, hr⟩⟩
        · cases h
      · cases h
  · rintro ⟨n, ⟨e, T', st'⟩, ht, hq⟩
    obtain ⟨he, r1, hr1, hr⟩ := endW_iff.1 hq
    refine ⟨n + 1, (r1, ⟨st'.h, st'.c, st.bar⟩), ?_, hr⟩
    simp only [callN, callF, hf, hb, hm]
    simp only [show (2 : Nat) ≠ 3 by decide, if_false, if_true, true_or, ht, he, hr1]

/-- A call that is handed plain values. -/
theorem Ca_mode3 {g : Nat} {fn : Func} {body : Code} {args pargs : List AV} {R : AV → St → Prop} (hf : C.fn g = some fn) (hb : fn.body = some body) (hm : C.mode g = 3) (hp : args.mapM (fin st.h 0 false 8) = some pargs)
    (h : Ex C fn.ntmps body (padT fn.ntmps pargs) ⟨[], 0, 0⟩ (endW C fn.results.toList fun r st' => someW (fin st'.h 0 false 8 r) fun r' => (args.all (plainN 8) || scalarN 8 r') = true ∧ R r' st)) : Ca C g args st R := by
  obtain ⟨n, ⟨e, T', st'⟩, ht, hq⟩ := h
  obtain ⟨he, r1, hr1, hr⟩ := endW_iff.1 hq
  rw [someW_iff] at hr
  obtain ⟨r', hr', ho, hr⟩ := hr
  refine ⟨n + 1, (r', st), ?_, hr⟩
  simp only at ht hr1 hr' he
  simp only [callN, callF, hf, hb, hm, if_true, hp, ht, he, hr1, hr', ho]

/-- A call that looks at what its caller has. -/
theorem Ca_mode0 {g : Nat} {fn : Func} {body : Code} {args : List AV} {R : AV → St → Prop} (hf : C.fn g = some fn) (hb : fn.body = some body) (hm : C.mode g = 0)
    : Ca C g args st R ↔ Ex C fn.ntmps body (padT fn.ntmps args) ⟨st.h, st.c, st.c⟩ (endW C fn.results.toList fun r st' => someW (fin st'.h st.c false 8 r) fun r' => R r' st) := by
  constructor
  · rintro ⟨n, r, h, hr⟩
    cases n with
    | zero => simp [callN] at h
    | succ n =>
      simp only [callN, callF, hf, hb, hm] at h
      simp only [show (0 : Nat) ≠ 3 by decide, show (0 : Nat) ≠ 2 by decide, show (0 : Nat) ≠ 1 by decide, if_false, or_self] at h
      split at h
      · rename_i e T' st' ht
        split at h
        · rename_i he
          split at h
          · cases h
          · rename_i r1 hr1
            obtain ⟨r', hr', e2⟩ := Option.map_eq_some_iff.1 h
            subst e2
            exact ⟨n, _, ht, endW_iff.2 ⟨he, r1, hr1, by rw [someW_iff]; exact ⟨r', hr', hr⟩⟩⟩
        · cases h
      · cases h
  · rintro ⟨n, ⟨e, T', st'⟩, ht, hq⟩
    obtain ⟨he, r1, hr1, hr⟩ := endW_iff.1 hq
    rw [someW_iff] at hr
    obtain ⟨r', hr', hr⟩ := hr
    refine ⟨n + 1, (r', st), ?_, hr⟩
    simp only at ht hr'
    simp only [callN, callF, hf, hb, hm]
    simp only [show (0 : Nat) ≠ 3 by decide, show (0 : Nat) ≠ 2 by decide, show (0 : Nat) ≠ 1 by decide, if_false, or_self, ht, he, if_true, hr1, hr', Option.map_some]

def appendA (te : TI) (look : Heap) (bar new : Nat) (s x : AV) : Option (AV × List (Nat × AObj)) :=
  match elemsOf look te.size x with
  | some (n, ns) => if te.size = 0 ∨ te.zero.length ≠ te.size ∨ ¬ ns.all AV.one then none else
    match s with
    | .rows true l =>
      if (l.length + n) * te.bytes ≤ 140737488355328 ∧ l.length + n ≤ 9223372036854775807 ∧ l.all (·.length == te.size) then
        if n = 0 ∧ l ≠ [] then some (.rows true l, []) else some (.osl te.size new 0 (l.length + n) (l.length + n), [(new, .cells (l.flatten ++ ns))])
      else none
    | .osl sz s off len cp =>
      if sz = te.size ∧ bar ≤ s ∧ (len + n) * te.bytes ≤ 140737488355328 ∧ len + n ≤ 9223372036854775807 then
        match hget look s with
        | some (.cells cs) =>
          if off + len * sz = cs.length then some (.osl sz new 0 (len + n) (len + n), [(s, .dead), (new, .cells (cs.drop off ++ ns))])
          else if len + n ≤ cp then
            match putCells cs (off + len * sz) ns with
            | some cs' => some (.osl sz s off (len + n) cp, [(s, .cells cs')])
            | none => none
          else none
        | _ => none
      else none
    | _ => none
  | none => none

def elemTI (C : Cfg) (t : TypeId) : Option TI := (C.ty t).bind fun ti => match ti.kind with
  | .slice e => C.ty e
  | _ => none

theorem hget_only' {h : Heap} {ss : List Nat} {s : Nat} (hs : s ∈ ss) : hget (only h ss) s = hget h s := by
  unfold only
  rw [hget_filter (fun x => ss.contains x)]
  simp [hs]

theorem elemsOf_only {h : Heap} {ss : List Nat} {sz : Nat} {x : AV} (hs : ∀ a s b c d, x = .osl a s b c d → s ∈ ss) : elemsOf (only h ss) sz x = elemsOf h sz x := by
  cases x <;> try rfl
  rename_i a s b c d
  simp only [elemsOf]
  rw [hget_only' (hs a s b c d rfl)]

theorem appendA_only {h : Heap} {ss : List Nat} {te : TI} {bar new : Nat} {s x : AV} (hx : ∀ a s b c d, x = .osl a s b c d → s ∈ ss) (hs : ∀ a s' b c d, s = .osl a s' b c d → s' ∈ ss) :
    appendA te (only h ss) bar new s x = appendA te h bar new s x := by
  unfold appendA
  rw [elemsOf_only hx]
  cases elemsOf h te.size x with
  | none => rfl
  | some q =>
    obtain ⟨n, ns⟩ := q
    simp only
    split
    · rfl
    · cases s with
      | osl a s b c d =>
        simp only
        rw [hget_only' (hs a s b c d rfl)]
      | rows t l => cases t <;> rfl
      | _ => rfl

theorem W_append {s x : Operand} {t : TypeId} : OpW C nt x0 new ⟨dst, .call { callee := .builtin .append, args := #[s, x], argTypes := #[t, t] }, none⟩ T st K ↔
    someW (elemTI C t) fun te => someW (appendA te st.h st.bar new (ev T s) (ev T x)) fun r => putW nt T dst r.1 fun T' => K T' { st with h := hputs st.h r.2 } ⟨looks T (.call { callee := .builtin .append, args := #[s, x], argTypes := #[t, t] }), r.2.map (·.1), none, false⟩ := by
  rw [OpW_plan rfl]
  have key : plan C T (only st.h (looks T (.call { callee := .builtin .append, args := #[s, x], argTypes := #[t, t] }))) st.bar new (.call { callee := .builtin .append, args := #[s, x], argTypes := #[t, t] }) =
      match elemTI C t with
      | some te => appendA te st.h st.bar new (ev T s) (ev T x)
      | none => none := by
    have hl : looks T (.call { callee := .builtin .append, args := #[s, x], argTypes := #[t, t] }) = (match ev T s with | .osl _ s _ _ _ => [s] | _ => []) ++ ((match ev T x with | .osl _ s _ _ _ => [s] | _ => []) ++ []) := by
      simp only [looks, List.flatMap_cons, List.flatMap_nil]
      rfl
    generalize hss : looks T (.call { callee := .builtin .append, args := #[s, x], argTypes := #[t, t] }) = ss at *
    have e1 : ∀ a b' b c d, ev T x = .osl a b' b c d → b' ∈ ss := fun a b' b c d e => by rw [hl, e]; simp
    have e2 : ∀ a b' b c d, ev T s = .osl a b' b c d → b' ∈ ss := fun a b' b c d e => by rw [hl, e]; simp
    simp only [plan, elemTI]
    rw [if_neg (fun q => q rfl)]
    cases C.ty t with
    | none => rfl
    | some ti =>
      simp only [Option.bind_some]
      cases ti.kind <;> try rfl
      rename_i e
      simp only
      cases C.ty e with
      | none => rfl
      | some te =>
        simp only
        rw [← appendA_only (te := te) (bar := st.bar) (new := new) (h := st.h) e1 e2]
        rfl
  unfold PlanW
  rw [key]
  cases elemTI C t with
  | none => simp [someW]
  | some te =>
    simp only [someW_some]
    rw [someW_iff]
    constructor
    · rintro ⟨v, es, h1, h2⟩; exact ⟨(v, es), h1, h2⟩
    · rintro ⟨⟨v, es⟩, h1, h2⟩; exact ⟨v, es, h1, h2⟩

def buildSliceA (te : TI) (new len : Nat) (parts : List (Nat × AV)) : Option (AV × List (Nat × AObj)) :=
  if len = 0 then (if parts.isEmpty then some (.rows true [], []) else none) else
  if te.size ≠ 0 ∧ len * te.size ≤ 16777216 ∧ te.zero.length = te.size then
    match fillA (fun i => some (i * te.size, te.size)) ((List.replicate len te.zero).flatten) parts with
    | some cs => if len * te.size ≤ cs.length then some (.osl te.size new 0 len len, [(new, .cells cs)]) else none
    | none => none
  else none

theorem W_buildSlice {t : TypeId} {len : Nat} {parts : Array (Nat × Operand)} : OpW C nt x0 new ⟨dst, .buildSlice t len parts, none⟩ T st K ↔
    someW (elemTI C t) fun te => someW (buildSliceA te new len (parts.toList.map fun p => (p.1, ev T p.2))) fun r => putW nt T dst r.1 fun T' => K T' { st with h := hputs st.h r.2 } ⟨looks T (.buildSlice t len parts), r.2.map (·.1), none, false⟩ := by
  rw [OpW_plan rfl]
  have key : ∀ look bar, plan C T look bar new (.buildSlice t len parts) = match elemTI C t with
      | some te => buildSliceA te new len (parts.toList.map fun p => (p.1, ev T p.2))
      | none => none := fun look bar => by
    have hpe : parts.isEmpty = (parts.toList.map fun p => (p.1, ev T p.2)).isEmpty := by
      rw [List.isEmpty_map, Array.isEmpty_toList]
    simp only [plan, elemTI]
    cases C.ty t with
    | none => rfl
    | some ti =>
      simp only [Option.bind_some]
      cases ti.kind <;> try rfl
      rename_i e
      simp only
      cases C.ty e with
      | none => rfl
      | some te =>
        simp only [buildSliceA]
        rw [hpe]
        rfl
  unfold PlanW
  rw [key]
  cases elemTI C t with
  | none => simp [someW]
  | some te =>
    simp only [someW_some]
    rw [someW_iff]
    constructor
    · rintro ⟨v, es, h1, h2⟩; exact ⟨(v, es), h1, h2⟩
    · rintro ⟨⟨v, es⟩, h1, h2⟩; exact ⟨v, es, h1, h2⟩



/-- A map, with one key set. -/
def mapSet (es : List (AV × AV)) (k v : AV) : Option (List (AV × AV)) := match findA k es 0 with
  | some (some (i, _)) => some (es.modify i fun _ => (k, v))
  | some none => some (es ++ [(k, v)])
  | none => none
def keyTI (C : Cfg) (t : TypeId) : Option TI := (C.ty t).bind fun ti => match ti.kind with
  | .map k _ => C.ty k
  | _ => none
def mapW (bar : Nat) (h : Heap) (m : AV) (f : Nat → List (AV × AV) → Prop) : Prop := match m with
  | .map s => bar ≤ s ∧ match hget h s with
    | some (.map es) => f s es
    | _ => False
  | _ => False

theorem W_mapUpdate {t : TypeId} {m k x : Operand} : OpW C nt x0 new ⟨dst, .mapUpdate t m k x, none⟩ T st K ↔
    someW (keyTI C t) fun tk => keyMatch tk (ev T k) = true ∧ mapW st.bar st.h (ev T m) fun s es => someW (mapSet es (ev T k) (ev T x)) fun es' => putW nt T dst .undef fun T' => K T' { st with h := hput st.h s (.map es') } ⟨looks T (.mapUpdate t m k x), [s], none, false⟩ := by
  rw [OpW_plan rfl]
  simp only [PlanW, plan, looks, keyTI]
  cases C.ty t with
  | none => simp [someW]
  | some ti =>
    simp only [Option.bind_some]
    cases ti.kind <;> try (simp [someW]; done)
    rename_i kt et
    simp only
    cases C.ty kt with
    | none => simp [someW]
    | some tk =>
      simp only [someW]
      cases hkm : keyMatch tk (ev T k) with
      | false => simp
      | true =>
        simp only [Bool.not_true, Bool.false_eq_true, if_false, true_and]
        generalize ev T m = v
        cases v <;> simp only [mapW, reduceCtorEq, false_and, exists_false]
        rename_i s
        simp only [hget_only1]
        by_cases hb : st.bar ≤ s
        · simp only [hb, if_true, true_and]
          generalize hget st.h s = o
          cases o with
          | none => simp
          | some o =>
            cases o <;> simp only [reduceCtorEq, false_and, exists_false]
            rename_i es
            unfold mapSet
            cases findA (ev T k) es 0 with
            | none => simp [someW]
            | some q => cases q with
              | none => simp [someW, ex2]; rfl
              | some q => obtain ⟨i, u⟩ := q; simp [someW, ex2]; rfl
        · simp [hb]

end
end Go.Ab
