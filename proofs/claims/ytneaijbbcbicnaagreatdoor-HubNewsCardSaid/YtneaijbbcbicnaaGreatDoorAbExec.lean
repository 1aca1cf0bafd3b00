/- The plain interpreter is sound: what it says of a call, the machine does, in whatever order it draws. -/
import Derived.Test.YtneaijbbcbicnaaGreatDoorAbSwap
import Derived.LoopN
namespace Go.Ab
open Go

section
variable {P : Program} {C : Cfg} {call : CallF} {B : Base} {ρ : Rho} {im : Im} {st st' : St} {nt : Nat} {T T' : List AV} {a : Act} {w : World} {ops : Array Oper} {Q : Exit → Act → World → Prop}

theorem foldl_spec {α β : Type} (f : List β → α → β) : ∀ (l : List α) (acc : List β), (∃ r, l.foldl (fun acc o => acc ++ [f acc o]) acc = acc ++ r) ∧
    ∀ i o, l[i]? = some o → ∃ p r, l.foldl (fun acc o => acc ++ [f acc o]) acc = p ++ r ∧ (l.foldl (fun acc o => acc ++ [f acc o]) acc)[acc.length + i]? = some (f p o)
  | [], acc => ⟨⟨[], by simp⟩, fun i o h => by simp at h⟩
  | x :: l, acc => by
    obtain ⟨⟨r, hr⟩, h2⟩ := foldl_spec f l (acc ++ [f acc x])
    refine ⟨⟨f acc x :: r, by rw [List.foldl_cons, hr]; simp⟩, fun i o h => ?_⟩
    cases i with
    | zero =>
      simp only [List.getElem?_cons_zero, Option.some.injEq] at h
      subst h
      refine ⟨acc, f acc x :: r, by rw [List.foldl_cons, hr]; simp, ?_⟩
      rw [List.foldl_cons, hr]
      simp
    | succ i =>
      obtain ⟨p, r2, h3, h4⟩ := h2 i o (by simpa using h)
      refine ⟨p, r2, by rw [List.foldl_cons, h3], ?_⟩
      rw [List.foldl_cons, ← h4]
      congr 1
      simp; omega

theorem before_spec [Inhabited Val] {i y : Nat} {o : Oper} (ho : ops[i]? = some o) (hy : y ∈ (beforeL ops).getD i []) : ∃ e ∈ o.after, Region.binds .any e = true ∧ (y = e.on ∨ y ∈ (beforeL ops).getD e.on []) := by
  obtain ⟨_, h2⟩ := foldl_spec (fun acc (o : Oper) => o.after.toList.flatMap fun e => if Region.binds .any e then e.on :: acc.getD e.on [] else []) ops.toList []
  obtain ⟨p, r, h3, h4⟩ := h2 i o (by rw [Array.getElem?_toList]; exact ho)
  simp only [List.length_nil, Nat.zero_add] at h4
  have h4' : (beforeL ops)[i]? = some (o.after.toList.flatMap fun e => if Region.binds .any e then e.on :: p.getD e.on [] else []) := h4
  rw [List.getD_eq_getElem?_getD, h4'] at hy
  simp only [Option.getD_some, List.mem_flatMap] at hy
  obtain ⟨e, he, hy⟩ := hy
  refine ⟨e, by simpa using he, ?_⟩
  split at hy
  · rename_i hb
    refine ⟨hb, ?_⟩
    simp only [List.mem_cons] at hy
    rcases hy with rfl | hy
    · exact .inl rfl
    · right
      have h3' : beforeL ops = p ++ r := h3
      rw [h3', List.getD_eq_getElem?_getD]
      rw [List.getD_eq_getElem?_getD] at hy
      by_cases hl : e.on < p.length
      · rw [List.getElem?_append_left hl]; exact hy
      · rw [List.getElem?_eq_none (by omega)] at hy
        simp at hy
  · cases hy

theorem Inv.reserve [Inhabited Val] (h : Inv B ρ im st w) (n : Nat) : Inv B ρ im { st with c := st.c + n } w :=
  ⟨h.rho, h.imx, h.imo, h.imw, h.obj, h.inj, fun s hs => h.new s (by simp only at hs; omega), by have := h.cle; simp only; omega, h.bar, h.os, h.tape, h.output, h.size, h.own, h.frame⟩

/-- A region whose order is open. -/
theorem draw_sound [Inhabited Val] (ok : CfgOk P C) (cok : CallsOk P C call) (bok : BarOk call) {c0 : Nat} (hedge : edgesOk ops = true) : ∀ (fuel : Nat) (listed : Array Bool) (L : List Nat) (T : List AV) (st : St) (T' : List AV) (st' : St) (fs : List (Nat × Foot)) (ρ : Rho) (im : Im) (a : Act) (w : World),
    opsA C call nt c0 (some (beforeL ops)) ops L T st = some (T', st', fs) → listed.size = ops.size → L.Pairwise (· < ·) → (∀ i, i < ops.size → (listed.getD i true = false ↔ i ∈ L)) → (∀ i ∈ L, i < ops.size) → L.length ≤ fuel →
    (∀ j, j < ops.size → j ∉ L → ∀ y ∈ (beforeL ops).getD j [], y ∉ L) →
    (∀ q ∈ fs, ∀ p ∈ fs, q.1 ≤ p.1 ∨ p.1 ∈ (beforeL ops).getD q.1 [] ∨ (apartT ops p.1 q.1 = true ∧ p.2.free q.2 = true)) →
    Inv B ρ im st w → FRel ρ im nt T a → (∀ i ∈ L, ρ (c0 + i) = none) → c0 + ops.size ≤ st.c →
    (∀ a' w' ρ' im', FRel ρ' im' nt T' a' → Inv B ρ' im' st' w' → (∀ s, s < c0 → ρ' s = ρ s) → Q .normal a' w') → wpAny P .any ops Q fuel listed a w := by
  intro fuel
  induction fuel with
  | zero =>
    intro listed L T st T' st' fs ρ im a w h hls _ hmem _ hlen _ _ hi hf _ _ k
    obtain rfl : L = [] := List.eq_nil_of_length_eq_zero (by omega)
    simp only [opsA, Option.some.injEq, Prod.mk.injEq] at h
    obtain ⟨rfl, rfl, rfl⟩ := h
    refine ⟨?_, k a w ρ im hf hi (fun _ _ => rfl)⟩
    rw [List.eq_nil_iff_forall_not_mem]
    intro j hj
    obtain ⟨h1, o, h2, _⟩ := mem_ready.1 hj
    have := (hmem j (Array.getElem?_eq_some_iff.1 h2).1).1 h1
    cases this
  | succ fuel ih =>
    intro listed L T st T' st' fs ρ im a w h hls hsort hmem hlt hlen hcl hfree hi hf hn hcn k
    have hlisted : ∀ j, j < ops.size → j ∉ L → listed.getD j false = true := fun j hj hnl => by
      cases e : listed.getD j true with
      | true =>
        rw [Array.getD_eq_getD_getElem?] at e ⊢
        have : j < listed.size := by omega
        simp only [Array.getElem?_eq_getElem this, Option.getD_some] at e ⊢
        exact e
      | false => exact absurd ((hmem j hj).1 e) hnl
    have hunl : ∀ j, j < ops.size → listed.getD j false = true → j ∉ L := fun j hj e hl => by
      have e2 := (hmem j hj).2 hl
      rw [Array.getD_eq_getD_getElem?] at e e2
      have : j < listed.size := by omega
      simp only [Array.getElem?_eq_getElem this, Option.getD_some] at e e2
      rw [e2] at e; cases e
    have hedge' : ∀ i o, ops[i]? = some o → ∀ e ∈ o.after, Region.binds .any e = true → e.on < i := fun i o ho e he hb => by
      unfold edgesOk at hedge
      rw [List.all_eq_true] at hedge
      have := hedge i (List.mem_range.2 (Array.getElem?_eq_some_iff.1 ho).1)
      rw [ho] at this
      simp only [List.all_eq_true, Bool.or_eq_true, Bool.not_eq_true', decide_eq_true_eq] at this
      exact (this e (by simpa using he)).resolve_left (by rw [hb]; simp)
    refine ⟨fun hr => ?_, fun i hir => ?_⟩
    · cases L with
      | nil =>
        simp only [opsA, Option.some.injEq, Prod.mk.injEq] at h
        obtain ⟨rfl, rfl, rfl⟩ := h
        exact k a w ρ im hf hi (fun _ _ => rfl)
      | cons x r =>
        exfalso
        have hx := hlt x (by simp)
        have : x ∈ Region.ready .any ops listed := mem_ready.2 ⟨(hmem x hx).2 (by simp), ops[x], by simp [hx], fun e he hb => by
          have hlt' := hedge' x ops[x] (by simp [hx]) e he hb
          refine hlisted e.on (by omega) fun hin => ?_
          rcases List.mem_cons.1 hin with e1 | hin
          · omega
          · have := (List.pairwise_cons.1 hsort).1 _ hin
            omega⟩
        rw [hr] at this
        cases this
    · obtain ⟨h1, o, ho, hall⟩ := mem_ready.1 hir
      have his : i < ops.size := (Array.getElem?_eq_some_iff.1 ho).1
      have hiL : i ∈ L := (hmem i his).1 h1
      obtain ⟨l1, l2, rfl⟩ := List.append_of_mem hiL
      have hbi : ∀ y ∈ (beforeL ops).getD i [], y ∉ l1 ++ i :: l2 := fun y hy => by
        obtain ⟨e, he, hb, hye⟩ := before_spec ho hy
        have hlt' := hedge' i o ho e he hb
        have hne := hunl e.on (by omega) (hall e he hb)
        rcases hye with rfl | hye
        · exact hne
        · exact hcl e.on (by omega) hne y hye
      have hs1 : ∀ y ∈ l1, y < i := fun y hy => (List.pairwise_append.1 hsort).2.2 y hy i (by simp)
      have hs2 : ∀ y ∈ l2, i < y := fun y hy => (List.pairwise_cons.1 (List.pairwise_append.1 hsort).2.1).1 y hy
      obtain ⟨fs', h', hfs⟩ := move_front bok l1 l2 T T' st st' fs h fun p hp q hq hp1 hq1 => by
        rcases hfree q hq p hp with h3 | h3 | h3
        · have := hs1 _ hp1; omega
        · rw [hq1] at h3
          exact absurd (List.mem_append_left _ hp1) (hbi _ h3)
        · rw [hq1] at h3; exact h3
      simp only [opsA] at h'
      split at h'
      · cases h'
      · rename_i T1 st1 fi hs
        split at h'
        · rename_i T2 st2 fs2 ht
          simp only [Option.some.injEq, Prod.mk.injEq] at h'
          obtain ⟨rfl, rfl, rfl⟩ := h'
          have hc1 : c0 + ops.size ≤ st1.c := (step_sound (Q := Q) ok cok hs hi hf (hn i hiL) his hcn (K := fun _ _ => True) (fun _ _ _ _ _ _ _ => trivial)).2
          refine (step_sound ok cok hs hi hf (hn i hiL) his hcn ?_).1
          intro a' w' ρ' im' hf' hi' hoth
          have hsub : ∀ y, y ∈ l1 ++ l2 ↔ (y ∈ l1 ++ i :: l2 ∧ y ≠ i) := fun y => by
            simp only [List.mem_append, List.mem_cons]
            constructor
            · rintro (hy | hy)
              · have := hs1 y hy; exact ⟨.inl hy, by omega⟩
              · have := hs2 y hy; exact ⟨.inr (.inr hy), by omega⟩
            · rintro ⟨hy | hy | hy, hne⟩
              · exact .inl hy
              · exact absurd hy hne
              · exact .inr hy
          refine ih (listed.setIfInBounds i true) (l1 ++ l2) T1 st1 T2 st2 fs2 ρ' im' a' w' ht (by simpa using hls) ?_ (fun j hj => ?_) (fun j hj => hlt j ((hsub j).1 hj).1) ?_ (fun j hj hnj y hy => ?_) (fun q hq p hp => hfree q (hfs _ (by simp [hq])) p (hfs _ (by simp [hp]))) hi' hf' (fun j hj => ?_) hc1 ?_
          · obtain ⟨q1, q2, q3⟩ := List.pairwise_append.1 hsort
            exact List.pairwise_append.2 ⟨q1, (List.pairwise_cons.1 q2).2, fun x hx y hy => q3 x hx y (by simp [hy])⟩
          · rw [hsub j]
            by_cases e : j = i
            · subst e
              have : j < listed.size := by omega
              simp [this]
            · rw [Array.getD_eq_getD_getElem?, Array.getElem?_setIfInBounds_ne (Ne.symm e), ← Array.getD_eq_getD_getElem?, hmem j hj]
              simp [e]
          · simp only [List.length_append, List.length_cons] at hlen ⊢; omega
          · rw [hsub] at hnj ⊢
            intro hc
            by_cases e : j = i
            · subst e; exact hbi y hy hc.1
            · exact hcl j hj (fun q => hnj ⟨q, e⟩) y hy hc.1
          · have hj' := (hsub j).1 hj
            have := hlt j hj'.1
            rw [hoth (c0 + j) (by omega) (by omega)]
            exact hn j hj'.1
          · intro a2 w2 ρ2 im2 hf2 hi2 hs2
            exact k a2 w2 ρ2 im2 hf2 hi2 (fun s hs => by rw [hs2 s hs, hoth s (by omega) (by omega)])
        · cases h'

end
end Go.Ab
