/- How the tie between the plain heap and the machine's memory lives on: a new block, a store, a block that goes on under a new stamp. -/
import Derived.Test.YtneaijbbcbicnaaGreatDoorAbRel
namespace Go.Ab
open Go

def rset (ρ : Rho) (s : Nat) (l : Option Loc) : Rho := fun t => if t = s then some l else ρ t

theorem rset_same (ρ : Rho) (s : Nat) (l : Option Loc) : rset ρ s l s = some l := by simp [rset]
theorem rset_other (ρ : Rho) {s t : Nat} (l : Option Loc) (h : t ≠ s) : rset ρ s l t = ρ t := by simp [rset, h]
theorem rset_ext [Inhabited Val] {ρ : Rho} {s : Nat} (l : Option Loc) (h : ρ s = none) : RhoExt ρ (rset ρ s l) := fun t k hk => by
  by_cases e : t = s
  · subst e; rw [h] at hk; cases hk
  · rw [rset_other ρ l e]; exact hk
theorem imExt_refl (im : Im) : ImExt im im := fun _ _ h => h
theorem rhoExt_refl (ρ : Rho) : RhoExt ρ ρ := fun _ _ h => h
theorem RhoExt.trans {a b c : Rho} (h : RhoExt a b) (k : RhoExt b c) : RhoExt a c := fun s l hl => k s l (h s l hl)
theorem ImExt.trans {a b c : Im} (h : ImExt a b) (k : ImExt b c) : ImExt a c := fun s l hl => k s l (h s l hl)

theorem lt_of_some {α : Type} {xs : Array α} {i : Nat} {x : α} (h : xs[i]? = some x) : i < xs.size := (Array.getElem?_eq_some_iff.1 h).1

/-- A live block lies in memory. -/
theorem ORel.at_ [Inhabited Val] {ρ : Rho} {im : Im} {w : World} {s : Nat} {o : AObj} {l : Loc} (h : ORel ρ im w s o) (hl : o.live = true) (hr : ρ s = some (some l)) : im l.blk = none ∧ l.blk < w.heap.size := by
  cases o with
  | dead => cases hl
  | cells cs =>
    simp only [ORel, hr] at h
    obtain ⟨h1, arr, ty, hw, _⟩ := h
    exact ⟨h1, lt_of_some hw⟩
  | map es =>
    simp only [ORel] at h
    obtain ⟨loc, hr', h1, ents, clock, hw, _⟩ := h
    rw [hr] at hr'
    simp only [Option.some.injEq] at hr'
    subst hr'
    exact ⟨h1, lt_of_some hw⟩
  | iter l pos =>
    simp only [ORel] at h
    obtain ⟨loc, hr', _, h1, bs, _, hw⟩ := h
    rw [hr] at hr'
    simp only [Option.some.injEq] at hr'
    subst hr'
    exact ⟨h1, lt_of_some hw⟩

theorem ORel.mono [Inhabited Val] {ρ ρ' : Rho} {im im' : Im} {w w' : World} {s : Nat} {o : AObj} (h : ORel ρ im w s o) (h1 : RhoExt ρ ρ') (h2 : ImExt im im')
    (hb : ∀ l, ρ s = some (some l) → o.live = true → w'.heap[l.blk]? = w.heap[l.blk]? ∧ im' l.blk = none) : ORel ρ' im' w' s o := by
  cases o with
  | dead => trivial
  | cells cs =>
    simp only [ORel] at h ⊢
    cases hr : ρ s with
    | none => simp [hr] at h
    | some l =>
      rw [h1 s l hr]
      rw [hr] at h
      cases l with
      | none => exact h
      | some loc =>
        obtain ⟨_, arr, ty, hw, hs, hd, hl⟩ := h
        obtain ⟨e1, e2⟩ := hb loc hr rfl
        exact ⟨e2, arr, ty, by rw [e1]; exact hw, hs, hd, hl.mono h1 h2⟩
  | map es =>
    simp only [ORel] at h ⊢
    obtain ⟨loc, hr, _, ents, clock, hw, hk, hv⟩ := h
    obtain ⟨e1, e2⟩ := hb loc hr rfl
    exact ⟨loc, h1 _ _ hr, e2, ents, clock, by rw [e1]; exact hw, hk.mono h1 h2, hv.mono h1 h2⟩
  | iter l pos =>
    simp only [ORel] at h ⊢
    obtain ⟨loc, hr, hd, _, bs, hbs, hw⟩ := h
    obtain ⟨e1, e2⟩ := hb loc hr rfl
    exact ⟨loc, h1 _ _ hr, hd, e2, bs, hbs, by rw [e1]; exact hw⟩

/-- A world that differs in no memory. -/
structure SameMem (w w' : World) : Prop where
  heap : w'.heap = w.heap
  os : w'.os = w.os
  tape : w'.tape = w.tape
  output : w'.output = w.output

theorem Inv.same [Inhabited Val] {B : Base} {ρ : Rho} {im : Im} {st : St} {w w' : World} (h : Inv B ρ im st w) (k : SameMem w w') : Inv B ρ im st w' :=
  ⟨h.rho, h.imx, h.imo, fun b o hb => by rw [k.heap]; exact h.imw b o hb,
   fun s o ho => (h.obj s o ho).mono (rhoExt_refl _) (imExt_refl _) fun l hl hlive => ⟨by rw [k.heap], ((h.obj s o ho).at_ hlive hl).1⟩,
   h.inj, h.new, h.cle, h.bar, k.os.trans h.os, k.tape.trans h.tape, k.output.trans h.output, by rw [k.heap]; exact h.size, h.own,
   fun b hb hn => by rw [k.heap]; exact h.frame b hb hn⟩

/-- A new block, at a stamp that nothing had yet. -/
theorem Inv.alloc [Inhabited Val] {B : Base} {ρ : Rho} {im : Im} {st : St} {w : World} (h : Inv B ρ im st w) {new : Nat} (hn : ρ new = none) (hc : new < st.c) (o : Obj) (ao : AObj) (l : Loc) (hl : l.blk = w.heap.size)
    (hobj : im l.blk = none → ORel (rset ρ new (some l)) im (w.alloc o) new ao) : Inv B (rset ρ new (some l)) im { st with h := hput st.h new ao } (w.alloc o) := by
  have hext := rset_ext (some l) hn
  have him : im l.blk = none := by
    cases e : im l.blk with
    | none => rfl
    | some x => have := lt_of_some (h.imw _ _ e); omega
  have hold : ∀ b, b < w.heap.size → (w.alloc o).heap[b]? = w.heap[b]? := fun b hb => heap_alloc_old w o b hb
  have hne : ∀ s x, hget st.h s = some x → x.live = true → ∀ k, ρ s = some (some k) → k.blk ≠ w.heap.size := fun s x hx hlive k hk => by
    have := ((h.obj s x hx).at_ hlive hk).2
    omega
  refine ⟨h.rho.trans hext, h.imx, h.imo, fun b x hb => ?_, fun s x hx => ?_, fun s s' x x' k k' hx hxl hx' hxl' hk hk' e => ?_, fun s hs => ?_, h.cle, h.bar, h.os, h.tape, h.output,
    Nat.le_trans h.size (by simp), fun b hb => ?_, fun b hb hno => ?_⟩
  · rw [hold b (lt_of_some (h.imw b x hb))]; exact h.imw b x hb
  · rw [hget_hput] at hx
    split at hx
    · rename_i e
      simp only [Option.some.injEq] at hx
      subst e
      subst hx
      exact hobj him
    · exact (h.obj s x hx).mono hext (imExt_refl _) fun k hk hlive => ⟨hold _ ((h.obj s x hx).at_ hlive hk).2, ((h.obj s x hx).at_ hlive hk).1⟩
  · rw [hget_hput] at hx hx'
    by_cases e1 : new = s <;> by_cases e2 : new = s'
    · exact e1.symm.trans e2
    · subst e1
      rw [rset_same] at hk
      rw [if_neg e2] at hx'
      rw [rset_other ρ _ (fun q => e2 q.symm)] at hk'
      simp only [Option.some.injEq] at hk
      subst hk
      exact absurd (e.symm.trans hl) (hne s' x' hx' hxl' k' hk')
    · subst e2
      rw [rset_same] at hk'
      rw [if_neg e1] at hx
      rw [rset_other ρ _ (fun q => e1 q.symm)] at hk
      simp only [Option.some.injEq] at hk'
      subst hk'
      exact absurd (e.trans hl) (hne s x hx hxl k hk)
    · rw [if_neg e1] at hx
      rw [if_neg e2] at hx'
      rw [rset_other ρ _ (fun q => e1 q.symm)] at hk
      rw [rset_other ρ _ (fun q => e2 q.symm)] at hk'
      exact h.inj s s' x x' k k' hx hxl hx' hxl' hk hk' e
  · have hs' : st.c ≤ s := hs
    rw [rset_other ρ _ (by omega)]
    exact h.new s hs'
  · obtain ⟨s, x, k, hx, hlive, hbar, hk, rfl⟩ := hb
    rw [hget_hput] at hx
    by_cases e : new = s
    · subst e
      rw [rset_same] at hk
      simp only [Option.some.injEq] at hk
      subst hk
      exact .inr (by have := h.size; omega)
    · rw [if_neg e] at hx
      rw [rset_other ρ _ (fun q => e q.symm)] at hk
      exact h.own _ ⟨s, x, k, hx, hlive, hbar, hk, rfl⟩
  · rw [hold b (Nat.lt_of_lt_of_le hb h.size)]
    exact h.frame b hb hno

/-- A stamp for what lies nowhere. -/
theorem Inv.virt [Inhabited Val] {B : Base} {ρ : Rho} {im : Im} {st : St} {w : World} (h : Inv B ρ im st w) {new : Nat} (hn : ρ new = none) (hc : new < st.c) :
    Inv B (rset ρ new none) im { st with h := hput st.h new (.cells []) } w := by
  have hext := rset_ext none hn
  refine ⟨h.rho.trans hext, h.imx, h.imo, h.imw, fun s x hx => ?_, fun s s' x x' k k' hx hxl hx' hxl' hk hk' e => ?_, fun s hs => ?_, h.cle, h.bar, h.os, h.tape, h.output, h.size, fun b hb => ?_, h.frame⟩
  · rw [hget_hput] at hx
    split at hx
    · rename_i e
      simp only [Option.some.injEq] at hx
      subst e
      subst hx
      simp [ORel, rset_same]
    · exact (h.obj s x hx).mono hext (imExt_refl _) fun k hk hlive => ⟨rfl, ((h.obj s x hx).at_ hlive hk).1⟩
  · rw [hget_hput] at hx hx'
    have e1 : ¬ new = s := fun q => by subst q; rw [rset_same] at hk; cases hk
    have e2 : ¬ new = s' := fun q => by subst q; rw [rset_same] at hk'; cases hk'
    rw [if_neg e1] at hx
    rw [if_neg e2] at hx'
    rw [rset_other ρ _ (fun q => e1 q.symm)] at hk
    rw [rset_other ρ _ (fun q => e2 q.symm)] at hk'
    exact h.inj s s' x x' k k' hx hxl hx' hxl' hk hk' e
  · have hs' : st.c ≤ s := hs
    rw [rset_other ρ _ (by omega)]
    exact h.new s hs'
  · obtain ⟨s, x, k, hx, hlive, hbar, hk, rfl⟩ := hb
    rw [hget_hput] at hx
    have e1 : ¬ new = s := fun q => by subst q; rw [rset_same] at hk; cases hk
    rw [if_neg e1] at hx
    rw [rset_other ρ _ (fun q => e1 q.symm)] at hk
    exact h.own _ ⟨s, x, k, hx, hlive, hbar, hk, rfl⟩

/-- Memory turned in one block alone. -/
structure Turned (blk : Nat) (w w' : World) : Prop where
  size : w'.heap.size = w.heap.size
  other : ∀ b, b ≠ blk → w'.heap[b]? = w.heap[b]?
  os : w'.os = w.os
  tape : w'.tape = w.tape
  output : w'.output = w.output

/-- A live block that may be written is turned. -/
theorem Inv.turn [Inhabited Val] {B : Base} {ρ : Rho} {im : Im} {st : St} {w w' : World} (h : Inv B ρ im st w) {s : Nat} {x ao : AObj} {l : Loc} (hs : hget st.h s = some x) (hlive : x.live = true) (hr : ρ s = some (some l)) (hbar : B.bar ≤ s)
    (ht : Turned l.blk w w') (hobj : ORel ρ im w' s ao) : Inv B ρ im { st with h := hput st.h s ao } w' := by
  have hat := (h.obj s x hs).at_ hlive hr
  have hne : ∀ s' x', s' ≠ s → hget st.h s' = some x' → x'.live = true → ∀ k, ρ s' = some (some k) → k.blk ≠ l.blk := fun s' x' hss hx' hl' k hk e =>
    hss (h.inj s' s x' x k l hx' hl' hs hlive hk hr e)
  refine ⟨h.rho, h.imx, h.imo, fun b o hb => ?_, fun s' x' hx' => ?_, fun s1 s2 x1 x2 k1 k2 h1 l1 h2 l2 r1 r2 e => ?_, h.new, h.cle, h.bar, ht.os.trans h.os, ht.tape.trans h.tape, ht.output.trans h.output,
    by rw [ht.size]; exact h.size, fun b hb => ?_, fun b hb hno => ?_⟩
  · rw [ht.other b (fun e => by subst e; rw [hat.1] at hb; cases hb)]
    exact h.imw b o hb
  · rw [hget_hput] at hx'
    split at hx'
    · rename_i e
      simp only [Option.some.injEq] at hx'
      subst e
      subst hx'
      exact hobj
    · rename_i e
      exact (h.obj s' x' hx').mono (rhoExt_refl _) (imExt_refl _) fun k hk hl' => ⟨ht.other _ (hne s' x' (fun q => e q.symm) hx' hl' k hk), ((h.obj s' x' hx').at_ hl' hk).1⟩
  · rw [hget_hput] at h1 h2
    have g : ∀ s' x' , (if s = s' then some ao else hget st.h s') = some x' → x'.live = true → ∃ y, hget st.h s' = some y ∧ y.live = true := fun s' x' hg hl' => by
      split at hg
      · rename_i e; subst e; exact ⟨x, hs, hlive⟩
      · exact ⟨x', hg, hl'⟩
    obtain ⟨y1, hy1, hl1⟩ := g s1 x1 h1 l1
    obtain ⟨y2, hy2, hl2⟩ := g s2 x2 h2 l2
    exact h.inj s1 s2 y1 y2 k1 k2 hy1 hl1 hy2 hl2 r1 r2 e
  · obtain ⟨s', x', k, hx', hl', hb', hk, rfl⟩ := hb
    rw [hget_hput] at hx'
    by_cases e : s = s'
    · subst e
      exact h.own _ ⟨s, x, k, hs, hlive, hb', hk, rfl⟩
    · rw [if_neg e] at hx'
      exact h.own _ ⟨s', x', k, hx', hl', hb', hk, rfl⟩
  · have : b ≠ l.blk := fun e => by
      subst e
      rcases h.own l.blk ⟨s, x, l, hs, hlive, hbar, hr, rfl⟩ with h1 | h1
      · exact hno h1
      · omega
    rw [ht.other b this]
    exact h.frame b hb hno

/-- A block that goes on under a new stamp (and the old one is dead). -/
theorem Inv.move [Inhabited Val] {B : Base} {ρ : Rho} {im : Im} {st : St} {w w' : World} (h : Inv B ρ im st w) {s new : Nat} {x ao : AObj} {l l' : Loc} (hs : hget st.h s = some x) (hlive : x.live = true) (hr : ρ s = some (some l)) (hbar : B.bar ≤ s)
    (hn : ρ new = none) (hc : new < st.c) (hl : l'.blk = l.blk) (ht : Turned l.blk w w') (hobj : ORel (rset ρ new (some l')) im w' new ao) :
    Inv B (rset ρ new (some l')) im { st with h := hput (hput st.h s .dead) new ao } w' := by
  have hext := rset_ext (some l') hn
  have hns : new ≠ s := fun e => by subst e; rw [hr] at hn; cases hn
  have hat := (h.obj s x hs).at_ hlive hr
  have hne : ∀ s' x', s' ≠ s → hget st.h s' = some x' → x'.live = true → ∀ k, ρ s' = some (some k) → k.blk ≠ l.blk := fun s' x' hss hx' hl' k hk e =>
    hss (h.inj s' s x' x k l hx' hl' hs hlive hk hr e)
  have hg : ∀ s' x', hget (hput (hput st.h s .dead) new ao) s' = some x' → x'.live = true → (s' = new ∧ x' = ao) ∨ (s' ≠ new ∧ s' ≠ s ∧ hget st.h s' = some x') := fun s' x' hx hl' => by
    rw [hget_hput, hget_hput] at hx
    split at hx
    · rename_i e; simp only [Option.some.injEq] at hx; exact .inl ⟨e.symm, hx.symm⟩
    · rename_i e
      split at hx
      · simp only [Option.some.injEq] at hx; subst hx; cases hl'
      · rename_i e2; exact .inr ⟨fun q => e q.symm, fun q => e2 q.symm, hx⟩
  refine ⟨h.rho.trans hext, h.imx, h.imo, fun b o hb => ?_, fun s' x' hx' => ?_, fun s1 s2 x1 x2 k1 k2 h1 l1 h2 l2 r1 r2 e => ?_, fun s' hs' => ?_, h.cle, h.bar, ht.os.trans h.os, ht.tape.trans h.tape, ht.output.trans h.output,
    by rw [ht.size]; exact h.size, fun b hb => ?_, fun b hb hno => ?_⟩
  · rw [ht.other b (fun e => by subst e; rw [hat.1] at hb; cases hb)]
    exact h.imw b o hb
  · by_cases hl' : x'.live = true
    · rcases hg s' x' hx' hl' with ⟨rfl, rfl⟩ | ⟨e1, e2, hx⟩
      · exact hobj
      · exact (h.obj s' x' hx).mono hext (imExt_refl _) fun k hk hl'' => ⟨ht.other _ (hne s' x' e2 hx hl'' k hk), ((h.obj s' x' hx).at_ hl'' hk).1⟩
    · cases x' with
      | dead => trivial
      | _ => exact absurd rfl hl'
  · rcases hg s1 x1 h1 l1 with ⟨rfl, rfl⟩ | ⟨e1, e2, hx1⟩ <;> rcases hg s2 x2 h2 l2 with ⟨rfl, rfl⟩ | ⟨e3, e4, hx2⟩
    · rfl
    · rw [rset_same] at r1
      rw [rset_other ρ _ e3] at r2
      simp only [Option.some.injEq] at r1
      subst r1
      exact absurd (e.symm.trans hl) (hne s2 x2 e4 hx2 l2 k2 r2)
    · rw [rset_same] at r2
      rw [rset_other ρ _ e1] at r1
      simp only [Option.some.injEq] at r2
      subst r2
      exact absurd (e.trans hl) (hne s1 x1 e2 hx1 l1 k1 r1)
    · rw [rset_other ρ _ e1] at r1
      rw [rset_other ρ _ e3] at r2
      exact h.inj s1 s2 x1 x2 k1 k2 hx1 l1 hx2 l2 r1 r2 e
  · have hs'' : st.c ≤ s' := hs'
    rw [rset_other ρ _ (by omega)]
    exact h.new s' hs''
  · obtain ⟨s', x', k, hx', hl', hb', hk, rfl⟩ := hb
    rcases hg s' x' hx' hl' with ⟨rfl, rfl⟩ | ⟨e1, e2, hx⟩
    · rw [rset_same] at hk
      simp only [Option.some.injEq] at hk
      subst hk
      rw [hl]
      exact h.own _ ⟨s, x, l, hs, hlive, hbar, hr, rfl⟩
    · rw [rset_other ρ _ e1] at hk
      exact h.own _ ⟨s', x', k, hx, hl', hb', hk, rfl⟩
  · have : b ≠ l.blk := fun e => by
      subst e
      rcases h.own l.blk ⟨s, x, l, hs, hlive, hbar, hr, rfl⟩ with h1 | h1
      · exact hno h1
      · omega
    rw [ht.other b this]
    exact h.frame b hb hno

/-- A block is given up: another one stands for what it held. -/
theorem Inv.kill [Inhabited Val] {B : Base} {ρ : Rho} {im : Im} {st : St} {w : World} (h : Inv B ρ im st w) (s : Nat) : Inv B ρ im { st with h := hput st.h s .dead } w := by
  have hg : ∀ s' x', hget (hput st.h s .dead) s' = some x' → x'.live = true → hget st.h s' = some x' := fun s' x' hx hl' => by
    rw [hget_hput] at hx
    split at hx
    · simp only [Option.some.injEq] at hx; subst hx; cases hl'
    · exact hx
  refine ⟨h.rho, h.imx, h.imo, h.imw, fun s' x' hx' => ?_, fun s1 s2 x1 x2 k1 k2 h1 l1 h2 l2 r1 r2 e => h.inj s1 s2 x1 x2 k1 k2 (hg _ _ h1 l1) l1 (hg _ _ h2 l2) l2 r1 r2 e, h.new, h.cle, h.bar, h.os, h.tape, h.output, h.size,
    fun b ⟨s', x', k, hx', hl', hb', hk, e⟩ => h.own b ⟨s', x', k, hg _ _ hx' hl', hl', hb', hk, e⟩, h.frame⟩
  cases x' with
  | dead => trivial
  | _ => exact h.obj s' _ (hg s' _ hx' rfl)

end Go.Ab
