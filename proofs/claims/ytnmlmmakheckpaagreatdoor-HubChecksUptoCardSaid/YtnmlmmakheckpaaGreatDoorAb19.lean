/- slices.Insert of one entry: a rule for the plain interpreter. -/
import Derived.Test.YtnmlmmakheckpaaGreatDoorAb18
import Derived.Test.YtnmlmmakheckpaaGreatDoorAb12
namespace Go.Ab
open Go

theorem hput_same (h : Heap) (s : Nat) (a b : AObj) : hput (hput h s a) s b = hput h s b := by
  induction h with
  | nil => simp [hput]
  | cons p r ih =>
    obtain ⟨k, x⟩ := p
    simp only [hput]
    by_cases h1 : k = s
    · simp [h1, hput]
    · rw [if_neg h1]
      by_cases h2 : k < s
      · rw [if_pos h2]
        simp [hput, h1, h2]
      · rw [if_neg h2]
        simp only [hput, if_neg h1, if_neg h2, ih]

/-- Less is known of a block than before. -/
theorem Inv.trim [Inhabited Val] {B : Base} {ρ : Rho} {im : Im} {st : St} {w : World} (h : Inv B ρ im st w) {s : Nat} {cs : List AV} (hg : hget st.h s = some (.cells cs)) (k : Nat) : Inv B ρ im { st with h := hput st.h s (.cells (cs.take k)) } w := by
  have hgg : ∀ s' x', hget (hput st.h s (.cells (cs.take k))) s' = some x' → x'.live = true → ∃ y, hget st.h s' = some y ∧ y.live = true := fun s' x' hx hl => by
    rw [hget_hput] at hx
    split at hx
    · rename_i e; subst e; exact ⟨_, hg, rfl⟩
    · exact ⟨x', hx, hl⟩
  refine ⟨h.rho, h.imx, h.imo, h.imw, fun s' x' hx' => ?_, fun s1 s2 x1 x2 k1 k2 g1 l1 g2 l2 r1 r2 e => ?_, h.new, h.cle, h.bar, h.os, h.tape, h.output, h.size, fun b hb => ?_, h.frame⟩
  · rw [hget_hput] at hx'
    split at hx'
    · rename_i e
      subst e
      simp only [Option.some.injEq] at hx'
      subst hx'
      have := h.obj s _ hg
      simp only [ORel] at this ⊢
      split at this
      · exact this
      · subst this; simp
      · obtain ⟨him, arr, ty, hw, hs, hd, hl⟩ := this
        refine ⟨him, arr, ty, hw, hs, ?_, ?_⟩
        · have := List.length_take_le k cs; have h3 : (cs.take k).length ≤ cs.length := by rw [List.length_take]; omega
          omega
        · have := hl.take k
          rw [List.take_take] at this
          rw [List.length_take]
          exact this
    · exact h.obj _ _ hx'
  · obtain ⟨y1, hy1, hl1⟩ := hgg s1 x1 g1 l1
    obtain ⟨y2, hy2, hl2⟩ := hgg s2 x2 g2 l2
    exact h.inj s1 s2 y1 y2 k1 k2 hy1 hl1 hy2 hl2 r1 r2 e
  · obtain ⟨s', x', l, hx', hl', hb', hk, e⟩ := hb
    obtain ⟨y, hy, hly⟩ := hgg s' x' hx' hl'
    exact h.own b ⟨s', y, l, hy, hly, hb', hk, e⟩

/-- What slices.Insert answers, where one element goes into a list of the call's own. -/
def insH (C : Cfg) (e : Nat) (look : Heap) (bar new : Nat) (args : List AV) : Option (AV × List (Nat × AObj)) :=
  match args with
  | [.osl w1 s off n _, .int .i64 i, .osl w2 s2 off2 m _] =>
    match C.ty e with
    | some te =>
      if w1 = te.size ∧ w2 = te.size ∧ m = 1 ∧ (s = s2) = False ∧ bar ≤ s ∧ 0 ≤ i ∧ i ≤ (n : Int) ∧ (n + 1) * te.bytes ≤ 140737488355328 ∧ n + 1 ≤ 9223372036854775807 then
        match hget look s, hget look s2 with
        | some (.cells cs), some (.cells ds) =>
          if off + n * te.size ≤ cs.length ∧ off2 + te.size ≤ ds.length ∧ ((cs.drop off).take (n * te.size)).all AV.one = true ∧ ((ds.drop off2).take te.size).all AV.one = true then
            some (.osl te.size new 0 (n + 1) (n + 1), [(s, .dead), (new, .cells (((cs.drop off).take (n * te.size)).take (i.toNat * te.size) ++ ((ds.drop off2).take te.size) ++ ((cs.drop off).take (n * te.size)).drop (i.toNat * te.size)))])
          else none
        | _, _ => none
      else none
    | none => none
  | _ => none
end Go.Ab
namespace Go.Ab.Seat
open Go Go.Proofs
set_option linter.unusedSimpArgs false
set_option linter.unusedVariables false

theorem append_inv {P : Program} {C : Cfg} {B : Base} {ρ : Rho} {im : Im} {st : St} {w : World} {new : Nat} [Inhabited Val] (tok : TOk P C) (hi : Inv B ρ im st w) (hn : ρ new = none) (hc : new < st.c) {t e : TypeId} {ti te : TI} (h1 : C.ty t = some ti) (hk : ti.kind = .slice e) (h2 : C.ty e = some te)
    {q len cp n : Nat} {cs ns : List AV} {s x : AV} {vs vx : Value} (hs : s = .osl te.size q 0 len cp ∨ ∃ off, s = .osl te.size q off len cp) (hv : VRel ρ im s vs) (hx : VRel ρ im x vx) (he : elemsOf st.h te.size x = some (n, ns)) (hz0 : te.size ≠ 0) (hzl : te.zero.length = te.size) (hone : ns.all AV.one = true)
    {off : Nat} (hso : s = .osl te.size q off len cp) (hbar : st.bar ≤ q) (hb : (len + n) * te.bytes ≤ 140737488355328) (h63 : len + n ≤ 9223372036854775807) (hg : hget st.h q = some (.cells cs)) (hfr : off + len * te.size = cs.length) :
    ∃ rv w' ρ', (∀ ty, (Builtin.append_ #[t, t] ty #[vs, vx]).run P w = .ok rv w') ∧ VRel ρ' im (.osl te.size new 0 (len + n) (len + n)) rv ∧ Inv B ρ' im { st with h := hputs st.h [(q, .dead), (new, .cells (cs.drop off ++ ns))] } w' ∧ RhoExt ρ ρ' ∧ ∀ s, s ≠ new → ρ' s = ρ s := by
  have hf : FRel ρ im 2 [s, x] { tmps := #[vs, vx], defers := [] } := by
    have := frel_enter (LRel.cons hv (LRel.cons hx (LRel.nil ρ im))) 2
    exact this
  obtain ⟨rv, w', ρ', hr, hv', hi', he', hn'⟩ := append_good (P := P) (new := new) (v := .osl te.size new 0 (len + n) (len + n)) (o := { dst := none, op := .call { callee := .builtin .append, args := #[.tmp 0, .tmp 1], argTypes := #[t, t] }, type := t, pos := "", after := #[], guard := none }) (s := .tmp 0) (x := .tmp 1)
    tok hi hf hn hc (look := st.h) (fun _ _ h => h) rfl h1 hk h2 (by exact he) hz0 hzl hone (h' := hputs st.h [(q, .dead), (new, .cells (cs.drop off ++ ns))]) (.inr ⟨q, off, len, cp, cs, hso, hbar, hb, h63, hg, .inl ⟨hfr, rfl, rfl⟩⟩)
  refine ⟨rv, w', ρ', fun ty => ?_, hv', hi', he', hn'⟩
  have hop : (execOp (Act.eval { tmps := #[vs, vx], defers := [] }) { dst := none, op := .call { callee := .builtin .append, args := #[.tmp 0, .tmp 1], argTypes := #[t, t] }, type := t, pos := "", after := #[], guard := none }).run P w = ((Builtin.append_ #[t, t] ty #[vs, vx]).run P w).andThen fun u w' => .ok (.value u) w' := by
    simp only [execOp, resolve, Sem.run_bind, Sem.run_pure, Result.andThen_ok, invoke, builtin, List.map_toArray, List.map_cons, List.map_nil]
    rfl
  rw [hop] at hr
  rcases hr with hr | ⟨hr, _⟩
  · cases hq : (Builtin.append_ #[t, t] ty #[vs, vx]).run P w with
    | ok u w2 =>
      rw [hq] at hr
      simp only [Result.andThen_ok, Result.ok.injEq, Next.value.injEq] at hr
      obtain ⟨rfl, rfl⟩ := hr
      rfl
    | _ => rw [hq] at hr; cases hr
  · cases hq : (Builtin.append_ #[t, t] ty #[vs, vx]).run P w with
    | ok u w2 => rw [hq] at hr; cases hr
    | _ => rw [hq] at hr; cases hr

theorem part_eq {α : Type} (l : List α) (d n off k : Nat) (h : off + k ≤ n) : (((l.drop d).take n).drop off).take k = (l.drop (d + off)).take k := by
  rw [List.drop_take, List.take_take, List.drop_drop, Nat.min_eq_left (by omega)]

set_option maxRecDepth 100000 in
set_option maxHeartbeats 4000000 in
theorem insE_hook [Inhabited Val] {C : Cfg} (hC : C.ty = tyBy tyTab) (tok : TOk Tryz.prog C) : HookOk Tryz.prog 145 (insH C 107) := by
  intro B ρ im st w new args vargs look v es hi hn hc hh hl hF
  unfold insH at hF
  split at hF
  rotate_left
  · cases hF
  rename_i w1 s off n cp i w2 s2 off2 m cp2
  obtain ⟨vs, r1, rfl, hvs, hl⟩ := hl.of_cons
  obtain ⟨vi, r2, rfl, hvi, hl⟩ := hl.of_cons
  obtain ⟨vx, r3, rfl, hvx, hl⟩ := hl.of_cons
  obtain rfl := hl.of_nil
  have hte := (congrFun hC 107).trans ty107
  have hti := (congrFun hC 35).trans ty35
  simp only [hte] at hF
  split at hF
  rotate_left
  · cases hF
  rename_i hc1
  obtain ⟨rfl, rfl, rfl, hss, hbar, hi0, hin, hbig, h63⟩ := hc1
  have hss : ¬ s = s2 := of_eq_false hss
  split at hF
  rotate_left
  · cases hF
  rename_i cs ds hgs hgs2
  split at hF
  rotate_left
  · cases hF
  rename_i hc2
  obtain ⟨hl1, hl2, ho1, ho2⟩ := hc2
  replace hl1 : off + n * 4 ≤ cs.length := hl1
  replace hl2 : off2 + 4 ≤ ds.length := hl2
  replace hbig : (n + 1) * 48 ≤ 140737488355328 := hbig
  simp only [Option.some.injEq, Prod.mk.injEq] at hF
  obtain ⟨rfl, rfl⟩ := hF
  obtain rfl := of_int hvi
  obtain ⟨k, rfl⟩ : ∃ k : Nat, i = (k : Int) := ⟨i.toNat, by omega⟩
  rw [Int.toNat_natCast]
  have hvs0 := hvs
  have hvx0 := hvx
  have hgs := hh s _ hgs
  have hgs2 := hh s2 _ hgs2
  cases hvs with
  | osl _ _ _ _ _ lo ad K hρ hcl k2 k3 k4 =>
  cases hvx with
  | osl _ _ _ _ _ lo2 ad2 K2 hρ2 hcl2 q2 q3 q4 =>
  obtain ⟨loc2, e2, e2', e2''⟩ := hcl2 (by omega)
  subst e2 e2'
  obtain ⟨him2, arr2, ty2, hw2, hs2, hd2, hlr2⟩ := cells_at hi hgs2 hρ2
  have hxr := lrel_part hlr2 off2 4
  rw [part_eq _ _ _ _ _ hl2] at hxr
  have hxl : ((arr2.toList.drop (loc2.delta + off2)).take 4).length = 4 := by rw [hxr.1, List.length_take, List.length_drop]; omega
  have hnb : B.bar ≤ s := by rw [← hi.bar]; exact hbar
  by_cases hkn : k = n
  · -- at the end
    subst hkn
    have hi' := hi.trim hgs (off + k * 4)
    have hg1 : hget (hput st.h s (.cells (cs.take (off + k * 4)))) s = some (.cells (cs.take (off + k * 4))) := by rw [hget_hput, if_pos rfl]
    have hg2 : hget (hput st.h s (.cells (cs.take (off + k * 4)))) s2 = some (.cells ds) := by rw [hget_hput, if_neg hss]; exact hgs2
    have hle2 : off2 + 1 * 4 ≤ ds.length := by omega
    obtain ⟨rv, w', ρ', hrun, hv', hinv, hext, hoth⟩ := append_inv (P := Tryz.prog) (C := C) (new := new) tok hi' hn hc hti rfl hte (n := 1) (ns := (ds.drop off2).take 4) (.inr ⟨off, rfl⟩) hvs0 hvx0 (by simp only [elemsOf, hg2, if_pos hle2, ne_eq, not_true_eq_false, if_false, Nat.one_mul]) (by decide) rfl ho2 rfl hbar hbig h63 hg1 (by show off + k * 4 = _; rw [List.length_take]; omega)
    have := insE_end w ad k K (loc2.blk) (loc2.delta + off2) K2 rv w' (by omega) k4 hrun
    refine this.mono ?_
    rintro e w1 ⟨rfl, rfl⟩
    refine ⟨rv, ρ', im, rfl, hv', ?_, hext, imExt_refl _, hoth⟩
    have e1 : hputs (hput st.h s (.cells (cs.take (off + k * 4)))) [(s, .dead), (new, .cells ((cs.take (off + k * 4)).drop off ++ (ds.drop off2).take 4))] = hputs st.h [(s, .dead), (new, .cells (((cs.drop off).take (k * 4)).take (k * 4) ++ (ds.drop off2).take 4 ++ ((cs.drop off).take (k * 4)).drop (k * 4)))] := by
      have a1 : (cs.take (off + k * 4)).drop off = (cs.drop off).take (k * 4) := by rw [List.drop_take]; congr 1; omega
      have a2 : ((cs.drop off).take (k * 4)).take (k * 4) = (cs.drop off).take (k * 4) := by rw [List.take_take, Nat.min_self]
      have a3 : ((cs.drop off).take (k * 4)).drop (k * 4) = [] := List.drop_eq_nil_of_le (by rw [List.length_take]; omega)
      simp only [hputs, hput_same]
      rw [a1, a2, a3, List.append_nil]
    simp only at hinv
    rw [e1] at hinv
    exact hinv
  -- ahead of something
  have hkn : k < n := by omega
  obtain ⟨loc, e1, e1', e1''⟩ := hcl (by omega)
  subst e1 e1'
  obtain ⟨him, arr, ty, hw, hsz, hd, hlr⟩ := cells_at hi hgs hρ
  have hbb : loc2.blk ≠ loc.blk := fun e => hss (hi.inj s s2 _ _ loc loc2 hgs rfl hgs2 rfl hρ hρ2 e.symm)
  have hcr := lrel_part hlr off (n * 4)
  rw [part_eq _ _ _ _ _ hl1] at hcr
  obtain ⟨L, hL⟩ : ∃ L, L = (cs.drop off).take (n * 4) := ⟨_, rfl⟩
  obtain ⟨cv, hcv⟩ : ∃ cv, cv = (arr.toList.drop (loc.delta + off)).take (n * 4) := ⟨_, rfl⟩
  obtain ⟨X, hX⟩ : ∃ X, X = (ds.drop off2).take 4 := ⟨_, rfl⟩
  obtain ⟨xv, hxv⟩ : ∃ xv, xv = (arr2.toList.drop (loc2.delta + off2)).take 4 := ⟨_, rfl⟩
  rw [← hL, ← hcv] at hcr
  rw [← hX, ← hxv] at hxr
  rw [← hL] at ho1 ⊢
  rw [← hX] at ho2 ⊢
  rw [← hxv] at hxl
  have hLl : L.length = n * 4 := by rw [hL, List.length_take, List.length_drop]; omega
  have hcvl : cv.length = n * 4 := by rw [hcr.1, hLl]
  have hnew : LRel ρ im (L.take (k * 4) ++ X ++ L.drop (k * 4)) (cv.take (k * 4) ++ xv ++ cv.drop (k * 4)) := ((hcr.take _).append hxr).append (hcr.drop _)
  have hnl : (L.take (k * 4) ++ X ++ L.drop (k * 4)).length = (n + 1) * 4 := by
    rw [← hnew.1]
    simp only [List.length_append, List.length_take, List.length_drop, hcvl, hxl]; omega
  obtain ⟨i0, z, hinfo, hsize, hbytes, hz, hzs, hlz⟩ := (tok 107 _ hte).info
  by_cases hroom : n + 1 ≤ K
  · -- there is room
    refine (insE_shift w i0 hinfo hsize loc.blk (loc.delta + off) n K k loc2.blk (loc2.delta + off2) K2 arr arr2 ty ty2 cv xv hw hw2 hbb (by omega) hcv.symm hxv.symm hxl (oneCells hcr ho1) (oneCells hxr ho2) hkn hroom k4).mono ?_
    rintro e w' ⟨rfl, arr', rfl, harr⟩
    have hdl : (cv.drop (k * 4)).length = (n - k) * 4 := by rw [List.length_drop, hcvl, Nat.sub_mul]
    have hal : arr.toList.length = loc.size := hsz
    obtain ⟨A, hA⟩ : ∃ A, A = arr.toList.take (loc.delta + off + (k + 1) * 4) ++ cv.drop (k * 4) ++ arr.toList.drop (loc.delta + off + (k + 1) * 4 + (cv.drop (k * 4)).length) := ⟨_, rfl⟩
    rw [← hA] at harr ⊢
    have hAl : A.length = loc.size := by
      rw [hA]; simp only [List.length_append, List.length_take, List.length_drop, hal, hcvl]; omega
    have hw1 : (w.drew.setRow loc.blk A.toArray).heap[loc.blk]? = some (.cells A.toArray ty (0, 0)) := setRow_heap w.drew loc.blk arr A.toArray ty (0, 0) hw
    have hw1' : ((w.drew.setRow loc.blk A.toArray).setRow loc.blk arr').heap[loc.blk]? = some (.cells arr' ty (0, 0)) := setRow_heap _ loc.blk A.toArray arr' ty (0, 0) hw1
    have hturn : Turned loc.blk w ((w.drew.setRow loc.blk A.toArray).setRow loc.blk arr') := ⟨by simp [World.setRow], fun b hb => by rw [setRow_other _ _ _ _ hb, setRow_other _ _ _ _ hb]; rfl, rfl, rfl, rfl⟩
    have hA1 : A.take (loc.delta + off + k * 4) = arr.toList.take (loc.delta + off + k * 4) := by
      rw [hA, List.append_assoc, List.take_append_of_le_length (by rw [List.length_take, hal]; omega), List.take_take, Nat.min_eq_left (by omega)]
    have hA2 : A.drop (loc.delta + off + k * 4 + 4) = cv.drop (k * 4) ++ arr.toList.drop (loc.delta + off + (k + 1) * 4 + (cv.drop (k * 4)).length) := by
      rw [hA, List.append_assoc, show loc.delta + off + k * 4 + 4 = loc.delta + off + (k + 1) * 4 by omega, List.drop_left' (by rw [List.length_take, hal]; omega)]
    rw [hA1, hA2] at harr
    have hal' : arr'.toList.length = loc.size := by
      rw [harr]; simp only [List.length_append, List.length_take, List.length_drop, hal, hcvl, hxl]; omega
    have hrow : (arr'.toList.drop (loc.delta + off)).take ((n + 1) * 4) = cv.take (k * 4) ++ xv ++ cv.drop (k * 4) := by
      have b1 : (arr.toList.take (loc.delta + off + k * 4)).drop (loc.delta + off) = cv.take (k * 4) := by
        rw [hcv, List.take_take, Nat.min_eq_left (by omega), List.drop_take]
        congr 1; omega
      rw [harr, List.append_assoc, List.drop_append_of_le_length (by rw [List.length_take, hal]; omega), b1]
      rw [show cv.take (k * 4) ++ (xv ++ (cv.drop (k * 4) ++ arr.toList.drop (loc.delta + off + (k + 1) * 4 + (cv.drop (k * 4)).length))) = (cv.take (k * 4) ++ xv ++ cv.drop (k * 4)) ++ arr.toList.drop (loc.delta + off + (k + 1) * 4 + (cv.drop (k * 4)).length) by simp only [List.append_assoc]]
      exact List.take_left' (by rw [hnew.1]; exact hnl)
    refine ⟨_, rset ρ new (some ⟨loc.blk, loc.delta + off, loc.size⟩), im, rfl, .osl _ _ _ _ _ (some ⟨loc.blk, loc.delta + off, loc.size⟩) _ _ (rset_same _ _ _) (fun _ => ⟨_, rfl, rfl, by simpa using e1''⟩) (Nat.le_refl _) hroom k4,
      hi.move (l' := ⟨loc.blk, loc.delta + off, loc.size⟩) hgs rfl hρ hnb hn hc rfl hturn ?_, rset_ext _ hn, imExt_refl _, fun s hs => rset_other ρ _ hs⟩
    simp only [ORel, rset_same]
    refine ⟨him, arr', ty, hw1', hal', by rw [hnl]; omega, ?_⟩
    rw [hnl, hrow]
    exact hnew.mono (rset_ext _ hn) (imExt_refl _)
  · -- there is none
    have hKn : K = n := by omega
    subst hKn
    refine (insE_grow w i0 z hinfo hsize hz hzs hbytes loc.blk (loc.delta + off) K k loc2.blk (loc2.delta + off2) K2 arr arr2 ty ty2 cv xv hw hw2 (by omega) hcv.symm hxv.symm hxl (oneCells hcr ho1) (oneCells hxr ho2) hkn hbig).mono ?_
    rintro e w' ⟨zs, W, arr', rfl, hzl, hsm, rfl, harr⟩
    have hG := grownCap_ge w (K + 1) K 107
    have hG2 : grownCap w (K + 1) K 107 ≤ 9223372036854775807 := grownCap_le_maxLen w (K + 1) K 107 h63
    generalize grownCap w (K + 1) K 107 = G at hG hG2 hzl ⊢
    have hWs : W.heap.size = w.heap.size := by rw [hsm.heap]
    have hnvl : (cv.take (k * 4) ++ xv ++ cv.drop (k * 4)).length = (K + 1) * 4 := by rw [hnew.1]; exact hnl
    have hal' : arr'.size = G * 4 := by
      rw [← Array.length_toList, harr, List.length_append, hnvl, Array.length_toList, hzl, ← Nat.add_mul]; congr 1; omega
    refine ⟨_, rset ρ new (some ⟨w.heap.size, 0, G * 4⟩), im, rfl, .osl _ _ _ _ _ (some ⟨w.heap.size, 0, G * 4⟩) _ _ (rset_same _ _ _) (fun _ => ⟨_, rfl, rfl, by simp⟩) (Nat.le_refl _) hG hG2,
      ((hi.kill s).same hsm).alloc hn hc (.cells arr' 107) (.cells (L.take (k * 4) ++ X ++ L.drop (k * 4))) ⟨w.heap.size, 0, G * 4⟩ hWs.symm (fun him0 => ?_), rset_ext _ hn, imExt_refl _, fun s hs => rset_other ρ _ hs⟩
    simp only [ORel, rset_same]
    refine ⟨him0, arr', 107, by rw [← hWs]; exact heap_alloc_new W _, hal', by rw [hnl]; omega, ?_⟩
    rw [List.drop_zero, hnl, harr, List.take_left' hnvl]
    exact hnew.mono (rset_ext _ hn) (imExt_refl _)
end Go.Ab.Seat
