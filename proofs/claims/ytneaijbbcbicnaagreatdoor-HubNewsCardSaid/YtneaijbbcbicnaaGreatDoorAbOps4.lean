/- More operations: slices. -/
import Derived.Test.YtneaijbbcbicnaaGreatDoorAbOps3
namespace Go.Ab
open Go

section
variable {P : Program} {C : Cfg} {B : Base} {ρ : Rho} {im : Im} {st : St} {nt : Nat} {T : List AV} {a : Act} {w : World} {new : Nat} {v : AV} {o : Oper}

theorem sliceBound_run [Inhabited Val] (hf : FRel ρ im nt T a) {x : Operand} {d most n : Nat} (h : bound (some (ev T x)) d most = some n) {most' : Nat} (hle : most ≤ most') (code : BoundsCode) :
    (Instr.sliceBound (a.eval x) most' code).run P w = .ok n w ∧ n ≤ most := by
  unfold bound at h
  split at h
  · rename_i he; cases he
  · rename_i k i he
    simp only [Option.some.injEq] at he
    split at h
    · rename_i hc
      simp only [Option.some.injEq] at h
      subst h
      have hx := hf.ev x
      rw [he] at hx
      refine ⟨?_, by omega⟩
      have h2 : i ≤ (most' : Int) := by omega
      simp [of_int hx, Instr.sliceBound, asIntOf, hc.1, h2]
    · cases h
  · cases h

theorem bounds_none [Inhabited Val] (hf : FRel ρ im nt T a) {lo hi : Option Operand} {len cap most h l : Nat} (hh : bound (hi.map (ev T)) len most = some h) (hl : bound (lo.map (ev T)) 0 h = some l) (hle : most ≤ cap) (hlen : len ≤ most) (isS : Bool) :
    (Instr.sliceBounds isS len cap (lo.map a.eval) (hi.map a.eval) none).run P w = .ok (l, h, cap) w ∧ l ≤ h ∧ h ≤ most := by
  cases hi with
  | none =>
    simp only [Option.map_none, bound, Option.some.injEq] at hh
    subst hh
    cases lo with
    | none =>
      simp only [Option.map_none, bound, Option.some.injEq] at hl
      subst hl
      exact ⟨rfl, Nat.zero_le _, hlen⟩
    | some y =>
      obtain ⟨rl, hl'⟩ := sliceBound_run (P := P) (w := w) hf hl (Nat.le_refl len) .sliceB
      refine ⟨?_, hl', hlen⟩
      have e : Instr.sliceBounds isS len cap (Option.map a.eval (some y)) (Option.map a.eval none) none = (do let l ← Instr.sliceBound (a.eval y) len .sliceB; pure (l, len, cap)) := rfl
      rw [e, Sem.run_bind, rl]
      rfl
  | some x =>
    obtain ⟨r, hn⟩ := sliceBound_run (P := P) (w := w) hf hh hle (if isS then .sliceAcap else .sliceAlen)
    cases lo with
    | none =>
      simp only [Option.map_none, bound, Option.some.injEq] at hl
      subst hl
      refine ⟨?_, Nat.zero_le _, hn⟩
      have e : Instr.sliceBounds isS len cap (Option.map a.eval none) (Option.map a.eval (some x)) none = (do let h ← Instr.sliceBound (a.eval x) cap (if isS then .sliceAcap else .sliceAlen); pure (0, h, cap)) := rfl
      rw [e, Sem.run_bind, r]
      rfl
    | some y =>
      obtain ⟨rl, hl'⟩ := sliceBound_run (P := P) (w := w) hf hl (Nat.le_refl h) .sliceB
      refine ⟨?_, hl', hn⟩
      have e : Instr.sliceBounds isS len cap (Option.map a.eval (some y)) (Option.map a.eval (some x)) none = (do let h ← Instr.sliceBound (a.eval x) cap (if isS then .sliceAcap else .sliceAlen); let l ← Instr.sliceBound (a.eval y) h .sliceB; pure (l, h, cap)) := rfl
      rw [e, Sem.run_bind, r]
      simp only [Result.andThen_ok]
      rw [Sem.run_bind, rl]
      rfl

theorem bounds_max [Inhabited Val] (hf : FRel ρ im nt T a) {lo : Option Operand} {hi mx : Operand} {len cap most d d' h l m : Nat} (hm : bound (some (ev T mx)) d most = some m) (hh : bound (some (ev T hi)) d' m = some h) (hl : bound (lo.map (ev T)) 0 h = some l) (hle : most ≤ cap) :
    (Instr.sliceBounds true len cap (lo.map a.eval) (some (a.eval hi)) (some (a.eval mx))).run P w = .ok (l, h, m) w ∧ l ≤ h ∧ h ≤ m ∧ m ≤ most := by
  obtain ⟨rm, hm'⟩ := sliceBound_run (P := P) (w := w) hf hm hle .slice3Acap
  obtain ⟨rh, hh'⟩ := sliceBound_run (P := P) (w := w) hf hh (Nat.le_refl m) .slice3B
  cases lo with
  | none =>
    simp only [Option.map_none, bound, Option.some.injEq] at hl
    subst hl
    refine ⟨?_, Nat.zero_le _, hh', hm'⟩
    have e : Instr.sliceBounds true len cap (Option.map a.eval none) (some (a.eval hi)) (some (a.eval mx)) = (do let m ← Instr.sliceBound (a.eval mx) cap .slice3Acap; let h ← Instr.sliceBound (a.eval hi) m .slice3B; pure (0, h, m)) := rfl
    rw [e, Sem.run_bind, rm]
    simp only [Result.andThen_ok]
    rw [Sem.run_bind, rh]
    rfl
  | some x =>
    obtain ⟨rl, hl'⟩ := sliceBound_run (P := P) (w := w) hf hl (Nat.le_refl h) .slice3C
    refine ⟨?_, hl', hh', hm'⟩
    have e : Instr.sliceBounds true len cap (Option.map a.eval (some x)) (some (a.eval hi)) (some (a.eval mx)) = (do let m ← Instr.sliceBound (a.eval mx) cap .slice3Acap; let h ← Instr.sliceBound (a.eval hi) m .slice3B; let l ← Instr.sliceBound (a.eval x) h .slice3C; pure (l, h, m)) := rfl
    rw [e, Sem.run_bind, rm]
    simp only [Result.andThen_ok]
    rw [Sem.run_bind, rh]
    simp only [Result.andThen_ok]
    rw [Sem.run_bind, rl]
    rfl

/-- What the machine hands out of a slice of a slice. -/
def cutAddr (ad : Option Addr) (l m size : Nat) : Option Addr := if m = l then ad else ad.map (·.add (l * size))

theorem sliceAt_run [Inhabited Val] {t e : TypeId} {i : TypeInfo} (hu : P.underlying t = some (.slice e)) (hinfo : P.info? e = some i) {ad : Option Addr} {len cap l h m : Nat} {lo hi mx : Option Value}
    (hb : (Instr.sliceBounds true len cap lo hi mx).run P w = .ok (l, h, m) w) :
    (Instr.sliceAt t (.slice ad len cap) lo hi mx).run P w = .ok (.slice (cutAddr ad l m i.size) (h - l) (m - l)) w := by
  simp only [Instr.sliceAt, Sem.run_bind, run_underlying hu, Result.andThen_ok, Instr.slice]
  rw [hb]
  simp only [Result.andThen_ok, run_sizeOf' hinfo, Sem.run_pure]
  rfl

theorem rows_cut [Inhabited Val] {t1 : Bool} {l : List (List AV)} {ad : Option Addr} {n sz : Nat} {val : Nat → Nat → Value} (hn : n = l.length)
    (hlen : ∀ r, r ∈ l → r.length = sz)
    (ha : l ≠ [] → ∃ b o, ad = some ⟨b, o, none⟩ ∧ ∀ i j, i < l.length → j < sz → imCell im b (o + i * sz + j) = some (val i j))
    (hv : ∀ i j, VRel (fun _ => none) im ((l.getD i []).getD j .bad) (val i j)) {lw h m size : Nat} (hle : lw ≤ h) (hh : h ≤ n) (hm : h ≤ m) (hs : l ≠ [] → size = sz) (ht : t1 = true → m = h) :
    VRel ρ im (.rows t1 ((l.take h).drop lw)) (.slice (cutAddr ad lw m size) (h - lw) (m - lw)) := by
  refine .rows t1 _ _ _ _ sz (fun i j => val (lw + i) j) ?_ (fun r hr => hlen r (List.mem_of_mem_take (List.mem_of_mem_drop hr))) (by omega) (fun e => by have := ht e; omega) (fun hne => ?_) (fun i j => ?_)
  · simp [List.length_drop, List.length_take]; omega
  · have hlt : lw < h := by
      rcases Nat.lt_or_ge lw h with h' | h'
      · exact h'
      · exact absurd (by apply List.eq_nil_of_length_eq_zero; simp; omega) hne
    have hl0 : l ≠ [] := fun e => by subst e; simp at hn; omega
    obtain ⟨b, o, e, hc⟩ := ha hl0
    refine ⟨b, o + lw * sz, ?_, fun i j hi hj => ?_⟩
    · have : ¬ m = lw := by omega
      simp [cutAddr, this, e, Addr.add_lit, hs hl0]
    · simp only [List.length_drop, List.length_take] at hi
      have := hc (lw + i) j (by omega) hj
      rw [Nat.add_mul] at this
      rw [show o + lw * sz + i * sz + j = o + (lw * sz + i * sz) + j from by omega]
      exact this
  · by_cases hi : lw + i < h
    · have e : ((l.take h).drop lw).getD i [] = l.getD (lw + i) [] := by
        simp [List.getD_eq_getElem?_getD, List.getElem?_take, hi]
      rw [e]
      exact hv (lw + i) j
    · have e : ((l.take h).drop lw).getD i [] = [] := by
        simp [List.getD_eq_getElem?_getD, List.getElem?_take, hi]
      rw [e]
      simpa using VRel.bad _

theorem osl_cut [Inhabited Val] {sz s off : Nat} {lo : Option Loc} {ad : Option Addr} {cap : Nat} (hρ : ρ s = some lo)
    (hc : 0 < cap → ∃ loc, lo = some loc ∧ ad = some ⟨loc.blk, loc.delta + off, none⟩ ∧ loc.delta + off + cap * sz ≤ loc.size) {l h m m' : Nat} (h1 : l ≤ h) (h2 : h ≤ m) (h3 : m ≤ m') (h4 : m' ≤ cap) :
    VRel ρ im (.osl sz s (off + l * sz) (h - l) (m - l)) (.slice (cutAddr ad l m' sz) (h - l) (m' - l)) := by
  refine .osl _ _ _ _ _ lo _ _ hρ (fun hp => ?_) (by omega) (by omega)
  obtain ⟨loc, e1, e2, e3⟩ := hc (by omega)
  refine ⟨loc, e1, ?_, ?_⟩
  · have : ¬ m' = l := by omega
    simp [cutAddr, this, e2, Addr.add_lit, Nat.add_assoc]
  · have : l * sz + (m' - l) * sz ≤ cap * sz := by rw [← Nat.add_mul]; exact Nat.mul_le_mul_right _ (by omega)
    omega

theorem slice_good [Inhabited Val] (tok : TOk P C) (hi : Inv B ρ im st w) (hf : FRel ρ im nt T a) {t : TypeId} {x : Operand} {lo hi' mx : Option Operand} (ho : o.op = .slice t x lo hi' mx) {ti : TI} (h1 : C.ty t = some ti)
    (h : sliceA C ti (ev T x) (lo.map (ev T)) (hi'.map (ev T)) (mx.map (ev T)) = some v) : Good P B ρ im st st.h new v ((execOp a.eval o).run P w) := by
  have hx := hf.ev x
  have tk := tok t ti h1
  have hsl : ∀ q, sliceOk C ti q = true → ∃ e te i, P.underlying t = some (.slice e) ∧ C.ty e = some te ∧ P.info? e = some i ∧ i.size = te.size ∧ (∀ n, q = some n → te.size = n) := fun q hq => by
    unfold sliceOk at hq
    split at hq
    · rename_i e hk
      split at hq
      · rename_i te hte
        obtain ⟨i, z, hinfo, hsize, _⟩ := (tok e te hte).info
        have hu : P.underlying t = some (.slice e) := by have k := tk.kind; unfold KindOk at k; simpa only [hk] using k
        refine ⟨e, te, i, hu, hte, hinfo, hsize, fun n hn => ?_⟩
        subst hn
        simpa using hq
      · cases hq
    · cases hq
  have fin : ∀ {rv : Value}, VRel ρ im v rv → (Instr.sliceAt t (a.eval x) (lo.map a.eval) (hi'.map a.eval) (mx.map a.eval)).run P w = .ok rv w → Good P B ρ im st st.h new v ((execOp a.eval o).run P w) := fun hv hr => by
    refine Good.plain hi hv ?_
    simp only [execOp, ho]
    rw [Sem.run_bind, hr]
    rfl
  unfold sliceA at h
  split at h
  · rename_i s e
    rw [e] at hx
    split at h
    · cases h
    · rename_i hc
      simp only [Bool.or_eq_true, not_or, Bool.not_eq_true, Option.isSome_eq_false_iff, Option.isNone_iff_eq_none, bne_eq_false_iff_eq] at hc
      obtain ⟨hmx, hk⟩ := hc
      have hmx' : mx = none := by cases mx <;> simp at hmx ⊢
      subst hmx'
      have hu : P.underlying t = some .string := by have k := tk.kind; unfold KindOk at k; simpa only [hk] using k
      split at h
      · cases h
      · rename_i hh hhe
        split at h
        · cases h
        · rename_i l hle
          simp only [Option.some.injEq] at h
          subst h
          obtain ⟨bs, e2, e3⟩ := of_str hx
          have hsz : bs.size = s.length := by rw [← e3]; simp
          obtain ⟨hr, hb1, hb2⟩ := bounds_none (P := P) (w := w) hf hhe hle (Nat.le_refl _) (Nat.le_refl _) false
          rw [e2] at fin
          refine fin (rv := .string (bs.extract l hh)) (.str _ _ ?_) ?_
          · rw [← e3]; simp [ByteArray.data_extract, Array.toList_extract, List.extract_eq_take_drop, List.drop_take]
          · simp only [Instr.sliceAt, Sem.run_bind, run_underlying hu, Result.andThen_ok, Instr.slice, Option.map_none, Option.isSome_none, Bool.false_eq_true, if_false, Sem.run_pure]
            rw [hsz, hr]
            rfl
  · rename_i tight l e
    rw [e] at hx
    split at h
    · cases h
    · rename_i hok
      simp only [Bool.not_eq_true', Bool.not_eq_false] at hok
      obtain ⟨el, te, i, hu, hte, hinfo, hsize, hq⟩ := hsl _ hok
      generalize hax : a.eval x = ax at hx
      rw [hax] at fin
      cases hx with
      | rows _ _ ad n cap sz val hn hlen hcap ht ha hv =>
        have hs : l ≠ [] → i.size = sz := fun hne => by
          cases l with
          | nil => exact absurd rfl hne
          | cons r l =>
            rw [hsize, hq r.length rfl]
            exact hlen r (by simp)
        cases mx with
        | none =>
          simp only [Option.map_none] at h fin
          split at h
          · cases h
          · rename_i hh hhe
            split at h
            · cases h
            · rename_i lw hle
              simp only [Option.some.injEq] at h
              subst h
              rw [← hn] at hhe
              obtain ⟨hr, hb1, hb2⟩ := bounds_none (P := P) (w := w) hf hhe hle hcap (Nat.le_refl _) true
              refine fin (rows_cut hn hlen ha hv hb1 hb2 (Nat.le_trans hb2 hcap) hs (fun e => ?_)) (sliceAt_run hu hinfo hr)
              simp only [Bool.and_eq_true, beq_iff_eq] at e
              have := ht e.1
              omega
        | some m =>
          simp only [Option.map_some] at h fin
          split at h
          · cases h
          · rename_i hhi
            cases hi' with
            | none => simp at hhi
            | some hi2 =>
              simp only [Option.map_some] at h fin
              split at h
              · cases h
              · rename_i mm hme
                split at h
                · cases h
                · rename_i hh hhe
                  split at h
                  · cases h
                  · rename_i lw hle
                    simp only [Option.some.injEq] at h
                    subst h
                    rw [← hn] at hme
                    obtain ⟨hr, hb1, hb2, hb3⟩ := bounds_max (P := P) (w := w) (len := n) hf hme hhe hle hcap
                    refine fin (rows_cut hn hlen ha hv hb1 (Nat.le_trans hb2 hb3) hb2 hs (fun e => ?_)) (sliceAt_run hu hinfo hr)
                    simp only [beq_iff_eq] at e
                    omega
  · rename_i sz s off len cp e
    rw [e] at hx
    split at h
    · cases h
    · rename_i hok
      simp only [Bool.not_eq_true', Bool.not_eq_false] at hok
      obtain ⟨el, te, i, hu, hte, hinfo, hsize, hq⟩ := hsl _ hok
      have hsz : i.size = sz := by rw [hsize]; exact hq sz rfl
      generalize hax : a.eval x = ax at hx
      rw [hax] at fin
      cases hx with
      | osl _ _ _ _ _ lo' ad cap hρ hc h2 h3 =>
        cases mx with
        | none =>
          simp only [Option.map_none, Option.isSome_none, Bool.false_eq_true, if_false] at h fin
          split at h
          · cases h
          · rename_i hh hhe
            split at h
            · cases h
            · rename_i lw hle
              simp only [Option.some.injEq] at h
              subst h
              obtain ⟨hr, hb1, hb2⟩ := bounds_none (P := P) (w := w) hf hhe hle h3 h2 true
              refine fin ?_ (sliceAt_run hu hinfo hr)
              rw [hsz]
              exact osl_cut hρ hc hb1 hb2 h3 (Nat.le_refl _)
        | some m =>
          simp only [Option.map_some, Option.isSome_some, if_true] at h fin
          split at h
          · cases h
          · rename_i hhi
            cases hi' with
            | none => simp at hhi
            | some hi2 =>
              simp only [Option.map_some] at h fin
              split at h
              · cases h
              · rename_i mm hme
                split at h
                · cases h
                · rename_i hh hhe
                  split at h
                  · cases h
                  · rename_i lw hle
                    simp only [Option.some.injEq] at h
                    subst h
                    obtain ⟨hr, hb1, hb2, hb3⟩ := bounds_max (P := P) (w := w) (len := len) hf hme hhe hle h3
                    refine fin ?_ (sliceAt_run hu hinfo hr)
                    rw [hsz]
                    exact osl_cut hρ hc hb1 hb2 (Nat.le_refl _) (Nat.le_trans hb3 h3)
  · cases h

end
end Go.Ab
