/- More operations: lists, stores, maps. -/
import Derived.Test.YtneaijbbcbicnaaGreatDoorAbOps4
namespace Go.Ab
open Go

section
variable {P : Program} {C : Cfg} {B : Base} {ρ : Rho} {im : Im} {st : St} {nt : Nat} {T : List AV} {a : Act} {w : World} {new : Nat} {v : AV} {o : Oper}

theorem store_good [Inhabited Val] (tok : TOk P C) (hi : Inv B ρ im st w) (hf : FRel ρ im nt T a) {t : TypeId} {x y : Operand} (ho : o.op = .store t x y) {ti : TI} (h1 : C.ty t = some ti) {s off : Nat} (hx : ev T x = .ptr s off) (hbar : st.bar ≤ s)
    {cs cs' : List AV} (hg : hget st.h s = some (.cells cs)) (hlen : (ev T y).cells.length = ti.size) (hone : (ev T y).cells.all AV.one = true) (hp : putCells cs off (ev T y).cells = some cs') :
    Good P B ρ im st (hputs st.h [(s, .cells cs')]) new .undef ((execOp a.eval o).run P w) := by
  obtain ⟨i, z, hinfo, hsize, _⟩ := (tok t ti h1).info
  have hex := hf.ev x
  rw [hx] at hex
  generalize hax : a.eval x = ax at hex
  cases hex with
  | ptr _ _ loc hr =>
    have hl := (hf.ev y).cells (one_not_bad hone)
    have h1c : ∀ u ∈ (a.eval y).cells.toList, u.oneCell' = true := fun u hu => by
      obtain ⟨j, hj⟩ := List.getElem?_of_mem hu
      have hlt : j < (ev T y).cells.length := by
        rw [← hl.1]
        exact (List.getElem?_eq_some_iff.1 hj).1
      have hv := hl.2 j
      rw [List.getD_eq_getElem?_getD, List.getD_eq_getElem?_getD, hj, List.getElem?_eq_getElem hlt] at hv
      exact vrel_not_bad hv (List.all_eq_true.1 hone _ (List.getElem_mem hlt))
    obtain ⟨w', hrun, hinv⟩ := turn_cells (P := P) hi hg hr (by rw [← hi.bar]; exact hbar) hp hl h1c
    refine ⟨_, w', ρ, .inr ⟨?_, rfl⟩, .undef, hinv, rhoExt_refl _, fun _ _ => rfl⟩
    have hsz : (a.eval y).cells.size = i.size := by have := hl.1; simp only [Array.length_toList] at this; omega
    simp [execOp, ho, hax, Instr.storeAt, Instr.sureAddr, storeVar, run_sizeOf' hinfo, hsz, hrun]

theorem indexAddr_good [Inhabited Val] (tok : TOk P C) (hi : Inv B ρ im st w) (hf : FRel ρ im nt T a) {t e : TypeId} {x y : Operand} (ho : o.op = .indexAddr t x y) {ti te : TI} (h1 : C.ty t = some ti) (hk : ti.kind = .slice e) (h2 : C.ty e = some te)
    {k : IntKind} {n : Int} (hy : ev T y = .int k n)
    (h : (∃ tg l r, ev T x = .rows tg l ∧ 0 ≤ n ∧ n < (l.length : Int) ∧ l[n.toNat]? = some r ∧ r.length = te.size ∧ te.size ≠ 0 ∧ v = .iptr r 0) ∨
         (∃ sz s off len cp, ev T x = .osl sz s off len cp ∧ 0 ≤ n ∧ n < (len : Int) ∧ sz = te.size ∧ v = .ptr s (off + n.toNat * sz))) :
    Good P B ρ im st st.h new v ((execOp a.eval o).run P w) := by
  obtain ⟨i, z, hinfo, hsize, _⟩ := (tok e te h2).info
  have hu : P.underlying t = some (.slice e) := by have q := (tok t ti h1).kind; unfold KindOk at q; simpa only [hk] using q
  have hey := hf.ev y
  rw [hy] at hey
  have hvy := of_int hey
  have hex := hf.ev x
  rcases h with ⟨tg, l, r, hx, h0, hn, hr, hrl, hz, rfl⟩ | ⟨sz, s, off, len, cp, hx, h0, hn, hsz, rfl⟩
  · rw [hx] at hex
    generalize hax : a.eval x = ax at hex
    cases hex with
    | rows _ _ ad m cap sz val hm hlen hcap ht ha hv =>
      have hne : l ≠ [] := fun e => by subst e; simp at hr
      obtain ⟨b, q, e1, hc⟩ := ha hne
      have hrsz : r.length = sz := hlen r (List.mem_of_getElem? hr)
      have hlt : n.toNat < l.length := (List.getElem?_eq_some_iff.1 hr).1
      refine Good.plain (rv := .pointer (some ⟨b, q + n.toNat * sz + 0, none⟩)) hi (.iptr r 0 b (q + n.toNat * sz) (fun j => val n.toNat j) (fun j hj => hc _ _ hlt (by omega)) (fun j => ?_)) ?_
      · have := (hv n.toNat j).up (ρ := ρ)
        simpa [List.getD_eq_getElem?_getD, hr] using this
      · have hn' : n < (m : Int) := by omega
        have hs2 : i.size = sz := by omega
        simp [execOp, ho, hax, hvy, Instr.indexAt, asIntOf, run_underlying hu, e1, h0, hn', run_sizeOf' hinfo, hs2, Addr.add_lit]
  · rw [hx] at hex
    generalize hax : a.eval x = ax at hex
    cases hex with
    | osl _ _ _ _ _ lo ad cap hρ hc h2 h3 =>
      obtain ⟨loc, e1, e2, e3⟩ := hc (by omega)
      subst e1
      refine Good.plain (rv := .pointer (some ⟨loc.blk, loc.delta + (off + n.toNat * sz), none⟩)) hi (.ptr _ _ loc hρ) ?_
      have hs2 : i.size = sz := by omega
      simp [execOp, ho, hax, hvy, Instr.indexAt, asIntOf, run_underlying hu, e2, h0, hn, run_sizeOf' hinfo, hs2, Addr.add_lit, Nat.add_assoc]

theorem index_good [Inhabited Val] (tok : TOk P C) (hi : Inv B ρ im st w) (hf : FRel ρ im nt T a) {t : TypeId} {x y : Operand} (ho : o.op = .index t x y) {ti : TI} (h1 : C.ty t = some ti) (hk : ti.kind = .str)
    {l : List UInt8} (hx : ev T x = .str l) {k : IntKind} {n : Int} (hy : ev T y = .int k n) (h0 : 0 ≤ n) {b : UInt8} (hb : l[n.toNat]? = some b) : Good P B ρ im st st.h new (.int .u8 b.toNat) ((execOp a.eval o).run P w) := by
  have hu : P.underlying t = some .string := by have q := (tok t ti h1).kind; unfold KindOk at q; simpa only [hk] using q
  have hey := hf.ev y
  rw [hy] at hey
  have hvy := of_int hey
  have hex := hf.ev x
  rw [hx] at hex
  obtain ⟨s, e, hs⟩ := of_str hex
  refine Good.plain (rv := .int .u8 b.toNat) hi (.int _ _) ?_
  have hsb : s[n.toNat]? = some b := by
    have hlt : n.toNat < l.length := (List.getElem?_eq_some_iff.1 hb).1
    have hlt' : n.toNat < s.size := by rw [← hs] at hlt; simpa using hlt
    rw [← hs] at hb
    simp only [Array.getElem?_toList] at hb
    have e1 : s[n.toNat]? = some (s[n.toNat]'hlt') := by simp [hlt']
    rw [e1]
    have e2 : s.data[n.toNat]? = some (s.data[n.toNat]'(by simpa using hlt')) := by simp
    rw [e2] at hb
    simp only [Option.some.injEq] at hb ⊢
    exact hb
  simp [execOp, ho, e, hvy, Instr.index, asIntOf, run_underlying hu, h0, hsb]

theorem len_run [Inhabited Val] {h : Heap} (hi : Inv B ρ im st w) (hh : ∀ s o, hget h s = some o → hget st.h s = some o) {t : TypeId} {ti : TI} (tk : TyOk P t ti) {x : AV} {rx : Value} (hx : VRel ρ im x rx) {n : Nat} (hn : lenA ti h x = some n) (ty : TypeId) :
    (Builtin.len_ #[t] ty #[rx]).run P w = .ok (.int .i64 n) w := by
  have q := tk.kind
  unfold KindOk at q
  unfold lenA at hn
  split at hn
  · rename_i s
    split at hn
    · rename_i hk
      simp only [hk] at q
      simp only [Option.some.injEq] at hn
      obtain ⟨bs, rfl, e⟩ := of_str hx
      have : bs.size = n := by rw [← hn, ← e]; simp
      simp [Builtin.len_, run_underlying q, goInt, this]
    · cases hn
  · rename_i tg l
    split at hn
    · rename_i e hk
      simp only [hk] at q
      simp only [Option.some.injEq] at hn
      cases hx with
      | rows _ _ ad m cap sz val hm hlen hcap ht ha hv =>
        simp [Builtin.len_, run_underlying q, goInt]
        omega
    · cases hn
  · rename_i sz s off len cp
    split at hn
    · rename_i e hk
      simp only [hk] at q
      simp only [Option.some.injEq] at hn
      cases hx with
      | osl _ _ _ _ _ lo ad cap hρ hc h2 h3 =>
        simp [Builtin.len_, run_underlying q, goInt]
        omega
    · cases hn
  · split at hn
    · rename_i k e hk
      simp only [hk] at q
      simp only [Option.some.injEq] at hn
      subst hn
      cases hx
      simp [Builtin.len_, run_underlying q, goInt]
    · cases hn
  · rename_i s
    split at hn
    · rename_i k e hk
      simp only [hk] at q
      split at hn
      · rename_i es hg
        simp only [Option.some.injEq] at hn
        cases hx with
        | map _ loc hρ =>
          obtain ⟨loc', hr', _, ents, clock, hw, hke, _⟩ := hi.obj s _ (hh s _ hg)
          rw [hρ] at hr'
          simp only [Option.some.injEq] at hr'
          subst hr'
          have hsz : ents.size = n := by have := hke.1; simp at this; omega
          simp [Builtin.len_, run_underlying q, goInt, getObj, Sem.run, hw, hsz]
      · cases hn
    · cases hn
  · cases hn

theorem len_good [Inhabited Val] (tok : TOk P C) (hi : Inv B ρ im st w) (hf : FRel ρ im nt T a) {h : Heap} (hh : ∀ s o, hget h s = some o → hget st.h s = some o) {args : Array Operand} {ats : Array TypeId} (ho : o.op = .call { callee := .builtin .len, args, argTypes := ats })
    {x : Operand} (hargs : args.toList = [x]) {t : TypeId} (hat : ats.toList = [t]) {ti : TI} (h1 : C.ty t = some ti) {n : Nat} (hn : lenA ti h (ev T x) = some n) : Good P B ρ im st st.h new (.int .i64 n) ((execOp a.eval o).run P w) := by
  obtain rfl : args = #[x] := by rw [← hargs]
  obtain rfl : ats = #[t] := by rw [← hat]
  refine Good.plain (rv := .int .i64 n) hi (.int _ _) ?_
  have hr := len_run (P := P) hi hh (tok t ti h1) (hf.ev x) hn o.type
  simp only [execOp, ho, resolve, Sem.run_bind, Sem.run_pure, Result.andThen_ok, invoke, builtin]
  simp only [List.map_toArray, List.map_cons, List.map_nil]
  rw [hr]
  rfl

theorem min_good [Inhabited Val] (hi : Inv B ρ im st w) (hf : FRel ρ im nt T a) {args : Array Operand} {ats : Array TypeId} (ho : o.op = .call { callee := .builtin .min, args, argTypes := ats })
    {n m : Int} (hargs : args.toList.map (ev T) = [.int .i64 n, .int .i64 m]) : Good P B ρ im st st.h new (.int .i64 (if m < n then m else n)) ((execOp a.eval o).run P w) := by
  obtain ⟨l⟩ := args
  cases l with
  | nil => simp at hargs
  | cons x l => cases l with
    | nil => simp at hargs
    | cons y l => cases l with
      | cons _ _ => simp at hargs
      | nil =>
        simp only [List.map_cons, List.map_nil, List.cons.injEq, and_true] at hargs
        have h1 := hf.ev x
        have h2 := hf.ev y
        rw [hargs.1] at h1
        rw [hargs.2] at h2
        refine Good.plain (rv := .int .i64 (if m < n then m else n)) hi (.int _ _) ?_
        simp [execOp, ho, resolve, invoke, builtin, of_int h1, of_int h2, Builtin.min_, Builtin.min2]

theorem max_good [Inhabited Val] (hi : Inv B ρ im st w) (hf : FRel ρ im nt T a) {args : Array Operand} {ats : Array TypeId} (ho : o.op = .call { callee := .builtin .max, args, argTypes := ats })
    {n m : Int} (hargs : args.toList.map (ev T) = [.int .i64 n, .int .i64 m]) : Good P B ρ im st st.h new (.int .i64 (if m > n then m else n)) ((execOp a.eval o).run P w) := by
  obtain ⟨l⟩ := args
  cases l with
  | nil => simp at hargs
  | cons x l => cases l with
    | nil => simp at hargs
    | cons y l => cases l with
      | cons _ _ => simp at hargs
      | nil =>
        simp only [List.map_cons, List.map_nil, List.cons.injEq, and_true] at hargs
        have h1 := hf.ev x
        have h2 := hf.ev y
        rw [hargs.1] at h1
        rw [hargs.2] at h2
        refine Good.plain (rv := .int .i64 (if m > n then m else n)) hi (.int _ _) ?_
        simp [execOp, ho, resolve, invoke, builtin, of_int h1, of_int h2, Builtin.max_, Builtin.max2]

end
end Go.Ab
