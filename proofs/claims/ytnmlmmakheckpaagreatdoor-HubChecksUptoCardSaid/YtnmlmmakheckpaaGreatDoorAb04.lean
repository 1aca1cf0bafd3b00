/- More operations: those that only reckon. -/
import Derived.Test.YtnmlmmakheckpaaGreatDoorAb03
import Derived.Lib.Strings
namespace Go.Ab
open Go

section
variable {P : Program} {C : Cfg} {B : Base} {ρ : Rho} {im : Im} {st : St} {nt : Nat} {T : List AV} {a : Act} {w : World} {new : Nat} {v : AV} {o : Oper}

theorem of_int [Inhabited Val] {x : Value} {k : IntKind} {n : Int} (h : VRel ρ im (.int k n) x) : x = .int k n := by cases h; rfl
theorem of_bool [Inhabited Val] {x : Value} {b : Bool} (h : VRel ρ im (.bool b) x) : x = .bool b := by cases h; rfl
theorem of_str [Inhabited Val] {x : Value} {l : List UInt8} (h : VRel ρ im (.str l) x) : ∃ s : ByteArray, x = .string s ∧ s.data.toList = l := by
  cases h with
  | str l s h => exact ⟨s, rfl, h⟩

theorem move_good [Inhabited Val] (hi : Inv B ρ im st w) (hf : FRel ρ im nt T a) {x : Operand} (ho : o.op = .move x ∨ o.op = .assign x) : Good P B ρ im st st.h new (ev T x) ((execOp a.eval o).run P w) := by
  refine Good.plain hi (hf.ev x) ?_
  rcases ho with ho | ho <;> simp [execOp, ho]

theorem pick_good [Inhabited Val] (hi : Inv B ρ im st w) (hf : FRel ρ im nt T a) {c x y : Operand} {b : Bool} (ho : o.op = .pick c x y) (hc : ev T c = .bool b) :
    Good P B ρ im st st.h new (if b then ev T x else ev T y) ((execOp a.eval o).run P w) := by
  have h := hf.ev c
  rw [hc] at h
  refine Good.plain (rv := if b then a.eval x else a.eval y) hi ?_ ?_
  · cases b
    · exact hf.ev y
    · exact hf.ev x
  · simp only [execOp, ho, of_bool h]
    simp [asBool]

theorem intOp_run [Inhabited Val] {op : BinOp} {k : IntKind} {x y : Int} {v : AV} (h : intOp op k x y = some v) (t : TypeId) (w : World) :
    ∃ rv, (binOp op t (.int k x) (.int k y)).run P w = .ok rv w ∧ VRel ρ im v rv := by
  cases op <;> simp only [intOp] at h
  case quo =>
    split at h
    · cases h
    · rename_i hy
      simp only [Option.some.injEq] at h; subst h
      exact ⟨_, by simp [binOp, Op.intDiv, hy], .int _ _⟩
  case rem =>
    split at h
    · cases h
    · rename_i hy
      simp only [Option.some.injEq] at h; subst h
      exact ⟨_, by simp [binOp, Op.intDiv, hy], .int _ _⟩
  all_goals first
    | (simp only [Option.some.injEq] at h; subst h; exact ⟨_, by simp [binOp, Op.intArith, Op.intCmp]; rfl, by constructor⟩)
    | cases h

theorem strOp_run [Inhabited Val] {op : BinOp} {s t : ByteArray} {v : AV} (h : strOp op s.data.toList t.data.toList = some v) (ty : TypeId) (w : World) :
    ∃ rv, (binOp op ty (.string s) (.string t)).run P w = .ok rv w ∧ VRel ρ im v rv := by
  have e1 : s.toList = s.data.toList := Go.Lib.toList_data s
  have e2 : t.toList = t.data.toList := Go.Lib.toList_data t
  cases op <;> simp only [strOp] at h
  case add =>
    split at h
    · rename_i hle
      simp only [Option.some.injEq] at h; subst h
      refine ⟨.string (s ++ t), ?_, .str _ _ (by simp)⟩
      have hle' : ¬ (9223372036854775807 < ((s.size : Int) + (t.size : Int))) := by
        simp only [Array.length_toList, ByteArray.size_data] at hle
        omega
      simp [binOp, Op.stringOp, hle']
    · cases h
  all_goals first
    | (simp only [Option.some.injEq] at h; subst h; exact ⟨_, by simp only [binOp, Op.stringOp, e1, e2, Sem.run_pure]; rfl, by constructor⟩)
    | cases h

theorem binA_run [Inhabited Val] {op : BinOp} {x y v : AV} (h : binA op x y = some v) {rx ry : Value} (hx : VRel ρ im x rx) (hy : VRel ρ im y ry) (t : TypeId) (w : World) (ox oy : Operand) :
    ∃ rv, (do eqGuard op t ox oy rx ry; binOp op t rx ry : Sem Value).run P w = .ok rv w ∧ VRel ρ im v rv := by
  unfold binA at h
  split at h
  · rename_i k m k' n
    obtain rfl := of_int hx
    obtain rfl := of_int hy
    split at h
    · unfold shiftOp at h
      split at h
      · cases h
      · rename_i hn
        simp only [Option.some.injEq] at h; subst h
        refine ⟨_, ?_, .int _ _⟩
        simp [eqGuard, binOp, Op.shift, hn]
    · unfold shiftOp at h
      split at h
      · cases h
      · rename_i hn
        simp only [Option.some.injEq] at h; subst h
        refine ⟨_, ?_, .int _ _⟩
        simp [eqGuard, binOp, Op.shift, hn]
    · split at h
      · rename_i hk
        subst hk
        obtain ⟨rv, hr, hv⟩ := intOp_run (P := P) (ρ := ρ) (im := im) h t w
        exact ⟨rv, by simp only [eqGuard_at_int]; simpa using hr, hv⟩
      · cases h
  · obtain ⟨s, rfl, e1⟩ := of_str hx
    obtain ⟨s', rfl, e2⟩ := of_str hy
    rw [← e1, ← e2] at h
    obtain ⟨rv, hr, hv⟩ := strOp_run (P := P) (ρ := ρ) (im := im) h t w
    exact ⟨rv, by simp only [eqGuard_at_string]; simpa using hr, hv⟩
  · cases h

theorem equal_of {t : TypeId} {x y : Value} {r : Result Bool} {w : World} (h : ∀ d, (Op.equalIn (d + 1) t x y).run P w = r) : (Op.equal t x y).run P w = r := h 9999

/-- Which values are no numbers and no texts on both sides. -/
theorem eqOp_run [Inhabited Val] (tok : TOk P C) (hf : FRel ρ im nt T a) {t : TypeId} {x y : Operand} {b : Bool} (h : eqOp C T t x y = some b) (w : World) (op : BinOp) (hop : op = .eql ∨ op = .neq) :
    (do eqGuard op t x y (a.eval x) (a.eval y); binOp op t (a.eval x) (a.eval y) : Sem Value).run P w = .ok (.bool (if op = .eql then b else !b)) w := by
  have key : ∀ (g : (eqGuard op t x y (a.eval x) (a.eval y)).run P w = .ok () w) (q : (Op.equal t (a.eval x) (a.eval y)).run P w = .ok b w)
      (n : ∀ k m k' m', ¬ (a.eval x = .int k m ∧ a.eval y = .int k' m')) (n2 : ∀ s s', ¬ (a.eval x = .string s ∧ a.eval y = .string s'))
      (n3 : ∀ k m k' m', ¬ (a.eval x = .float k m ∧ a.eval y = .float k' m')) (n4 : ∀ k m m1 k' m' m2, ¬ (a.eval x = .complex k m m1 ∧ a.eval y = .complex k' m' m2)),
      (do eqGuard op t x y (a.eval x) (a.eval y); binOp op t (a.eval x) (a.eval y) : Sem Value).run P w = .ok (.bool (if op = .eql then b else !b)) w := by
    intro g q n n2 n3 n4
    simp only [Sem.run_bind, g, Result.andThen_ok]
    generalize a.eval x = rx at *
    generalize a.eval y = ry at *
    rcases hop with rfl | rfl
    · unfold binOp
      split <;> first
        | contradiction
        | (exact absurd ⟨rfl, rfl⟩ (n _ _ _ _))
        | (exact absurd ⟨rfl, rfl⟩ (n2 _ _))
        | (exact absurd ⟨rfl, rfl⟩ (n3 _ _ _ _))
        | (exact absurd ⟨rfl, rfl⟩ (n4 _ _ _ _ _ _))
        | (simp [q]; done)
        | simp_all
    · unfold binOp
      split <;> first
        | contradiction
        | (exact absurd ⟨rfl, rfl⟩ (n _ _ _ _))
        | (exact absurd ⟨rfl, rfl⟩ (n2 _ _))
        | (exact absurd ⟨rfl, rfl⟩ (n3 _ _ _ _))
        | (exact absurd ⟨rfl, rfl⟩ (n4 _ _ _ _ _ _))
        | (simp [q]; done)
        | simp_all
  have hx := hf.ev x
  have hy := hf.ev y
  unfold eqOp at h
  split at h
  · cases h
  · rename_i ti hti
    have tk := tok t ti hti
    split at h
    · rename_i hnil
      split at h
      · rename_i hs
        simp only [Option.some.injEq] at h
        subst h
        simp only [Bool.and_eq_true] at hs
        obtain ⟨hs1, hs2⟩ := hs
        obtain ⟨e, hu⟩ : ∃ e, P.underlying t = some (.slice e) := by
          have k := tk.kind
          unfold KindOk at k
          unfold TI.isSlice at hs1
          cases hk : ti.kind <;> simp only [hk] at k hs1 <;> first | exact ⟨_, k⟩ | cases hs1
        have hy' : a.eval y = .slice none 0 0 := by
          unfold isNilConst at hnil
          split at hnil
          · rfl
          · cases hnil
        obtain ⟨ad, n, c, hx'⟩ : ∃ ad n c, a.eval x = .slice (some ad) n c := by
          unfold surelySome at hs2
          split at hs2
          · rename_i t' r l he
            rw [he] at hx
            generalize a.eval x = rx at hx
            cases hx with
            | rows _ _ ad n cap sz val hn hlen hcap ht ha hv =>
              obtain ⟨b, o, e, _⟩ := ha (by simp)
              exact ⟨_, _, _, by rw [e]⟩
          · rename_i sz s off k cp he
            rw [he] at hx
            generalize a.eval x = rx at hx
            cases hx with
            | osl _ _ _ _ _ lo ad cap hr hc h2 h3 =>
              obtain ⟨loc, _, e, _⟩ := hc (by omega)
              exact ⟨_, _, _, by rw [e]⟩
          · cases hs2
        refine key (by rw [hx']; simp [eqGuard_at_slice]) ?_ (by rw [hx']; simp) (by rw [hx']; simp) (by rw [hx']; simp) (by rw [hx']; simp)
        rw [hx', hy']
        exact equal_of fun d => by simp [Op.equalIn, run_underlying hu]
      · cases h
    · unfold eqAV at h
      split at h
      · rename_i xs ys e1 e2
        split at h
        · rename_i hfl
          rw [e1] at hx
          rw [e2] at hy
          obtain ⟨vs, hvx, hl1⟩ := hx.of_agg
          obtain ⟨us, hvy, hl2⟩ := hy.of_agg
          simp only [Bool.and_eq_true] at hfl
          obtain ⟨⟨hfl, hn1⟩, hn2⟩ := hfl
          obtain ⟨q, g⟩ := tk.flat hfl
          refine key ?_ ?_ (by rw [hvx]; simp) (by rw [hvx]; simp) (by rw [hvx]; simp) (by rw [hvx]; simp)
          · rw [hvx, hvy]
            rcases hop with rfl | rfl <;> simp [eqGuard, g]
          · rw [hvx, hvy]
            exact q w vs us b ρ im xs ys hn1 hn2 hl1 hl2 h
        · cases h
      · rename_i b1 b2 e1 e2
        split at h
        · rename_i hk
          simp only [Option.some.injEq] at h
          subst h
          rw [e1] at hx
          rw [e2] at hy
          have hu : P.underlying t = some .bool := by have k := tk.kind; unfold KindOk at k; simpa only [hk] using k
          have hvx := of_bool hx
          have hvy := of_bool hy
          refine key (by rw [hvx]; simp [eqGuard_at_bool]) ?_ (by rw [hvx]; simp) (by rw [hvx]; simp) (by rw [hvx]; simp) (by rw [hvx]; simp)
          rw [hvx, hvy]
          exact equal_of fun d => by simp [Op.equalIn, run_underlying hu]
        · cases h
      · rename_i e1 e2
        split at h
        · rename_i hk
          obtain ⟨hk, hcst⟩ := hk
          simp only [Option.some.injEq] at h
          subst h
          rw [e1] at hx
          rw [e2] at hy
          obtain ⟨ms, hu⟩ : ∃ ms, P.underlying t = some (.interface ms) := by have k := tk.kind; unfold KindOk at k; simpa only [hk] using k
          have hvx : a.eval x = .nilIface := by generalize a.eval x = rx at hx; cases hx; rfl
          have hvy : a.eval y = .nilIface := by generalize a.eval y = rx at hy; cases hy; rfl
          refine key ?_ ?_ (by rw [hvx]; simp) (by rw [hvx]; simp) (by rw [hvx]; simp) (by rw [hvx]; simp)
          · rw [hvx, hvy]
            simp only [isConstOp, Bool.or_eq_true] at hcst
            rcases hcst with hcst | hcst
            · cases x <;> simp at hcst
              simp [eqGuard_nil_constL]
            · cases y <;> simp at hcst
              simp [eqGuard_nil_constR]
          · rw [hvx, hvy]
            exact equal_of fun d => by simp [Op.equalIn, run_underlying hu]
        · cases h
      · rename_i tt vv e1 e2
        split at h
        · rename_i hk
          simp only [Option.some.injEq] at h
          subst h
          rw [e1] at hx
          rw [e2] at hy
          obtain ⟨ms, hu⟩ : ∃ ms, P.underlying t = some (.interface ms) := by have k := tk.kind; unfold KindOk at k; simpa only [hk] using k
          have hvx : a.eval x = .nilIface := by generalize a.eval x = rx at hx; cases hx; rfl
          obtain ⟨x', hvy⟩ : ∃ x', a.eval y = .iface tt x' := by generalize a.eval y = rx at hy; cases hy; exact ⟨_, rfl⟩
          refine key (by rw [hvx, hvy]; simp [eqGuard_nil_iface]) ?_ (by rw [hvx]; simp) (by rw [hvx]; simp) (by rw [hvx]; simp) (by rw [hvx]; simp)
          rw [hvx, hvy]
          exact equal_of fun d => by simp [Op.equalIn, run_underlying hu]
        · cases h
      · rename_i tt vv e1 e2
        split at h
        · rename_i hk
          simp only [Option.some.injEq] at h
          subst h
          rw [e1] at hx
          rw [e2] at hy
          obtain ⟨ms, hu⟩ : ∃ ms, P.underlying t = some (.interface ms) := by have k := tk.kind; unfold KindOk at k; simpa only [hk] using k
          have hvy : a.eval y = .nilIface := by generalize a.eval y = rx at hy; cases hy; rfl
          obtain ⟨x', hvx⟩ : ∃ x', a.eval x = .iface tt x' := by generalize a.eval x = rx at hx; cases hx; exact ⟨_, rfl⟩
          refine key (by rw [hvx, hvy]; simp [eqGuard_at_iface]) ?_ (by rw [hvx]; simp) (by rw [hvx]; simp) (by rw [hvx]; simp) (by rw [hvx]; simp)
          rw [hvx, hvy]
          exact equal_of fun d => by simp [Op.equalIn, run_underlying hu]
        · cases h
      · rename_i e1 e2
        split at h
        · rename_i hk
          simp only [Option.some.injEq] at h
          subst h
          rw [e1] at hx
          rw [e2] at hy
          obtain ⟨e, hu⟩ : ∃ e, P.underlying t = some (.pointer e) := by
            have k := tk.kind
            unfold KindOk at k
            unfold TI.isPtr at hk
            cases hq : ti.kind <;> simp only [hq] at k hk <;> first | exact ⟨_, k⟩ | cases hk
          have hvx : a.eval x = .pointer none := by generalize a.eval x = rx at hx; cases hx; rfl
          have hvy : a.eval y = .pointer none := by generalize a.eval y = rx at hy; cases hy; rfl
          refine key (by rw [hvx]; simp [eqGuard_at_pointer]) ?_ (by rw [hvx]; simp) (by rw [hvx]; simp) (by rw [hvx]; simp) (by rw [hvx]; simp)
          rw [hvx, hvy]
          exact equal_of fun d => by simp [Op.equalIn, run_underlying hu]
        · cases h
      · rename_i s off e1 e2
        split at h
        · rename_i hk
          simp only [Option.some.injEq] at h
          subst h
          rw [e1] at hx
          rw [e2] at hy
          obtain ⟨e, hu⟩ : ∃ e, P.underlying t = some (.pointer e) := by
            have k := tk.kind
            unfold KindOk at k
            unfold TI.isPtr at hk
            cases hq : ti.kind <;> simp only [hq] at k hk <;> first | exact ⟨_, k⟩ | cases hk
          have hvx : a.eval x = .pointer none := by generalize a.eval x = rx at hx; cases hx; rfl
          obtain ⟨ad, hvy⟩ : ∃ ad, a.eval y = .pointer (some ad) := by generalize a.eval y = rx at hy; cases hy; exact ⟨_, rfl⟩
          refine key (by rw [hvx]; simp [eqGuard_at_pointer]) ?_ (by rw [hvx]; simp) (by rw [hvx]; simp) (by rw [hvx]; simp) (by rw [hvx]; simp)
          rw [hvx, hvy]
          exact equal_of fun d => by simp [Op.equalIn, run_underlying hu]
        · cases h
      · rename_i s off e1 e2
        split at h
        · rename_i hk
          simp only [Option.some.injEq] at h
          subst h
          rw [e1] at hx
          rw [e2] at hy
          obtain ⟨e, hu⟩ : ∃ e, P.underlying t = some (.pointer e) := by
            have k := tk.kind
            unfold KindOk at k
            unfold TI.isPtr at hk
            cases hq : ti.kind <;> simp only [hq] at k hk <;> first | exact ⟨_, k⟩ | cases hk
          have hvy : a.eval y = .pointer none := by generalize a.eval y = rx at hy; cases hy; rfl
          obtain ⟨ad, hvx⟩ : ∃ ad, a.eval x = .pointer (some ad) := by generalize a.eval x = rx at hx; cases hx; exact ⟨_, rfl⟩
          refine key (by rw [hvx]; simp [eqGuard_at_pointer]) ?_ (by rw [hvx]; simp) (by rw [hvx]; simp) (by rw [hvx]; simp) (by rw [hvx]; simp)
          rw [hvx, hvy]
          exact equal_of fun d => by simp [Op.equalIn, run_underlying hu]
        · cases h
      · cases h

/-- The facts on unknown numbers are true. -/
def FactsOk [Inhabited Val] (C : Cfg) : Prop := ∀ o v n b, (o, v, n, b) ∈ C.facts → intOp o .i64 ((default : Val).σ v) n = some (.bool b)

theorem sameOp_eq {a b : BinOp} (h : sameOp a b = true) : a = b := by
  unfold sameOp at h
  split at h <;> first | rfl | cases h

theorem findFact_mem [Inhabited Val] {op : BinOp} {v : Nat} {n : Int} {b : Bool} : ∀ {l : List (BinOp × Nat × Int × Bool)}, findFact op v n l = some b → (op, v, n, b) ∈ l
  | [], h => by simp [findFact] at h
  | (o, u, m, c) :: r, h => by
    simp only [findFact] at h
    split at h
    · rename_i e
      simp only [Bool.and_eq_true, decide_eq_true_eq] at e
      obtain ⟨⟨e1, e2⟩, e3⟩ := e
      simp only [Option.some.injEq] at h
      have e2' := Nat.eq_of_beq_eq_true e2
      have e1' := sameOp_eq e1
      subst e1' e2' e3 h
      simp
    · exact List.mem_cons_of_mem _ (findFact_mem h)

theorem sym_bin [Inhabited Val] (fok : FactsOk C) {op : BinOp} {X Y u : AV} {rx ry : Value} (h : symA C.facts op X Y = some u) (hx : VRel ρ im X rx) (hy : VRel ρ im Y ry) : ∃ X' Y', binA op X' Y' = some u ∧ VRel ρ im X' rx ∧ VRel ρ im Y' ry := by
  unfold symA at h
  split at h
  · rename_i v n
    obtain ⟨b, hb, rfl⟩ := Option.map_eq_some_iff.1 h
    have hm := findFact_mem hb
    have hf := fok _ _ _ _ hm
    refine ⟨.int .i64 ((default : Val).σ v), .int .i64 n, ?_, ?_, hy⟩
    · unfold intOp at hf
      cases op <;> simp only [binA, intOp, if_true] at hf ⊢ <;> first | exact hf | cases hf
    · cases hx; exact .int _ _
  · rename_i k v k' u'
    split at h
    · rename_i e
      obtain ⟨rfl, rfl⟩ := e
      refine ⟨.int k ((default : Val).σ v), .int k ((default : Val).σ v), ?_, ?_, ?_⟩
      · cases op <;> simp only at h <;> cases h <;> simp [binA, intOp]
      · cases hx; exact .int _ _
      · cases hy; exact .int _ _
    · cases h
  · cases h

theorem bin_good [Inhabited Val] (tok : TOk P C) (fok : FactsOk C) (hi : Inv B ρ im st w) (hf : FRel ρ im nt T a) {op : BinOp} {t yt : TypeId} {x y : Operand} (ho : o.op = .binOp op t x y yt) (h : binP C T op t x y = some v) :
    Good P B ρ im st st.h new v ((execOp a.eval o).run P w) := by
  unfold binP at h
  split at h
  · rename_i u hb
    simp only [Option.some.injEq] at h
    subst h
    obtain ⟨X', Y', hb', hx', hy'⟩ : ∃ X' Y', binA op X' Y' = some u ∧ VRel ρ im X' (a.eval x) ∧ VRel ρ im Y' (a.eval y) := by
      cases hA : binA op (ev T x) (ev T y) with
      | some u' =>
        rw [hA] at hb
        simp only [Option.or, Option.some.injEq] at hb
        subst hb
        exact ⟨_, _, hA, hf.ev x, hf.ev y⟩
      | none =>
        rw [hA] at hb
        simp only [Option.or] at hb
        exact sym_bin fok hb (hf.ev x) (hf.ev y)
    obtain ⟨rv, hr, hv⟩ := binA_run (P := P) hb' hx' hy' t w x y
    refine Good.plain hi hv ?_
    simp only [execOp, ho]
    rw [Sem.run_bind, hr]
    rfl
  · split at h
    · obtain ⟨b, hb, rfl⟩ := Option.map_eq_some_iff.1 h
      refine Good.plain (rv := .bool b) hi (.bool _) ?_
      have hr := eqOp_run tok hf hb w .eql (.inl rfl)
      simp only [execOp, ho]
      rw [Sem.run_bind, hr]
      rfl
    · obtain ⟨b, hb, rfl⟩ := Option.map_eq_some_iff.1 h
      refine Good.plain (rv := .bool !b) hi (.bool _) ?_
      have hr := eqOp_run tok hf hb w .neq (.inr rfl)
      simp only [execOp, ho]
      rw [Sem.run_bind, hr]
      rfl
    · cases h

theorem un_good [Inhabited Val] (hi : Inv B ρ im st w) (hf : FRel ρ im nt T a) {op : UnOp} {t : TypeId} {x : Operand} (ho : o.op = .unOp op t x) (h : unA op (ev T x) = some v) :
    Good P B ρ im st st.h new v ((execOp a.eval o).run P w) := by
  have hx := hf.ev x
  unfold unA at h
  split at h
  · rename_i b e
    rw [e] at hx
    simp only [Option.some.injEq] at h; subst h
    refine Good.plain (rv := .bool !b) hi (.bool _) ?_
    simp [execOp, ho, of_bool hx, Op.unary]
  · rename_i k n e
    rw [e] at hx
    simp only [Option.some.injEq] at h; subst h
    refine Good.plain (rv := .int k (k.wrap (0 - n))) hi (.int _ _) ?_
    simp [execOp, ho, of_int hx, Op.unary, Op.intArith]
  · cases h

theorem TyOk.und' [Inhabited Val] {P : Program} {t : Nat} {ti : TI} (h : TyOk P t ti) : ∃ d, P.underlying t = some d := let ⟨d, h, _⟩ := h.und; ⟨d, h⟩

theorem convert_good [Inhabited Val] (tok : TOk P C) (hi : Inv B ρ im st w) (hf : FRel ρ im nt T a) {src dst : TypeId} {x : Operand} (ho : o.op = .convert src dst x) {tis ti : TI} (h1 : C.ty src = some tis) (h2 : C.ty dst = some ti)
    {k0 k : IntKind} {n : Int} (hx : ev T x = .int k0 n) (hk : ti.kind = .int k) : Good P B ρ im st st.h new (.int k (k.wrap n)) ((execOp a.eval o).run P w) := by
  have he := hf.ev x
  rw [hx] at he
  obtain ⟨d, hd⟩ := (tok _ _ h1).und'
  have hu : P.underlying dst = some (.int k) := by have q := (tok _ _ h2).kind; unfold KindOk at q; simpa only [hk] using q
  refine Good.plain (rv := .int k (k.wrap n)) hi (.int _ _) ?_
  simp [execOp, ho, of_int he, convert, run_underlying hd, run_underlying hu, Conv.intToInt]

theorem nilCheck_good [Inhabited Val] (hi : Inv B ρ im st w) (hf : FRel ρ im nt T a) {x : Operand} (ho : o.op = .nilCheck x) (h : (∃ s k, ev T x = .ptr s k) ∨ (∃ cs k, ev T x = .iptr cs k)) :
    Good P B ρ im st st.h new (ev T x) ((execOp a.eval o).run P w) := by
  have hx := hf.ev x
  refine Good.plain (rv := a.eval x) hi hx ?_
  have : ∃ ad, a.eval x = .pointer (some ad) := by
    generalize a.eval x = rx at hx
    rcases h with ⟨s, k, e⟩ | ⟨cs, k, e⟩ <;> rw [e] at hx <;> cases hx <;> exact ⟨_, rfl⟩
  obtain ⟨ad, e⟩ := this
  simp [execOp, ho, e]

theorem mkiface_good [Inhabited Val] (tok : TOk P C) (hi : Inv B ρ im st w) (hf : FRel ρ im nt T a) {t : TypeId} {x : Operand} (ho : o.op = .makeInterface t x) {ti : TI} (h1 : C.ty t = some ti) (hk : ti.kind ≠ .iface)
    (hn : ti.kind ≠ .other) : Good P B ρ im st st.h new (.iface t (ev T x)) ((execOp a.eval o).run P w) := by
  refine Good.plain (rv := .iface t (a.eval x)) hi (.iface _ _ _ (hf.ev x)) ?_
  obtain ⟨d, hd, hni⟩ : ∃ d, P.underlying t = some d ∧ ∀ ms, d ≠ .interface ms := by
    have q := (tok _ _ h1).kind
    unfold KindOk at q
    cases hq : ti.kind <;> simp only [hq] at q
    case struct => obtain ⟨fs, q, _⟩ := q; exact ⟨_, q, by simp⟩
    case func => obtain ⟨_, _, _, q⟩ := q; exact ⟨_, q, by simp⟩
    case iface => exact absurd hq hk
    case other => exact absurd hq hn
    all_goals exact ⟨_, q, by simp⟩
  simp only [execOp, ho, Instr.makeInterface, Sem.run_bind, run_underlying hd, Result.andThen_ok]
  cases d <;> simp at hni <;> rfl

theorem lrel_map [Inhabited Val] (hf : FRel ρ im nt T a) (xs : List Operand) : LRel ρ im (xs.map (ev T)) (xs.map a.eval) := by
  induction xs with
  | nil => exact .nil _ _
  | cons x xs ih => exact ih.cons (hf.ev x)

theorem makeFunc_good [Inhabited Val] (hi : Inv B ρ im st w) (hf : FRel ρ im nt T a) {f : Nat} {first captured : Array Operand} (ho : o.op = .makeFunc (.func f) first captured) :
    Good P B ρ im st st.h new (.func f (first.toList.map (ev T)) (captured.toList.map (ev T))) ((execOp a.eval o).run P w) := by
  have l1 := lrel_map hf first.toList
  have l2 := lrel_map hf captured.toList
  refine Good.plain (rv := .func (.func f) (first.map a.eval) (captured.map a.eval)) hi ?_ ?_
  · refine .func f _ _ _ _ (by simp) (fun i => ?_) (by simp) (fun i => ?_)
    · have := l1.2 i
      simpa [Array.getD_eq_getD_getElem?, List.getD_eq_getElem?_getD] using this
    · have := l2.2 i
      simpa [Array.getD_eq_getD_getElem?, List.getD_eq_getElem?_getD] using this
  · simp [execOp, ho, Instr.makeFunc]

theorem extract_good [Inhabited Val] (hi : Inv B ρ im st w) (hf : FRel ρ im nt T a) {x : Operand} {i : Nat} (ho : o.op = .extract x i) {vs : List AV} (hx : ev T x = .tuple vs) (hv : vs[i]? = some v) :
    Good P B ρ im st st.h new v ((execOp a.eval o).run P w) := by
  have he := hf.ev x
  rw [hx] at he
  obtain ⟨us, e, hl⟩ := he.of_tuple
  obtain ⟨u, hu, hvu⟩ := hl.get hv
  refine Good.plain hi hvu ?_
  simp only [Array.getElem?_toList] at hu
  simp [execOp, ho, e, Instr.extract, hu]

theorem fieldAddr_good [Inhabited Val] (tok : TOk P C) (hi : Inv B ρ im st w) (hf : FRel ρ im nt T a) {t : TypeId} {x : Operand} {f : Nat} (ho : o.op = .fieldAddr t x f) {ti : TI} (h1 : C.ty t = some ti) (hk : ti.kind = .struct)
    {fo : Nat × Nat × Bool} (hfo : ti.fields[f]? = some fo) (hz : fo.2.1 ≠ 0) (h : (∃ s k, ev T x = .ptr s k ∧ v = .ptr s (k + fo.1)) ∨ (∃ cs k, ev T x = .iptr cs k ∧ v = .iptr cs (k + fo.1))) :
    Good P B ρ im st st.h new v ((execOp a.eval o).run P w) := by
  have q := (tok _ _ h1).kind
  unfold KindOk at q
  simp only [hk] at q
  obtain ⟨fs, hu, hsz, hall⟩ := q
  have hlt : f < fs.size := by
    rw [hsz]
    rcases Nat.lt_or_ge f ti.fields.length with h' | h'
    · exact h'
    · simp [List.getElem?_eq_none h'] at hfo
  obtain ⟨hoff, ⟨fi, hinfo, hfs⟩, _⟩ := hall f fs[f] fo (by simp [hlt]) hfo
  have hx := hf.ev x
  rcases h with ⟨s, k, e, rfl⟩ | ⟨cs, k, e, rfl⟩
  · rw [e] at hx
    generalize hax : a.eval x = ax at hx
    cases hx with
    | ptr s k loc hr =>
      refine Good.plain (rv := .pointer (some ⟨loc.blk, loc.delta + (k + fo.1), none⟩)) hi (.ptr _ _ _ hr) ?_
      simp [execOp, ho, hax, Instr.fieldAt, run_underlying hu, hlt, Instr.sureAddr, fieldPlace, run_sizeOf' hinfo, hfs, hz, Addr.add_lit, hoff, Nat.add_assoc]
  · rw [e] at hx
    generalize hax : a.eval x = ax at hx
    cases hx with
    | iptr cs k b q val hc hv =>
      refine Good.plain (rv := .pointer (some ⟨b, q + (k + fo.1), none⟩)) hi (.iptr _ _ _ _ val hc hv) ?_
      simp [execOp, ho, hax, Instr.fieldAt, run_underlying hu, hlt, Instr.sureAddr, fieldPlace, run_sizeOf' hinfo, hfs, hz, Addr.add_lit, hoff, Nat.add_assoc]

theorem field_good [Inhabited Val] (tok : TOk P C) (hi : Inv B ρ im st w) (hf : FRel ρ im nt T a) {t : TypeId} {x : Operand} {f : Nat} (ho : o.op = .field t x f) {ti : TI} (h1 : C.ty t = some ti) (hk : ti.kind = .struct)
    {fo : Nat × Nat × Bool} (hfo : ti.fields[f]? = some fo) {cs : List AV} (hx : ev T x = .agg cs) (hp : part cs fo.1 fo.2.1 fo.2.2 = some v) :
    Good P B ρ im st st.h new v ((execOp a.eval o).run P w) := by
  have q := (tok _ _ h1).kind
  unfold KindOk at q
  simp only [hk] at q
  obtain ⟨fs, hu, hsz, hall⟩ := q
  have hlt : f < fs.size := by
    rw [hsz]
    rcases Nat.lt_or_ge f ti.fields.length with h' | h'
    · exact h'
    · simp [List.getElem?_eq_none h'] at hfo
  obtain ⟨hoff, ⟨fi, hinfo, hfs⟩, d, hd, hagg⟩ := hall f fs[f] fo (by simp [hlt]) hfo
  have he := hf.ev x
  rw [hx] at he
  obtain ⟨us, e, hl⟩ := he.of_agg
  unfold part at hp
  split at hp
  · rename_i hag
    split at hp
    · rename_i hle
      simp only [Option.some.injEq] at hp
      subst hp
      refine Good.plain (rv := .agg (us.extract fo.1 (fo.1 + fo.2.1))) hi (VRel.agg' ?_) ?_
      · have := lrel_part hl fo.1 fo.2.1
        simpa [Array.toList_extract, List.extract_eq_take_drop] using this
      · simp [execOp, ho, e, Instr.field, run_underlying hu, hlt, asAgg, Go.part, run_isAgg hd, hagg, hag, run_sizeOf' hinfo, hfs, hoff]
    · cases hp
  · rename_i hag
    obtain ⟨u, hu', hvu⟩ := hl.get hp
    refine Good.plain hi hvu ?_
    simp only [Array.getElem?_toList] at hu'
    have hag' : fo.2.2 = false := by simpa using hag
    simp [execOp, ho, e, Instr.field, run_underlying hu, hlt, asAgg, Go.part, run_isAgg hd, hagg, hag', hoff, hu']

end
end Go.Ab
