/- What a card reads of memory, as values of the plain interpreter, with the bounds that the bulk gives. -/
import Derived.Test.YtnmlmmakheckpaaGreatDoorAb10
import Derived.Test.YtnmlmmakheckpaaGreatDoorAb06
import Derived.ChangeArms
import Derived.ChangeShapes
import Derived.Test.YtnmlmmakheckpaaGreatDoorAb30
namespace Go.Ab
open Go Go.Proofs.YtnmlmmakheckpaaGreatDoor
open Go.Proofs.YtnmlmmakheckpaaGreatDoor.Rows (uptoBulk uptoBulkAll)

section
variable {H : Type} {enc : TypeId × Value → H} {P : Program} {w : World}

/-- What is read at type t is laid out by f, and is of no more than its bulk. -/
def Opens [Inhabited Val] (enc : TypeId × Value → H) (P : Program) (w : World) {α : Type} (t : TypeId) (f : α → List AV) (Bd : Nat → α → Prop) : Prop :=
  ∀ (fuel : Nat) (cs : List Value) (x : DataW H × List MemPlace), DataW.trod enc P w 0 (fun _ => true) true fuel t cs = some x → ∃ a : α, LRel (fun _ => none) (imAll w) (f a) cs ∧ Bd (uptoBulk x.1) a

theorem opens_str [Inhabited Val] {t : TypeId} (ht : P.underlying t = some .string) : Opens enc P w t (fun s : Str => [.str s]) (fun n s => s.length ≤ n) := fun fuel cs x h => by
  obtain ⟨s, rfl, rfl, hz⟩ := DataW.trod_string ht h
  exact ⟨s.data.toList, .cons (.str _ s rfl) (.nil _ _), by simp [uptoBulk]⟩

theorem opens_int [Inhabited Val] {t : TypeId} (ht : P.underlying t = some (.int .i64)) : Opens enc P w t (fun n : Int => [.int .i64 n]) (fun _ _ => True) := fun fuel cs x h => by
  obtain ⟨n, rfl, rfl, hz⟩ := DataW.trod_int ht h
  exact ⟨n, .cons (.int _ _) (.nil _ _), trivial⟩

theorem opens_bool [Inhabited Val] {t : TypeId} (ht : P.underlying t = some .bool) : Opens enc P w t (fun b : Bool => [.bool b]) (fun _ _ => True) := fun fuel cs x h => by
  obtain ⟨b, rfl, rfl⟩ := DataW.trod_bool ht h
  exact ⟨b, .cons (.bool _) (.nil _ _), trivial⟩

theorem cell_imAll {w : World} {b j : Nat} {v : Value} (h : w.cell? ⟨b, j, none⟩ = some v) : imCell (imAll w) b j = some v := by
  unfold World.cell? at h
  unfold imCell imAll
  cases hb : w.heap[b]? with
  | none => rw [hb] at h; simp at h
  | some o => rw [hb] at h; cases o <;> simp_all

theorem opens_slice [Inhabited Val] {α : Type} {t e : TypeId} {f : α → List AV} {Bd : Nat → α → Prop} {sz : Nat} (ht : P.underlying t = some (.slice e)) (hsz : P.cellsOf e = sz) (hpos : 0 < sz) (hf : ∀ a, (f a).length = sz)
    (hmono : ∀ n m a, n ≤ m → Bd n a → Bd m a) (ho : Opens enc P w e f Bd) : Opens enc P w t (fun l : List α => [.rows false (l.map f)]) (fun n l => l.length ≤ n ∧ ∀ a ∈ l, Bd n a) := fun fuel cs x h => by
  rcases DataW.trod_slice ht h with ⟨rfl, rfl⟩ | ⟨ad, len, cap, elems, rest, n, _, rfl, rfl, _, hlc, hcm, hel, hget, _⟩
  · exact ⟨[], .cons (.rows false [] none 0 0 0 (fun _ _ => default) rfl (by simp) (Nat.le_refl _) (by simp) (fun q => absurd rfl q) (fun i j => by simpa using VRel.bad _)) (.nil _ _), by simp, by simp⟩
  · have hrow : ∀ i, i < len → ∃ (a : α) (cs : List Value) (y : DataW H × List MemPlace), elems[i]? = some y ∧ cs.length = sz ∧ (∀ j, j < sz → w.cell? ((ad.add (i * sz)).add j) = cs[j]?) ∧ LRel (fun _ => none) (imAll w) (f a) cs ∧ Bd (uptoBulk y.1) a := fun i hi => by
      have h1 := hget i hi
      rw [List.getElem?_eq_getElem (by omega)] at h1
      simp only [Option.bind_eq_some_iff] at h1
      obtain ⟨cs, h2, h3⟩ := h1
      obtain ⟨_, h4, h5⟩ := World.cells?_some h2
      obtain ⟨a, h6, h7⟩ := ho _ _ _ h3
      rw [hsz] at h4 h5
      exact ⟨a, cs, _, List.getElem?_eq_getElem (by omega), h4, h5, h6, h7⟩
    have hbl : len ≤ uptoBulk (.slice (elems.map (·.1)) (rest.map (·.1))) := by
      have := bulks.slice_le (elems.map (·.1)) (rest.map (·.1))
      rw [List.length_map, hel] at this
      omega
    have hbe : ∀ y ∈ elems, uptoBulk y.1 ≤ uptoBulk (.slice (elems.map (·.1)) (rest.map (·.1))) := fun y hy => by
      have h1 := bulks.part_le (List.mem_map.2 ⟨y, hy, rfl⟩ : y.1 ∈ elems.map (·.1))
      have h2 := bulks.slice_elems (elems.map (·.1)) (rest.map (·.1))
      omega
    have hall : ∃ (l : List α) (val : Nat → Nat → Value), l.length = len ∧ ∀ i, i < len → ∃ a, l[i]? = some a ∧ Bd (uptoBulk (.slice (elems.map (·.1)) (rest.map (·.1)))) a ∧ (∀ j, j < sz → w.cell? ((ad.add (i * sz)).add j) = some (val i j)) ∧ ∀ j, VRel (fun _ => none) (imAll w) ((f a).getD j .bad) (val i j) := by
      refine ⟨(List.range len).pmap (fun i hi => (hrow i hi).choose) (fun i hi => List.mem_range.1 hi), fun i j => if hi : i < len then ((hrow i hi).choose_spec.choose.getD j Go.undef) else Go.undef, by simp, fun i hi => ?_⟩
      obtain ⟨y, h1, h2, h3, h4, h5⟩ := (hrow i hi).choose_spec.choose_spec
      refine ⟨(hrow i hi).choose, ?_, hmono _ _ _ (hbe y (List.mem_of_getElem? h1)) h5, fun j hj => ?_, fun j => ?_⟩
      · rw [List.getElem?_pmap]
        simp [List.getElem?_range hi]
      · rw [h3 j hj]
        dsimp only
        rw [dif_pos hi, List.getD_eq_getElem?_getD, List.getElem?_eq_getElem (by omega)]
        rfl
      · simp only [dif_pos hi]
        exact h4.2 j
    obtain ⟨l, val, hl, hv⟩ := hall
    refine ⟨l, .cons (.rows false (l.map f) (some ad) len cap sz val (by rw [List.length_map, hl]) (fun r hr => ?_) hlc (by simp) (fun hne => ?_) (fun i j => ?_)) (.nil _ _), by rw [hl]; exact hbl, fun a ha => ?_⟩
    · obtain ⟨a, _, rfl⟩ := List.mem_map.1 hr
      exact hf a
    · have hpl : 0 < len := by
        rcases Nat.eq_zero_or_pos len with h0 | h0
        · rw [h0] at hl
          rw [List.length_eq_zero_iff.1 hl] at hne
          exact absurd rfl hne
        · exact h0
      obtain ⟨a, _, _, h3, _⟩ := hv 0 hpl
      have h4 := h3 0 hpos
      obtain ⟨b, off, spot⟩ := ad
      have hspot : spot = none := by simpa [Addr.add] using World.cell?_spot h4
      subst hspot
      refine ⟨b, off, rfl, fun i j hi hj => cell_imAll ?_⟩
      rw [List.length_map, hl] at hi
      obtain ⟨_, _, _, h5, _⟩ := hv i hi
      have := h5 j hj
      rw [WideShapes.add_plain, WideShapes.add_plain] at this
      exact this
    · rcases Nat.lt_or_ge i len with hi | hi
      · obtain ⟨a, h1, _, _, h4⟩ := hv i hi
        rw [List.getD_eq_getElem?_getD (l := l.map f), List.getElem?_map, h1]
        exact h4 j
      · rw [List.getD_eq_getElem?_getD (l := l.map f), List.getElem?_eq_none (by simpa [hl] using hi)]
        simpa using VRel.bad _
    · obtain ⟨i, hi, rfl⟩ := List.getElem_of_mem ha
      obtain ⟨a, h1, h2, _⟩ := hv i (by omega)
      rw [List.getElem?_eq_getElem hi] at h1
      simp only [Option.some.injEq] at h1
      rw [h1]; exact h2

/-- The fields of a struct from a place on: type, place, size. -/
def OpensF [Inhabited Val] (enc : TypeId × Value → H) (P : Program) (w : World) {α : Type} (off : Nat) (fs : List (Nat × Nat × Nat)) (f : α → List AV) (Bd : Nat → α → Prop) : Prop :=
  ∀ (fuel : Nat) (cs : List Value) (xs : List (DataW H × List MemPlace)), cs.length = off + (fs.map fun f => f.2.2).sum → xs.length = fs.length →
    (∀ (i : Nat) (f : Nat × Nat × Nat), fs[i]? = some f → DataW.trod enc P w 0 (fun _ => true) true fuel f.1 ((cs.drop f.2.1).take f.2.2) = xs[i]?) →
    ∃ a : α, LRel (fun _ => none) (imAll w) (f a) (cs.drop off) ∧ Bd (uptoBulkAll (xs.map (·.1))) a

theorem opensF_nil [Inhabited Val] {off : Nat} : OpensF enc P w off [] (fun _ : Unit => []) (fun _ _ => True) := fun fuel cs xs hl _ _ => by
  refine ⟨(), ?_, trivial⟩
  rw [List.drop_of_length_le (by simp at hl; omega)]
  exact .nil _ _

theorem opensF_cons [Inhabited Val] {α β : Type} {off n t : Nat} {fs : List (Nat × Nat × Nat)} {f : α → List AV} {g : β → List AV} {Bf : Nat → α → Prop} {Bg : Nat → β → Prop}
    (hf : ∀ n m a, n ≤ m → Bf n a → Bf m a) (hg : ∀ n m a, n ≤ m → Bg n a → Bg m a)
    (h1 : Opens enc P w t f Bf) (h2 : OpensF enc P w (off + n) fs g Bg) : OpensF enc P w off ((t, off, n) :: fs) (fun a : α × β => f a.1 ++ g a.2) (fun n a => Bf n a.1 ∧ Bg n a.2) := fun fuel cs xs hl hx hget => by
  cases xs with
  | nil => simp at hx
  | cons x xs =>
    have h0 := hget 0 (t, off, n) rfl
    rw [List.getElem?_cons_zero] at h0
    obtain ⟨a, ha, hba⟩ := h1 _ _ _ h0
    simp only [List.map_cons, List.sum_cons] at hl
    obtain ⟨b, hb, hbb⟩ := h2 fuel cs xs (by omega) (by simpa using hx) (fun i f hi => by
      have := hget (i + 1) f (by rw [List.getElem?_cons_succ]; exact hi)
      rwa [List.getElem?_cons_succ] at this)
    refine ⟨(a, b), ?_, hf _ _ _ ?_ hba, hg _ _ _ ?_ hbb⟩
    · have e : cs.drop off = (cs.drop off).take n ++ cs.drop (off + n) := by rw [← List.drop_drop, List.take_append_drop]
      rw [e]
      exact ha.append hb
    · simp only [List.map_cons, uptoBulkAll]; omega
    · simp only [List.map_cons, uptoBulkAll]; omega

/-- A struct's type is laid out so. -/
def structB (P : Program) (t : TypeId) (sig : List (Nat × Nat × Nat)) : Bool :=
  match P.underlying t with
  | some (.struct fs) => (fs.toList.map fun f => (f.type, f.offset, P.cellsOf f.type)) == sig && P.cellsOf t == (sig.map fun f => f.2.2).sum
  | _ => false

theorem opens_struct [Inhabited Val] {α : Type} {t : TypeId} {sig : List (Nat × Nat × Nat)} {f : α → List AV} {Bd : Nat → α → Prop} (hs : structB P t sig = true)
    (hmono : ∀ n m a, n ≤ m → Bd n a → Bd m a) (h : OpensF enc P w 0 sig f Bd) : Opens enc P w t f Bd := fun fuel cs x hx => by
  unfold structB at hs
  split at hs
  · rename_i fs ht
    simp only [Bool.and_eq_true, beq_iff_eq] at hs
    obtain ⟨hs1, hs2⟩ := hs
    obtain ⟨xs, n, _, rfl, hl, hxl, hget⟩ := DataW.trod_struct ht hx
    obtain ⟨a, ha, hb⟩ := h n cs xs (by rw [hl, hs2, Nat.zero_add]) (by rw [← hs1, List.length_map, hxl]; simp) (fun i f hi => by
      rw [← hs1, List.getElem?_map] at hi
      obtain ⟨fd, h1, rfl⟩ := Option.map_eq_some_iff.1 hi
      exact hget i fd (by simpa using h1))
    rw [List.drop_zero] at ha
    exact ⟨a, ha, hmono _ _ _ (by simp [uptoBulk]) hb⟩
  · cases hs

theorem Opens.map [Inhabited Val] {α β : Type} {t : TypeId} {f : α → List AV} {Bd : Nat → α → Prop} (h : Opens enc P w t f Bd) (g : α → β) {f' : β → List AV} {Bd' : Nat → β → Prop} (h1 : ∀ a, f' (g a) = f a) (h2 : ∀ n a, Bd n a → Bd' n (g a)) : Opens enc P w t f' Bd' := fun fuel cs x hx => by
  obtain ⟨a, ha, hb⟩ := h fuel cs x hx
  exact ⟨g a, by rw [h1]; exact ha, h2 _ _ hb⟩
end
end Go.Ab
