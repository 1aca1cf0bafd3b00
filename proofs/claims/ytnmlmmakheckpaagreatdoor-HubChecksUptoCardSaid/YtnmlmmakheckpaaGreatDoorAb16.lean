/- path.check, walked: the range over strings.SplitSeq. -/
import Derived.RangeFuncNested
import Derived.RangeFuncBound
import Derived.RangeFuncCalls
import Derived.RangeFuncLeaves
import Derived.RangeFuncBox
import Derived.Shelf.Abstract
import Derived.Shelf.RegionOpen
import Derived.WalkKit
import Derived.OwnWalkIn
import Derived.TacticsInMore
import Derived.LoopNIn
import Derived.LoopIn
import Derived.Test.YtnmlmmakheckpaaGreatDoorChecked
import Derived.Test.YtnmlmmakheckpaaGreatDoorAb15
import Derived.Test.YtnmlmmakheckpaaGreatDoorAb13
import Derived.Test.YtnmlmmakheckpaaGreatDoorAb09
namespace Go.Ab.Seat
open Go Go.Proofs Go.RowKit Go.Shelf
set_option linter.unusedSimpArgs false
set_option linter.unusedVariables false

/-- How the world stands between two rounds: the loop's record, the rest of the path, the answer's cell; nothing else that lay in W0 has turned. -/
structure AtW (W0 : World) (l r bs : Nat) (lo : Obj) (rest : ByteArray) (rv : Value) (W : World) : Prop where
  loop : W.heap[l]? = some lo
  s : Boxed W bs 9 (.string rest)
  res : Boxed W r 30 rv
  os : W.os = W0.os
  tape : W.tape = W0.tape
  output : W.output = W0.output
  size : W0.heap.size ≤ W.heap.size
  fr : ∀ k, k < W0.heap.size → k ≠ l → k ≠ bs → k ≠ r → W.heap[k]? = W0.heap[k]?

section
variable {W0 W W' : World} {l r bs : Nat} {lo : Obj} {rest : ByteArray} {rv : Value}
theorem lt_of_heap {W : World} {k : Nat} {o : Obj} (h : W.heap[k]? = some o) : k < W.heap.size := (Array.getElem?_eq_some_iff.1 h).1

theorem AtW.grown (h : AtW W0 l r bs lo rest rv W) (hg : W.grownBy W' none) : AtW W0 l r bs lo rest rv W' :=
  ⟨(hg.block l (lt_of_heap h.loop) (by simp)).trans h.loop, h.s.kept hg (by simp), h.res.kept hg (by simp), hg.os.trans h.os, hg.tape.trans h.tape, hg.output.trans h.output, Nat.le_trans h.size hg.size,
    fun k hk h1 h2 h3 => (hg.block k (Nat.lt_of_lt_of_le hk h.size) (by simp)).trans (h.fr k hk h1 h2 h3)⟩

theorem AtW.setLoop (h : AtW W0 l r bs lo rest rv W) (h1 : l ≠ bs) (h2 : l ≠ r) (lo' : Obj) : AtW W0 l r bs lo' rest rv (W.putObj l lo') :=
  ⟨World.putObj_heap_same (lt_of_heap h.loop), (World.putObj_heap_other (Ne.symm h1)).trans h.s, (World.putObj_heap_other (Ne.symm h2)).trans h.res, h.os, h.tape, h.output, by rw [World.putObj_size]; exact h.size,
    fun k hk e1 e2 e3 => (World.putObj_heap_other e1).trans (h.fr k hk e1 e2 e3)⟩

theorem AtW.setS (h : AtW W0 l r bs lo rest rv W) (h1 : l ≠ bs) (h2 : bs ≠ r) (s' : ByteArray) : AtW W0 l r bs lo s' rv (W.setCell ⟨bs, 0, none⟩ (.string s')) :=
  ⟨(Below.heap_setCell W _ _ l h1).trans h.loop, h.s.set _, (Below.heap_setCell W _ _ r (Ne.symm h2)).trans h.res, h.os, h.tape, h.output, Nat.le_trans h.size (KeepsWalks.setCell W _ _).size,
    fun k hk e1 e2 e3 => (Below.heap_setCell W _ _ k e2).trans (h.fr k hk e1 e2 e3)⟩

theorem AtW.setR (h : AtW W0 l r bs lo rest rv W) (h1 : l ≠ r) (h2 : bs ≠ r) (v : Value) : AtW W0 l r bs lo rest v (W.setCell ⟨r, 0, none⟩ v) :=
  ⟨(Below.heap_setCell W _ _ l h1).trans h.loop, (Below.heap_setCell W _ _ bs h2).trans h.s, h.res.set _, h.os, h.tape, h.output, Nat.le_trans h.size (KeepsWalks.setCell W _ _).size,
    fun k hk e1 e2 e3 => (Below.heap_setCell W _ _ k e3).trans (h.fr k hk e1 e2 e3)⟩
end

/-- What a round answers. -/
def RoundW (W0 : World) (l r bs : Nat) (lo lx : Obj) (rest : ByteArray) (rv rx : Value) (b : Bool) (e : Ending) (W' : World) : Prop :=
  e = .returned (.bool b) ∧ if b = true then AtW W0 l r bs lo rest rv W' else AtW W0 l r bs lx rest rx W'

/-- What the iterator leaves. -/
def ItPost (W0 : World) (l r bs : Nat) (lo lx : Obj) (rv rx : Value) (b : Bool) (e : Ending) (W' : World) : Prop :=
  (∃ v, e = .returned v) ∧ ∃ rest, if b = true then AtW W0 l r bs lo rest rv W' else AtW W0 l r bs lx rest rx W'

theorem bsz (s : ByteArray) : s.data.toList.length = s.size := by rw [Array.length_toList]; rfl
theorem ext_drop (s : ByteArray) (i : Nat) : (s.extract i s.size).data.toList = s.data.toList.drop i := by
  rw [ByteArray.data_extract, Array.toList_extract, List.extract_eq_take_drop, ← bsz s]
  exact List.take_of_length_le (by rw [List.length_drop]; exact Nat.le_refl _)
theorem wrap64_small {i : Nat} (h : i ≤ 1099511627777) : wrap64 (i : Int) = (i : Int) := by unfold wrap64; omega

set_option maxHeartbeats 4000000 in
set_option maxRecDepth 100000 in
theorem it_walk [Inhabited Val] (n : Nat) (hn1 : 1 ≤ n) (l r bs bsep bsave : Nat) (W0 : World) (lo lx : Obj) (rv rx : Value) (hsep : Boxed W0 bsep 9 (.string Sl)) (hsave : Boxed W0 bsave 3 (.int .i64 0))
    (d1 : bsep ≠ l) (d2 : bsep ≠ bs) (d3 : bsep ≠ r) (d4 : bsave ≠ l) (d5 : bsave ≠ bs) (d6 : bsave ≠ r) (d7 : l ≠ bs) (d8 : l ≠ r) (d9 : bs ≠ r)
    (hround : ∀ (x rest : ByteArray) (W : World), AtW W0 l r bs lo rest rv W → YieldAt Fence.wide (n - 1) Tryz.prog l #[.string x] W (RoundW W0 l r bs lo lx rest rv rx (isName x.data.toList)))
    (rest0 : ByteArray) (hsz : rest0.size ≤ 1099511627776) (W : World) (hW : AtW W0 l r bs lo rest0 rv W) :
    CallsIn Fence.wide n Tryz.prog 163 #[.func (.yield l) #[] #[], .pointer (some ⟨bsep, 0, none⟩), .pointer (some ⟨bs, 0, none⟩), .pointer (some ⟨bsave, 0, none⟩)] W (ItPost W0 l r bs lo lx rv rx ((names rest0.data.toList).all isName)) := by
  refine callsIn_of_wp Tryz.func163 rfl trivial ?_ rfl
  simp only [Tryz.ntmps163, List.size_toArray, List.length_cons, List.length_nil, Nat.reduceAdd, Nat.reduceSub, Array.replicate_succ, Array.replicate_zero, List.push_toArray, List.append_toArray, List.nil_append, List.cons_append]
  have hsep' : ∀ {W : World} {lo rest rv}, AtW W0 l r bs lo rest rv W → W.cell? ⟨bsep, 0, none⟩ = some (.string Sl) := fun h =>
    Boxed.cell ((h.fr bsep hsep.lt d1 d2 d3).trans hsep : Boxed _ bsep 9 _)
  have hsave' : ∀ {W : World} {lo rest rv}, AtW W0 l r bs lo rest rv W → W.cell? ⟨bsave, 0, none⟩ = some (.int .i64 0) := fun h =>
    Boxed.cell ((h.fr bsave hsave.lt d4 d5 d6).trans hsave : Boxed _ bsave 3 _)
  have g1 := hsep' hW
  gi_wp2
  gi_loopw [] (fun W => ∃ rest : ByteArray, AtW W0 l r bs lo rest rv W ∧ (names rest0.data.toList).all isName = (names rest.data.toList).all isName ∧ rest.size ≤ 1099511627776) (fun W => match W.cell? ⟨bs, 0, none⟩ with | some (.string s) => s.size | _ => 0)
  · exact ⟨rest0, hW, rfl, hsz⟩
  · obtain ⟨rest, hA, hn, hrs⟩ := hrel
    have g1 := hsep' hA
    have g2 := hA.s.cell
    gi_wp2_with (refine ⟨trivial, ?_⟩; gi_at_call 162; refine (callsIn_wide.2 (index_ok _ _)).mono ?_)
    rintro e w' ⟨rfl, hg⟩
    have hA' := hA.grown hg
    have k1 := hsep' hA'
    have k2 := hA'.s.cell
    have k2f := hA'.s.frozen
    have k3 := hsave' hA'
    have hsl := bsz rest
    rcases names_next rest.data.toList with ⟨hi, hnm⟩ | ⟨i, hi, hil, hnm⟩
    · rw [hi]
      obtain ⟨fn, tmps, assign, body, hy, hR⟩ := hround rest rest w' hA'
      gi_wp2
      refine hR.mono ?_
      rintro e W2 ⟨rfl, hb⟩
      gi_wp2
      go_end0
      have hn' : (names rest0.data.toList).all isName = isName rest.data.toList := by rw [hn, hnm]; simp
      exact ⟨⟨_, rfl⟩, rest, by rw [hn']; exact hb⟩
    · rw [hi]
      rw [hsl] at hil
      have hw1 : wrap64 (i : Int) = (i : Int) := wrap64_small (by omega)
      have hw2 : wrap64 ((i : Int) + 1) = (i : Int) + 1 := by rw [show (i : Int) + 1 = ((i + 1 : Nat) : Int) by omega]; exact wrap64_small (by omega)
      obtain ⟨fn, tmps, assign, body, hy, hR⟩ := hround (rest.extract 0 i) rest w' hA'
      gi_wp2
      have hx : (rest.extract 0 i).data.toList = rest.data.toList.take i := by simp
      have hall : (names rest0.data.toList).all isName = (isName (rest.extract 0 i).data.toList && (names (rest.data.toList.drop (i + 1))).all isName) := by rw [hn, hnm, hx]; rfl
      refine hR.mono ?_
      rintro e W2 ⟨rfl, hb⟩
      cases hnb : isName (rest.extract 0 i).data.toList with
      | false =>
        rw [hnb] at hb hall
        simp only [Bool.false_eq_true, if_false] at hb
        rw [Bool.false_and] at hall
        gi_wp2
        go_end0
        exact ⟨⟨_, rfl⟩, rest, by rw [hall]; exact hb⟩
      | true =>
        rw [hnb] at hb hall
        simp only [if_true] at hb
        rw [Bool.true_and] at hall
        have q1 := hsep' hb
        have q2 := hb.s.cell
        have q2f := hb.s.frozen
        gi_wp2
        have hS := hb.setS d7 d9 (rest.extract (i + 1) rest.size)
        have hx2 : (rest.extract (i + 1) rest.size).data.toList = rest.data.toList.drop (i + 1) := ext_drop _ _
        have hz : (rest.extract (i + 1) rest.size).size < rest.size := by rw [ByteArray.size_extract]; omega
        rw [hS.s.cell, g2]
        exact ⟨⟨_, hS, by rw [hall, hx2], by omega⟩, hz⟩
end Go.Ab.Seat
/- path.check, walked: the loop over the paths. -/
namespace Go.Ab.Seat
open Go Go.Proofs Go.RowKit Go.Shelf
set_option linter.unusedSimpArgs false
set_option linter.unusedVariables false

abbrev markD (D : Nat) : Deferred := { target := .collected D, args := #[] }

theorem leaveM {F : Fence} {n : Nat} {P : Program} {fn : Func} {tmps : Array Value} {R : Ending → World → Prop} : ∀ (Ds : List Nat) (W : World), Ds.Nodup → (∀ D ∈ Ds, W.heap[D]? = some (.deferred (some []))) →
    (∀ W' : World, W'.os = W.os → W'.tape = W.tape → W'.output = W.output → W'.heap.size = W.heap.size → (∀ k, k ∉ Ds → W'.heap[k]? = W.heap[k]?) → LeavesIn F n P fn tmps R [] .returning W') → LeavesInM F n P fn tmps R (Ds.map markD) .returning W
  | [], W, _, _, h => h W rfl rfl rfl rfl fun _ _ => rfl
  | D :: Ds, W, hnd, hD, h => by
    obtain ⟨hn1, hn2⟩ := List.nodup_cons.1 hnd
    refine ⟨by simp, .inl ⟨D, _, rfl, run_takeDeferred (hD D (by simp)), ?_⟩⟩
    refine leaveM Ds _ hn2 (fun D' hD' => (World.putObj_heap_other (fun e => hn1 (by rw [← e]; exact hD'))).trans (hD D' (by simp [hD']))) fun W' h1 h2 h3 h4 h5 => ?_
    refine h W' h1 h2 h3 (h4.trans World.putObj_size) fun k hk => ?_
    rw [List.mem_cons, not_or] at hk
    exact (h5 k hk.2).trans (World.putObj_heap_other hk.1)

/-- Between two paths. -/
structure Out (w : World) (Ds : List Nat) (rv : Value) (W : World) : Prop where
  below : Below w.heap.size w W
  res : Boxed W w.heap.size 30 rv
  nd : Ds.Nodup
  gt : ∀ D ∈ Ds, w.heap.size < D
  marks : ∀ D ∈ Ds, W.heap[D]? = some (.deferred (some []))

theorem Out.grown {w W W' : World} {Ds : List Nat} {rv : Value} (h : Out w Ds rv W) (hg : W.grownBy W' none) : Out w Ds rv W' :=
  ⟨h.below.grown hg h.below.size (fun k e => by cases e), h.res.kept hg (by simp), h.nd, h.gt, fun D hD => (hg.block D (lt_of_heap (h.marks D hD)) (by simp)).trans (h.marks D hD)⟩
theorem Out.setR {w W : World} {Ds : List Nat} {rv : Value} (h : Out w Ds rv W) (v : Value) : Out w Ds v (W.setCell ⟨w.heap.size, 0, none⟩ v) :=
  ⟨h.below.setCell (p := ⟨w.heap.size, 0, none⟩) (Nat.le_refl _) v, h.res.set v, h.nd, h.gt, fun D hD => (Below.heap_setCell W _ _ D (by have := h.gt D hD; simp; omega)).trans (h.marks D hD)⟩

theorem Out.leave {w W : World} {Ds : List Nat} {rv : Value} (h : Out w Ds rv W) {n : Nat} {tmps : Array Value} (ht : tmps[2]? = some (.pointer (some ⟨w.heap.size, 0, none⟩))) :
    LeavesInM Fence.wide n Tryz.prog Tryz.f140 tmps (fun e w' => e = .returned rv ∧ w.grownBy w' none) (Ds.map markD) .returning W := by
  refine leaveM Ds W h.nd h.marks fun W' h1 h2 h3 h4 h5 => ?_
  have hr : Boxed W' w.heap.size 30 rv := (h5 _ (fun q => Nat.lt_irrefl _ (h.gt _ q))).trans h.res
  have hfin := hr.cell
  refine ⟨rv, ?_, rfl, h1.trans h.below.os, h2.trans h.below.tape, h3.trans h.below.output, by rw [h4]; exact h.below.size, fun k hk _ => (h5 k (fun q => by have := h.gt _ q; omega)).trans (h.below.block k hk)⟩
  have hg : tmps.getD 2 undef = .pointer (some ⟨w.heap.size, 0, none⟩) := by rw [Array.getD_eq_getD_getElem?, ht]; rfl
  simp [results, Tryz.f140, asAddr, go_sem, hfin, hg, ht]

/-- What is laid for one path: the iterator's three cells, the block for the rounds' deferred calls, the loop's record. -/
def laid (W : World) (s : ByteArray) (lo : Obj) : World := ((((W.alloc (.cells #[.string s] 9)).alloc (.cells #[.string Sl] 9)).alloc (.cells #[.int .i64 0] 3)).alloc (.deferred (some []))).alloc lo
theorem laid_size (W : World) (s : ByteArray) (lo : Obj) : (laid W s lo).heap.size = W.heap.size + 5 := by simp [laid]
theorem laid_old {W : World} {s : ByteArray} {lo : Obj} {k : Nat} (h : k < W.heap.size) : (laid W s lo).heap[k]? = W.heap[k]? := by
  unfold laid
  rw [Below.heap_alloc _ _ _ (by simp; omega), Below.heap_alloc _ _ _ (by simp; omega), Below.heap_alloc _ _ _ (by simp; omega), Below.heap_alloc _ _ _ (by simp; omega), Below.heap_alloc _ _ _ h]
theorem laid_0 (W : World) (s : ByteArray) (lo : Obj) : Boxed (laid W s lo) W.heap.size 9 (.string s) := ((((Boxed.new W 9 (.string s)).alloc _).alloc _).alloc _).alloc _
theorem laid_1 (W : World) (s : ByteArray) (lo : Obj) : Boxed (laid W s lo) (W.heap.size + 1) 9 (.string Sl) := by
  have h := Boxed.new (W.alloc (.cells #[.string s] 9)) 9 (.string Sl)
  rw [World.size_alloc] at h
  exact ((h.alloc _).alloc _).alloc _
theorem laid_2 (W : World) (s : ByteArray) (lo : Obj) : Boxed (laid W s lo) (W.heap.size + 2) 3 (.int .i64 0) := by
  have h := Boxed.new ((W.alloc (.cells #[.string s] 9)).alloc (.cells #[.string Sl] 9)) 3 (.int .i64 0)
  rw [World.size_alloc, World.size_alloc] at h
  exact (h.alloc _).alloc _
theorem laid_3 (W : World) (s : ByteArray) (lo : Obj) : (laid W s lo).heap[W.heap.size + 3]? = some (.deferred (some [])) := by
  unfold laid
  rw [Below.heap_alloc _ _ _ (by simp)]
  have h := World.alloc_heap_new (((W.alloc (.cells #[.string s] 9)).alloc (.cells #[.string Sl] 9)).alloc (.cells #[.int .i64 0] 3)) (.deferred (some []))
  rwa [World.size_alloc, World.size_alloc, World.size_alloc] at h
theorem laid_4 (W : World) (s : ByteArray) (lo : Obj) : (laid W s lo).heap[W.heap.size + 4]? = some lo := by
  unfold laid
  have h := World.alloc_heap_new ((((W.alloc (.cells #[.string s] 9)).alloc (.cells #[.string Sl] 9)).alloc (.cells #[.int .i64 0] 3)).alloc (.deferred (some []))) lo
  rwa [World.size_alloc, World.size_alloc, World.size_alloc, World.size_alloc] at h

theorem Out.laid_at {w W : World} {Ds : List Nat} {rv : Value} (h : Out w Ds rv W) (s : ByteArray) (lo : Obj) : AtW (laid W s lo) (W.heap.size + 4) w.heap.size W.heap.size lo s rv (laid W s lo) :=
  ⟨laid_4 W s lo, laid_0 W s lo, (laid_old (lt_of_heap h.res)).trans h.res, rfl, rfl, rfl, Nat.le_refl _, fun _ _ _ _ _ => rfl⟩

theorem Out.after {w W W2 : World} {Ds : List Nat} {rv rv' : Value} {s rest : ByteArray} {lo lo' : Obj} (h : Out w Ds rv W) (hA : AtW (laid W s lo) (W.heap.size + 4) w.heap.size W.heap.size lo' rest rv' W2) (o : Obj) :
    Out w ((W.heap.size + 3) :: Ds) rv' (W2.putObj (W.heap.size + 4) o) := by
  have hlt : w.heap.size < W.heap.size := lt_of_heap h.res
  have hold : ∀ k, k < W.heap.size → k ≠ w.heap.size → (W2.putObj (W.heap.size + 4) o).heap[k]? = W.heap[k]? := fun k hk hne => by
    rw [World.putObj_heap_other (by omega), hA.fr k (by rw [laid_size]; omega) (by omega) (by omega) hne, laid_old hk]
  refine ⟨⟨hA.os.trans h.below.os, hA.tape.trans h.below.tape, hA.output.trans h.below.output, ?_, fun k hk => (hold k (by omega) (by omega)).trans (h.below.block k hk)⟩, (World.putObj_heap_other (by omega)).trans hA.res, ?_, ?_, ?_⟩
  · have := hA.size; rw [laid_size] at this; rw [World.putObj_size]; omega
  · exact List.nodup_cons.2 ⟨fun q => by have := lt_of_heap (h.marks _ q); omega, h.nd⟩
  · intro D hD
    rcases List.mem_cons.1 hD with rfl | hD
    · omega
    · exact h.gt D hD
  · intro D hD
    rcases List.mem_cons.1 hD with rfl | hD
    · rw [World.putObj_heap_other (by omega), hA.fr _ (by rw [laid_size]; omega) (by omega) (by omega) (by omega)]
      exact laid_3 W s lo
    · exact (hold D (lt_of_heap (h.marks D hD)) (by have := h.gt D hD; omega)).trans (h.marks D hD)

/-- What is asked of a round's body. -/
def bodyR (r : Nat) (X : World) (x : ByteArray) : Exit → Act → World → Prop
  | .normal, _, X' => isName x.data.toList = true ∧ X.grownBy X' none
  | .ret, _, X' => isName x.data.toList = false ∧ ∃ X1, X.grownBy X1 none ∧ X' = X1.setCell ⟨r, 0, none⟩ (.int .i64 1)
  | _, _, _ => False

abbrev seqV (W : World) : Array Value := #[.pointer (some ⟨W.heap.size + 1, 0, none⟩), .pointer (some ⟨W.heap.size, 0, none⟩), .pointer (some ⟨W.heap.size + 2, 0, none⟩)]
abbrev laid3 (W : World) (s : ByteArray) : World := ((W.alloc (.cells #[.string s] 9)).alloc (.cells #[.string Sl] 9)).alloc (.cells #[.int .i64 0] 3)

set_option maxRecDepth 100000 in
theorem wpIn_split [Inhabited Val] {g : Operand} {ps : Array Tmp} {assign body : Code} {Q : Exit → Act → World → Prop} {a : Act} {w W : World} {Ds : List Nat} {s : ByteArray} (hsz : s.size ≤ 1099511627776) (hps : ps.size = 1) (hO : Out w Ds (.int .i64 0) W)
    (hg : a.eval g = .func (.func 163) #[] (seqV W)) (a₁ : ByteArray → Act)
    (hassign : ∀ (l : Nat) (x : ByteArray) (X : World) (K : Act → World → Prop), K (a₁ x) X → assign.wpIn (Fence.wide.inRound l) 7 Tryz.prog (Exit.then K (fun _ _ _ => False)) { tmps := (ps.zip #[.string x]).foldl (fun t (p, v) => t.setIfInBounds p v) a.tmps, defers := [] } X)
    (hbody : ∀ (l : Nat) (x : ByteArray) (X : World), Boxed X w.heap.size 30 (.int .i64 0) → body.wpIn (Fence.wide.inRound l) 7 Tryz.prog (bodyR w.heap.size X x) (a₁ x) X)
    (hdone : (names s.data.toList).all isName = true → ∀ W' : World, Out w ((W.heap.size + 3) :: Ds) (.int .i64 0) W' → Q .normal { a with defers := markD (W.heap.size + 3) :: a.defers } W')
    (hstop : (names s.data.toList).all isName = false → ∀ W' : World, Out w ((W.heap.size + 3) :: Ds) (.int .i64 1) W' → Code.ret.wpIn Fence.wide 9 Tryz.prog Q { a with defers := markD (W.heap.size + 3) :: a.defers } W') :
    (Code.rangeFunc g ps assign body).wpIn Fence.wide 9 Tryz.prog Q a (laid3 W s) := by
  refine wpIn_rangeFunc ?_
  intro fn hfn
  obtain ⟨rec, hrec⟩ : ∃ rec : LoopState → Option Code → Loop, rec = fun st pe => { state := st, pending := pe, fn, tmps := a.tmps, params := ps, assign, body, defers := (laid3 W s).heap.size } := ⟨_, rfl⟩
  have hlt : w.heap.size < W.heap.size := lt_of_heap hO.res
  refine ⟨W.heap.size + 4, [markD (W.heap.size + 3)], laid W s (.loop (rec .ready none)), { target := .fn (.func 163) (seqV W), args := #[.func (.yield (W.heap.size + 4)) #[] #[]] }, laid W s (.loop (rec .ready none)), 163,
    #[.func (.yield (W.heap.size + 4)) #[] #[]] ++ seqV W, laid W s (.loop (rec .ready none)), ?_, ?_, ?_, ?_, fun _ => by omega, ?_⟩
  · rw [hrec]
    have h := run_enterLoop_outer (P := Tryz.prog) (w := laid3 W s) fn a.tmps ps assign body
    have e : (laid3 W s).heap.size = W.heap.size + 3 := by simp [laid3]
    rw [e] at h ⊢
    exact h
  · simp only [resolve, hg]
    simp [go_sem]
  · intro f' hf'; simp [Target.leads] at hf'; subst hf'; trivial
  · have eg : ∀ args w, (callFunc 163 args).run Tryz.prog w = .ok (.enter 163 args) w := enters_of Tryz.func163 (by kernel_rfl) rfl
    simp [invoke, go_sem, eg]
  · refine (it_walk 8 (by omega) (W.heap.size + 4) w.heap.size W.heap.size (W.heap.size + 1) (W.heap.size + 2) (laid W s (.loop (rec .ready none))) (.loop (rec .ready none)) (.loop (rec .done (some .ret))) (.int .i64 0) (.int .i64 1)
      (laid_1 W s _) (laid_2 W s _) (by omega) (by omega) (by omega) (by omega) (by omega) (by omega) (by omega) (by omega) (by omega) ?_ s hsz _ (hO.laid_at s _)).mono ?_
    · intro x rest X hA
      have hy := run_yield (P := Tryz.prog) (args := #[.string x]) hA.loop (by rw [hrec]; simp [hps])
      rw [hrec] at hy
      refine ⟨fn, _, assign, body, hy, roundIn_of_wpIn hfn ?_⟩
      refine hassign _ x X _ ?_
      refine ⟨_, run_beginRound hA.loop (by rw [hrec]), ?_⟩
      have hA2 := hA.setLoop (by omega) (by omega) (.loop { rec .ready none with state := .busy })
      refine wpIn_mono (hbody _ x _ hA2.res) ?_
      rintro e a3 X3 hp
      cases e with
      | normal =>
        obtain ⟨hn, hgr⟩ := hp
        have hA3 := hA2.grown hgr
        have hr := run_endRound (P := Tryz.prog) none hA3.loop
        refine ⟨_, _, hr, ?_, ?_⟩
        · rw [hn]; rfl
        · rw [hn]
          have h4 := hA3.setLoop (by omega) (by omega) (.loop (rec .ready none))
          rw [hrec] at h4 ⊢
          exact h4
      | ret =>
        obtain ⟨hn, X1, hgr, rfl⟩ := hp
        have hA3 := (hA2.grown hgr).setR (by omega) (by omega) (.int .i64 1)
        have hr := run_endRound (P := Tryz.prog) (some .ret) hA3.loop
        refine ⟨_, _, hr, ?_, ?_⟩
        · rw [hn]; rfl
        · rw [hn]
          have h4 := hA3.setLoop (by omega) (by omega) (.loop (rec .done (some .ret)))
          rw [hrec] at h4 ⊢
          exact h4
      | exit id => exact hp.elim
      | goto t => exact hp.elim
      | panic ch => exact hp.elim
      | outgrown => exact hp.elim
    · rintro e W2 ⟨⟨v, rfl⟩, rest, hb⟩
      cases hall : (names s.data.toList).all isName with
      | true =>
        rw [hall] at hb
        simp only [if_true] at hb
        have hr := run_endLoop (P := Tryz.prog) hb.loop (by rw [hrec]; simp)
        rw [hrec] at hr
        exact ⟨none, _, hr, hdone hall _ (hO.after hb _)⟩
      | false =>
        rw [hall] at hb
        simp only [Bool.false_eq_true, if_false] at hb
        have hr := run_endLoop (P := Tryz.prog) hb.loop (by rw [hrec]; simp)
        rw [hrec] at hr
        exact ⟨some .ret, _, hr, hstop hall _ (hO.after hb _)⟩

theorem splitSeq_walk (w : World) (s sep : ByteArray) (z : Int) : Calls Tryz.prog 158 #[.string s, .string sep, .int .i64 z] w fun e w' =>
    e = .returned (.func (.func 163) #[] #[.pointer (some ⟨w.heap.size + 1, 0, none⟩), .pointer (some ⟨w.heap.size, 0, none⟩), .pointer (some ⟨w.heap.size + 2, 0, none⟩)]) ∧
    w' = ((w.alloc (.cells #[.string s] 9)).alloc (.cells #[.string sep] 9)).alloc (.cells #[.int .i64 z] 3) := by
  go_enter Tryz.func158, Tryz.ntmps158
  go_wp2
  go_ret
  exact ⟨rfl, rfl⟩

theorem splitSeq_ok (w : World) (s sep : ByteArray) : Calls Tryz.prog 151 #[.string s, .string sep] w fun e w' =>
    e = .returned (.func (.func 163) #[] #[.pointer (some ⟨w.heap.size + 1, 0, none⟩), .pointer (some ⟨w.heap.size, 0, none⟩), .pointer (some ⟨w.heap.size + 2, 0, none⟩)]) ∧
    w' = ((w.alloc (.cells #[.string s] 9)).alloc (.cells #[.string sep] 9)).alloc (.cells #[.int .i64 0] 3) := by
  go_enter Tryz.func151, Tryz.ntmps151
  go_wp2_with (go_at_call 158; refine (splitSeq_walk _ _ _ _).mono ?_; rintro e w' ⟨rfl, rfl⟩)
  go_ret
  exact ⟨rfl, rfl⟩

def roundsLeft (n : Nat) (act : Act) : Nat := match act.tmps.getD 8 undef with | .int _ k => n - k.toNat | _ => 0

def CheckPost (w : World) (r : Int) (e : Ending) (w' : World) : Prop := e = .returned (.int .i64 r) ∧ w.grownBy w' none

set_option maxHeartbeats 4000000 in
set_option maxRecDepth 100000 in
theorem check_walk [Inhabited Val] (bss : List ByteArray) (a : Option Addr) (b o cap : Nat) (w : World) (ha : bss ≠ [] → a = some ⟨b, o, none⟩) (hc : ∀ (k : Nat) (s : ByteArray), bss[k]? = some s → w.cell? ⟨b, o + k, none⟩ = some (.string s))
    (hsz : ∀ s ∈ bss, s.size ≤ 1099511627776) (hlen : bss.length ≤ 1099511627776) :
    Calls Tryz.prog 140 #[.slice a bss.length cap] w (CheckPost w (checkPaths (bss.map fun s => s.data.toList))) := by
  refine (callsIn_wide (n := 9)).1 ?_
  refine callsIn_of_wp_marks Tryz.func140 rfl trivial ?_ rfl
  simp only [Tryz.ntmps140, List.size_toArray, List.length_cons, List.length_nil, Nat.reduceAdd, Nat.reduceSub, Array.replicate_succ, Array.replicate_zero, List.push_toArray, List.append_toArray, List.nil_append, List.cons_append]
  gi_wp2
  refine wpIn_loop (fun act W => ∃ (k : Nat) (Ds : List Nat) (u4 u9 u10 u11 u12 u13 u18 u19 u20 : Value), k ≤ bss.length ∧
      act = { tmps := #[.slice a bss.length cap, undef, .pointer (some ⟨w.heap.size, 0, none⟩), undef, u4, undef, .slice a bss.length cap, .int .i64 bss.length, .int .i64 k, u9, u10, u11, u12, u13, undef, undef, undef, undef, u18, u19, u20], defers := Ds.map markD } ∧
      Out w Ds (.int .i64 0) W ∧ checkPaths (bss.map fun s => s.data.toList) = checkPaths ((bss.drop k).map fun s => s.data.toList))
    (fun act _ => roundsLeft bss.length act) ?_ ?_
  · exact ⟨0, [], _, _, _, _, _, _, _, _, _, Nat.zero_le _, rfl, ⟨(Below.refl _ w).alloc (Nat.le_refl _) _, Boxed.new _ _ _, List.nodup_nil, by simp, by simp⟩, by rw [List.drop_zero]⟩
  · rintro act W ⟨k, Ds, u4, u9, u10, u11, u12, u13, u18, u19, u20, hk, rfl, hO, hck⟩
    by_cases hkl : k < bss.length
    · have hne : bss ≠ [] := by rintro rfl; simp at hkl
      obtain rfl := ha hne
      obtain ⟨s, hs⟩ : ∃ s, bss[k]? = some s := ⟨_, List.getElem?_eq_getElem hkl⟩
      have hcw := hc k s hs
      have hcW : W.cell? ⟨b, o + k, none⟩ = some (.string s) := by
        obtain ⟨ob, hob, _⟩ := cells_of_cell hcw
        exact (World.cell?_of_block (hO.below.block b (lt_of_heap hob))).trans hcw
      gi_wp2_with (refine ⟨trivial, ?_⟩; gi_at_call 151; refine (callsIn_wide.2 (splitSeq_ok _ _ _)).mono ?_; rintro e w' ⟨rfl, rfl⟩)
      have hss : s.size ≤ 1099511627776 := hsz s (List.mem_of_getElem? hs)
      have hdrop : bss.drop k = s :: bss.drop (k + 1) := by
        rw [List.drop_eq_getElem_cons hkl]
        rw [List.getElem?_eq_getElem hkl] at hs
        simp only [Option.some.injEq] at hs
        rw [hs]
      have hmem := @Oper.semAt_some
      refine wpIn_split (w := w) (W := W) (Ds := Ds) hss rfl hO rfl
        (fun x => { tmps := #[.slice (some ⟨b, o, none⟩) bss.length cap, undef, .pointer (some ⟨w.heap.size, 0, none⟩), undef, .string s, .string x, .slice (some ⟨b, o, none⟩) bss.length cap, .int .i64 bss.length, .int .i64 k, .bool true, .pointer (some ⟨b, o + k, none⟩), .string s, .string s, .func (.func 163) #[] (seqV W), .string x, undef, undef, undef, u18, u19, u20], defers := [] }) ?_ ?_ ?_ ?_
      · intro l x X K hK
        gi_wp2
        exact hK
      · intro l x X hX
        have g1 := hX.cell
        have g2 := hX.frozen
        gi_wp2
        refine ⟨trivial, ?_⟩
        refine (CallsIn.inRound l (callsIn_wide.2 (name_ok _ _))).mono ?_
        rintro e X' ⟨rfl, hgr⟩
        have hX' := hX.kept hgr (by simp)
        have k1 := hX'.cell
        have k2 := hX'.frozen
        cases hnb : isName x.data.toList with
        | true =>
          gi_wp2
          exact ⟨hnb, hgr⟩
        | false =>
          gi_wp2
          exact ⟨hnb, X', hgr, rfl⟩
      · intro hall W' hO'
        gi_wp2
        refine ⟨trivial, ?_⟩
        refine (callsIn_wide.2 (great_ok _ _)).mono ?_
        rintro e W2 ⟨rfl, hgr⟩
        have hO2 := hO'.grown hgr
        have k1 := hO2.res.cell
        have k2 := hO2.res.frozen
        cases hgb : great s.data.toList with
        | true =>
          have hz : checkPaths (bss.map fun s => s.data.toList) = 2 := by
            rw [hck, hdrop, List.map_cons, checkPaths]; simp only [checkPath, hall, hgb]; rfl
          gi_wp2
          rw [hz]
          show LeavesInM Fence.wide 9 Tryz.prog Tryz.f140 _ (CheckPost w 2) (((W.heap.size + 3) :: Ds).map markD) .returning _
          exact (hO2.setR (.int .i64 2)).leave rfl
        | false =>
          have hz : checkPaths (bss.map fun s => s.data.toList) = checkPaths ((bss.drop (k + 1)).map fun s => s.data.toList) := by
            rw [hck, hdrop, List.map_cons, checkPaths]; simp only [checkPath, hall, hgb]; rfl
          have hw1 : wrap64 ((k : Int) + 1) = (k : Int) + 1 := by rw [show (k : Int) + 1 = ((k + 1 : Nat) : Int) by omega]; exact wrap64_small (by omega)
          gi_wp2
          refine ⟨⟨k + 1, (W.heap.size + 3) :: Ds, _, _, _, _, _, _, _, _, _, by omega, rfl, hO2, hz⟩, ?_⟩
          show bss.length - ((k : Int) + 1).toNat < bss.length - ((k : Int)).toNat
          omega
      · intro hall W' hO'
        have hz : checkPaths (bss.map fun s => s.data.toList) = 1 := by
          rw [hck, hdrop, List.map_cons, checkPaths]; simp only [checkPath, hall]; rfl
        gi_wp2
        rw [hz]
        show LeavesInM Fence.wide 9 Tryz.prog Tryz.f140 _ (CheckPost w 1) (((W.heap.size + 3) :: Ds).map markD) .returning _
        exact hO'.leave rfl
    · have hlt : decide ((k : Int) < (bss.length : Int)) = false := by simp; omega
      have g1 := hO.res.cell
      have g2 := hO.res.frozen
      have hz : checkPaths (bss.map fun s => s.data.toList) = 0 := by rw [hck, List.drop_eq_nil_of_le (by omega)]; rfl
      gi_wp2
      rw [hz]
      show LeavesInM Fence.wide 9 Tryz.prog Tryz.f140 _ (CheckPost w 0) (Ds.map markD) .returning _
      exact (hO.setR (.int .i64 0)).leave rfl
end Go.Ab.Seat
/- path.check: the hook stands; the configuration C1 stands. -/
namespace Go.Ab.Seat
open Go Go.Proofs
set_option linter.unusedSimpArgs false
set_option linter.unusedVariables false

def strV : Value → ByteArray | .string s => s | _ => ⟨#[]⟩

theorem strOf_row {r : List AV} {s : Str} (h : strOf r = some s) : r = [.str s] := by
  unfold strOf at h
  split at h
  · cases h; rfl
  · cases h

theorem rows_cells [Inhabited Val] {w : World} {t : Bool} {l : List (List AV)} {x : Value} {ss : List Str} (hx : VRel (fun _ => none) (imAll w) (.rows t l) x) (hss : l.mapM strOf = some ss) :
    ∃ (bss : List ByteArray) (a : Option Addr) (b o cap : Nat), x = .slice a bss.length cap ∧ (bss.map fun s => s.data.toList) = ss ∧ (bss ≠ [] → a = some ⟨b, o, none⟩) ∧ ∀ (k : Nat) (s : ByteArray), bss[k]? = some s → w.cell? ⟨b, o + k, none⟩ = some (.string s) := by
  cases hx with
  | rows _ _ a n cap sz val hn hlen hcap ht ha hv =>
    obtain ⟨hl, hget⟩ := mapM_get strOf l ss hss
    have hrow : ∀ i, i < l.length → ∃ s, ss[i]? = some s ∧ l[i]? = some [.str s] ∧ ∃ bs : ByteArray, val i 0 = .string bs ∧ bs.data.toList = s := fun i hi => by
      obtain ⟨s, h1, h2⟩ := hget i l[i] (List.getElem?_eq_getElem hi)
      have h3 := strOf_row h2
      have h4 := hv i 0
      have e0 : (l.getD i []).getD 0 .bad = .str s := by rw [List.getD_eq_getElem?_getD (l := l), List.getElem?_eq_getElem hi, Option.getD_some, h3]; rfl
      rw [e0] at h4
      cases h5 : val i 0 <;> rw [h5] at h4 <;> cases h4
      rename_i bs h6
      exact ⟨s, h1, by rw [List.getElem?_eq_getElem hi, h3], bs, rfl, h6⟩
    have hcell : l ≠ [] → ∃ b o, a = some ⟨b, o, none⟩ ∧ ∀ i, i < l.length → w.cell? ⟨b, o + i, none⟩ = some (val i 0) := fun hne => by
      obtain ⟨b, o, rfl, hc⟩ := ha hne
      refine ⟨b, o, rfl, fun i hi => ?_⟩
      obtain ⟨s, _, h2, _⟩ := hrow i hi
      have hsz : sz = 1 := by rw [← hlen _ (List.mem_of_getElem? h2)]; rfl
      subst hsz
      have := hc i 0 hi (by omega)
      rw [Nat.mul_one, Nat.add_zero] at this
      unfold imCell imAll at this
      unfold World.cell?
      cases hb : w.heap[b]? with
      | none => rw [hb] at this; cases this
      | some ob => rw [hb] at this; cases ob <;> first | exact this | cases this
    by_cases hne : l = []
    · subst hne
      simp only [List.length_nil] at hn hl
      refine ⟨[], a, 0, 0, cap, by rw [hn]; rfl, ?_, fun q => absurd rfl q, fun k s h => by simp at h⟩
      rw [List.length_eq_zero_iff.1 hl]; rfl
    · obtain ⟨b, o, rfl, hc⟩ := hcell hne
      refine ⟨(List.range l.length).map fun i => strV (val i 0), some ⟨b, o, none⟩, b, o, cap, by rw [List.length_map, List.length_range, hn], ?_, fun _ => rfl, fun k s h => ?_⟩
      · apply List.ext_getElem?
        intro i
        rcases Nat.lt_or_ge i l.length with hi | hi
        · obtain ⟨s, h1, _, bs, h3, h4⟩ := hrow i hi
          rw [h1, List.getElem?_map, List.getElem?_map, List.getElem?_range hi]
          simp only [Option.map_some, h3, strV, h4]
        · rw [List.getElem?_eq_none (by simpa using hi), List.getElem?_eq_none (by omega)]
      · rw [List.getElem?_map] at h
        rcases Nat.lt_or_ge k l.length with hi | hi
        · obtain ⟨s', _, _, bs, h3, _⟩ := hrow k hi
          rw [List.getElem?_range hi, Option.map_some, h3] at h
          simp only [strV, Option.some.injEq] at h
          rw [hc k hi, h3, h]
        · rw [List.getElem?_eq_none (by simpa using hi)] at h; cases h

set_option maxRecDepth 100000 in
theorem check_ok [Inhabited Val] : HookOk Tryz.prog 140 checkF := hook_scalar fun B ρ im st w new bar args vargs look v es hi hh hl hF => by
  unfold checkF pureF at hF
  split at hF
  · rename_i pargs hp
    have hpl : LRel (fun _ => none) (imAll w) pargs vargs := lrel_mapM (fun v r x hv hf => frz_sound (hi.part hh) hv hf) hl hp
    split at hF
    · rename_i r hr
      dsimp only at hr
      split at hr
      · rename_i t l
        obtain ⟨x, r1, rfl, h1, hr1⟩ := hpl.of_cons
        obtain rfl := hr1.of_nil
        simp only [Option.bind_eq_some_iff] at hr
        obtain ⟨ss, hss, hr⟩ := hr
        split at hr
        · rename_i hg
          simp only [Option.some.injEq] at hr
          subst hr
          simp only [Bool.and_eq_true, decide_eq_true_eq, List.all_eq_true] at hg
          obtain ⟨bss, a, b, o, cap, rfl, hbs, ha, hc⟩ := rows_cells h1 hss
          split at hF
          · simp only [Option.some.injEq, Prod.mk.injEq] at hF
            obtain ⟨rfl, rfl⟩ := hF
            refine ⟨rfl, _, .int _ _, ?_⟩
            rw [← hbs]
            refine (check_walk bss a b o cap w ha hc (fun s hs => ?_) ?_).mono fun e w' h => h
            · have := hg.2 _ (by rw [← hbs]; exact List.mem_map.2 ⟨s, hs, rfl⟩)
              rwa [bsz] at this
            · have := hg.1
              rwa [← hbs, List.length_map] at this
          · cases hF
        · cases hr
      · cases hr
    · cases hF
  · cases hF
end Go.Ab.Seat
/- The configuration C1 stands. -/
namespace Go.Ab.Seat
open Go Go.Proofs

theorem tokT [Inhabited Val] : TOk Tryz.prog CT := tok_of rfl tys
theorem fokT [Inhabited Val] : FactsOk CT := fun _ _ _ _ h => by cases h

set_option maxRecDepth 100000 in
theorem cloneE_ok [Inhabited Val] : HookOk Tryz.prog 55 (cloneH CT 35) := clone_hook tokT fokT Tryz.func55 (b := 4) (by rfl) rfl rfl (by rfl) rfl
set_option maxRecDepth 100000 in
theorem cloneG_ok [Inhabited Val] : HookOk Tryz.prog 39 (cloneH CT 23) := clone_hook tokT fokT Tryz.func39 (b := 4) (by rfl) rfl rfl (by rfl) rfl
set_option maxRecDepth 100000 in
theorem cloneS_ok [Inhabited Val] : HookOk Tryz.prog 40 (cloneH CT 24) := clone_hook tokT fokT Tryz.func40 (b := 4) (by rfl) rfl rfl (by rfl) rfl

set_option maxRecDepth 100000 in
set_option maxHeartbeats 4000000 in
theorem ok1 [Inhabited Val] : CfgOk Tryz.prog C1 := ⟨tok_of rfl tys, fun _ _ _ _ h => (by cases h), fun g fn h => fnBy_ok fnames h, hooks_ok (by
  intro p hp
  simp only [C1_hooks, List.mem_cons, List.not_mem_nil, or_false] at hp
  rcases hp with rfl | rfl | rfl | rfl | rfl | rfl
  · exact ⟨cloneG_ok, enters_by (by kernel_rfl)⟩
  · exact ⟨cloneS_ok, enters_by (by kernel_rfl)⟩
  · exact ⟨cloneE_ok, enters_by (by kernel_rfl)⟩
  · exact ⟨idx_ok, enters_by (by kernel_rfl)⟩
  · exact ⟨check_ok, enters_by (by kernel_rfl)⟩
  · exact ⟨cnt_ok, enters_by (by kernel_rfl)⟩)⟩
end Go.Ab.Seat
