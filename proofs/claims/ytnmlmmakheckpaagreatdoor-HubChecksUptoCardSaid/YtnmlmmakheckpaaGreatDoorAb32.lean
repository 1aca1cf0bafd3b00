/- A hub that a card reads, as a plain value. -/
import Derived.Test.YtnmlmmakheckpaaGreatDoorAb31
import Derived.Test.YtnmlmmakheckpaaGreatDoorAb27
import Derived.KernelRfl
import Derived.Test.YtnmlmmakheckpaaGreatDoorProg
namespace Go.Ab.Seat
open Go Go.Proofs
open Go.Proofs.YtnmlmmakheckpaaGreatDoor.Rows (uptoBulk uptoBulkAll)

section
variable {H : Type} {enc : TypeId × Value → H} {w : World}

structure O2 [Inhabited Val] (enc : TypeId × Value → H) (w : World) {α : Type} (t : TypeId) (f : α → List AV) (Bd : Nat → α → Prop) : Prop where
  op : Opens enc Tryz.prog w t f Bd
  mono : ∀ n m a, n ≤ m → Bd n a → Bd m a
structure F2 [Inhabited Val] (enc : TypeId × Value → H) (w : World) {α : Type} (off : Nat) (fs : List (Nat × Nat × Nat)) (f : α → List AV) (Bd : Nat → α → Prop) : Prop where
  op : OpensF enc Tryz.prog w off fs f Bd
  mono : ∀ n m a, n ≤ m → Bd n a → Bd m a

theorem F2.nil [Inhabited Val] {off : Nat} : F2 enc w off [] (fun _ : Unit => []) (fun _ _ => True) := ⟨opensF_nil, fun _ _ _ _ _ => trivial⟩
theorem F2.cons [Inhabited Val] {α β : Type} {off n t : Nat} {fs : List (Nat × Nat × Nat)} {f : α → List AV} {g : β → List AV} {Bf : Nat → α → Prop} {Bg : Nat → β → Prop}
    (h1 : O2 enc w t f Bf) (h2 : F2 enc w (off + n) fs g Bg) : F2 enc w off ((t, off, n) :: fs) (fun a : α × β => f a.1 ++ g a.2) (fun n a => Bf n a.1 ∧ Bg n a.2) :=
  ⟨opensF_cons h1.mono h2.mono h1.op h2.op, fun _ _ _ h k => ⟨h1.mono _ _ _ h k.1, h2.mono _ _ _ h k.2⟩⟩
theorem O2.struct [Inhabited Val] {α β : Type} {t : TypeId} {sig : List (Nat × Nat × Nat)} {f : α → List AV} {f' : β → List AV} {Bd : Nat → α → Prop} {Bd' : Nat → β → Prop} (hs : structB Tryz.prog t sig = true) (h : F2 enc w 0 sig f Bd)
    (g : α → β) (h1 : ∀ a, f' (g a) = f a) (h2 : ∀ n a, Bd n a → Bd' n (g a)) (hm : ∀ n m b, n ≤ m → Bd' n b → Bd' m b) : O2 enc w t f' Bd' := ⟨(opens_struct hs h.mono h.op).map g h1 h2, hm⟩
theorem O2.slice [Inhabited Val] {α : Type} {t e : TypeId} {f : α → List AV} {Bd : Nat → α → Prop} {sz : Nat} (h : O2 enc w e f Bd) (ht : Tryz.prog.underlying t = some (.slice e)) (hsz : Tryz.prog.cellsOf e = sz) (hpos : 0 < sz) (hf : ∀ a, (f a).length = sz) :
    O2 enc w t (fun l : List α => [.rows false (l.map f)]) (fun n l => l.length ≤ n ∧ ∀ a ∈ l, Bd n a) :=
  ⟨opens_slice ht hsz hpos hf h.mono h.op, fun _ _ _ hn k => ⟨Nat.le_trans k.1 hn, fun a ha => h.mono _ _ _ hn (k.2 a ha)⟩⟩

set_option maxRecDepth 100000
theorem oStr [Inhabited Val] : O2 enc w 9 (fun s : Str => [.str s]) (fun n s => s.length ≤ n) := ⟨opens_str (by kernel_rfl), fun _ _ _ h k => Nat.le_trans k h⟩
theorem oInt [Inhabited Val] : O2 enc w 3 (fun n : Int => [.int .i64 n]) (fun _ _ => True) := ⟨opens_int (by kernel_rfl), fun _ _ _ _ _ => trivial⟩
theorem oBool [Inhabited Val] : O2 enc w 4 (fun b : Bool => [.bool b]) (fun _ _ => True) := ⟨opens_bool (by kernel_rfl), fun _ _ _ _ _ => trivial⟩

def EntryB (n : Nat) (x : Entry) : Prop := x.path.length ≤ n ∧ x.text.length ≤ n
def ChangeB (n : Nat) (x : Change) : Prop := x.path.length ≤ n ∧ x.to.length ≤ n ∧ x.text.length ≤ n
def CommitB (n : Nat) (x : Commit) : Prop := x.key.length ≤ n ∧ x.changes.length ≤ n ∧ ∀ c ∈ x.changes, ChangeB n c
def JournalB (n : Nat) (x : Journal) : Prop := (x.base.length ≤ n ∧ ∀ e ∈ x.base, EntryB n e) ∧ x.commits.length ≤ n ∧ ∀ c ∈ x.commits, CommitB n c
def SharedB (n : Nat) (x : Shared) : Prop := x.name.length ≤ n ∧ JournalB n x.journal
def GrantB (n : Nat) (x : Grant) : Prop := x.folder.length ≤ n ∧ x.who.length ≤ n
def SessionB (n : Nat) (x : Session) : Prop := x.who.length ≤ n ∧ x.text.length ≤ n
def UploadsB (n : Nat) (x : Uploads) : Prop := x.sessions.length ≤ n ∧ ∀ s ∈ x.sessions, SessionB n s
def HubB (n : Nat) (x : Hub) : Prop := (x.folders.length ≤ n ∧ ∀ s ∈ x.folders, SharedB n s) ∧ (x.grants.length ≤ n ∧ ∀ s ∈ x.grants, GrantB n s) ∧ UploadsB n x.uploads

theorem EntryB.mono : ∀ n m x, n ≤ m → EntryB n x → EntryB m x := fun _ _ _ h k => ⟨Nat.le_trans k.1 h, Nat.le_trans k.2 h⟩
theorem ChangeB.mono : ∀ n m x, n ≤ m → ChangeB n x → ChangeB m x := fun _ _ _ h k => ⟨Nat.le_trans k.1 h, Nat.le_trans k.2.1 h, Nat.le_trans k.2.2 h⟩
theorem CommitB.mono : ∀ n m x, n ≤ m → CommitB n x → CommitB m x := fun _ _ _ h k => ⟨Nat.le_trans k.1 h, Nat.le_trans k.2.1 h, fun c hc => ChangeB.mono _ _ _ h (k.2.2 c hc)⟩
theorem JournalB.mono : ∀ n m x, n ≤ m → JournalB n x → JournalB m x := fun _ _ _ h k => ⟨⟨Nat.le_trans k.1.1 h, fun e he => EntryB.mono _ _ _ h (k.1.2 e he)⟩, Nat.le_trans k.2.1 h, fun c hc => CommitB.mono _ _ _ h (k.2.2 c hc)⟩
theorem SharedB.mono : ∀ n m x, n ≤ m → SharedB n x → SharedB m x := fun _ _ _ h k => ⟨Nat.le_trans k.1 h, JournalB.mono _ _ _ h k.2⟩
theorem GrantB.mono : ∀ n m x, n ≤ m → GrantB n x → GrantB m x := fun _ _ _ h k => ⟨Nat.le_trans k.1 h, Nat.le_trans k.2 h⟩
theorem SessionB.mono : ∀ n m x, n ≤ m → SessionB n x → SessionB m x := fun _ _ _ h k => ⟨Nat.le_trans k.1 h, Nat.le_trans k.2 h⟩
theorem UploadsB.mono : ∀ n m x, n ≤ m → UploadsB n x → UploadsB m x := fun _ _ _ h k => ⟨Nat.le_trans k.1 h, fun s hs => SessionB.mono _ _ _ h (k.2 s hs)⟩
theorem HubB.mono : ∀ n m x, n ≤ m → HubB n x → HubB m x := fun _ _ _ h k => ⟨⟨Nat.le_trans k.1.1 h, fun s hs => SharedB.mono _ _ _ h (k.1.2 s hs)⟩, ⟨Nat.le_trans k.2.1.1 h, fun s hs => GrantB.mono _ _ _ h (k.2.1.2 s hs)⟩, UploadsB.mono _ _ _ h k.2.2⟩

theorem oEntry [Inhabited Val] : O2 enc w 107 Entry.cells EntryB :=
  O2.struct (sig := [(9, 0, 1), (4, 1, 1), (9, 2, 1), (3, 3, 1)]) (by kernel_rfl) (.cons oStr (.cons oBool (.cons oStr (.cons oInt .nil)))) (fun a => ⟨a.1, a.2.1, a.2.2.1, a.2.2.2.1⟩) (fun a => rfl) (fun n a h => ⟨h.1, h.2.2.1⟩) EntryB.mono
theorem oChange [Inhabited Val] : O2 enc w 47 Change.cells ChangeB :=
  O2.struct (sig := [(3, 0, 1), (9, 1, 1), (9, 2, 1), (9, 3, 1), (3, 4, 1)]) (by kernel_rfl) (.cons oInt (.cons oStr (.cons oStr (.cons oStr (.cons oInt .nil))))) (fun a => ⟨a.1, a.2.1, a.2.2.1, a.2.2.2.1, a.2.2.2.2.1⟩) (fun a => rfl) (fun n a h => ⟨h.2.1, h.2.2.1, h.2.2.2.1⟩) ChangeB.mono
theorem oCommit [Inhabited Val] : O2 enc w 112 Commit.cells CommitB :=
  O2.struct (sig := [(3, 0, 1), (9, 1, 1), (43, 2, 1)]) (by kernel_rfl) (.cons oInt (.cons oStr (.cons (oChange.slice (t := 43) (sz := 5) (by kernel_rfl) (by kernel_rfl) (by omega) (fun _ => rfl)) .nil))) (fun a => ⟨a.1, a.2.1, a.2.2.1⟩) (fun a => rfl) (fun n a h => ⟨h.2.1, h.2.2.1⟩) CommitB.mono
theorem oJournal [Inhabited Val] : O2 enc w 51 Journal.cells JournalB :=
  O2.struct (sig := [(35, 0, 1), (3, 1, 1), (36, 2, 1)]) (by kernel_rfl) (.cons (oEntry.slice (t := 35) (sz := 4) (by kernel_rfl) (by kernel_rfl) (by omega) (fun _ => rfl)) (.cons oInt (.cons (oCommit.slice (t := 36) (sz := 3) (by kernel_rfl) (by kernel_rfl) (by omega) (fun _ => rfl)) .nil)))
    (fun a => ⟨a.1, a.2.1, a.2.2.1⟩) (fun a => rfl) (fun n a h => ⟨h.1, h.2.2.1⟩) JournalB.mono
theorem oShared [Inhabited Val] : O2 enc w 53 Shared.cells SharedB :=
  O2.struct (sig := [(9, 0, 1), (51, 1, 3)]) (by kernel_rfl) (.cons oStr (.cons oJournal .nil)) (fun a => ⟨a.1, a.2.1⟩) (fun a => rfl) (fun n a h => ⟨h.1, h.2.1⟩) SharedB.mono
theorem oGrant [Inhabited Val] : O2 enc w 60 Grant.cells GrantB :=
  O2.struct (sig := [(9, 0, 1), (9, 1, 1), (3, 2, 1)]) (by kernel_rfl) (.cons oStr (.cons oStr (.cons oInt .nil))) (fun a => ⟨a.1, a.2.1, a.2.2.1⟩) (fun a => rfl) (fun n a h => ⟨h.1, h.2.1⟩) GrantB.mono
theorem oSession [Inhabited Val] : O2 enc w 83 Session.cells SessionB :=
  O2.struct (sig := [(3, 0, 1), (9, 1, 1), (9, 2, 1), (3, 3, 1), (3, 4, 1)]) (by kernel_rfl) (.cons oInt (.cons oStr (.cons oStr (.cons oInt (.cons oInt .nil))))) (fun a => ⟨a.1, a.2.1, a.2.2.1, a.2.2.2.1, a.2.2.2.2.1⟩) (fun a => rfl) (fun n a h => ⟨h.2.1, h.2.2.1⟩) SessionB.mono
theorem oUploads [Inhabited Val] : O2 enc w 26 Uploads.cells UploadsB :=
  O2.struct (sig := [(24, 0, 1), (3, 1, 1), (3, 2, 1), (3, 3, 1)]) (by kernel_rfl) (.cons (oSession.slice (t := 24) (sz := 5) (by kernel_rfl) (by kernel_rfl) (by omega) (fun _ => rfl)) (.cons oInt (.cons oInt (.cons oInt .nil))))
    (fun a => ⟨a.1, a.2.1, a.2.2.1, a.2.2.2.1⟩) (fun a => rfl) (fun n a h => h.1) UploadsB.mono
theorem oHub [Inhabited Val] : O2 enc w 28 Hub.cells HubB :=
  O2.struct (sig := [(22, 0, 1), (23, 1, 1), (26, 2, 4), (3, 6, 1)]) (by kernel_rfl)
    (.cons (oShared.slice (t := 22) (sz := 4) (by kernel_rfl) (by kernel_rfl) (by omega) (fun _ => rfl)) (.cons (oGrant.slice (t := 23) (sz := 3) (by kernel_rfl) (by kernel_rfl) (by omega) (fun _ => rfl)) (.cons oUploads (.cons oInt .nil))))
    (fun a => ⟨a.1, a.2.1, a.2.2.1, a.2.2.2.1⟩) (fun a => rfl) (fun n a h => ⟨h.1, h.2.1, h.2.2.1⟩) HubB.mono
end
end Go.Ab.Seat
