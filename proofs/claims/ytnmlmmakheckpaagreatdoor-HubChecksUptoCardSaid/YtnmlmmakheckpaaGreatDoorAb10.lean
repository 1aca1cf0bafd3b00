/- The program's data as plain Lean data, and as the plain interpreter's values. -/
import Derived.Test.YtnmlmmakheckpaaGreatDoorAb09
import Derived.IntWalk
namespace Go.Ab
open Go

abbrev Str := List UInt8
structure Entry where
  path : Str
  folder : Bool
  text : Str
  version : Int
  deriving DecidableEq
structure Change where
  kind : Int
  path : Str
  to : Str
  text : Str
  base : Int
  deriving DecidableEq
structure Commit where
  number : Int
  key : Str
  changes : List Change
  deriving DecidableEq
structure Journal where
  base : List Entry
  first : Int
  commits : List Commit
  deriving DecidableEq
structure Page where
  reset : Bool
  tree : List Entry
  commits : List Commit
  cursor : Int
  more : Bool
  deriving DecidableEq
structure Grant where
  folder : Str
  who : Str
  right : Int
  deriving DecidableEq
structure Session where
  number : Int
  who : Str
  text : Str
  size : Int
  till : Int
  deriving DecidableEq
structure Uploads where
  sessions : List Session
  next : Int
  lasts : Int
  room : Int
  deriving DecidableEq
structure Request where
  kind : Int
  who : Str
  folder : Str
  name : Str
  key : Str
  text : Str
  number : Int
  offset : Int
  base : Int
  changes : List Change
  deriving DecidableEq
structure Answer where
  err : Int
  number : Int
  page : Page
  deriving DecidableEq
structure Shared where
  name : Str
  journal : Journal
  deriving DecidableEq
structure Hub where
  folders : List Shared
  grants : List Grant
  uploads : Uploads
  now : Int
  deriving DecidableEq
structure Copy where
  path : Str
  at_ : Str
  deriving DecidableEq

def sCells (s : Str) : List AV := [.str s]
def Entry.cells (x : Entry) : List AV := [.str x.path, .bool x.folder, .str x.text, .int .i64 x.version]
def Change.cells (x : Change) : List AV := [.int .i64 x.kind, .str x.path, .str x.to, .str x.text, .int .i64 x.base]
abbrev entriesV (l : List Entry) : AV := .rows false (l.map Entry.cells)
abbrev changesV (l : List Change) : AV := .rows false (l.map Change.cells)
abbrev strsV (l : List Str) : AV := .rows false (l.map sCells)
def Commit.cells (x : Commit) : List AV := [.int .i64 x.number, .str x.key, .rows false (x.changes.map Change.cells)]
abbrev commitsV (l : List Commit) : AV := .rows false (l.map Commit.cells)
def Journal.cells (x : Journal) : List AV := [.rows false (x.base.map Entry.cells), .int .i64 x.first, .rows false (x.commits.map Commit.cells)]
def Page.cells (x : Page) : List AV := [.bool x.reset, .rows false (x.tree.map Entry.cells), .rows false (x.commits.map Commit.cells), .int .i64 x.cursor, .bool x.more]
def Grant.cells (x : Grant) : List AV := [.str x.folder, .str x.who, .int .i64 x.right]
def Session.cells (x : Session) : List AV := [.int .i64 x.number, .str x.who, .str x.text, .int .i64 x.size, .int .i64 x.till]
def Uploads.cells (x : Uploads) : List AV := [.rows false (x.sessions.map Session.cells), .int .i64 x.next, .int .i64 x.lasts, .int .i64 x.room]
def Request.cells (x : Request) : List AV := [.int .i64 x.kind, .str x.who, .str x.folder, .str x.name, .str x.key, .str x.text, .int .i64 x.number, .int .i64 x.offset, .int .i64 x.base, .rows false (x.changes.map Change.cells)]
def Answer.cells (x : Answer) : List AV := [.int .i64 x.err, .int .i64 x.number, .bool x.page.reset, .rows false (x.page.tree.map Entry.cells), .rows false (x.page.commits.map Commit.cells), .int .i64 x.page.cursor, .bool x.page.more]
def Shared.cells (x : Shared) : List AV := [.str x.name, .rows false (x.journal.base.map Entry.cells), .int .i64 x.journal.first, .rows false (x.journal.commits.map Commit.cells)]
def Hub.cells (x : Hub) : List AV := [.rows false (x.folders.map Shared.cells), .rows false (x.grants.map Grant.cells), .rows false (x.uploads.sessions.map Session.cells), .int .i64 x.uploads.next, .int .i64 x.uploads.lasts, .int .i64 x.uploads.room, .int .i64 x.now]
def Copy.cells (x : Copy) : List AV := [.str x.path, .str x.at_]

theorem sCells_eq (s : Str) : sCells s = [.str s] := rfl
theorem Entry.cells_eq (x : Entry) : x.cells = [.str x.path, .bool x.folder, .str x.text, .int .i64 x.version] := rfl
theorem Change.cells_eq (x : Change) : x.cells = [.int .i64 x.kind, .str x.path, .str x.to, .str x.text, .int .i64 x.base] := rfl
theorem Commit.cells_eq (x : Commit) : x.cells = [.int .i64 x.number, .str x.key, .rows false (x.changes.map Change.cells)] := rfl
theorem Journal.cells_eq (x : Journal) : x.cells = [.rows false (x.base.map Entry.cells), .int .i64 x.first, .rows false (x.commits.map Commit.cells)] := rfl
theorem Page.cells_eq (x : Page) : x.cells = [.bool x.reset, .rows false (x.tree.map Entry.cells), .rows false (x.commits.map Commit.cells), .int .i64 x.cursor, .bool x.more] := rfl
theorem Grant.cells_eq (x : Grant) : x.cells = [.str x.folder, .str x.who, .int .i64 x.right] := rfl
theorem Session.cells_eq (x : Session) : x.cells = [.int .i64 x.number, .str x.who, .str x.text, .int .i64 x.size, .int .i64 x.till] := rfl
theorem Uploads.cells_eq (x : Uploads) : x.cells = [.rows false (x.sessions.map Session.cells), .int .i64 x.next, .int .i64 x.lasts, .int .i64 x.room] := rfl
theorem Request.cells_eq (x : Request) : x.cells = [.int .i64 x.kind, .str x.who, .str x.folder, .str x.name, .str x.key, .str x.text, .int .i64 x.number, .int .i64 x.offset, .int .i64 x.base, .rows false (x.changes.map Change.cells)] := rfl
theorem Answer.cells_eq (x : Answer) : x.cells = [.int .i64 x.err, .int .i64 x.number, .bool x.page.reset, .rows false (x.page.tree.map Entry.cells), .rows false (x.page.commits.map Commit.cells), .int .i64 x.page.cursor, .bool x.page.more] := rfl
theorem Shared.cells_eq (x : Shared) : x.cells = [.str x.name, .rows false (x.journal.base.map Entry.cells), .int .i64 x.journal.first, .rows false (x.journal.commits.map Commit.cells)] := rfl
theorem Hub.cells_eq (x : Hub) : x.cells = [.rows false (x.folders.map Shared.cells), .rows false (x.grants.map Grant.cells), .rows false (x.uploads.sessions.map Session.cells), .int .i64 x.uploads.next, .int .i64 x.uploads.lasts, .int .i64 x.uploads.room, .int .i64 x.now] := rfl
theorem Copy.cells_eq (x : Copy) : x.cells = [.str x.path, .str x.at_] := rfl
theorem Entry.eta (x : Entry) : Entry.mk x.path x.folder x.text x.version = x := rfl
theorem Change.eta (x : Change) : Change.mk x.kind x.path x.to x.text x.base = x := rfl
theorem Grant.eta (x : Grant) : Grant.mk x.folder x.who x.right = x := rfl
theorem Session.eta (x : Session) : Session.mk x.number x.who x.text x.size x.till = x := rfl
theorem Commit.eta (x : Commit) : Commit.mk x.number x.key x.changes = x := rfl
theorem Shared.eta (x : Shared) : Shared.mk x.name x.journal = x := rfl
theorem Journal.eta (x : Journal) : Journal.mk x.base x.first x.commits = x := rfl
theorem Page.eta (x : Page) : Page.mk x.reset x.tree x.commits x.cursor x.more = x := rfl
theorem Uploads.eta (x : Uploads) : Uploads.mk x.sessions x.next x.lasts x.room = x := rfl

/-- A bound on lengths, far below where anything wraps. -/
abbrev Big : Nat := 1099511627776

theorem wrap_i64 {n : Int} (h1 : -9223372036854775808 ≤ n) (h2 : n ≤ 9223372036854775807) : IntKind.i64.wrap n = n :=
  IntWalk.i64_in n ⟨h1, h2⟩

theorem drop_cons_get {α : Type} {l : List α} {k : Nat} {x : α} {r : List α} (h : l.drop k = x :: r) : l[k]? = some x ∧ k < l.length ∧ l.drop (k + 1) = r ∧ l.take (k + 1) = l.take k ++ [x] := by
  have hk : k < l.length := by
    rcases Nat.lt_or_ge k l.length with h' | h'
    · exact h'
    · rw [List.drop_eq_nil_of_le h'] at h; cases h
  rw [List.drop_eq_getElem_cons hk] at h
  obtain ⟨h1, h2⟩ := List.cons.inj h
  subst h1
  exact ⟨by simp [hk], hk, h2, by rw [List.take_succ_eq_append_getElem hk]⟩
theorem drop_nil_len {α : Type} {l : List α} {k : Nat} (h : l.drop k = []) : l.length ≤ k := List.drop_eq_nil_iff.1 h

end Go.Ab
