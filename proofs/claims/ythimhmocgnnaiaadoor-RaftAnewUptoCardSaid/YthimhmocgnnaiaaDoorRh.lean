/- PRINTED by gen2.py: records, rows and objects. -/
import Derived.Test.YthimhmocgnnaiaaDoorSxZ
import Derived.Test.YthimhmocgnnaiaaDoorProg
namespace Sx
open Go Go.Proofs.Tryd
theorem mixed : prog.follows .mixedOrders = true := by kernel_rfl
structure Entry where
  term : Int
  index : Int
  kind : Int
  data : ByteArray
def Entry.row (x : Entry) : List C := [(.c (.int .u64 x.term)), (.c (.int .u64 x.index)), (.c (.int .i64 x.kind)), (.c (.string x.data))]
structure Snapshot where
  index : Int
  term : Int
  config : Int
  data : ByteArray
def Snapshot.row (x : Snapshot) : List C := [(.c (.int .u64 x.index)), (.c (.int .u64 x.term)), (.c (.int .u64 x.config)), (.c (.string x.data))]
structure Hard where
  term : Int
  vote : Int
def Hard.row (x : Hard) : List C := [(.c (.int .u64 x.term)), (.c (.int .i64 x.vote))]
structure Letter where
  kind : Int
  from_ : Int
  to : Int
  term : Int
  index : Int
  prev : Int
  commit : Int
  ok : Bool
  entries : List Entry
  data : ByteArray
def Letter.row (x : Letter) : List C := [(.c (.int .i64 x.kind)), (.c (.int .i64 x.from_)), (.c (.int .i64 x.to)), (.c (.int .u64 x.term)), (.c (.int .u64 x.index)), (.c (.int .u64 x.prev)), (.c (.int .u64 x.commit)), (.c (.bool x.ok)), (.ssl 4 (List.map Entry.row x.entries)), (.c (.string x.data))]
structure Log where
  index : Int
  term : Int
  config : Int
  data : ByteArray
  entries : List Entry
structure Raft where
  id : Int
  hterm : Int
  vote : Int
  log : Log
  role : Int
  leader : Int
  commit : Int
  votes : Int
  next : List Int
  match_ : List Int
  entries : List Entry
  install : Bool
  out : List Letter
  reset : Bool
structure Writer where
  b : List Int
structure Reader where
  s : ByteArray
  bad : Bool
structure WriterN where
structure Ready where
  hard_term : Int
  hard_vote : Int
  entries : List Entry
  install : Bool
  letters : List Letter
  reset : Bool
  commit : Int
def Ready.row (x : Ready) : List C := [(.c (.int .u64 x.hard_term)), (.c (.int .i64 x.hard_vote)), (.ssl 4 (List.map Entry.row x.entries)), (.c (.bool x.install)), (.ssl 10 (List.map Letter.row x.letters)), (.c (.bool x.reset)), (.c (.int .u64 x.commit))]
structure Call where
  kind : Int
  letter_kind : Int
  letter_from_ : Int
  letter_to : Int
  letter_term : Int
  letter_index : Int
  letter_prev : Int
  letter_commit : Int
  letter_ok : Bool
  letter_entries : List Entry
  letter_data : ByteArray
  data : ByteArray
  id : Int
  index : Int
  add : Bool
def Call.row (x : Call) : List C := [(.c (.int .i64 x.kind)), (.c (.int .i64 x.letter_kind)), (.c (.int .i64 x.letter_from_)), (.c (.int .i64 x.letter_to)), (.c (.int .u64 x.letter_term)), (.c (.int .u64 x.letter_index)), (.c (.int .u64 x.letter_prev)), (.c (.int .u64 x.letter_commit)), (.c (.bool x.letter_ok)), (.ssl 4 (List.map Entry.row x.letter_entries)), (.c (.string x.letter_data)), (.c (.string x.data)), (.c (.int .i64 x.id)), (.c (.int .u64 x.index)), (.c (.bool x.add))]
structure Start where
  id : Int
  hard_term : Int
  hard_vote : Int
  snap_index : Int
  snap_term : Int
  snap_config : Int
  snap_data : ByteArray
  l : List Entry
def Start.row (x : Start) : List C := [(.c (.int .i64 x.id)), (.c (.int .u64 x.hard_term)), (.c (.int .i64 x.hard_vote)), (.c (.int .u64 x.snap_index)), (.c (.int .u64 x.snap_term)), (.c (.int .u64 x.snap_config)), (.c (.string x.snap_data)), (.ssl 4 (List.map Entry.row x.l))]
def Log.objs (x : Log) : List O := [.cells [.one (.c (.int .u64 x.index)), .one (.c (.int .u64 x.term)), .one (.c (.int .u64 x.config)), .one (.c (.string x.data)), .one (.sl 1 0 4 0 (List.map Entry.row x.entries).length)], .arr 4 (List.map Entry.row x.entries)]
def Raft.objs (x : Raft) : List O := [.cells [.one (.c (.int .u64 x.log.index)), .one (.c (.int .u64 x.log.term)), .one (.c (.int .u64 x.log.config)), .one (.c (.string x.log.data)), .one (.sl 1 0 4 0 (List.map Entry.row x.log.entries).length)], .arr 4 (List.map Entry.row x.log.entries), .cells [.one (.c (.int .i64 x.id)), .one (.c (.int .u64 x.hterm)), .one (.c (.int .i64 x.vote)), .one (.ref 0 0), .one (.c (.int .i64 x.role)), .one (.c (.int .i64 x.leader)), .one (.c (.int .u64 x.commit)), .one (.c (.int .u64 x.votes)), .row 7 1 (List.map (rI .u64) x.next), .row 7 1 (List.map (rI .u64) x.match_), .one (.sl 3 0 4 0 (List.map Entry.row x.entries).length), .one (.c (.bool x.install)), .one (.sl 4 0 10 0 (List.map Letter.row x.out).length), .one (.c (.bool x.reset))], .arr 4 (List.map Entry.row x.entries), .arr 10 (List.map Letter.row x.out)]
def Writer.objs (x : Writer) : List O := [.cells [.one (.sl 1 0 1 0 (List.map (rI .u8) x.b).length)], .arr 1 (List.map (rI .u8) x.b)]
def Reader.objs (x : Reader) : List O := [.cells [.one (.c (.string x.s)), .one (.c (.bool x.bad))]]
def WriterN.objs (_ : WriterN) : List O := [.cells [.one (.c (.slice none 0 0))]]
end Sx
