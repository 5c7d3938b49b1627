/- PRINTED by gen2.py: the law RaftAppends. -/
import Derived.Test.YthimhmocgnnaiaaDoorRb
namespace Sx
open Go Go.Proofs.Tryd
def lawAppendsB10 (fuel : Nat) (_z : Start) (_calls : List Call) (_a1v0 : Int) (a1g0 : Raft) (a1e3 : Call) (_a1o4_0 : Int) (_a1o4_1 : Int) (_a1o4_2 : Hard) (_a1o4_3 : Int) (_a1o6_0 : Snapshot) (_a1o7_0 : List Entry) : Option Raft :=
  (iteB (a1e3.kind == 0)
  (Option.bind (rReceive fuel a1g0 (Letter.mk a1e3.letter_kind a1e3.letter_from_ a1e3.letter_to a1e3.letter_term a1e3.letter_index a1e3.letter_prev a1e3.letter_commit a1e3.letter_ok a1e3.letter_entries a1e3.letter_data)) fun a10o2_0 =>
    (some a10o2_0))
  (iteB (a1e3.kind == 1)
    (Option.bind (rTimeout fuel a1g0) fun a10o3_0 =>
      (some a10o3_0))
    (iteB (a1e3.kind == 3)
      (Option.bind (rPropose fuel a1g0 a1e3.data) fun (_, _, a10o4_2) =>
        (some a10o4_2))
      (iteB (a1e3.kind == 4)
        (Option.bind (rChange fuel a1g0 a1e3.add a1e3.id) fun (_, _, a10o5_2) =>
          (some a10o5_2))
        (some a1g0)))))
theorem lawAppendsB10_ok (g : GT) (fuel : Nat) (z : Start) (calls : List Call) (a1v0 : Int) (a1g0 : Raft) (a1e3 : Call) (a1o4_0 : Int) (a1o4_1 : Int) (a1o4_2 : Hard) (a1o4_3 : Int) (a1o6_0 : Snapshot) (a1o7_0 : List Entry) : PcO prog g.1 (subC [1, 1, 1, 1, 1, 1, 1, 0, 1, 0, 0, 1, 1, 0, 0, 1, 1, 1, 1, 0, 1] (bodyOf f7)) ({ tm := mkTm 151 [(7, (.a (.s (.ref 3 0)))), (9, (.a (.s (.ref 6 0)))), (10, (.a (.s (.c (.int .i64 a1o4_0))))), (11, (.a (.s (.c (.int .i64 a1o4_1))))), (12, (.a (.s (.ref 7 0)))), (13, (.a (.s (.c (.int .u64 a1o4_3))))), (14, (.a (.s (.c (.int .u64 a1o6_0.index))))), (15, (.a (.s (.ssl 4 (List.map Entry.row a1o7_0))))), (53, (.a (.s (.ssl 15 (List.map Call.row calls))))), (54, (.a (.s (.c (.int .i64 (((List.map Call.row calls).length : Nat) : Int)))))), (55, (.a (.s (.c (.int .i64 a1v0))))), (56, (.a (.s (.c (.bool (decide (a1v0 < (((List.map Call.row calls).length : Nat) : Int)))))))), (57, (.a (.s (.spt [(.c (.int .i64 a1e3.kind)), (.c (.int .i64 a1e3.letter_kind)), (.c (.int .i64 a1e3.letter_from_)), (.c (.int .i64 a1e3.letter_to)), (.c (.int .u64 a1e3.letter_term)), (.c (.int .u64 a1e3.letter_index)), (.c (.int .u64 a1e3.letter_prev)), (.c (.int .u64 a1e3.letter_commit)), (.c (.bool a1e3.letter_ok)), (.ssl 4 (List.map Entry.row a1e3.letter_entries)), (.c (.string a1e3.letter_data)), (.c (.string a1e3.data)), (.c (.int .i64 a1e3.id)), (.c (.int .u64 a1e3.index)), (.c (.bool a1e3.add))] 0)))), (58, (.a (.g [(.c (.int .i64 a1e3.kind)), (.c (.int .i64 a1e3.letter_kind)), (.c (.int .i64 a1e3.letter_from_)), (.c (.int .i64 a1e3.letter_to)), (.c (.int .u64 a1e3.letter_term)), (.c (.int .u64 a1e3.letter_index)), (.c (.int .u64 a1e3.letter_prev)), (.c (.int .u64 a1e3.letter_commit)), (.c (.bool a1e3.letter_ok)), (.ssl 4 (List.map Entry.row a1e3.letter_entries)), (.c (.string a1e3.letter_data)), (.c (.string a1e3.data)), (.c (.int .i64 a1e3.id)), (.c (.int .u64 a1e3.index)), (.c (.bool a1e3.add))]))), (59, (.t [(.s (.c (.int .i64 a1o4_0))), (.s (.c (.int .i64 a1o4_1))), (.g [(.c (.int .u64 a1o4_2.term)), (.c (.int .i64 a1o4_2.vote))]), (.s (.c (.int .u64 a1o4_3)))])), (60, (.a (.s (.ref 3 0)))), (61, (.t [(.s (.c (.int .i64 a1o4_0))), (.s (.c (.int .i64 a1o4_1))), (.g [(.c (.int .u64 a1o4_2.term)), (.c (.int .i64 a1o4_2.vote))]), (.s (.c (.int .u64 a1o4_3)))])), (62, (.a (.s (.c (.int .i64 a1o4_0))))), (63, (.a (.s (.c (.int .i64 a1o4_1))))), (64, (.a (.g [(.c (.int .u64 a1o4_2.term)), (.c (.int .i64 a1o4_2.vote))]))), (65, (.a (.s (.c (.int .u64 a1o4_3))))), (66, (.a (.s (.ref 3 0)))), (67, (.a (.s (.ref 1 0)))), (68, (.a (.g [(.c (.int .u64 a1o6_0.index)), (.c (.int .u64 a1o6_0.term)), (.c (.int .u64 a1o6_0.config)), (.c (.string a1o6_0.data))]))), (69, (.a (.s (.c (.int .u64 a1o6_0.index))))), (70, (.a (.s (.ref 3 0)))), (71, (.a (.s (.ref 1 0)))), (72, (.a (.s (.c (.int .u64 a1o6_0.index))))), (73, (.a (.s (.c (.int .u64 (IntKind.wrap .u64 (a1o6_0.index + 1))))))), (74, (.a (.s (.ssl 4 (List.map Entry.row a1o7_0))))), (75, (.a (.s (.ref 6 0)))), (76, (.a (.s (.c (.int .i64 a1e3.kind)))))], hp := [.cells [.one (.c (.int .i64 z.id)), .one (.c (.int .u64 z.hard_term)), .one (.c (.int .i64 z.hard_vote)), .one (.c (.int .u64 z.snap_index)), .one (.c (.int .u64 z.snap_term)), .one (.c (.int .u64 z.snap_config)), .one (.c (.string z.snap_data)), .one (.ssl 4 (List.map Entry.row z.l))], .cells [.one (.c (.int .u64 a1g0.log.index)), .one (.c (.int .u64 a1g0.log.term)), .one (.c (.int .u64 a1g0.log.config)), .one (.c (.string a1g0.log.data)), .one (.sl 2 0 4 0 (List.map Entry.row a1g0.log.entries).length)], .arr 4 (List.map Entry.row a1g0.log.entries), .cells [.one (.c (.int .i64 a1g0.id)), .one (.c (.int .u64 a1g0.hterm)), .one (.c (.int .i64 a1g0.vote)), .one (.ref 1 0), .one (.c (.int .i64 a1g0.role)), .one (.c (.int .i64 a1g0.leader)), .one (.c (.int .u64 a1g0.commit)), .one (.c (.int .u64 a1g0.votes)), .row 7 1 (List.map (rI .u64) a1g0.next), .row 7 1 (List.map (rI .u64) a1g0.match_), .one (.sl 4 0 4 0 (List.map Entry.row a1g0.entries).length), .one (.c (.bool a1g0.install)), .one (.sl 5 0 10 0 (List.map Letter.row a1g0.out).length), .one (.c (.bool a1g0.reset))], .arr 4 (List.map Entry.row a1g0.entries), .arr 10 (List.map Letter.row a1g0.out), .cells [.one (.c (.int .i64 a1e3.kind)), .one (.c (.int .i64 a1e3.letter_kind)), .one (.c (.int .i64 a1e3.letter_from_)), .one (.c (.int .i64 a1e3.letter_to)), .one (.c (.int .u64 a1e3.letter_term)), .one (.c (.int .u64 a1e3.letter_index)), .one (.c (.int .u64 a1e3.letter_prev)), .one (.c (.int .u64 a1e3.letter_commit)), .one (.c (.bool a1e3.letter_ok)), .one (.ssl 4 (List.map Entry.row a1e3.letter_entries)), .one (.c (.string a1e3.letter_data)), .one (.c (.string a1e3.data)), .one (.c (.int .i64 a1e3.id)), .one (.c (.int .u64 a1e3.index)), .one (.c (.bool a1e3.add))], .cells [.one (.c (.int .u64 a1o4_2.term)), .one (.c (.int .i64 a1o4_2.vote))]], mv := [4, 5, 2] }) (lawAppendsB10 fuel z calls a1v0 a1g0 a1e3 a1o4_0 a1o4_1 a1o4_2 a1o4_3 a1o6_0 a1o7_0)
    (fun o0 => (.normal, { tm := mkTm 151 [(7, (.a (.s (.ref 3 0)))), (10, (.a (.s (.c (.int .i64 a1o4_0))))), (12, (.a (.s (.ref 7 0)))), (13, (.a (.s (.c (.int .u64 a1o4_3))))), (14, (.a (.s (.c (.int .u64 a1o6_0.index))))), (15, (.a (.s (.ssl 4 (List.map Entry.row a1o7_0))))), (53, (.a (.s (.ssl 15 (List.map Call.row calls))))), (54, (.a (.s (.c (.int .i64 (((List.map Call.row calls).length : Nat) : Int)))))), (55, (.a (.s (.c (.int .i64 a1v0)))))], hp := [.cells [.one (.c (.int .i64 z.id)), .one (.c (.int .u64 z.hard_term)), .one (.c (.int .i64 z.hard_vote)), .one (.c (.int .u64 z.snap_index)), .one (.c (.int .u64 z.snap_term)), .one (.c (.int .u64 z.snap_config)), .one (.c (.string z.snap_data)), .one (.ssl 4 (List.map Entry.row z.l))], .cells [.one (.c (.int .u64 o0.log.index)), .one (.c (.int .u64 o0.log.term)), .one (.c (.int .u64 o0.log.config)), .one (.c (.string o0.log.data)), .one (.sl 2 0 4 0 (List.map Entry.row o0.log.entries).length)], .arr 4 (List.map Entry.row o0.log.entries), .cells [.one (.c (.int .i64 o0.id)), .one (.c (.int .u64 o0.hterm)), .one (.c (.int .i64 o0.vote)), .one (.ref 1 0), .one (.c (.int .i64 o0.role)), .one (.c (.int .i64 o0.leader)), .one (.c (.int .u64 o0.commit)), .one (.c (.int .u64 o0.votes)), .row 7 1 (List.map (rI .u64) o0.next), .row 7 1 (List.map (rI .u64) o0.match_), .one (.sl 4 0 4 0 (List.map Entry.row o0.entries).length), .one (.c (.bool o0.install)), .one (.sl 5 0 10 0 (List.map Letter.row o0.out).length), .one (.c (.bool o0.reset))], .arr 4 (List.map Entry.row o0.entries), .arr 10 (List.map Letter.row o0.out), .cells [.one (.c (.int .i64 a1e3.kind)), .one (.c (.int .i64 a1e3.letter_kind)), .one (.c (.int .i64 a1e3.letter_from_)), .one (.c (.int .i64 a1e3.letter_to)), .one (.c (.int .u64 a1e3.letter_term)), .one (.c (.int .u64 a1e3.letter_index)), .one (.c (.int .u64 a1e3.letter_prev)), .one (.c (.int .u64 a1e3.letter_commit)), .one (.c (.bool a1e3.letter_ok)), .one (.ssl 4 (List.map Entry.row a1e3.letter_entries)), .one (.c (.string a1e3.letter_data)), .one (.c (.string a1e3.data)), .one (.c (.int .i64 a1e3.id)), .one (.c (.int .u64 a1e3.index)), .one (.c (.bool a1e3.add))], .cells [.one (.c (.int .u64 a1o4_2.term)), .one (.c (.int .i64 a1o4_2.vote))]], mv := [4, 5, 2] })) :=
  Pc_go mixed (
  .reg [] [] [] <|
  .ite (fun a10h1 =>
  .cond true a10h1 <|
    .bind (fun a10o2_0 a10h2 =>
    .reg [(3, (CL [1, 2, 3, 4, 5] [1, 10] (rReceive_ok g fuel a1g0 (Letter.mk a1e3.letter_kind a1e3.letter_from_ a1e3.letter_to a1e3.letter_term a1e3.letter_index a1e3.letter_prev a1e3.letter_commit a1e3.letter_ok a1e3.letter_entries a1e3.letter_data) _ a10h2)))] [] [] <|
      .gh (.keep [7, 10, 12, 13, 14, 15, 53, 54, 55]) trivial <|
      .leaf true [] [] a10o2_0))
  (fun a10h1 =>
  .cond false a10h1 <|
    .reg [] [] [] <|
    .ite (fun a10h2 =>
    .cond true a10h2 <|
      .bind (fun a10o3_0 a10h3 =>
      .reg [(1, (CL [1, 2, 3, 4, 5] [1] (rTimeout_ok g fuel a1g0 _ a10h3)))] [] [] <|
        .gh (.keep [7, 10, 12, 13, 14, 15, 53, 54, 55]) trivial <|
        .leaf true [] [] a10o3_0))
    (fun a10h2 =>
    .cond false a10h2 <|
      .reg [] [] [] <|
      .ite (fun a10h3 =>
      .cond true a10h3 <|
        .bind (fun | (_, _, a10o4_2), a10h4 => (
        .reg [(3, (CL [1, 2, 3, 4, 5] [1, 1] (rPropose_ok g fuel a1g0 a1e3.data _ a10h4)))] [] [] <|
          .gh (.keep [7, 10, 12, 13, 14, 15, 53, 54, 55]) trivial <|
          .leaf true [] [] a10o4_2)))
      (fun a10h3 =>
      .cond false a10h3 <|
        .reg [] [] [] <|
        .ite (fun a10h4 =>
        .cond true a10h4 <|
          .bind (fun | (_, _, a10o5_2), a10h5 => (
          .reg [(5, (CL [1, 2, 3, 4, 5] [1, 1, 1] (rChange_ok g fuel a1g0 a1e3.add a1e3.id _ a10h5)))] [] [] <|
            .gh (.keep [7, 10, 12, 13, 14, 15, 53, 54, 55]) trivial <|
            .leaf true [] [] a10o5_2)))
        (fun a10h4 =>
        .cond false a10h4 <|
          .gh (.keep [7, 10, 12, 13, 14, 15, 53, 54, 55]) trivial <|
          .leaf true [] [] a1g0))))) (by kernel_rfl)
def lawAppendsL11 (z : Start) (calls : List Call) (a1v0 : Int) (a1e3 : Call) (a1o4_2 : Hard) (a1o4_3 : Int) (a1o6_0 : Snapshot) (a1o7_0 : List Entry) (a1o8_0 : Raft) (a1o9_2 : Hard) : Nat → Int → Option (Unit ⊕ Unit)
  | 0, _ => none
  | fuel + 1, a11v0 =>
  (iteB (decide (a11v0 < (((List.map Entry.row a1o7_0).length : Nat) : Int)))
  (ifP (0 ≤ a11v0)
    (Option.bind (a1o7_0[(a11v0).toNat]?) fun a11e3 =>
    (Option.bind (rLog a1o8_0) fun _ =>
    (Option.bind (lTerm a1o8_0.log a11e3.index) fun (a11o5_0, a11o5_1) =>
      (iteB (a1o4_2.term == a1o9_2.term)
        (iteB (a11o5_1 != 0)
          (some (Sum.inl ()))
          (iteB (a11o5_0 != a11e3.term)
            (some (Sum.inl ()))
            (iteB (decide (a1o4_3 < a1o6_0.index))
              (some (Sum.inl ()))
              (lawAppendsL11 z calls a1v0 a1e3 a1o4_2 a1o4_3 a1o6_0 a1o7_0 a1o8_0 a1o9_2 fuel (IntKind.wrap .i64 (a11v0 + 1))))))
        (iteB (decide (a1o4_3 < a1o6_0.index))
          (some (Sum.inl ()))
          (lawAppendsL11 z calls a1v0 a1e3 a1o4_2 a1o4_3 a1o6_0 a1o7_0 a1o8_0 a1o9_2 fuel (IntKind.wrap .i64 (a11v0 + 1)))))))))
  (some (Sum.inr ())))
theorem lawAppendsL11_ok (g : GT) (z : Start) (calls : List Call) (a1v0 : Int) (a1e3 : Call) (a1o4_2 : Hard) (a1o4_3 : Int) (a1o6_0 : Snapshot) (a1o7_0 : List Entry) (a1o8_0 : Raft) (a1o9_2 : Hard) : ∀ (fuel : Nat) (v : Int), PcO prog g.1 (.loop (subC [1, 1, 1, 1, 1, 1, 1, 0, 1, 0, 0, 1, 1, 0, 0, 1, 1, 1, 1, 1, 1, 1, 1, 0, 0] (bodyOf f7))) ((fun a11v0 => ({ tm := mkTm 151 [(7, (.a (.s (.ref 3 0)))), (13, (.a (.s (.c (.int .u64 a1o4_3))))), (14, (.a (.s (.c (.int .u64 a1o6_0.index))))), (20, (.a (.s (.c (.bool (a1o4_2.term == a1o9_2.term)))))), (53, (.a (.s (.ssl 15 (List.map Call.row calls))))), (54, (.a (.s (.c (.int .i64 (((List.map Call.row calls).length : Nat) : Int)))))), (55, (.a (.s (.c (.int .i64 a1v0))))), (121, (.a (.s (.ssl 4 (List.map Entry.row a1o7_0))))), (122, (.a (.s (.c (.int .i64 (((List.map Entry.row a1o7_0).length : Nat) : Int)))))), (123, (.a (.s (.c (.int .i64 a11v0)))))], hp := [.cells [.one (.c (.int .i64 z.id)), .one (.c (.int .u64 z.hard_term)), .one (.c (.int .i64 z.hard_vote)), .one (.c (.int .u64 z.snap_index)), .one (.c (.int .u64 z.snap_term)), .one (.c (.int .u64 z.snap_config)), .one (.c (.string z.snap_data)), .one (.ssl 4 (List.map Entry.row z.l))], .cells [.one (.c (.int .u64 a1o8_0.log.index)), .one (.c (.int .u64 a1o8_0.log.term)), .one (.c (.int .u64 a1o8_0.log.config)), .one (.c (.string a1o8_0.log.data)), .one (.sl 2 0 4 0 (List.map Entry.row a1o8_0.log.entries).length)], .arr 4 (List.map Entry.row a1o8_0.log.entries), .cells [.one (.c (.int .i64 a1o8_0.id)), .one (.c (.int .u64 a1o8_0.hterm)), .one (.c (.int .i64 a1o8_0.vote)), .one (.ref 1 0), .one (.c (.int .i64 a1o8_0.role)), .one (.c (.int .i64 a1o8_0.leader)), .one (.c (.int .u64 a1o8_0.commit)), .one (.c (.int .u64 a1o8_0.votes)), .row 7 1 (List.map (rI .u64) a1o8_0.next), .row 7 1 (List.map (rI .u64) a1o8_0.match_), .one (.sl 4 0 4 0 (List.map Entry.row a1o8_0.entries).length), .one (.c (.bool a1o8_0.install)), .one (.sl 5 0 10 0 (List.map Letter.row a1o8_0.out).length), .one (.c (.bool a1o8_0.reset))], .arr 4 (List.map Entry.row a1o8_0.entries), .arr 10 (List.map Letter.row a1o8_0.out), .cells [.one (.c (.int .i64 a1e3.kind)), .one (.c (.int .i64 a1e3.letter_kind)), .one (.c (.int .i64 a1e3.letter_from_)), .one (.c (.int .i64 a1e3.letter_to)), .one (.c (.int .u64 a1e3.letter_term)), .one (.c (.int .u64 a1e3.letter_index)), .one (.c (.int .u64 a1e3.letter_prev)), .one (.c (.int .u64 a1e3.letter_commit)), .one (.c (.bool a1e3.letter_ok)), .one (.ssl 4 (List.map Entry.row a1e3.letter_entries)), .one (.c (.string a1e3.letter_data)), .one (.c (.string a1e3.data)), .one (.c (.int .i64 a1e3.id)), .one (.c (.int .u64 a1e3.index)), .one (.c (.bool a1e3.add))], .cells [.one (.c (.int .u64 a1o4_2.term)), .one (.c (.int .i64 a1o4_2.vote))], .cells [.one (.c (.int .u64 a1o9_2.term)), .one (.c (.int .i64 a1o9_2.vote))]], mv := [4, 5, 2] } : St)) v) (lawAppendsL11 z calls a1v0 a1e3 a1o4_2 a1o4_3 a1o6_0 a1o7_0 a1o8_0 a1o9_2 fuel v)
    (Sum.elim (fun _ => (.ret, { tm := mkTm 151 [(4, (.a (.s (.c (.bool false)))))], hp := [.cells [.one (.c (.int .i64 z.id)), .one (.c (.int .u64 z.hard_term)), .one (.c (.int .i64 z.hard_vote)), .one (.c (.int .u64 z.snap_index)), .one (.c (.int .u64 z.snap_term)), .one (.c (.int .u64 z.snap_config)), .one (.c (.string z.snap_data)), .one (.ssl 4 (List.map Entry.row z.l))], .cells [.one (.c (.int .u64 a1o8_0.log.index)), .one (.c (.int .u64 a1o8_0.log.term)), .one (.c (.int .u64 a1o8_0.log.config)), .one (.c (.string a1o8_0.log.data)), .one (.sl 2 0 4 0 (List.map Entry.row a1o8_0.log.entries).length)], .arr 4 (List.map Entry.row a1o8_0.log.entries), .cells [.one (.c (.int .i64 a1o8_0.id)), .one (.c (.int .u64 a1o8_0.hterm)), .one (.c (.int .i64 a1o8_0.vote)), .one (.ref 1 0), .one (.c (.int .i64 a1o8_0.role)), .one (.c (.int .i64 a1o8_0.leader)), .one (.c (.int .u64 a1o8_0.commit)), .one (.c (.int .u64 a1o8_0.votes)), .row 7 1 (List.map (rI .u64) a1o8_0.next), .row 7 1 (List.map (rI .u64) a1o8_0.match_), .one (.sl 4 0 4 0 (List.map Entry.row a1o8_0.entries).length), .one (.c (.bool a1o8_0.install)), .one (.sl 5 0 10 0 (List.map Letter.row a1o8_0.out).length), .one (.c (.bool a1o8_0.reset))], .arr 4 (List.map Entry.row a1o8_0.entries), .arr 10 (List.map Letter.row a1o8_0.out), .cells [.one (.c (.int .i64 a1e3.kind)), .one (.c (.int .i64 a1e3.letter_kind)), .one (.c (.int .i64 a1e3.letter_from_)), .one (.c (.int .i64 a1e3.letter_to)), .one (.c (.int .u64 a1e3.letter_term)), .one (.c (.int .u64 a1e3.letter_index)), .one (.c (.int .u64 a1e3.letter_prev)), .one (.c (.int .u64 a1e3.letter_commit)), .one (.c (.bool a1e3.letter_ok)), .one (.ssl 4 (List.map Entry.row a1e3.letter_entries)), .one (.c (.string a1e3.letter_data)), .one (.c (.string a1e3.data)), .one (.c (.int .i64 a1e3.id)), .one (.c (.int .u64 a1e3.index)), .one (.c (.bool a1e3.add))], .cells [.one (.c (.int .u64 a1o4_2.term)), .one (.c (.int .i64 a1o4_2.vote))], .cells [.one (.c (.int .u64 a1o9_2.term)), .one (.c (.int .i64 a1o9_2.vote))]], mv := [4, 5, 2] })) (fun _ => ((.exit 3), { tm := mkTm 151 [(7, (.a (.s (.ref 3 0)))), (53, (.a (.s (.ssl 15 (List.map Call.row calls))))), (54, (.a (.s (.c (.int .i64 (((List.map Call.row calls).length : Nat) : Int)))))), (55, (.a (.s (.c (.int .i64 a1v0)))))], hp := [.cells [.one (.c (.int .i64 z.id)), .one (.c (.int .u64 z.hard_term)), .one (.c (.int .i64 z.hard_vote)), .one (.c (.int .u64 z.snap_index)), .one (.c (.int .u64 z.snap_term)), .one (.c (.int .u64 z.snap_config)), .one (.c (.string z.snap_data)), .one (.ssl 4 (List.map Entry.row z.l))], .cells [.one (.c (.int .u64 a1o8_0.log.index)), .one (.c (.int .u64 a1o8_0.log.term)), .one (.c (.int .u64 a1o8_0.log.config)), .one (.c (.string a1o8_0.log.data)), .one (.sl 2 0 4 0 (List.map Entry.row a1o8_0.log.entries).length)], .arr 4 (List.map Entry.row a1o8_0.log.entries), .cells [.one (.c (.int .i64 a1o8_0.id)), .one (.c (.int .u64 a1o8_0.hterm)), .one (.c (.int .i64 a1o8_0.vote)), .one (.ref 1 0), .one (.c (.int .i64 a1o8_0.role)), .one (.c (.int .i64 a1o8_0.leader)), .one (.c (.int .u64 a1o8_0.commit)), .one (.c (.int .u64 a1o8_0.votes)), .row 7 1 (List.map (rI .u64) a1o8_0.next), .row 7 1 (List.map (rI .u64) a1o8_0.match_), .one (.sl 4 0 4 0 (List.map Entry.row a1o8_0.entries).length), .one (.c (.bool a1o8_0.install)), .one (.sl 5 0 10 0 (List.map Letter.row a1o8_0.out).length), .one (.c (.bool a1o8_0.reset))], .arr 4 (List.map Entry.row a1o8_0.entries), .arr 10 (List.map Letter.row a1o8_0.out), .cells [.one (.c (.int .i64 a1e3.kind)), .one (.c (.int .i64 a1e3.letter_kind)), .one (.c (.int .i64 a1e3.letter_from_)), .one (.c (.int .i64 a1e3.letter_to)), .one (.c (.int .u64 a1e3.letter_term)), .one (.c (.int .u64 a1e3.letter_index)), .one (.c (.int .u64 a1e3.letter_prev)), .one (.c (.int .u64 a1e3.letter_commit)), .one (.c (.bool a1e3.letter_ok)), .one (.ssl 4 (List.map Entry.row a1e3.letter_entries)), .one (.c (.string a1e3.letter_data)), .one (.c (.string a1e3.data)), .one (.c (.int .i64 a1e3.id)), .one (.c (.int .u64 a1e3.index)), .one (.c (.bool a1e3.add))], .cells [.one (.c (.int .u64 a1o4_2.term)), .one (.c (.int .i64 a1o4_2.vote))], .cells [.one (.c (.int .u64 a1o9_2.term)), .one (.c (.int .i64 a1o9_2.vote))]], mv := [4, 5, 2] }))) :=
  Lo_go (rec := (fun n (v : Int) => lawAppendsL11 z calls a1v0 a1e3 a1o4_2 a1o4_3 a1o6_0 a1o7_0 a1o8_0 a1o9_2 n v)) mixed (fun _ => rfl)
    (fun _ a11v0 =>
    .reg [] [] [] <|
    .ite (fun a11h1 =>
    .cond true a11h1 <|
      .ifp (fun a11h2 =>
      .bind (fun a11e3 a11h3 =>
      .reg [(0, (eA Entry.row a11h2 a11h3))] [] [] <|
      .bind (fun _ a11h4 =>
      .bind (fun | _, a11h5 => (
        .reg [(1, (LK [1, 2, 3, 4, 5] [1] (rLog_ok g a1o8_0 _ a11h4))), (4, (LK [1, 2] [1, 1] (lTerm_ok g a1o8_0.log a11e3.index _ a11h5)))] [] [] <|
          .ite (fun a11h6 =>
          .ite (fun a11h7 =>
            .reg [(9, (pB a11h7)), (10, (pB a11h6))] [(1, gB a11h6), (4, gB a11h7)] [] <|
              .cond true (show true = true from rfl) <|
              .reg [] [] [] <|
              .gh (.keep [4]) trivial <|
              .leaf true [] [] (Sum.inl ()))
            (fun a11h7 =>
            .reg [(9, (pB a11h7)), (10, (pB a11h6))] [(1, gB a11h6), (4, gB a11h7)] [] <|
              .ite (fun a11h8 =>
              .cond true a11h8 <|
                .reg [] [] [] <|
                .gh (.keep [4]) trivial <|
                .leaf true [] [] (Sum.inl ()))
              (fun a11h8 =>
              .cond false a11h8 <|
                .reg [] [] [] <|
                .ite (fun a11h9 =>
                .cond true a11h9 <|
                  .reg [] [] [] <|
                  .gh (.keep [4]) trivial <|
                  .leaf true [] [] (Sum.inl ()))
                (fun a11h9 =>
                .cond false a11h9 <|
                  .reg [] [] [] <|
                  .gh (.keep [7, 13, 14, 20, 53, 54, 55, 121, 122, 123]) trivial <|
                  .again true (IntKind.wrap .i64 (a11v0 + 1))))))
          (fun a11h6 =>
          .reg [(10, (pB a11h6))] [(1, gB a11h6), (4, gU)] [] <|
            .cond false (show false = false from rfl) <|
            .reg [] [] [] <|
            .ite (fun a11h7 =>
            .cond true a11h7 <|
              .reg [] [] [] <|
              .gh (.keep [4]) trivial <|
              .leaf true [] [] (Sum.inl ()))
            (fun a11h7 =>
            .cond false a11h7 <|
              .reg [] [] [] <|
              .gh (.keep [7, 13, 14, 20, 53, 54, 55, 121, 122, 123]) trivial <|
              .again true (IntKind.wrap .i64 (a11v0 + 1))))))))))
    (fun a11h1 =>
    .cond false a11h1 <|
      .gh (.keep [7, 53, 54, 55]) trivial <|
      .leaf true [] [] (Sum.inr ()))) (fun _ _ => by kernel_rfl)
def lawAppendsL12 (z : Start) (calls : List Call) (a1v0 : Int) (a1e3 : Call) (a1o4_2 : Hard) (a1o4_3 : Int) (a1o6_0 : Snapshot) (a1o7_0 : List Entry) (a1o8_0 : Raft) (a1o9_2 : Hard) : Nat → Int → Option (Unit ⊕ Unit)
  | 0, _ => none
  | fuel + 1, a12v0 =>
  (iteB (decide (a12v0 < (((List.map Entry.row a1o7_0).length : Nat) : Int)))
  (ifP (0 ≤ a12v0)
    (Option.bind (a1o7_0[(a12v0).toNat]?) fun a12e3 =>
    (Option.bind (rLog a1o8_0) fun _ =>
    (Option.bind (lTerm a1o8_0.log a12e3.index) fun _ =>
      (iteB (decide (a1o4_3 < a1o6_0.index))
        (some (Sum.inl ()))
        (lawAppendsL12 z calls a1v0 a1e3 a1o4_2 a1o4_3 a1o6_0 a1o7_0 a1o8_0 a1o9_2 fuel (IntKind.wrap .i64 (a12v0 + 1))))))))
  (some (Sum.inr ())))
theorem lawAppendsL12_ok (g : GT) (z : Start) (calls : List Call) (a1v0 : Int) (a1e3 : Call) (a1o4_2 : Hard) (a1o4_3 : Int) (a1o6_0 : Snapshot) (a1o7_0 : List Entry) (a1o8_0 : Raft) (a1o9_2 : Hard) : ∀ (fuel : Nat) (v : Int), PcO prog g.1 (.loop (subC [1, 1, 1, 1, 1, 1, 1, 0, 1, 0, 0, 1, 1, 0, 0, 1, 1, 1, 1, 1, 1, 1, 1, 0, 0] (bodyOf f7))) ((fun a12v0 => ({ tm := mkTm 151 [(7, (.a (.s (.ref 3 0)))), (13, (.a (.s (.c (.int .u64 a1o4_3))))), (14, (.a (.s (.c (.int .u64 a1o6_0.index))))), (20, (.a (.s (.c (.bool false))))), (53, (.a (.s (.ssl 15 (List.map Call.row calls))))), (54, (.a (.s (.c (.int .i64 (((List.map Call.row calls).length : Nat) : Int)))))), (55, (.a (.s (.c (.int .i64 a1v0))))), (121, (.a (.s (.ssl 4 (List.map Entry.row a1o7_0))))), (122, (.a (.s (.c (.int .i64 (((List.map Entry.row a1o7_0).length : Nat) : Int)))))), (123, (.a (.s (.c (.int .i64 a12v0)))))], hp := [.cells [.one (.c (.int .i64 z.id)), .one (.c (.int .u64 z.hard_term)), .one (.c (.int .i64 z.hard_vote)), .one (.c (.int .u64 z.snap_index)), .one (.c (.int .u64 z.snap_term)), .one (.c (.int .u64 z.snap_config)), .one (.c (.string z.snap_data)), .one (.ssl 4 (List.map Entry.row z.l))], .cells [.one (.c (.int .u64 a1o8_0.log.index)), .one (.c (.int .u64 a1o8_0.log.term)), .one (.c (.int .u64 a1o8_0.log.config)), .one (.c (.string a1o8_0.log.data)), .one (.sl 2 0 4 0 (List.map Entry.row a1o8_0.log.entries).length)], .arr 4 (List.map Entry.row a1o8_0.log.entries), .cells [.one (.c (.int .i64 a1o8_0.id)), .one (.c (.int .u64 a1o8_0.hterm)), .one (.c (.int .i64 a1o8_0.vote)), .one (.ref 1 0), .one (.c (.int .i64 a1o8_0.role)), .one (.c (.int .i64 a1o8_0.leader)), .one (.c (.int .u64 a1o8_0.commit)), .one (.c (.int .u64 a1o8_0.votes)), .row 7 1 (List.map (rI .u64) a1o8_0.next), .row 7 1 (List.map (rI .u64) a1o8_0.match_), .one (.sl 4 0 4 0 (List.map Entry.row a1o8_0.entries).length), .one (.c (.bool a1o8_0.install)), .one (.sl 5 0 10 0 (List.map Letter.row a1o8_0.out).length), .one (.c (.bool a1o8_0.reset))], .arr 4 (List.map Entry.row a1o8_0.entries), .arr 10 (List.map Letter.row a1o8_0.out), .cells [.one (.c (.int .i64 a1e3.kind)), .one (.c (.int .i64 a1e3.letter_kind)), .one (.c (.int .i64 a1e3.letter_from_)), .one (.c (.int .i64 a1e3.letter_to)), .one (.c (.int .u64 a1e3.letter_term)), .one (.c (.int .u64 a1e3.letter_index)), .one (.c (.int .u64 a1e3.letter_prev)), .one (.c (.int .u64 a1e3.letter_commit)), .one (.c (.bool a1e3.letter_ok)), .one (.ssl 4 (List.map Entry.row a1e3.letter_entries)), .one (.c (.string a1e3.letter_data)), .one (.c (.string a1e3.data)), .one (.c (.int .i64 a1e3.id)), .one (.c (.int .u64 a1e3.index)), .one (.c (.bool a1e3.add))], .cells [.one (.c (.int .u64 a1o4_2.term)), .one (.c (.int .i64 a1o4_2.vote))], .cells [.one (.c (.int .u64 a1o9_2.term)), .one (.c (.int .i64 a1o9_2.vote))]], mv := [4, 5, 2] } : St)) v) (lawAppendsL12 z calls a1v0 a1e3 a1o4_2 a1o4_3 a1o6_0 a1o7_0 a1o8_0 a1o9_2 fuel v)
    (Sum.elim (fun _ => (.ret, { tm := mkTm 151 [(4, (.a (.s (.c (.bool false)))))], hp := [.cells [.one (.c (.int .i64 z.id)), .one (.c (.int .u64 z.hard_term)), .one (.c (.int .i64 z.hard_vote)), .one (.c (.int .u64 z.snap_index)), .one (.c (.int .u64 z.snap_term)), .one (.c (.int .u64 z.snap_config)), .one (.c (.string z.snap_data)), .one (.ssl 4 (List.map Entry.row z.l))], .cells [.one (.c (.int .u64 a1o8_0.log.index)), .one (.c (.int .u64 a1o8_0.log.term)), .one (.c (.int .u64 a1o8_0.log.config)), .one (.c (.string a1o8_0.log.data)), .one (.sl 2 0 4 0 (List.map Entry.row a1o8_0.log.entries).length)], .arr 4 (List.map Entry.row a1o8_0.log.entries), .cells [.one (.c (.int .i64 a1o8_0.id)), .one (.c (.int .u64 a1o8_0.hterm)), .one (.c (.int .i64 a1o8_0.vote)), .one (.ref 1 0), .one (.c (.int .i64 a1o8_0.role)), .one (.c (.int .i64 a1o8_0.leader)), .one (.c (.int .u64 a1o8_0.commit)), .one (.c (.int .u64 a1o8_0.votes)), .row 7 1 (List.map (rI .u64) a1o8_0.next), .row 7 1 (List.map (rI .u64) a1o8_0.match_), .one (.sl 4 0 4 0 (List.map Entry.row a1o8_0.entries).length), .one (.c (.bool a1o8_0.install)), .one (.sl 5 0 10 0 (List.map Letter.row a1o8_0.out).length), .one (.c (.bool a1o8_0.reset))], .arr 4 (List.map Entry.row a1o8_0.entries), .arr 10 (List.map Letter.row a1o8_0.out), .cells [.one (.c (.int .i64 a1e3.kind)), .one (.c (.int .i64 a1e3.letter_kind)), .one (.c (.int .i64 a1e3.letter_from_)), .one (.c (.int .i64 a1e3.letter_to)), .one (.c (.int .u64 a1e3.letter_term)), .one (.c (.int .u64 a1e3.letter_index)), .one (.c (.int .u64 a1e3.letter_prev)), .one (.c (.int .u64 a1e3.letter_commit)), .one (.c (.bool a1e3.letter_ok)), .one (.ssl 4 (List.map Entry.row a1e3.letter_entries)), .one (.c (.string a1e3.letter_data)), .one (.c (.string a1e3.data)), .one (.c (.int .i64 a1e3.id)), .one (.c (.int .u64 a1e3.index)), .one (.c (.bool a1e3.add))], .cells [.one (.c (.int .u64 a1o4_2.term)), .one (.c (.int .i64 a1o4_2.vote))], .cells [.one (.c (.int .u64 a1o9_2.term)), .one (.c (.int .i64 a1o9_2.vote))]], mv := [4, 5, 2] })) (fun _ => ((.exit 3), { tm := mkTm 151 [(7, (.a (.s (.ref 3 0)))), (53, (.a (.s (.ssl 15 (List.map Call.row calls))))), (54, (.a (.s (.c (.int .i64 (((List.map Call.row calls).length : Nat) : Int)))))), (55, (.a (.s (.c (.int .i64 a1v0)))))], hp := [.cells [.one (.c (.int .i64 z.id)), .one (.c (.int .u64 z.hard_term)), .one (.c (.int .i64 z.hard_vote)), .one (.c (.int .u64 z.snap_index)), .one (.c (.int .u64 z.snap_term)), .one (.c (.int .u64 z.snap_config)), .one (.c (.string z.snap_data)), .one (.ssl 4 (List.map Entry.row z.l))], .cells [.one (.c (.int .u64 a1o8_0.log.index)), .one (.c (.int .u64 a1o8_0.log.term)), .one (.c (.int .u64 a1o8_0.log.config)), .one (.c (.string a1o8_0.log.data)), .one (.sl 2 0 4 0 (List.map Entry.row a1o8_0.log.entries).length)], .arr 4 (List.map Entry.row a1o8_0.log.entries), .cells [.one (.c (.int .i64 a1o8_0.id)), .one (.c (.int .u64 a1o8_0.hterm)), .one (.c (.int .i64 a1o8_0.vote)), .one (.ref 1 0), .one (.c (.int .i64 a1o8_0.role)), .one (.c (.int .i64 a1o8_0.leader)), .one (.c (.int .u64 a1o8_0.commit)), .one (.c (.int .u64 a1o8_0.votes)), .row 7 1 (List.map (rI .u64) a1o8_0.next), .row 7 1 (List.map (rI .u64) a1o8_0.match_), .one (.sl 4 0 4 0 (List.map Entry.row a1o8_0.entries).length), .one (.c (.bool a1o8_0.install)), .one (.sl 5 0 10 0 (List.map Letter.row a1o8_0.out).length), .one (.c (.bool a1o8_0.reset))], .arr 4 (List.map Entry.row a1o8_0.entries), .arr 10 (List.map Letter.row a1o8_0.out), .cells [.one (.c (.int .i64 a1e3.kind)), .one (.c (.int .i64 a1e3.letter_kind)), .one (.c (.int .i64 a1e3.letter_from_)), .one (.c (.int .i64 a1e3.letter_to)), .one (.c (.int .u64 a1e3.letter_term)), .one (.c (.int .u64 a1e3.letter_index)), .one (.c (.int .u64 a1e3.letter_prev)), .one (.c (.int .u64 a1e3.letter_commit)), .one (.c (.bool a1e3.letter_ok)), .one (.ssl 4 (List.map Entry.row a1e3.letter_entries)), .one (.c (.string a1e3.letter_data)), .one (.c (.string a1e3.data)), .one (.c (.int .i64 a1e3.id)), .one (.c (.int .u64 a1e3.index)), .one (.c (.bool a1e3.add))], .cells [.one (.c (.int .u64 a1o4_2.term)), .one (.c (.int .i64 a1o4_2.vote))], .cells [.one (.c (.int .u64 a1o9_2.term)), .one (.c (.int .i64 a1o9_2.vote))]], mv := [4, 5, 2] }))) :=
  Lo_go (rec := (fun n (v : Int) => lawAppendsL12 z calls a1v0 a1e3 a1o4_2 a1o4_3 a1o6_0 a1o7_0 a1o8_0 a1o9_2 n v)) mixed (fun _ => rfl)
    (fun _ a12v0 =>
    .reg [] [] [] <|
    .ite (fun a12h1 =>
    .cond true a12h1 <|
      .ifp (fun a12h2 =>
      .bind (fun a12e3 a12h3 =>
      .reg [(0, (eA Entry.row a12h2 a12h3))] [] [] <|
      .bind (fun _ a12h4 =>
      .bind (fun | _, a12h5 => (
        .reg [(1, (LK [1, 2, 3, 4, 5] [1] (rLog_ok g a1o8_0 _ a12h4))), (4, (LK [1, 2] [1, 1] (lTerm_ok g a1o8_0.log a12e3.index _ a12h5)))] [] [] <|
          .reg [(10, (pS false))] [(1, gS false), (4, gU)] [] <|
          .cond false (show false = false from rfl) <|
          .reg [] [] [] <|
          .ite (fun a12h6 =>
          .cond true a12h6 <|
            .reg [] [] [] <|
            .gh (.keep [4]) trivial <|
            .leaf true [] [] (Sum.inl ()))
          (fun a12h6 =>
          .cond false a12h6 <|
            .reg [] [] [] <|
            .gh (.keep [7, 13, 14, 20, 53, 54, 55, 121, 122, 123]) trivial <|
            .again true (IntKind.wrap .i64 (a12v0 + 1)))))))))
    (fun a12h1 =>
    .cond false a12h1 <|
      .gh (.keep [7, 53, 54, 55]) trivial <|
      .leaf true [] [] (Sum.inr ()))) (fun _ _ => by kernel_rfl)
def lawAppendsL1 (z : Start) (calls : List Call) : Nat → Int → Raft → Option (Raft ⊕ Raft)
  | 0, _, _ => none
  | fuel + 1, a1v0, a1g0 =>
  (iteB (decide (a1v0 < (((List.map Call.row calls).length : Nat) : Int)))
  (ifP (0 ≤ a1v0)
    (Option.bind (calls[(a1v0).toNat]?) fun a1e3 =>
    (Option.bind (rStatus a1g0) fun (a1o4_0, a1o4_1, a1o4_2, a1o4_3) =>
    (Option.bind (rLog a1g0) fun _ =>
      (Option.bind (lFirst a1g0.log) fun a1o6_0 =>
        (Option.bind (lGet a1g0.log (IntKind.wrap .u64 (a1o6_0.index + 1)) 2000) fun a1o7_0 =>
          (Option.bind (lawAppendsB10 fuel z calls a1v0 a1g0 a1e3 a1o4_0 a1o4_1 a1o4_2 a1o4_3 a1o6_0 a1o7_0) fun a1o8_0 =>
            (Option.bind (rStatus a1o8_0) fun (a1o9_0, _, a1o9_2, _) =>
              (iteB (a1o4_0 == 2)
                (iteB (a1o9_0 == 2)
                  (Option.bind (lawAppendsL11 z calls a1v0 a1e3 a1o4_2 a1o4_3 a1o6_0 a1o7_0 a1o8_0 a1o9_2 fuel (0 : Int)) fun a1o12 => sumC a1o12 (fun _ =>
                    (some (Sum.inl a1o8_0)))
                    (fun _ =>
                    (lawAppendsL1 z calls fuel (IntKind.wrap .i64 (a1v0 + 1)) a1o8_0)))
                  (Option.bind (lawAppendsL12 z calls a1v0 a1e3 a1o4_2 a1o4_3 a1o6_0 a1o7_0 a1o8_0 a1o9_2 fuel (0 : Int)) fun a1o12 => sumC a1o12 (fun _ =>
                    (some (Sum.inl a1o8_0)))
                    (fun _ =>
                    (lawAppendsL1 z calls fuel (IntKind.wrap .i64 (a1v0 + 1)) a1o8_0))))
                (Option.bind (lawAppendsL12 z calls a1v0 a1e3 a1o4_2 a1o4_3 a1o6_0 a1o7_0 a1o8_0 a1o9_2 fuel (0 : Int)) fun a1o11 => sumC a1o11 (fun _ =>
                  (some (Sum.inl a1o8_0)))
                  (fun _ =>
                  (lawAppendsL1 z calls fuel (IntKind.wrap .i64 (a1v0 + 1)) a1o8_0))))))))))))
  (some (Sum.inr a1g0)))
theorem lawAppendsL1_ok (g : GT) (z : Start) (calls : List Call) : ∀ (fuel : Nat) (v : Int × Raft), PcO prog g.1 (.loop (subC [1, 1, 1, 1, 1, 1, 1, 0, 1, 0, 0] (bodyOf f7))) ((fun (a1v0, a1g0) => ({ tm := mkTm 151 [(7, (.a (.s (.ref 3 0)))), (53, (.a (.s (.ssl 15 (List.map Call.row calls))))), (54, (.a (.s (.c (.int .i64 (((List.map Call.row calls).length : Nat) : Int)))))), (55, (.a (.s (.c (.int .i64 a1v0)))))], hp := [.cells [.one (.c (.int .i64 z.id)), .one (.c (.int .u64 z.hard_term)), .one (.c (.int .i64 z.hard_vote)), .one (.c (.int .u64 z.snap_index)), .one (.c (.int .u64 z.snap_term)), .one (.c (.int .u64 z.snap_config)), .one (.c (.string z.snap_data)), .one (.ssl 4 (List.map Entry.row z.l))], .cells [.one (.c (.int .u64 a1g0.log.index)), .one (.c (.int .u64 a1g0.log.term)), .one (.c (.int .u64 a1g0.log.config)), .one (.c (.string a1g0.log.data)), .one (.sl 2 0 4 0 (List.map Entry.row a1g0.log.entries).length)], .arr 4 (List.map Entry.row a1g0.log.entries), .cells [.one (.c (.int .i64 a1g0.id)), .one (.c (.int .u64 a1g0.hterm)), .one (.c (.int .i64 a1g0.vote)), .one (.ref 1 0), .one (.c (.int .i64 a1g0.role)), .one (.c (.int .i64 a1g0.leader)), .one (.c (.int .u64 a1g0.commit)), .one (.c (.int .u64 a1g0.votes)), .row 7 1 (List.map (rI .u64) a1g0.next), .row 7 1 (List.map (rI .u64) a1g0.match_), .one (.sl 4 0 4 0 (List.map Entry.row a1g0.entries).length), .one (.c (.bool a1g0.install)), .one (.sl 5 0 10 0 (List.map Letter.row a1g0.out).length), .one (.c (.bool a1g0.reset))], .arr 4 (List.map Entry.row a1g0.entries), .arr 10 (List.map Letter.row a1g0.out)], mv := [4, 5, 2] } : St)) v) (lawAppendsL1 z calls fuel v.1 v.2)
    (Sum.elim (fun o0 => (.ret, { tm := mkTm 151 [(4, (.a (.s (.c (.bool false)))))], hp := [.cells [.one (.c (.int .i64 z.id)), .one (.c (.int .u64 z.hard_term)), .one (.c (.int .i64 z.hard_vote)), .one (.c (.int .u64 z.snap_index)), .one (.c (.int .u64 z.snap_term)), .one (.c (.int .u64 z.snap_config)), .one (.c (.string z.snap_data)), .one (.ssl 4 (List.map Entry.row z.l))], .cells [.one (.c (.int .u64 o0.log.index)), .one (.c (.int .u64 o0.log.term)), .one (.c (.int .u64 o0.log.config)), .one (.c (.string o0.log.data)), .one (.sl 2 0 4 0 (List.map Entry.row o0.log.entries).length)], .arr 4 (List.map Entry.row o0.log.entries), .cells [.one (.c (.int .i64 o0.id)), .one (.c (.int .u64 o0.hterm)), .one (.c (.int .i64 o0.vote)), .one (.ref 1 0), .one (.c (.int .i64 o0.role)), .one (.c (.int .i64 o0.leader)), .one (.c (.int .u64 o0.commit)), .one (.c (.int .u64 o0.votes)), .row 7 1 (List.map (rI .u64) o0.next), .row 7 1 (List.map (rI .u64) o0.match_), .one (.sl 4 0 4 0 (List.map Entry.row o0.entries).length), .one (.c (.bool o0.install)), .one (.sl 5 0 10 0 (List.map Letter.row o0.out).length), .one (.c (.bool o0.reset))], .arr 4 (List.map Entry.row o0.entries), .arr 10 (List.map Letter.row o0.out)], mv := [4, 5, 2] })) (fun o0 => ((.exit 0), { tm := mkTm 151 [], hp := [.cells [.one (.c (.int .i64 z.id)), .one (.c (.int .u64 z.hard_term)), .one (.c (.int .i64 z.hard_vote)), .one (.c (.int .u64 z.snap_index)), .one (.c (.int .u64 z.snap_term)), .one (.c (.int .u64 z.snap_config)), .one (.c (.string z.snap_data)), .one (.ssl 4 (List.map Entry.row z.l))], .cells [.one (.c (.int .u64 o0.log.index)), .one (.c (.int .u64 o0.log.term)), .one (.c (.int .u64 o0.log.config)), .one (.c (.string o0.log.data)), .one (.sl 2 0 4 0 (List.map Entry.row o0.log.entries).length)], .arr 4 (List.map Entry.row o0.log.entries), .cells [.one (.c (.int .i64 o0.id)), .one (.c (.int .u64 o0.hterm)), .one (.c (.int .i64 o0.vote)), .one (.ref 1 0), .one (.c (.int .i64 o0.role)), .one (.c (.int .i64 o0.leader)), .one (.c (.int .u64 o0.commit)), .one (.c (.int .u64 o0.votes)), .row 7 1 (List.map (rI .u64) o0.next), .row 7 1 (List.map (rI .u64) o0.match_), .one (.sl 4 0 4 0 (List.map Entry.row o0.entries).length), .one (.c (.bool o0.install)), .one (.sl 5 0 10 0 (List.map Letter.row o0.out).length), .one (.c (.bool o0.reset))], .arr 4 (List.map Entry.row o0.entries), .arr 10 (List.map Letter.row o0.out)], mv := [4, 5, 2] }))) :=
  Lo_go (rec := (fun n (v : Int × Raft) => lawAppendsL1 z calls n v.1 v.2)) mixed (fun _ => rfl)
    (fun | fuel, (a1v0, a1g0) => (
    .reg [] [] [] <|
    .ite (fun a1h1 =>
    .cond true a1h1 <|
      .ifp (fun a1h2 =>
      .bind (fun a1e3 a1h3 =>
      .reg [(0, (eA Call.row a1h2 a1h3))] [] [] <|
      .bind (fun | (a1o4_0, a1o4_1, a1o4_2, a1o4_3), a1h4 => (
      .reg [(1, (LK [1, 2, 3, 4, 5] [1] (rStatus_ok g a1g0 _ a1h4)))] [] [] <|
        .bind (fun _ a1h5 =>
        .bind (fun a1o6_0 a1h6 =>
          .reg [(1, (LK [1, 2, 3, 4, 5] [1] (rLog_ok g a1g0 _ a1h5))), (2, (LK [1, 2] [1] (lFirst_ok g a1g0.log _ a1h6)))] [] [] <|
            .bind (fun a1o7_0 a1h7 =>
            .reg [(1, (LK [1, 2, 3, 4, 5] [1] (rLog_ok g a1g0 _ a1h5))), (4, (LK [1, 2] [1, 1, 1] (lGet_ok g a1g0.log (IntKind.wrap .u64 (a1o6_0.index + 1)) 2000 _ a1h7)))] [] [] <|
              .reg [] [] [] <|
              .bind (fun a1o8_0 a1h8 =>
              .claim true (lawAppendsB10_ok g fuel z calls a1v0 a1g0 a1e3 a1o4_0 a1o4_1 a1o4_2 a1o4_3 a1o6_0 a1o7_0 _ a1h8) <|
                .bind (fun | (_, _, a1o9_2, _), a1h9 => (
                .reg [(1, (LK [1, 2, 3, 4, 5] [1] (rStatus_ok g a1o8_0 _ a1h9)))] [] [] <|
                  .ite (fun a1h10 =>
                  .ite (fun a1h11 =>
                    .reg [(5, (pB a1h10)), (12, (pB a1h11))] [(2, gB a1h10), (6, gB a1h11)] [] <|
                      .reg [] [] [] <|
                      .gh (.keep [7, 13, 14, 20, 53, 54, 55, 121, 122, 123]) trivial <|
                      .bind (fun _ a1k12 => .sum (fun _ a1s12 =>
                      have a1h12 := a1k12.trans (congrArg some a1s12)
                      .claim false (lawAppendsL11_ok g z calls a1v0 a1e3 a1o4_2 a1o4_3 a1o6_0 a1o7_0 a1o8_0 a1o9_2 fuel (0 : Int) _ a1h12) <|
                        .gh (.keep [4]) trivial <|
                        .leaf true [] [] (Sum.inl a1o8_0))
                      (fun _ a1s12 =>
                      have a1h12 := a1k12.trans (congrArg some a1s12)
                      .claim false (lawAppendsL11_ok g z calls a1v0 a1e3 a1o4_2 a1o4_3 a1o6_0 a1o7_0 a1o8_0 a1o9_2 fuel (0 : Int) _ a1h12) <|
                        .reg [] [] [] <|
                        .gh (.keep [7, 53, 54, 55]) trivial <|
                        .again true ((IntKind.wrap .i64 (a1v0 + 1)), a1o8_0))))
                    (fun a1h11 =>
                    .reg [(5, (pB a1h10)), (12, (pB a1h11))] [(2, gB a1h10), (6, gB a1h11)] [] <|
                      .reg [] [] [] <|
                      .gh (.keep [7, 13, 14, 20, 53, 54, 55, 121, 122, 123]) trivial <|
                      .bind (fun _ a1k12 => .sum (fun _ a1s12 =>
                      have a1h12 := a1k12.trans (congrArg some a1s12)
                      .claim false (lawAppendsL12_ok g z calls a1v0 a1e3 a1o4_2 a1o4_3 a1o6_0 a1o7_0 a1o8_0 a1o9_2 fuel (0 : Int) _ a1h12) <|
                        .gh (.keep [4]) trivial <|
                        .leaf true [] [] (Sum.inl a1o8_0))
                      (fun _ a1s12 =>
                      have a1h12 := a1k12.trans (congrArg some a1s12)
                      .claim false (lawAppendsL12_ok g z calls a1v0 a1e3 a1o4_2 a1o4_3 a1o6_0 a1o7_0 a1o8_0 a1o9_2 fuel (0 : Int) _ a1h12) <|
                        .reg [] [] [] <|
                        .gh (.keep [7, 53, 54, 55]) trivial <|
                        .again true ((IntKind.wrap .i64 (a1v0 + 1)), a1o8_0)))))
                  (fun a1h10 =>
                  .reg [(5, (pB a1h10)), (12, (pS false))] [(2, gB a1h10), (6, gS false)] [] <|
                    .reg [] [] [] <|
                    .gh (.keep [7, 13, 14, 20, 53, 54, 55, 121, 122, 123]) trivial <|
                    .bind (fun _ a1k11 => .sum (fun _ a1s11 =>
                    have a1h11 := a1k11.trans (congrArg some a1s11)
                    .claim false (lawAppendsL12_ok g z calls a1v0 a1e3 a1o4_2 a1o4_3 a1o6_0 a1o7_0 a1o8_0 a1o9_2 fuel (0 : Int) _ a1h11) <|
                      .gh (.keep [4]) trivial <|
                      .leaf true [] [] (Sum.inl a1o8_0))
                    (fun _ a1s11 =>
                    have a1h11 := a1k11.trans (congrArg some a1s11)
                    .claim false (lawAppendsL12_ok g z calls a1v0 a1e3 a1o4_2 a1o4_3 a1o6_0 a1o7_0 a1o8_0 a1o9_2 fuel (0 : Int) _ a1h11) <|
                      .reg [] [] [] <|
                      .gh (.keep [7, 53, 54, 55]) trivial <|
                      .again true ((IntKind.wrap .i64 (a1v0 + 1)), a1o8_0)))))))))))))))
    (fun a1h1 =>
    .cond false a1h1 <|
      .gh (.keep []) trivial <|
      .leaf true [] [] (Sum.inr a1g0)))) (fun _ _ => by kernel_rfl)
def lawAppends (fuel : Nat) (z : Start) (calls : List Call) : Option Bool :=
  (Option.bind (lawBegun fuel) fun o1_0 =>
  (iteB o1_0
    (Option.bind (lawLight fuel z.l calls) fun o3_0 =>
      (iteB o3_0
        (Option.bind (lNew fuel (Snapshot.mk z.snap_index z.snap_term z.snap_config z.snap_data) z.l) fun o5 => sumC o5 (fun _ =>
          (some true))
          (fun o5_1 =>
          (Option.bind (rNew z.id (Hard.mk z.hard_term z.hard_vote) o5_1) fun o6 => sumC o6 (fun _ =>
            (some true))
            (fun o6_1 =>
            (Option.bind (lawAppendsL1 z calls fuel (0 : Int) o6_1) fun o7 => sumC o7 (fun _ =>
              (some false))
              (fun _ =>
              (some true)))))))
        (some true)))
    (some false)))
theorem lawAppends_ok (g : GT) (fuel : Nat) (z : Start) (calls : List Call) : FTO prog g.1 7 [.a (.g (Start.row z)), (.a (.s (.ssl 15 (List.map Call.row calls))))] [] (lawAppends fuel z calls)
    (fun o0 => ([], (.a (.s (.c (.bool o0)))), [])) :=
  Fn_go mixed func7 (
  .reg [] [] [] <|
  .bind (fun _ h1 =>
  .reg [(0, (CL [] [] (lawBegun_ok g fuel  _ h1)))] [] [] <|
    .ite (fun h2 =>
    .cond false (congrArg not h2) <|
      .bind (fun _ h3 =>
      .reg [(3, (CL [] [1, 1] (lawLight_ok g fuel z.l calls _ h3)))] [] [] <|
        .ite (fun h4 =>
        .cond false (congrArg not h4) <|
          .bind (fun _ k5 => .sum (fun _ s5 =>
          have h5 := k5.trans (congrArg some s5)
          .reg [(4, (CL [] [4, 1] (lNew_ok g fuel (Snapshot.mk z.snap_index z.snap_term z.snap_config z.snap_data) z.l _ h5)))] [] [] <|
            .reg [] [] [] <|
            .cond true (show true = true from rfl) <|
            .reg [] [] [] <|
            .gh (.keep [4]) trivial <|
            .leaf false [] [] true)
          (fun o5_1 s5 =>
          have h5 := k5.trans (congrArg some s5)
          .reg [(4, (CL [] [4, 1] (lNew_ok g fuel (Snapshot.mk z.snap_index z.snap_term z.snap_config z.snap_data) z.l _ h5)))] [] [] <|
            .reg [] [] [] <|
            .cond false (show false = false from rfl) <|
            .bind (fun _ k6 => .sum (fun _ s6 =>
            have h6 := k6.trans (congrArg some s6)
            .reg [(5, (LK [1, 2] [1, 2, 1] (rNew_ok g z.id (Hard.mk z.hard_term z.hard_vote) o5_1 _ h6)))] [] [] <|
              .reg [] [] [] <|
              .cond true (show true = true from rfl) <|
              .reg [] [] [] <|
              .gh (.keep [4]) trivial <|
              .leaf false [] [] true)
            (fun o6_1 s6 =>
            have h6 := k6.trans (congrArg some s6)
            .reg [(5, (CL [1, 2] [1, 2, 1] (rNew_ok g z.id (Hard.mk z.hard_term z.hard_vote) o5_1 _ h6)))] [] [] <|
              .reg [] [] [] <|
              .cond false (show false = false from rfl) <|
              .reg [] [] [] <|
              .gh (.keep [7, 53, 54, 55]) trivial <|
              .gh (.mv [5, 4]) trivial <|
              .bind (fun _ k7 => .sum (fun _ s7 =>
              have h7 := k7.trans (congrArg some s7)
              .claim false (lawAppendsL1_ok g z calls fuel ((0 : Int), o6_1) _ h7) <|
                .gh (.keep [4]) trivial <|
                .leaf false [] [] false)
              (fun _ s7 =>
              have h7 := k7.trans (congrArg some s7)
              .claim false (lawAppendsL1_ok g z calls fuel ((0 : Int), o6_1) _ h7) <|
                .reg [] [] [] <|
                .gh (.keep [4]) trivial <|
                .leaf false [] [] true)))))))
        (fun h4 =>
        .cond true (congrArg not h4) <|
          .reg [] [] [] <|
          .gh (.keep [4]) trivial <|
          .leaf false [] [] true)))
    (fun h2 =>
    .cond true (congrArg not h2) <|
      .reg [] [] [] <|
      .gh (.keep [4]) trivial <|
      .leaf false [] [] false))) (by kernel_rfl)
end Sx
