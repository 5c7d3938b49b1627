/- PRINTED by gen2.py: the law RaftAnew. -/
import Derived.Test.YthimhmocgnnaiaaDoorRb
namespace Sx
open Go Go.Proofs.Tryd
def lawAnewL1 (z : Start) (calls : List Call) (from_ : Int) : Nat → Int → Raft → Option Raft
  | 0, _, _ => none
  | fuel + 1, a1v0, a1g0 =>
  (iteB (decide (a1v0 < (((List.map Call.row calls).length : Nat) : Int)))
  (ifP (0 ≤ a1v0)
    (Option.bind (calls[(a1v0).toNat]?) fun a1e3 =>
    (iteB (a1e3.kind == 0)
    (iteB (a1e3.letter_kind != 5)
      (Option.bind (rReceive fuel a1g0 (Letter.mk a1e3.letter_kind a1e3.letter_from_ a1e3.letter_to a1e3.letter_term a1e3.letter_index a1e3.letter_prev a1e3.letter_commit a1e3.letter_ok a1e3.letter_entries a1e3.letter_data)) fun a1o6_0 =>
        (lawAnewL1 z calls from_ fuel (IntKind.wrap .i64 (a1v0 + 1)) a1o6_0))
      (lawAnewL1 z calls from_ fuel (IntKind.wrap .i64 (a1v0 + 1)) a1g0))
    (lawAnewL1 z calls from_ fuel (IntKind.wrap .i64 (a1v0 + 1)) a1g0))))
  (some a1g0))
theorem lawAnewL1_ok (g : GT) (z : Start) (calls : List Call) (from_ : Int) : ∀ (fuel : Nat) (v : Int × Raft), PcO prog g.1 (.loop (subC [1, 1, 1, 1, 1, 1, 1, 0, 1, 0, 0] (bodyOf f4))) ((fun (a1v0, a1g0) => ({ tm := mkTm 150 [(2, (.a (.s (.c (.int .i64 from_))))), (3, (.a (.s (.ref 0 0)))), (9, (.a (.s (.ref 3 0)))), (46, (.a (.s (.ssl 15 (List.map Call.row calls))))), (47, (.a (.s (.c (.int .i64 (((List.map Call.row calls).length : Nat) : Int)))))), (48, (.a (.s (.c (.int .i64 a1v0)))))], hp := [.cells [.one (.c (.int .i64 z.id)), .one (.c (.int .u64 z.hard_term)), .one (.c (.int .i64 z.hard_vote)), .one (.c (.int .u64 z.snap_index)), .one (.c (.int .u64 z.snap_term)), .one (.c (.int .u64 z.snap_config)), .one (.c (.string z.snap_data)), .one (.ssl 4 (List.map Entry.row z.l))], .cells [.one (.c (.int .u64 a1g0.log.index)), .one (.c (.int .u64 a1g0.log.term)), .one (.c (.int .u64 a1g0.log.config)), .one (.c (.string a1g0.log.data)), .one (.sl 2 0 4 0 (List.map Entry.row a1g0.log.entries).length)], .arr 4 (List.map Entry.row a1g0.log.entries), .cells [.one (.c (.int .i64 a1g0.id)), .one (.c (.int .u64 a1g0.hterm)), .one (.c (.int .i64 a1g0.vote)), .one (.ref 1 0), .one (.c (.int .i64 a1g0.role)), .one (.c (.int .i64 a1g0.leader)), .one (.c (.int .u64 a1g0.commit)), .one (.c (.int .u64 a1g0.votes)), .row 7 1 (List.map (rI .u64) a1g0.next), .row 7 1 (List.map (rI .u64) a1g0.match_), .one (.sl 4 0 4 0 (List.map Entry.row a1g0.entries).length), .one (.c (.bool a1g0.install)), .one (.sl 5 0 10 0 (List.map Letter.row a1g0.out).length), .one (.c (.bool a1g0.reset))], .arr 4 (List.map Entry.row a1g0.entries), .arr 10 (List.map Letter.row a1g0.out)], mv := [4, 5, 2] } : St)) v) (lawAnewL1 z calls from_ fuel v.1 v.2)
    (fun o0 => ((.exit 0), { tm := mkTm 150 [(2, (.a (.s (.c (.int .i64 from_))))), (3, (.a (.s (.ref 0 0)))), (9, (.a (.s (.ref 3 0))))], hp := [.cells [.one (.c (.int .i64 z.id)), .one (.c (.int .u64 z.hard_term)), .one (.c (.int .i64 z.hard_vote)), .one (.c (.int .u64 z.snap_index)), .one (.c (.int .u64 z.snap_term)), .one (.c (.int .u64 z.snap_config)), .one (.c (.string z.snap_data)), .one (.ssl 4 (List.map Entry.row z.l))], .cells [.one (.c (.int .u64 o0.log.index)), .one (.c (.int .u64 o0.log.term)), .one (.c (.int .u64 o0.log.config)), .one (.c (.string o0.log.data)), .one (.sl 2 0 4 0 (List.map Entry.row o0.log.entries).length)], .arr 4 (List.map Entry.row o0.log.entries), .cells [.one (.c (.int .i64 o0.id)), .one (.c (.int .u64 o0.hterm)), .one (.c (.int .i64 o0.vote)), .one (.ref 1 0), .one (.c (.int .i64 o0.role)), .one (.c (.int .i64 o0.leader)), .one (.c (.int .u64 o0.commit)), .one (.c (.int .u64 o0.votes)), .row 7 1 (List.map (rI .u64) o0.next), .row 7 1 (List.map (rI .u64) o0.match_), .one (.sl 4 0 4 0 (List.map Entry.row o0.entries).length), .one (.c (.bool o0.install)), .one (.sl 5 0 10 0 (List.map Letter.row o0.out).length), .one (.c (.bool o0.reset))], .arr 4 (List.map Entry.row o0.entries), .arr 10 (List.map Letter.row o0.out)], mv := [4, 5, 2] })) :=
  Lo_go (rec := (fun n (v : Int × Raft) => lawAnewL1 z calls from_ n v.1 v.2)) mixed (fun _ => rfl)
    (fun | fuel, (a1v0, a1g0) => (
    .reg [] [] [] <|
    .ite (fun a1h1 =>
    .cond true a1h1 <|
      .ifp (fun a1h2 =>
      .bind (fun a1e3 a1h3 =>
      .reg [(0, (eA Call.row a1h2 a1h3))] [] [] <|
      .ite (fun a1h4 =>
      .reg [(8, (pB a1h4))] [(3, gB a1h4)] [] <|
        .ite (fun a1h5 =>
        .cond true a1h5 <|
          .bind (fun a1o6_0 a1h6 =>
          .reg [(3, (CL [1, 2, 3, 4, 5] [1, 10] (rReceive_ok g fuel a1g0 (Letter.mk a1e3.letter_kind a1e3.letter_from_ a1e3.letter_to a1e3.letter_term a1e3.letter_index a1e3.letter_prev a1e3.letter_commit a1e3.letter_ok a1e3.letter_entries a1e3.letter_data) _ a1h6)))] [] [] <|
            .reg [] [] [] <|
            .gh (.keep [2, 3, 9, 46, 47, 48]) trivial <|
            .again true ((IntKind.wrap .i64 (a1v0 + 1)), a1o6_0)))
        (fun a1h5 =>
        .cond false a1h5 <|
          .reg [] [] [] <|
          .gh (.keep [2, 3, 9, 46, 47, 48]) trivial <|
          .again true ((IntKind.wrap .i64 (a1v0 + 1)), a1g0)))
      (fun a1h4 =>
      .reg [(8, (pB a1h4))] [(3, gB a1h4)] [] <|
        .cond false (show false = false from rfl) <|
        .reg [] [] [] <|
        .gh (.keep [2, 3, 9, 46, 47, 48]) trivial <|
        .again true ((IntKind.wrap .i64 (a1v0 + 1)), a1g0)))))
    (fun a1h1 =>
    .cond false a1h1 <|
      .gh (.keep [2, 3, 9]) trivial <|
      .leaf true [] [] a1g0))) (fun _ _ => by kernel_rfl)
def lawAnew (fuel : Nat) (z : Start) (calls : List Call) (from_ : Int) : Option Bool :=
  (Option.bind (lawBegun fuel) fun o1_0 =>
  (iteB o1_0
    (Option.bind (lawLight fuel z.l calls) fun o3_0 =>
      (iteB o3_0
        (Option.bind (lNew fuel (Snapshot.mk z.snap_index z.snap_term z.snap_config z.snap_data) z.l) fun o5 => sumC o5 (fun _ =>
          (some true))
          (fun o5_1 =>
          (Option.bind (rNew z.id (Hard.mk z.hard_term z.hard_vote) o5_1) fun o6 => sumC o6 (fun _ =>
            (some true))
            (fun o6_1 =>
            (Option.bind (lawAnewL1 z calls from_ fuel (0 : Int) o6_1) fun o7_0 =>
              (Option.bind (rTake o7_0) fun (o8_0, o8_1) =>
                (Option.bind (rLog o8_1) fun _ =>
                  (Option.bind (lGet o8_1.log (IntKind.wrap .u64 (z.snap_index + 1)) 2000) fun o10_0 =>
                    (Option.bind (lNew fuel (Snapshot.mk z.snap_index z.snap_term z.snap_config z.snap_data) o10_0) fun o11 => sumC o11 (fun _ =>
                      (some false))
                      (fun o11_1 =>
                      (Option.bind (rNew z.id (Hard.mk o8_0.hard_term o8_0.hard_vote) o11_1) fun o12 => sumC o12 (fun _ =>
                        (some false))
                        (fun o12_1 =>
                        (iteB ((Int.tmod (IntKind.wrap .i64 ((Int.tmod from_ 7) + 7)) 7) == z.id)
                          (some true)
                          (Option.bind (lLast o12_1.log) fun (o14_0, o14_1) =>
                            (iteB (decide (o14_0 > 4611686018427387904))
                              (some true)
                              (Option.bind (rReceive fuel o12_1 (Letter.mk 1 (Int.tmod (IntKind.wrap .i64 ((Int.tmod from_ 7) + 7)) 7) z.id o8_0.hard_term o14_0 o14_1 0 false [] (ByteArray.mk #[]))) fun o16_0 =>
                                (Option.bind (rTake o16_0) fun (o17_0, _) =>
                                  (iteB ((((List.map Letter.row o17_0.letters).length : Nat) : Int) == 1)
                                    (Option.bind (o17_0.letters[0]?) fun e19 =>
                                      (iteB (o8_0.hard_vote == (-1))
                                      (iteB (e19.ok == true)
                                        (some (o17_0.hard_term == o8_0.hard_term))
                                        (some false))
                                      (iteB (e19.ok == (o8_0.hard_vote == (Int.tmod (IntKind.wrap .i64 ((Int.tmod from_ 7) + 7)) 7)))
                                        (some (o17_0.hard_term == o8_0.hard_term))
                                        (some false))))
                                    (some false)))))))))))))))))))
        (some true)))
    (some false)))
theorem lawAnew_ok (g : GT) (fuel : Nat) (z : Start) (calls : List Call) (from_ : Int) : FTO prog g.1 4 [.a (.g (Start.row z)), (.a (.s (.ssl 15 (List.map Call.row calls)))), (.a (.s (.c (.int .i64 from_))))] [] (lawAnew fuel z calls from_)
    (fun o0 => ([], (.a (.s (.c (.bool o0)))), [])) :=
  Fn_go mixed func4 (
  .reg [] [] [] <|
  .bind (fun _ h1 =>
  .reg [(0, (CL [] [] (lawBegun_ok g fuel  _ h1)))] [] [] <|
    .ite (fun h2 =>
    .cond false (congrArg not h2) <|
      .bind (fun _ h3 =>
      .reg [(3, (CL [] [1, 1] (lawLight_ok g fuel z.l calls _ h3)))] [] [] <|
        .ite (fun h4 =>
        .cond false (congrArg not h4) <|
          .bind (fun _ k5 => .sum (fun _ s5 =>
          have h5 := k5.trans (congrArg some s5)
          .reg [(4, (CL [] [4, 1] (lNew_ok g fuel (Snapshot.mk z.snap_index z.snap_term z.snap_config z.snap_data) z.l _ h5)))] [] [] <|
            .reg [] [] [] <|
            .cond true (show true = true from rfl) <|
            .reg [] [] [] <|
            .gh (.keep [6]) trivial <|
            .leaf false [] [] true)
          (fun o5_1 s5 =>
          have h5 := k5.trans (congrArg some s5)
          .reg [(4, (CL [] [4, 1] (lNew_ok g fuel (Snapshot.mk z.snap_index z.snap_term z.snap_config z.snap_data) z.l _ h5)))] [] [] <|
            .reg [] [] [] <|
            .cond false (show false = false from rfl) <|
            .bind (fun _ k6 => .sum (fun _ s6 =>
            have h6 := k6.trans (congrArg some s6)
            .reg [(5, (LK [1, 2] [1, 2, 1] (rNew_ok g z.id (Hard.mk z.hard_term z.hard_vote) o5_1 _ h6)))] [] [] <|
              .reg [] [] [] <|
              .cond true (show true = true from rfl) <|
              .reg [] [] [] <|
              .gh (.keep [6]) trivial <|
              .leaf false [] [] true)
            (fun o6_1 s6 =>
            have h6 := k6.trans (congrArg some s6)
            .reg [(5, (CL [1, 2] [1, 2, 1] (rNew_ok g z.id (Hard.mk z.hard_term z.hard_vote) o5_1 _ h6)))] [] [] <|
              .reg [] [] [] <|
              .cond false (show false = false from rfl) <|
              .reg [] [] [] <|
              .gh (.keep [2, 3, 9, 46, 47, 48]) trivial <|
              .gh (.mv [5, 4]) trivial <|
              .bind (fun o7_0 h7 =>
              .claim false (lawAnewL1_ok g z calls from_ fuel ((0 : Int), o6_1) _ h7) <|
                .bind (fun | (o8_0, o8_1), h8 => (
                .reg [(1, (CL [1, 2, 3, 4, 5] [1] (rTake_ok g o7_0 _ h8)))] [] [] <|
                  .bind (fun _ h9 =>
                  .bind (fun o10_0 h10 =>
                    .bind (fun _ k11 => .sum (fun _ s11 =>
                      have h11 := k11.trans (congrArg some s11)
                      .reg [(3, (LK [1, 2, 3, 4, 5] [1] (rLog_ok g o8_1 _ h9))), (8, (LK [1, 2] [1, 1, 1] (lGet_ok g o8_1.log (IntKind.wrap .u64 (z.snap_index + 1)) 2000 _ h10))), (9, (CL [] [4, 1] (lNew_ok g fuel (Snapshot.mk z.snap_index z.snap_term z.snap_config z.snap_data) o10_0 _ h11)))] [] [] <|
                        .reg [] [] [] <|
                        .cond true (show true = true from rfl) <|
                        .reg [] [] [] <|
                        .gh (.keep [6]) trivial <|
                        .leaf false [] [] false)
                      (fun o11_1 s11 =>
                      have h11 := k11.trans (congrArg some s11)
                      .reg [(3, (LK [1, 2, 3, 4, 5] [1] (rLog_ok g o8_1 _ h9))), (8, (LK [1, 2] [1, 1, 1] (lGet_ok g o8_1.log (IntKind.wrap .u64 (z.snap_index + 1)) 2000 _ h10))), (9, (CL [] [4, 1] (lNew_ok g fuel (Snapshot.mk z.snap_index z.snap_term z.snap_config z.snap_data) o10_0 _ h11)))] [] [] <|
                        .reg [] [] [] <|
                        .cond false (show false = false from rfl) <|
                        .bind (fun _ k12 => .sum (fun _ s12 =>
                        have h12 := k12.trans (congrArg some s12)
                        .reg [(4, (LK [7, 8] [1, 2, 1] (rNew_ok g z.id (Hard.mk o8_0.hard_term o8_0.hard_vote) o11_1 _ h12)))] [] [] <|
                          .reg [] [] [] <|
                          .cond true (show true = true from rfl) <|
                          .reg [] [] [] <|
                          .gh (.keep [6]) trivial <|
                          .leaf false [] [] false)
                        (fun o12_1 s12 =>
                        have h12 := k12.trans (congrArg some s12)
                        .reg [(4, (CL [7, 8] [1, 2, 1] (rNew_ok g z.id (Hard.mk o8_0.hard_term o8_0.hard_vote) o11_1 _ h12)))] [] [] <|
                          .reg [] [] [] <|
                          .cond false (show false = false from rfl) <|
                          .reg [] [] [] <|
                          .reg [] [] [] <|
                          .ite (fun h13 =>
                          .cond true h13 <|
                            .reg [] [] [] <|
                            .gh (.keep [6]) trivial <|
                            .leaf false [] [] true)
                          (fun h13 =>
                          .cond false h13 <|
                            .bind (fun | (o14_0, o14_1), h14 => (
                            .reg [(1, (LK [7, 8] [1] (lLast_ok g o12_1.log _ h14)))] [] [] <|
                              .reg [] [] [] <|
                              .ite (fun h15 =>
                              .cond true h15 <|
                                .reg [] [] [] <|
                                .gh (.keep [6]) trivial <|
                                .leaf false [] [] true)
                              (fun h15 =>
                              .cond false h15 <|
                                .bind (fun o16_0 h16 =>
                                .reg [(9, (CL (args := [.a (.s (.ref 2 0)), (.a (.g [(.c (.int .i64 1)), (.c (.int .i64 (Int.tmod (IntKind.wrap .i64 ((Int.tmod from_ 7) + 7)) 7))), (.c (.int .i64 z.id)), (.c (.int .u64 o8_0.hard_term)), (.c (.int .u64 o14_0)), (.c (.int .u64 o14_1)), (.c (.int .u64 0)), (.c (.bool false)), (.c (.slice none 0 0)), (.c (.string (ByteArray.mk #[])))]))]) [7, 8, 9, 10, 11] [1, 10] (FT.shut [[], [(8, 4)]] (rReceive_ok g fuel o12_1 (Letter.mk 1 (Int.tmod (IntKind.wrap .i64 ((Int.tmod from_ 7) + 7)) 7) z.id o8_0.hard_term o14_0 o14_1 0 false [] (ByteArray.mk #[])) _ h16))))] [] [] <|
                                  .bind (fun | (o17_0, _), h17 => (
                                  .reg [(1, (CL [7, 8, 9, 10, 11] [1] (rTake_ok g o16_0 _ h17)))] [] [] <|
                                    .ite (fun h18 =>
                                    .bind (fun e19 h19 =>
                                      .ite (fun h20 =>
                                      .ite (fun h21 =>
                                        .reg [(7, (Ji (show (0 ≤ (0 : Int) ∧ (List.map Letter.row o17_0.letters)[0]? = some (Letter.row e19)) from ⟨(by decide), map_get h19⟩) (.e (Letter.row e19)))), (18, (pB h20)), (20, (pB h18)), (28, (pB h21))] [(4, gB h18), (13, gB h20), (21, gB h21)] [] <|
                                          .gh (.keep [6]) trivial <|
                                          .leaf false [] [] (o17_0.hard_term == o8_0.hard_term))
                                        (fun h21 =>
                                        .reg [(7, (Ji (show (0 ≤ (0 : Int) ∧ (List.map Letter.row o17_0.letters)[0]? = some (Letter.row e19)) from ⟨(by decide), map_get h19⟩) (.e (Letter.row e19)))), (18, (pB h20)), (20, (pB h18)), (28, (pB h21))] [(4, gB h18), (13, gB h20), (21, gB h21)] [] <|
                                          .gh (.keep [6]) trivial <|
                                          .leaf false [] [] false))
                                      (fun h20 =>
                                      .ite (fun h21 =>
                                        .reg [(7, (Ji (show (0 ≤ (0 : Int) ∧ (List.map Letter.row o17_0.letters)[0]? = some (Letter.row e19)) from ⟨(by decide), map_get h19⟩) (.e (Letter.row e19)))), (18, (pB h20)), (20, (pB h18)), (28, (pB h21))] [(4, gB h18), (13, gB h20), (21, gB h21)] [] <|
                                          .gh (.keep [6]) trivial <|
                                          .leaf false [] [] (o17_0.hard_term == o8_0.hard_term))
                                        (fun h21 =>
                                        .reg [(7, (Ji (show (0 ≤ (0 : Int) ∧ (List.map Letter.row o17_0.letters)[0]? = some (Letter.row e19)) from ⟨(by decide), map_get h19⟩) (.e (Letter.row e19)))), (18, (pB h20)), (20, (pB h18)), (28, (pB h21))] [(4, gB h18), (13, gB h20), (21, gB h21)] [] <|
                                          .gh (.keep [6]) trivial <|
                                          .leaf false [] [] false))))
                                    (fun h18 =>
                                    .reg [(20, (pB h18)), (28, (pS false))] [(4, gB h18), (13, gU), (21, gS false)] [] <|
                                      .gh (.keep [6]) trivial <|
                                      .leaf false [] [] false))))))))))))))))))))))
        (fun h4 =>
        .cond true (congrArg not h4) <|
          .reg [] [] [] <|
          .gh (.keep [6]) trivial <|
          .leaf false [] [] true)))
    (fun h2 =>
    .cond true (congrArg not h2) <|
      .reg [] [] [] <|
      .gh (.keep [6]) trivial <|
      .leaf false [] [] false))) (by kernel_rfl)
end Sx
