/- PRINTED by gen2.py: the anchor of the laws. -/
import Derived.Test.YthimhmocgnnaiaaDoorRf2
namespace Sx
open Go Go.Proofs.Tryd
def lawBegun (fuel : Nat) : Option Bool :=
  (Option.bind (lNew fuel (Snapshot.mk 0 0 7 (ByteArray.mk #[])) []) fun o1 => sumC o1 (fun _ =>
  (Option.bind (rNew_nil 0 (Hard.mk 0 (-1))) fun _ =>
    (Option.bind (rTimeout_nil) fun _ =>
      (Option.bind (rTake_nil) fun _ =>
        (Option.bind (rReceive_nil (Letter.mk 2 1 0 1 0 0 0 true [] (ByteArray.mk #[]))) fun _ =>
          (Option.bind (rStatus_nil) fun _ =>
            (some false)))))))
  (fun o1_1 =>
  (Option.bind (rNew 0 (Hard.mk 0 (-1)) o1_1) fun o2 => sumC o2 (fun _ =>
    (Option.bind (rTimeout_nil) fun _ =>
      (Option.bind (rTake_nil) fun _ =>
        (Option.bind (rReceive_nil (Letter.mk 2 1 0 1 0 0 0 true [] (ByteArray.mk #[]))) fun _ =>
          (Option.bind (rStatus_nil) fun _ =>
            (some false))))))
    (fun o2_1 =>
    (Option.bind (rTimeout fuel o2_1) fun o3_0 =>
      (Option.bind (rTake o3_0) fun (o4_0, o4_1) =>
        (Option.bind (rReceive fuel o4_1 (Letter.mk 2 1 0 1 0 0 0 true [] (ByteArray.mk #[]))) fun o5_0 =>
          (Option.bind (rTake o5_0) fun (o6_0, o6_1) =>
            (Option.bind (rStatus o6_1) fun (o7_0, o7_1, o7_2, _) =>
              (iteB ((((List.map Letter.row o4_0.letters).length : Nat) : Int) == 2)
                (iteB o4_0.reset
                  (iteB (o7_0 == 2)
                    (iteB (o7_1 == 0)
                      (iteB ((o7_2.term == 1) && ((o7_2.vote == 0) && true))
                        (iteB ((((List.map Entry.row o6_0.entries).length : Nat) : Int) == 1)
                          (some ((((List.map Letter.row o6_0.letters).length : Nat) : Int) == 2))
                          (some false))
                        (some false))
                      (some false))
                    (some false))
                  (some false))
                (some false)))))))))))
theorem lawBegun_ok (g : GT) (fuel : Nat)  : FTO prog g.1 9 [] [] (lawBegun fuel )
    (fun o0 => ([], (.a (.s (.c (.bool o0)))), [])) :=
  Fn_go mixed func9 (
  .reg [] [] [] <|
  .bind (fun _ k1 => .sum (fun _ s1 =>
  have h1 := k1.trans (congrArg some s1)
  .reg [(1, (CL (args := [.a (.g (Snapshot.row (Snapshot.mk 0 0 7 (ByteArray.mk #[])))), (.a (.s (.c (.slice none 0 0))))]) [] [4, 1] (FT.shut [[], [(0, 4)]] (lNew_ok g fuel (Snapshot.mk 0 0 7 (ByteArray.mk #[])) [] _ h1))))] [] [] <|
    .bind (fun _ h2 =>
    .reg [(2, (CL [] [1, 2, 1] (rNew_nil_ok g 0 (Hard.mk 0 (-1)) _ h2)))] [] [] <|
      .bind (fun _ h3 =>
      .reg [(1, (CL [] [1] (rTimeout_nil_ok g  _ h3)))] [] [] <|
        .bind (fun _ h4 =>
        .reg [(1, (CL [] [1] (rTake_nil_ok g  _ h4)))] [] [] <|
          .bind (fun _ h5 =>
          .reg [(2, (CL (args := [.a (.s (.c (.pointer none))), (.a (.g [(.c (.int .i64 2)), (.c (.int .i64 1)), (.c (.int .i64 0)), (.c (.int .u64 1)), (.c (.int .u64 0)), (.c (.int .u64 0)), (.c (.int .u64 0)), (.c (.bool true)), (.c (.slice none 0 0)), (.c (.string (ByteArray.mk #[])))]))]) [] [1, 10] (FT.shut [[], [(8, 4)]] (rReceive_nil_ok g (Letter.mk 2 1 0 1 0 0 0 true [] (ByteArray.mk #[])) _ h5))))] [] [] <|
            .reg [(1, (CL [] [1] (rTake_nil_ok g  _ h4)))] [] [] <|
            .bind (fun _ h6 =>
            .reg [(1, (CL [] [1] (rStatus_nil_ok g  _ h6)))] [] [] <|
              .reg [(7, (pS false)), (11, (pS false)), (15, (pS false)), (19, (pS false)), (24, (pS false)), (30, (pS false)), (36, (pS false))] [(2, gS false), (8, gS false), (12, gS false), (16, gS false), (20, gS false), (25, gS false), (31, gS false)] [] <|
              .gh (.keep [0]) trivial <|
              .leaf false [] [] false))))))
  (fun o1_1 s1 =>
  have h1 := k1.trans (congrArg some s1)
  .reg [(1, (CL (args := [.a (.g (Snapshot.row (Snapshot.mk 0 0 7 (ByteArray.mk #[])))), (.a (.s (.c (.slice none 0 0))))]) [] [4, 1] (FT.shut [[], [(0, 4)]] (lNew_ok g fuel (Snapshot.mk 0 0 7 (ByteArray.mk #[])) [] _ h1))))] [] [] <|
    .bind (fun _ k2 => .sum (fun _ s2 =>
    have h2 := k2.trans (congrArg some s2)
    .reg [(2, (LK [0, 1] [1, 2, 1] (rNew_ok g 0 (Hard.mk 0 (-1)) o1_1 _ h2)))] [] [] <|
      .bind (fun _ h3 =>
      .reg [(1, (CL [] [1] (rTimeout_nil_ok g  _ h3)))] [] [] <|
        .bind (fun _ h4 =>
        .reg [(1, (CL [] [1] (rTake_nil_ok g  _ h4)))] [] [] <|
          .bind (fun _ h5 =>
          .reg [(2, (CL (args := [.a (.s (.c (.pointer none))), (.a (.g [(.c (.int .i64 2)), (.c (.int .i64 1)), (.c (.int .i64 0)), (.c (.int .u64 1)), (.c (.int .u64 0)), (.c (.int .u64 0)), (.c (.int .u64 0)), (.c (.bool true)), (.c (.slice none 0 0)), (.c (.string (ByteArray.mk #[])))]))]) [] [1, 10] (FT.shut [[], [(8, 4)]] (rReceive_nil_ok g (Letter.mk 2 1 0 1 0 0 0 true [] (ByteArray.mk #[])) _ h5))))] [] [] <|
            .reg [(1, (CL [] [1] (rTake_nil_ok g  _ h4)))] [] [] <|
            .bind (fun _ h6 =>
            .reg [(1, (CL [] [1] (rStatus_nil_ok g  _ h6)))] [] [] <|
              .reg [(7, (pS false)), (11, (pS false)), (15, (pS false)), (19, (pS false)), (24, (pS false)), (30, (pS false)), (36, (pS false))] [(2, gS false), (8, gS false), (12, gS false), (16, gS false), (20, gS false), (25, gS false), (31, gS false)] [] <|
              .gh (.keep [0]) trivial <|
              .leaf false [] [] false)))))
    (fun o2_1 s2 =>
    have h2 := k2.trans (congrArg some s2)
    .reg [(2, (CL [0, 1] [1, 2, 1] (rNew_ok g 0 (Hard.mk 0 (-1)) o1_1 _ h2)))] [] [] <|
      .bind (fun o3_0 h3 =>
      .reg [(1, (CL [0, 1, 2, 3, 4] [1] (rTimeout_ok g fuel o2_1 _ h3)))] [] [] <|
        .bind (fun | (_, o4_1), h4 => (
        .reg [(1, (CL [0, 1, 2, 3, 4] [1] (rTake_ok g o3_0 _ h4)))] [] [] <|
          .bind (fun o5_0 h5 =>
          .reg [(2, (CL (args := [.a (.s (.ref 2 0)), (.a (.g [(.c (.int .i64 2)), (.c (.int .i64 1)), (.c (.int .i64 0)), (.c (.int .u64 1)), (.c (.int .u64 0)), (.c (.int .u64 0)), (.c (.int .u64 0)), (.c (.bool true)), (.c (.slice none 0 0)), (.c (.string (ByteArray.mk #[])))]))]) [0, 1, 2, 3, 4] [1, 10] (FT.shut [[], [(8, 4)]] (rReceive_ok g fuel o4_1 (Letter.mk 2 1 0 1 0 0 0 true [] (ByteArray.mk #[])) _ h5))))] [] [] <|
            .bind (fun | (o6_0, o6_1), h6 => (
            .reg [(1, (CL [0, 1, 2, 3, 4] [1] (rTake_ok g o5_0 _ h6)))] [] [] <|
              .bind (fun | _, h7 => (
              .reg [(1, (LK [0, 1, 2, 3, 4] [1] (rStatus_ok g o6_1 _ h7)))] [] [] <|
                .ite (fun h8 =>
                .ite (fun h9 =>
                  .ite (fun h10 =>
                    .ite (fun h11 =>
                      .ite (fun h12 =>
                        .ite (fun h13 =>
                          .reg [(7, (pS true)), (11, (pB h8)), (15, (pB h9)), (19, (pB h10)), (24, (pB h11)), (30, (pB h12)), (36, (pB h13))] [(2, gS true), (8, gB h8), (12, gB h9), (16, gB h10), (20, gB h11), (25, gB h12), (31, gB h13)] [] <|
                            .gh (.keep [0]) trivial <|
                            .leaf false [] [] ((((List.map Letter.row o6_0.letters).length : Nat) : Int) == 2))
                          (fun h13 =>
                          .reg [(7, (pS true)), (11, (pB h8)), (15, (pB h9)), (19, (pB h10)), (24, (pB h11)), (30, (pB h12)), (36, (pB h13))] [(2, gS true), (8, gB h8), (12, gB h9), (16, gB h10), (20, gB h11), (25, gB h12), (31, gB h13)] [] <|
                            .gh (.keep [0]) trivial <|
                            .leaf false [] [] false))
                        (fun h12 =>
                        .reg [(7, (pS true)), (11, (pB h8)), (15, (pB h9)), (19, (pB h10)), (24, (pB h11)), (30, (pB h12)), (36, (pS false))] [(2, gS true), (8, gB h8), (12, gB h9), (16, gB h10), (20, gB h11), (25, gB h12), (31, gS false)] [] <|
                          .gh (.keep [0]) trivial <|
                          .leaf false [] [] false))
                      (fun h11 =>
                      .reg [(7, (pS true)), (11, (pB h8)), (15, (pB h9)), (19, (pB h10)), (24, (pB h11)), (30, (pS false)), (36, (pS false))] [(2, gS true), (8, gB h8), (12, gB h9), (16, gB h10), (20, gB h11), (25, gS false), (31, gS false)] [] <|
                        .gh (.keep [0]) trivial <|
                        .leaf false [] [] false))
                    (fun h10 =>
                    .reg [(7, (pS true)), (11, (pB h8)), (15, (pB h9)), (19, (pB h10)), (24, (pS false)), (30, (pS false)), (36, (pS false))] [(2, gS true), (8, gB h8), (12, gB h9), (16, gB h10), (20, gS false), (25, gS false), (31, gS false)] [] <|
                      .gh (.keep [0]) trivial <|
                      .leaf false [] [] false))
                  (fun h9 =>
                  .reg [(7, (pS true)), (11, (pB h8)), (15, (pB h9)), (19, (pS false)), (24, (pS false)), (30, (pS false)), (36, (pS false))] [(2, gS true), (8, gB h8), (12, gB h9), (16, gS false), (20, gS false), (25, gS false), (31, gS false)] [] <|
                    .gh (.keep [0]) trivial <|
                    .leaf false [] [] false))
                (fun h8 =>
                .reg [(7, (pS true)), (11, (pB h8)), (15, (pS false)), (19, (pS false)), (24, (pS false)), (30, (pS false)), (36, (pS false))] [(2, gS true), (8, gB h8), (12, gS false), (16, gS false), (20, gS false), (25, gS false), (31, gS false)] [] <|
                  .gh (.keep [0]) trivial <|
                  .leaf false [] [] false)))))))))))))) (by kernel_rfl)
end Sx
