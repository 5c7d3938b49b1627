/- PRINTED by gen2.py: the law RaftNone. -/
import Derived.Test.YthimhmocgnnaiaaDoorRb
namespace Sx
open Go Go.Proofs.Tryd
def lawNone (fuel : Nat) (z : Start) (x : Letter) : Option Bool :=
  (Option.bind (lawBegun fuel) fun o1_0 =>
  (iteB o1_0
    (Option.bind (rTimeout_nil) fun _ =>
      (Option.bind (rBeat_nil) fun _ =>
        (Option.bind (rReceive_nil x) fun _ =>
          (Option.bind (rPropose_nil (ByteArray.mk #[])) fun _ =>
            (Option.bind (rChange_nil true z.id) fun _ =>
              (Option.bind (rStatus_nil) fun o8_2 =>
                (Option.bind (rTake_nil) fun o9_0 =>
                  (Option.bind (rNew_nil z.id (Hard.mk z.hard_term z.hard_vote)) fun _ =>
                    (iteB ((o8_2.term == 0) && ((o8_2.vote == (-1)) && true))
                      (iteB ((o9_0.hard_term == 0) && ((o9_0.hard_vote == 0) && true))
                        (iteB ((IntKind.wrap .i64 ((((List.map Letter.row o9_0.letters).length : Nat) : Int) + (((List.map Entry.row o9_0.entries).length : Nat) : Int))) == 0)
                          (iteB o9_0.reset
                            (some false)
                            (Option.bind (rLog_nil) fun _ =>
                              (Option.bind (rCompact_nil 0 (ByteArray.mk #[])) fun _ =>
                                (some true))))
                          (some false))
                        (some false))
                      (some false))))))))))
    (some false)))
theorem lawNone_ok (g : GT) (fuel : Nat) (z : Start) (x : Letter) : FTO prog g.1 8 [.a (.g (Start.row z)), .a (.g (Letter.row x))] [] (lawNone fuel z x)
    (fun o0 => ([], (.a (.s (.c (.bool o0)))), [])) :=
  Fn_go mixed func8 (
  .reg [] [] [] <|
  .bind (fun _ h1 =>
  .reg [(0, (CL [] [] (lawBegun_ok g fuel  _ h1)))] [] [] <|
    .ite (fun h2 =>
    .cond false (congrArg not h2) <|
      .reg [] [] [] <|
      .bind (fun _ h3 =>
      .reg [(1, (CL [] [1] (rTimeout_nil_ok g  _ h3)))] [] [] <|
        .bind (fun _ h4 =>
        .reg [(1, (CL [] [1] (rBeat_nil_ok g  _ h4)))] [] [] <|
          .bind (fun _ h5 =>
          .reg [(2, (CL [] [1, 10] (rReceive_nil_ok g x _ h5)))] [] [] <|
            .bind (fun _ h6 =>
            .reg [(1, (CL [] [1, 1] (rPropose_nil_ok g (ByteArray.mk #[]) _ h6)))] [] [] <|
              .bind (fun _ h7 =>
              .reg [(3, (CL [] [1, 1, 1] (rChange_nil_ok g true z.id _ h7)))] [] [] <|
                .bind (fun _ h8 =>
                .reg [(1, (CL [] [1] (rStatus_nil_ok g  _ h8)))] [] [] <|
                  .bind (fun _ h9 =>
                  .reg [(1, (CL [] [1] (rTake_nil_ok g  _ h9)))] [] [] <|
                    .bind (fun _ h10 =>
                    .reg [(4, (CL [] [1, 2, 1] (rNew_nil_ok g z.id (Hard.mk z.hard_term z.hard_vote) _ h10)))] [] [] <|
                      .ite (fun h11 =>
                      .ite (fun h12 =>
                        .ite (fun h13 =>
                          .ite (fun h14 =>
                            .reg [(5, (pS true)), (9, (pS true)), (13, (pS true)), (18, (pS true)), (22, (pB h11)), (28, (pS true)), (38, (pB h12)), (43, (pB h13)), (48, (pB (congrArg not h14))), (53, (pS false)), (57, (pS false))] [(2, gS true), (6, gS true), (10, gS true), (14, gS true), (19, gB h11), (23, gS true), (29, gB h12), (39, gB h13), (44, gB (congrArg not h14)), (49, gS false), (54, gS false)] [] <|
                              .gh (.keep [4]) trivial <|
                              .leaf false [] [] false)
                            (fun h14 =>
                            .bind (fun _ h15 =>
                              .bind (fun _ h16 =>
                                .reg [(5, (pS true)), (9, (pS true)), (13, (pS true)), (18, (pS true)), (22, (pB h11)), (28, (pS true)), (38, (pB h12)), (43, (pB h13)), (46, (CL [] [1] (rLog_nil_ok g  _ h15))), (48, (pB (congrArg not h14))), (51, (CL [] [1, 1, 1] (rCompact_nil_ok g 0 (ByteArray.mk #[]) _ h16))), (53, (pS true)), (57, (pS true))] [(2, gS true), (6, gS true), (10, gS true), (14, gS true), (19, gB h11), (23, gS true), (29, gB h12), (39, gB h13), (44, gB (congrArg not h14)), (49, gS true), (54, gS true)] [] <|
                                  .gh (.keep [4]) trivial <|
                                  .leaf false [] [] true))))
                          (fun h13 =>
                          .reg [(5, (pS true)), (9, (pS true)), (13, (pS true)), (18, (pS true)), (22, (pB h11)), (28, (pS true)), (38, (pB h12)), (43, (pB h13)), (48, (pS false)), (53, (pS false)), (57, (pS false))] [(2, gS true), (6, gS true), (10, gS true), (14, gS true), (19, gB h11), (23, gS true), (29, gB h12), (39, gB h13), (44, gS false), (49, gS false), (54, gS false)] [] <|
                            .gh (.keep [4]) trivial <|
                            .leaf false [] [] false))
                        (fun h12 =>
                        .reg [(5, (pS true)), (9, (pS true)), (13, (pS true)), (18, (pS true)), (22, (pB h11)), (28, (pS true)), (38, (pB h12)), (43, (pS false)), (48, (pS false)), (53, (pS false)), (57, (pS false))] [(2, gS true), (6, gS true), (10, gS true), (14, gS true), (19, gB h11), (23, gS true), (29, gB h12), (39, gS false), (44, gS false), (49, gS false), (54, gS false)] [] <|
                          .gh (.keep [4]) trivial <|
                          .leaf false [] [] false))
                      (fun h11 =>
                      .reg [(5, (pS true)), (9, (pS true)), (13, (pS true)), (18, (pS true)), (22, (pB h11)), (28, (pS false)), (38, (pS false)), (43, (pS false)), (48, (pS false)), (53, (pS false)), (57, (pS false))] [(2, gS true), (6, gS true), (10, gS true), (14, gS true), (19, gB h11), (23, gS false), (29, gS false), (39, gS false), (44, gS false), (49, gS false), (54, gS false)] [] <|
                        .gh (.keep [4]) trivial <|
                        .leaf false [] [] false))))))))))
    (fun h2 =>
    .cond true (congrArg not h2) <|
      .reg [] [] [] <|
      .gh (.keep [4]) trivial <|
      .leaf false [] [] false))) (by kernel_rfl)
end Sx
