/- PRINTED by gen2.py: the law RaftAlone. -/
import Derived.Test.YthimhmocgnnaiaaDoorRb
namespace Sx
open Go Go.Proofs.Tryd
def lawAloneL1 (id : Int) (data : List ByteArray) : Nat → Int → Int → Option (Unit ⊕ Unit)
  | 0, _, _ => none
  | fuel + 1, a1v0, a1v1 =>
  (iteB (decide (a1v1 < (((List.map rS data).length : Nat) : Int)))
  (ifP (0 ≤ a1v1)
    (Option.bind (data[(a1v1).toNat]?) fun a1e3 =>
    (iteB (decide ((IntKind.wrap .i64 (a1v0 + (IntKind.wrap .i64 ((1 : Int) + (IntKind.wrap .i64 (Int.tdiv ((ByteArray.size a1e3 : Nat) : Int) 100)))))) > 300))
    (some (Sum.inl ()))
    (iteB (decide (((ByteArray.size a1e3 : Nat) : Int) > 32768))
      (some (Sum.inl ()))
      (lawAloneL1 id data fuel (IntKind.wrap .i64 (a1v0 + (IntKind.wrap .i64 ((1 : Int) + (IntKind.wrap .i64 (Int.tdiv ((ByteArray.size a1e3 : Nat) : Int) 100)))))) (IntKind.wrap .i64 (a1v1 + 1)))))))
  (some (Sum.inr ())))
theorem lawAloneL1_ok (g : GT) (id : Int) (data : List ByteArray) : ∀ (fuel : Nat) (v : Int × Int), PcO prog g.1 (.loop (subC [1, 1, 1, 1, 0, 1, 0, 0] (bodyOf f3))) ((fun (a1v0, a1v1) => ({ tm := mkTm 117 [(0, (.a (.s (.c (.int .i64 (Int.tmod (IntKind.wrap .i64 ((Int.tmod id 7) + 7)) 7)))))), (1, (.a (.s (.ssl 1 (List.map rS data))))), (5, (.a (.s (.c (.int .i64 a1v0))))), (23, (.a (.s (.ssl 1 (List.map rS data))))), (24, (.a (.s (.c (.int .i64 (((List.map rS data).length : Nat) : Int)))))), (25, (.a (.s (.c (.int .i64 a1v1)))))], hp := [], mv := [] } : St)) v) (lawAloneL1 id data fuel v.1 v.2)
    (Sum.elim (fun _ => (.ret, { tm := mkTm 117 [(4, (.a (.s (.c (.bool true)))))], hp := [], mv := [] })) (fun _ => ((.exit 0), { tm := mkTm 117 [(0, (.a (.s (.c (.int .i64 (Int.tmod (IntKind.wrap .i64 ((Int.tmod id 7) + 7)) 7)))))), (1, (.a (.s (.ssl 1 (List.map rS data)))))], hp := [], mv := [] }))) :=
  Lo_go (rec := (fun n (v : Int × Int) => lawAloneL1 id data n v.1 v.2)) mixed (fun _ => rfl)
    (fun | _, (a1v0, a1v1) => (
    .reg [] [] [] <|
    .ite (fun a1h1 =>
    .cond true a1h1 <|
      .ifp (fun a1h2 =>
      .bind (fun a1e3 a1h3 =>
      .reg [(0, (eA rS a1h2 a1h3))] [] [] <|
      .reg [] [] [] <|
      .ite (fun a1h4 =>
      .reg [(6, (pB a1h4))] [(2, gB a1h4)] [] <|
        .cond true (show true = true from rfl) <|
        .reg [] [] [] <|
        .gh (.keep [4]) trivial <|
        .leaf true [] [] (Sum.inl ()))
      (fun a1h4 =>
      .reg [(6, (pB a1h4))] [(2, gB a1h4)] [] <|
        .ite (fun a1h5 =>
        .cond true a1h5 <|
          .reg [] [] [] <|
          .gh (.keep [4]) trivial <|
          .leaf true [] [] (Sum.inl ()))
        (fun a1h5 =>
        .cond false a1h5 <|
          .reg [] [] [] <|
          .gh (.keep [0, 1, 5, 23, 24, 25]) trivial <|
          .again true ((IntKind.wrap .i64 (a1v0 + (IntKind.wrap .i64 ((1 : Int) + (IntKind.wrap .i64 (Int.tdiv ((ByteArray.size a1e3 : Nat) : Int) 100)))))), (IntKind.wrap .i64 (a1v1 + 1))))))))
    (fun a1h1 =>
    .cond false a1h1 <|
      .gh (.keep [0, 1]) trivial <|
      .leaf true [] [] (Sum.inr ())))) (fun _ _ => by kernel_rfl)
def lawAloneL4 (_id : Int) (data : List ByteArray) : Nat → Option (Unit ⊕ Unit)
  | 0 => none
  | _ + 1 =>
  (iteB (decide ((0 : Int) < (((List.map rS data).length : Nat) : Int)))
  (Option.bind (data[0]?) fun a4e2 =>
    (Option.bind (rPropose_nil a4e2) fun _ =>
    (some (Sum.inl ()))))
  (some (Sum.inr ())))
theorem lawAloneL4_ok (g : GT) (id : Int) (data : List ByteArray) : ∀ (fuel : Nat) (v : Unit), PcO prog g.1 (.loop (subC [1, 1, 1, 1, 1, 1, 1, 1, 0, 1, 0, 0] (bodyOf f3))) ((fun _ => ({ tm := mkTm 117 [(0, (.a (.s (.c (.int .i64 (Int.tmod (IntKind.wrap .i64 ((Int.tmod id 7) + 7)) 7)))))), (1, (.a (.s (.ssl 1 (List.map rS data))))), (10, (.a (.s (.c (.pointer none))))), (11, (.a (.s (.c (.int .i64 1))))), (59, (.a (.s (.ssl 1 (List.map rS data))))), (60, (.a (.s (.c (.int .i64 (((List.map rS data).length : Nat) : Int)))))), (61, (.a (.s (.c (.int .i64 0)))))], hp := [], mv := [] } : St)) v) (lawAloneL4 id data fuel)
    (Sum.elim (fun _ => (.ret, { tm := mkTm 117 [(4, (.a (.s (.c (.bool false)))))], hp := [], mv := [] })) (fun _ => ((.exit 2), { tm := mkTm 117 [(0, (.a (.s (.c (.int .i64 (Int.tmod (IntKind.wrap .i64 ((Int.tmod id 7) + 7)) 7)))))), (1, (.a (.s (.ssl 1 (List.map rS data))))), (10, (.a (.s (.c (.pointer none))))), (11, (.a (.s (.c (.int .i64 1)))))], hp := [], mv := [] }))) :=
  Lo_go (rec := (fun n (v : Unit) => lawAloneL4 id data n)) mixed (fun _ => rfl)
    (fun _ _ =>
    .reg [] [] [] <|
    .ite (fun a4h1 =>
    .cond true a4h1 <|
      .bind (fun a4e2 a4h2 =>
      .reg [(1, (Ji (show (0 ≤ (0 : Int) ∧ (List.map rS data)[0]? = some (rS a4e2)) from ⟨(by decide), map_get a4h2⟩) (.e (rS a4e2))))] [] [] <|
      .bind (fun _ a4h3 =>
      .reg [(2, (CL [] [1, 1] (rPropose_nil_ok g a4e2 _ a4h3)))] [] [] <|
        .reg [(8, (pS true))] [(2, gS true)] [] <|
        .cond true (show true = true from rfl) <|
        .reg [] [] [] <|
        .gh (.keep [4]) trivial <|
        .leaf true [] [] (Sum.inl ()))))
    (fun a4h1 =>
    .cond false a4h1 <|
      .gh (.keep [0, 1, 10, 11]) trivial <|
      .leaf true [] [] (Sum.inr ()))) (fun _ _ => by kernel_rfl)
def lawAloneL6 (_id : Int) (data : List ByteArray) (_o5_1 : Log) : Nat → Option (Unit ⊕ Unit)
  | 0 => none
  | _ + 1 =>
  (iteB (decide ((0 : Int) < (((List.map rS data).length : Nat) : Int)))
  (Option.bind (data[0]?) fun a6e2 =>
    (Option.bind (rPropose_nil a6e2) fun _ =>
    (some (Sum.inl ()))))
  (some (Sum.inr ())))
theorem lawAloneL6_ok (g : GT) (id : Int) (data : List ByteArray) (o5_1 : Log) : ∀ (fuel : Nat) (v : Unit), PcO prog g.1 (.loop (subC [1, 1, 1, 1, 1, 1, 1, 1, 0, 1, 0, 0] (bodyOf f3))) ((fun _ => ({ tm := mkTm 117 [(0, (.a (.s (.c (.int .i64 (Int.tmod (IntKind.wrap .i64 ((Int.tmod id 7) + 7)) 7)))))), (1, (.a (.s (.ssl 1 (List.map rS data))))), (10, (.a (.s (.c (.pointer none))))), (11, (.a (.s (.c (.int .i64 1))))), (59, (.a (.s (.ssl 1 (List.map rS data))))), (60, (.a (.s (.c (.int .i64 (((List.map rS data).length : Nat) : Int)))))), (61, (.a (.s (.c (.int .i64 0)))))], hp := [.cells [.one (.c (.int .u64 o5_1.index)), .one (.c (.int .u64 o5_1.term)), .one (.c (.int .u64 o5_1.config)), .one (.c (.string o5_1.data)), .one (.sl 1 0 4 0 (List.map Entry.row o5_1.entries).length)], .arr 4 (List.map Entry.row o5_1.entries)], mv := [] } : St)) v) (lawAloneL6 id data o5_1 fuel)
    (Sum.elim (fun _ => (.ret, { tm := mkTm 117 [(4, (.a (.s (.c (.bool false)))))], hp := [.cells [.one (.c (.int .u64 o5_1.index)), .one (.c (.int .u64 o5_1.term)), .one (.c (.int .u64 o5_1.config)), .one (.c (.string o5_1.data)), .one (.sl 1 0 4 0 (List.map Entry.row o5_1.entries).length)], .arr 4 (List.map Entry.row o5_1.entries)], mv := [] })) (fun _ => ((.exit 2), { tm := mkTm 117 [(0, (.a (.s (.c (.int .i64 (Int.tmod (IntKind.wrap .i64 ((Int.tmod id 7) + 7)) 7)))))), (1, (.a (.s (.ssl 1 (List.map rS data))))), (10, (.a (.s (.c (.pointer none))))), (11, (.a (.s (.c (.int .i64 1)))))], hp := [.cells [.one (.c (.int .u64 o5_1.index)), .one (.c (.int .u64 o5_1.term)), .one (.c (.int .u64 o5_1.config)), .one (.c (.string o5_1.data)), .one (.sl 1 0 4 0 (List.map Entry.row o5_1.entries).length)], .arr 4 (List.map Entry.row o5_1.entries)], mv := [] }))) :=
  Lo_go (rec := (fun n (v : Unit) => lawAloneL6 id data o5_1 n)) mixed (fun _ => rfl)
    (fun _ _ =>
    .reg [] [] [] <|
    .ite (fun a6h1 =>
    .cond true a6h1 <|
      .bind (fun a6e2 a6h2 =>
      .reg [(1, (Ji (show (0 ≤ (0 : Int) ∧ (List.map rS data)[0]? = some (rS a6e2)) from ⟨(by decide), map_get a6h2⟩) (.e (rS a6e2))))] [] [] <|
      .bind (fun _ a6h3 =>
      .reg [(2, (CL [] [1, 1] (rPropose_nil_ok g a6e2 _ a6h3)))] [] [] <|
        .reg [(8, (pS true))] [(2, gS true)] [] <|
        .cond true (show true = true from rfl) <|
        .reg [] [] [] <|
        .gh (.keep [4]) trivial <|
        .leaf true [] [] (Sum.inl ()))))
    (fun a6h1 =>
    .cond false a6h1 <|
      .gh (.keep [0, 1, 10, 11]) trivial <|
      .leaf true [] [] (Sum.inr ()))) (fun _ _ => by kernel_rfl)
def lawAloneL8 (id : Int) (data : List ByteArray) : Nat → Int → Raft → Option (Raft ⊕ Raft)
  | 0, _, _ => none
  | fuel + 1, a8v0, a8g0 =>
  (iteB (decide (a8v0 < (((List.map rS data).length : Nat) : Int)))
  (ifP (0 ≤ a8v0)
    (Option.bind (data[(a8v0).toNat]?) fun a8e3 =>
    (Option.bind (rPropose fuel a8g0 a8e3) fun (a8o4_0, a8o4_1, a8o4_2) =>
    (iteB (a8o4_1 != 0)
      (some (Sum.inl a8o4_2))
      (iteB (a8o4_0 != (IntKind.wrap .u64 (IntKind.wrap .i64 (a8v0 + 2))))
        (some (Sum.inl a8o4_2))
        (lawAloneL8 id data fuel (IntKind.wrap .i64 (a8v0 + 1)) a8o4_2))))))
  (some (Sum.inr a8g0)))
theorem lawAloneL8_ok (g : GT) (id : Int) (data : List ByteArray) : ∀ (fuel : Nat) (v : Int × Raft), PcO prog g.1 (.loop (subC [1, 1, 1, 1, 1, 1, 1, 1, 0, 1, 0, 0] (bodyOf f3))) ((fun (a8v0, a8g0) => ({ tm := mkTm 117 [(0, (.a (.s (.c (.int .i64 (Int.tmod (IntKind.wrap .i64 ((Int.tmod id 7) + 7)) 7)))))), (1, (.a (.s (.ssl 1 (List.map rS data))))), (10, (.a (.s (.ref 2 0)))), (11, (.a (.s (.c (.int .i64 0))))), (59, (.a (.s (.ssl 1 (List.map rS data))))), (60, (.a (.s (.c (.int .i64 (((List.map rS data).length : Nat) : Int)))))), (61, (.a (.s (.c (.int .i64 a8v0)))))], hp := [.cells [.one (.c (.int .u64 a8g0.log.index)), .one (.c (.int .u64 a8g0.log.term)), .one (.c (.int .u64 a8g0.log.config)), .one (.c (.string a8g0.log.data)), .one (.sl 1 0 4 0 (List.map Entry.row a8g0.log.entries).length)], .arr 4 (List.map Entry.row a8g0.log.entries), .cells [.one (.c (.int .i64 a8g0.id)), .one (.c (.int .u64 a8g0.hterm)), .one (.c (.int .i64 a8g0.vote)), .one (.ref 0 0), .one (.c (.int .i64 a8g0.role)), .one (.c (.int .i64 a8g0.leader)), .one (.c (.int .u64 a8g0.commit)), .one (.c (.int .u64 a8g0.votes)), .row 7 1 (List.map (rI .u64) a8g0.next), .row 7 1 (List.map (rI .u64) a8g0.match_), .one (.sl 3 0 4 0 (List.map Entry.row a8g0.entries).length), .one (.c (.bool a8g0.install)), .one (.sl 4 0 10 0 (List.map Letter.row a8g0.out).length), .one (.c (.bool a8g0.reset))], .arr 4 (List.map Entry.row a8g0.entries), .arr 10 (List.map Letter.row a8g0.out)], mv := [4, 3, 1] } : St)) v) (lawAloneL8 id data fuel v.1 v.2)
    (Sum.elim (fun o0 => (.ret, { tm := mkTm 117 [(4, (.a (.s (.c (.bool false)))))], hp := [.cells [.one (.c (.int .u64 o0.log.index)), .one (.c (.int .u64 o0.log.term)), .one (.c (.int .u64 o0.log.config)), .one (.c (.string o0.log.data)), .one (.sl 1 0 4 0 (List.map Entry.row o0.log.entries).length)], .arr 4 (List.map Entry.row o0.log.entries), .cells [.one (.c (.int .i64 o0.id)), .one (.c (.int .u64 o0.hterm)), .one (.c (.int .i64 o0.vote)), .one (.ref 0 0), .one (.c (.int .i64 o0.role)), .one (.c (.int .i64 o0.leader)), .one (.c (.int .u64 o0.commit)), .one (.c (.int .u64 o0.votes)), .row 7 1 (List.map (rI .u64) o0.next), .row 7 1 (List.map (rI .u64) o0.match_), .one (.sl 3 0 4 0 (List.map Entry.row o0.entries).length), .one (.c (.bool o0.install)), .one (.sl 4 0 10 0 (List.map Letter.row o0.out).length), .one (.c (.bool o0.reset))], .arr 4 (List.map Entry.row o0.entries), .arr 10 (List.map Letter.row o0.out)], mv := [4, 3, 1] })) (fun o0 => ((.exit 2), { tm := mkTm 117 [(0, (.a (.s (.c (.int .i64 (Int.tmod (IntKind.wrap .i64 ((Int.tmod id 7) + 7)) 7)))))), (1, (.a (.s (.ssl 1 (List.map rS data))))), (10, (.a (.s (.ref 2 0)))), (11, (.a (.s (.c (.int .i64 0)))))], hp := [.cells [.one (.c (.int .u64 o0.log.index)), .one (.c (.int .u64 o0.log.term)), .one (.c (.int .u64 o0.log.config)), .one (.c (.string o0.log.data)), .one (.sl 1 0 4 0 (List.map Entry.row o0.log.entries).length)], .arr 4 (List.map Entry.row o0.log.entries), .cells [.one (.c (.int .i64 o0.id)), .one (.c (.int .u64 o0.hterm)), .one (.c (.int .i64 o0.vote)), .one (.ref 0 0), .one (.c (.int .i64 o0.role)), .one (.c (.int .i64 o0.leader)), .one (.c (.int .u64 o0.commit)), .one (.c (.int .u64 o0.votes)), .row 7 1 (List.map (rI .u64) o0.next), .row 7 1 (List.map (rI .u64) o0.match_), .one (.sl 3 0 4 0 (List.map Entry.row o0.entries).length), .one (.c (.bool o0.install)), .one (.sl 4 0 10 0 (List.map Letter.row o0.out).length), .one (.c (.bool o0.reset))], .arr 4 (List.map Entry.row o0.entries), .arr 10 (List.map Letter.row o0.out)], mv := [4, 3, 1] }))) :=
  Lo_go (rec := (fun n (v : Int × Raft) => lawAloneL8 id data n v.1 v.2)) mixed (fun _ => rfl)
    (fun | fuel, (a8v0, a8g0) => (
    .reg [] [] [] <|
    .ite (fun a8h1 =>
    .cond true a8h1 <|
      .ifp (fun a8h2 =>
      .bind (fun a8e3 a8h3 =>
      .reg [(1, (eA rS a8h2 a8h3))] [] [] <|
      .bind (fun | (_, _, a8o4_2), a8h4 => (
      .reg [(2, (CL [0, 1, 2, 3, 4] [1, 1] (rPropose_ok g fuel a8g0 a8e3 _ a8h4)))] [] [] <|
        .ite (fun a8h5 =>
        .reg [(8, (pB a8h5))] [(2, gB a8h5)] [] <|
          .cond true (show true = true from rfl) <|
          .reg [] [] [] <|
          .gh (.keep [4]) trivial <|
          .leaf true [] [] (Sum.inl a8o4_2))
        (fun a8h5 =>
        .reg [(8, (pB a8h5))] [(2, gB a8h5)] [] <|
          .ite (fun a8h6 =>
          .cond true a8h6 <|
            .reg [] [] [] <|
            .gh (.keep [4]) trivial <|
            .leaf true [] [] (Sum.inl a8o4_2))
          (fun a8h6 =>
          .cond false a8h6 <|
            .reg [] [] [] <|
            .gh (.keep [0, 1, 10, 11, 59, 60, 61]) trivial <|
            .again true ((IntKind.wrap .i64 (a8v0 + 1)), a8o4_2))))))))
    (fun a8h1 =>
    .cond false a8h1 <|
      .gh (.keep [0, 1, 10, 11]) trivial <|
      .leaf true [] [] (Sum.inr a8g0)))) (fun _ _ => by kernel_rfl)
def lawAlone (fuel : Nat) (id : Int) (data : List ByteArray) : Option Bool :=
  (Option.bind (lawBegun fuel) fun o1_0 =>
  (iteB o1_0
    (Option.bind (lawAloneL1 id data fuel (0 : Int) (0 : Int)) fun o3 => sumC o3 (fun _ =>
      (some true))
      (fun _ =>
      (ifP (0 ≤ (Int.tmod (IntKind.wrap .i64 ((Int.tmod id 7) + 7)) 7))
        (Option.bind (lNew fuel (Snapshot.mk 0 0 (IntKind.wrap .u64 ((1 : Int) * 2 ^ (min ((Int.tmod (IntKind.wrap .i64 ((Int.tmod id 7) + 7)) 7)).toNat (IntKind.bits .u64)))) (ByteArray.mk #[])) []) fun o5 => sumC o5 (fun _ =>
        (Option.bind (rNew_nil (Int.tmod (IntKind.wrap .i64 ((Int.tmod id 7) + 7)) 7) (Hard.mk 0 (-1))) fun _ =>
          (Option.bind (rTimeout_nil) fun _ =>
            (Option.bind (lawAloneL4 id data fuel) fun o8 => sumC o8 (fun _ =>
              (some false))
              (fun _ =>
              (Option.bind (rTake_nil) fun _ =>
                (some false)))))))
        (fun o5_1 =>
        (Option.bind (rNew (Int.tmod (IntKind.wrap .i64 ((Int.tmod id 7) + 7)) 7) (Hard.mk 0 (-1)) o5_1) fun o6 => sumC o6 (fun _ =>
          (Option.bind (rTimeout_nil) fun _ =>
            (Option.bind (lawAloneL6 id data o5_1 fuel) fun o8 => sumC o8 (fun _ =>
              (some false))
              (fun _ =>
              (Option.bind (rTake_nil) fun _ =>
                (some false))))))
          (fun o6_1 =>
          (Option.bind (rTimeout fuel o6_1) fun o7_0 =>
            (Option.bind (lawAloneL8 id data fuel (0 : Int) o7_0) fun o8 => sumC o8 (fun _ =>
              (some false))
              (fun o8_0 =>
              (Option.bind (rTake o8_0) fun (o9_0, _) =>
                (iteB ((((List.map Letter.row o9_0.letters).length : Nat) : Int) == 0)
                  (iteB (o9_0.commit == (IntKind.wrap .u64 (IntKind.wrap .i64 ((((List.map rS data).length : Nat) : Int) + 1))))
                    (iteB ((((List.map Entry.row o9_0.entries).length : Nat) : Int) == (IntKind.wrap .i64 ((((List.map rS data).length : Nat) : Int) + 1)))
                      (some ((o9_0.hard_term == 1) && ((o9_0.hard_vote == (Int.tmod (IntKind.wrap .i64 ((Int.tmod id 7) + 7)) 7)) && true)))
                      (some false))
                    (some false))
                  (some false)))))))))))))
    (some false)))
theorem lawAlone_ok (g : GT) (fuel : Nat) (id : Int) (data : List ByteArray) : FTO prog g.1 3 [(.a (.s (.c (.int .i64 id)))), (.a (.s (.ssl 1 (List.map rS data))))] [] (lawAlone fuel id data)
    (fun o0 => ([], (.a (.s (.c (.bool o0)))), [])) :=
  Fn_go mixed func3 (
  .reg [] [] [] <|
  .bind (fun _ h1 =>
  .reg [(0, (CL [] [] (lawBegun_ok g fuel  _ h1)))] [] [] <|
    .ite (fun h2 =>
    .cond false (congrArg not h2) <|
      .reg [] [] [] <|
      .reg [] [] [] <|
      .reg [] [] [] <|
      .gh (.keep [0, 1, 5, 23, 24, 25]) trivial <|
      .bind (fun _ k3 => .sum (fun _ s3 =>
      have h3 := k3.trans (congrArg some s3)
      .claim false (lawAloneL1_ok g id data fuel ((0 : Int), (0 : Int)) _ h3) <|
        .gh (.keep [4]) trivial <|
        .leaf false [] [] true)
      (fun _ s3 =>
      have h3 := k3.trans (congrArg some s3)
      .claim false (lawAloneL1_ok g id data fuel ((0 : Int), (0 : Int)) _ h3) <|
        .ifp (fun h4 =>
        .bind (fun _ k5 => .sum (fun _ s5 =>
        have h5 := k5.trans (congrArg some s5)
        .reg [(1, (Ji h4 .ar)), (3, (CL (args := [.a (.g (Snapshot.row (Snapshot.mk 0 0 (IntKind.wrap .u64 ((1 : Int) * 2 ^ (min ((Int.tmod (IntKind.wrap .i64 ((Int.tmod id 7) + 7)) 7)).toNat (IntKind.bits .u64)))) (ByteArray.mk #[])))), (.a (.s (.c (.slice none 0 0))))]) [] [4, 1] (FT.shut [[], [(0, 4)]] (lNew_ok g fuel (Snapshot.mk 0 0 (IntKind.wrap .u64 ((1 : Int) * 2 ^ (min ((Int.tmod (IntKind.wrap .i64 ((Int.tmod id 7) + 7)) 7)).toNat (IntKind.bits .u64)))) (ByteArray.mk #[])) [] _ h5))))] [] [] <|
          .bind (fun _ h6 =>
          .reg [(3, (CL [] [1, 2, 1] (rNew_nil_ok g (Int.tmod (IntKind.wrap .i64 ((Int.tmod id 7) + 7)) 7) (Hard.mk 0 (-1)) _ h6)))] [] [] <|
            .bind (fun _ h7 =>
            .reg [(1, (CL [] [1] (rTimeout_nil_ok g  _ h7)))] [] [] <|
              .reg [] [] [] <|
              .gh (.keep [0, 1, 10, 11, 59, 60, 61]) trivial <|
              .bind (fun _ k8 => .sum (fun _ s8 =>
              have h8 := k8.trans (congrArg some s8)
              .claim false (lawAloneL4_ok g id data fuel () _ h8) <|
                .gh (.keep [4]) trivial <|
                .leaf false [] [] false)
              (fun _ s8 =>
              have h8 := k8.trans (congrArg some s8)
              .claim false (lawAloneL4_ok g id data fuel () _ h8) <|
                .bind (fun _ h9 =>
                .reg [(1, (CL [] [1] (rTake_nil_ok g  _ h9)))] [] [] <|
                  .reg [(7, (pS false)), (16, (pS false)), (25, (pS false)), (32, (pS false))] [(2, gS false), (8, gS false), (17, gS false), (26, gS false)] [] <|
                  .gh (.keep [4]) trivial <|
                  .leaf false [] [] false))))))
        (fun o5_1 s5 =>
        have h5 := k5.trans (congrArg some s5)
        .reg [(1, (Ji h4 .ar)), (3, (CL (args := [.a (.g (Snapshot.row (Snapshot.mk 0 0 (IntKind.wrap .u64 ((1 : Int) * 2 ^ (min ((Int.tmod (IntKind.wrap .i64 ((Int.tmod id 7) + 7)) 7)).toNat (IntKind.bits .u64)))) (ByteArray.mk #[])))), (.a (.s (.c (.slice none 0 0))))]) [] [4, 1] (FT.shut [[], [(0, 4)]] (lNew_ok g fuel (Snapshot.mk 0 0 (IntKind.wrap .u64 ((1 : Int) * 2 ^ (min ((Int.tmod (IntKind.wrap .i64 ((Int.tmod id 7) + 7)) 7)).toNat (IntKind.bits .u64)))) (ByteArray.mk #[])) [] _ h5))))] [] [] <|
          .bind (fun _ k6 => .sum (fun _ s6 =>
          have h6 := k6.trans (congrArg some s6)
          .reg [(3, (LK [0, 1] [1, 2, 1] (rNew_ok g (Int.tmod (IntKind.wrap .i64 ((Int.tmod id 7) + 7)) 7) (Hard.mk 0 (-1)) o5_1 _ h6)))] [] [] <|
            .bind (fun _ h7 =>
            .reg [(1, (CL [] [1] (rTimeout_nil_ok g  _ h7)))] [] [] <|
              .reg [] [] [] <|
              .gh (.keep [0, 1, 10, 11, 59, 60, 61]) trivial <|
              .bind (fun _ k8 => .sum (fun _ s8 =>
              have h8 := k8.trans (congrArg some s8)
              .claim false (lawAloneL6_ok g id data o5_1 fuel () _ h8) <|
                .gh (.keep [4]) trivial <|
                .leaf false [] [] false)
              (fun _ s8 =>
              have h8 := k8.trans (congrArg some s8)
              .claim false (lawAloneL6_ok g id data o5_1 fuel () _ h8) <|
                .bind (fun _ h9 =>
                .reg [(1, (CL [] [1] (rTake_nil_ok g  _ h9)))] [] [] <|
                  .reg [(7, (pS false)), (16, (pS false)), (25, (pS false)), (32, (pS false))] [(2, gS false), (8, gS false), (17, gS false), (26, gS false)] [] <|
                  .gh (.keep [4]) trivial <|
                  .leaf false [] [] false)))))
          (fun o6_1 s6 =>
          have h6 := k6.trans (congrArg some s6)
          .reg [(3, (CL [0, 1] [1, 2, 1] (rNew_ok g (Int.tmod (IntKind.wrap .i64 ((Int.tmod id 7) + 7)) 7) (Hard.mk 0 (-1)) o5_1 _ h6)))] [] [] <|
            .bind (fun o7_0 h7 =>
            .reg [(1, (CL [0, 1, 2, 3, 4] [1] (rTimeout_ok g fuel o6_1 _ h7)))] [] [] <|
              .reg [] [] [] <|
              .gh (.keep [0, 1, 10, 11, 59, 60, 61]) trivial <|
              .bind (fun _ k8 => .sum (fun _ s8 =>
              have h8 := k8.trans (congrArg some s8)
              .claim false (lawAloneL8_ok g id data fuel ((0 : Int), o7_0) _ h8) <|
                .gh (.keep [4]) trivial <|
                .leaf false [] [] false)
              (fun o8_0 s8 =>
              have h8 := k8.trans (congrArg some s8)
              .claim false (lawAloneL8_ok g id data fuel ((0 : Int), o7_0) _ h8) <|
                .bind (fun | (o9_0, _), h9 => (
                .reg [(1, (CL [0, 1, 2, 3, 4] [1] (rTake_ok g o8_0 _ h9)))] [] [] <|
                  .ite (fun h10 =>
                  .ite (fun h11 =>
                    .ite (fun h12 =>
                      .reg [(7, (pS true)), (16, (pB h10)), (25, (pB h11)), (32, (pB h12))] [(2, gS true), (8, gB h10), (17, gB h11), (26, gB h12)] [] <|
                        .gh (.keep [4]) trivial <|
                        .leaf false [] [] ((o9_0.hard_term == 1) && ((o9_0.hard_vote == (Int.tmod (IntKind.wrap .i64 ((Int.tmod id 7) + 7)) 7)) && true)))
                      (fun h12 =>
                      .reg [(7, (pS true)), (16, (pB h10)), (25, (pB h11)), (32, (pB h12))] [(2, gS true), (8, gB h10), (17, gB h11), (26, gB h12)] [] <|
                        .gh (.keep [4]) trivial <|
                        .leaf false [] [] false))
                    (fun h11 =>
                    .reg [(7, (pS true)), (16, (pB h10)), (25, (pB h11)), (32, (pS false))] [(2, gS true), (8, gB h10), (17, gB h11), (26, gS false)] [] <|
                      .gh (.keep [4]) trivial <|
                      .leaf false [] [] false))
                  (fun h10 =>
                  .reg [(7, (pS true)), (16, (pB h10)), (25, (pS false)), (32, (pS false))] [(2, gS true), (8, gB h10), (17, gS false), (26, gS false)] [] <|
                    .gh (.keep [4]) trivial <|
                    .leaf false [] [] false))))))))))))))
    (fun h2 =>
    .cond true (congrArg not h2) <|
      .reg [] [] [] <|
      .gh (.keep [4]) trivial <|
      .leaf false [] [] false))) (by kernel_rfl)
end Sx
