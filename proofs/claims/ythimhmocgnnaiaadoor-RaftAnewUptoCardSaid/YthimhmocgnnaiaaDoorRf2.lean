/- PRINTED by gen2.py: pure functions and their contracts, second part. -/
import Derived.Test.YthimhmocgnnaiaaDoorRf1
namespace Sx
open Go Go.Proofs.Tryd
def qMembersL1 : Nat → Int → List Int → Option ((List Int))
  | 0, _, _ => none
  | fuel + 1, a1v0, a1v1 =>
  (iteB (a1v0 != 0)
  (Option.bind (bTz a1v0) fun a1o2_0 =>
    (ifP (1 = (List.map (rI .i64) (cut [a1o2_0] 0 1)).length)
      (ifP (((List.map (rI .i64) a1v1).length + (List.map (rI .i64) (cut [a1o2_0] 0 1)).length) * 9 ≤ 70368744177664)
      (qMembersL1 fuel (IntKind.wrap .u64 ((BitVec.ofInt (IntKind.bits .u64) a1v0 &&& BitVec.ofInt (IntKind.bits .u64) (IntKind.wrap .u64 (a1v0 - 1))).toNat : Int)) (a1v1 ++ (cut [a1o2_0] 0 1))))))
  (some a1v1))
theorem qMembersL1_ok (g : GT) : ∀ (fuel : Nat) (v : Int × (List Int)), PcO prog g.1 (.loop (subC [1, 1, 0, 1, 0, 0] (bodyOf f29))) ((fun (a1v0, a1v1) => ({ tm := mkTm 18 [(0, (.a (.s (.c (.int .u64 a1v0))))), (3, (.a (.s (.sl 0 0 1 0 (List.map (rI .i64) a1v1).length))))], hp := [.arr 1 (List.map (rI .i64) a1v1)], mv := [0] } : St)) v) (qMembersL1 fuel v.1 v.2)
    (fun o0 => ((.exit 0), { tm := mkTm 18 [(3, (.a (.s (.sl 0 0 1 0 (List.map (rI .i64) o0).length))))], hp := [.arr 1 (List.map (rI .i64) o0)], mv := [0] })) :=
  Lo_go (rec := (fun n (v : Int × (List Int)) => qMembersL1 n v.1 v.2)) mixed (fun _ => rfl)
    (fun | _, (a1v0, a1v1) => (
    .reg [] [] [] <|
    .ite (fun a1h1 =>
    .cond true a1h1 <|
      .bind (fun a1o2_0 a1h2 =>
      .ifp (fun a1h3 =>
        .ifp (fun a1h4 =>
        .reg [(2, (CL [] [1] (bTz_ok g a1v0 _ a1h2))), (4, (Ji (show ((List.map (rI .i64) a1v1) ++ (List.map (rI .i64) (cut [a1o2_0] 0 1)) = (List.map (rI .i64) (a1v1 ++ (cut [a1o2_0] 0 1))) ∧ (cut (List.map (rI .i64) a1v1) 0 (List.map (rI .i64) a1v1).length = (List.map (rI .i64) a1v1) ∧ (List.map (rI .i64) a1v1).length = (List.map (rI .i64) a1v1).length) ∧ ((cut (List.map (rI .i64) [a1o2_0]) 0 1) = (List.map (rI .i64) (cut [a1o2_0] 0 1)) ∧ (1 = (List.map (rI .i64) (cut [a1o2_0] 0 1)).length)) ∧ (((List.map (rI .i64) a1v1).length + (List.map (rI .i64) (cut [a1o2_0] 0 1)).length) * 9 ≤ 70368744177664)) from ⟨app_map, ⟨cut_all rfl, rfl⟩, ⟨cut_map, a1h3⟩, a1h4⟩) (.ap (List.map (rI .i64) a1v1) (List.map (rI .i64) (cut [a1o2_0] 0 1)) (List.map (rI .i64) (a1v1 ++ (cut [a1o2_0] 0 1))))))] [] [] <|
        .reg [] [] [] <|
        .gh (.keep [0, 3]) trivial <|
        .again true ((IntKind.wrap .u64 ((BitVec.ofInt (IntKind.bits .u64) a1v0 &&& BitVec.ofInt (IntKind.bits .u64) (IntKind.wrap .u64 (a1v0 - 1))).toNat : Int)), (a1v1 ++ (cut [a1o2_0] 0 1)))))))
    (fun a1h1 =>
    .cond false a1h1 <|
      .gh (.keep [3]) trivial <|
      .leaf true [] [] a1v1))) (fun _ _ => by kernel_rfl)
def qMembers (fuel : Nat) (c : Int) : Option ((List Int)) :=
  (Option.bind (qMembersL1 fuel (IntKind.wrap .u64 ((BitVec.ofInt (IntKind.bits .u64) c &&& BitVec.ofInt (IntKind.bits .u64) 127).toNat : Int)) []) fun o1_0 =>
  (some o1_0))
theorem qMembers_ok (g : GT) (fuel : Nat) (c : Int) : FTO prog g.1 29 [(.a (.s (.c (.int .u64 c))))] [] (qMembers fuel c)
    (fun o0 => ([], (.a (.s (.ssl 1 (List.map (rI .i64) o0)))), [])) :=
  Fn_go mixed func29 (
  .reg [] [] [] <|
  .reg [] [] [] <|
  .reg [] [] [] <|
  .gh (.keep [0, 3]) trivial <|
  .adopt 3 1 <|
  .gh (.mv [0]) trivial <|
  .bind (fun o1_0 h1 =>
  .claim false (qMembersL1_ok g fuel ((IntKind.wrap .u64 ((BitVec.ofInt (IntKind.bits .u64) c &&& BitVec.ofInt (IntKind.bits .u64) 127).toNat : Int)), []) _ h1) <|
    .reg [] [] [] <|
    .gh (.keep [2]) trivial <|
    .gh (.lend [(0, (List.map (rI .i64) o1_0))]) (show ((some (cut (List.map (rI .i64) o1_0) 0 (List.map (rI .i64) o1_0).length) = some (List.map (rI .i64) o1_0) ∧ (List.map (rI .i64) o1_0).length = (List.map (rI .i64) o1_0).length) ∧ True) from ⟨⟨congrArg some (cut_all rfl), rfl⟩, trivial⟩) <|
    .leaf false [] [] o1_0)) (by kernel_rfl)
def qReachedL1 (c : Int) (at_ : List Int) (o1_0 : List Int) : Nat → Int → List Int → Option ((List Int))
  | 0, _, _ => none
  | fuel + 1, a1v0, a1v1 =>
  (iteB (decide (a1v0 < (((List.map (rI .i64) o1_0).length : Nat) : Int)))
  (ifP (0 ≤ a1v0)
    (Option.bind (o1_0[(a1v0).toNat]?) fun a1e3 =>
    (iteB (decide (a1e3 < (((List.map (rI .u64) at_).length : Nat) : Int)))
    (ifP (0 ≤ a1e3)
      (Option.bind (at_[(a1e3).toNat]?) fun a1e6 =>
      (ifP (1 = (List.map (rI .u64) (cut [a1e6] 0 1)).length)
      (ifP (((List.map (rI .u64) a1v1).length + (List.map (rI .u64) (cut [a1e6] 0 1)).length) * 9 ≤ 70368744177664)
      (qReachedL1 c at_ o1_0 fuel (IntKind.wrap .i64 (a1v0 + 1)) (a1v1 ++ (cut [a1e6] 0 1)))))))
    (ifP (1 = (List.map (rI .u64) (cut [0] 0 1)).length)
      (ifP (((List.map (rI .u64) a1v1).length + (List.map (rI .u64) (cut [0] 0 1)).length) * 9 ≤ 70368744177664)
      (qReachedL1 c at_ o1_0 fuel (IntKind.wrap .i64 (a1v0 + 1)) (a1v1 ++ (cut [0] 0 1))))))))
  (some a1v1))
theorem qReachedL1_ok (g : GT) (c : Int) (at_ : List Int) (o1_0 : List Int) : ∀ (fuel : Nat) (v : Int × (List Int)), PcO prog g.1 (.loop (subC [1, 1, 0, 1, 0, 0] (bodyOf f62))) ((fun (a1v0, a1v1) => ({ tm := mkTm 42 [(0, (.a (.s (.c (.int .u64 c))))), (1, (.a (.s (.ssl 1 (List.map (rI .u64) at_))))), (5, (.a (.s (.ref 0 0)))), (10, (.a (.s (.ssl 1 (List.map (rI .i64) o1_0))))), (11, (.a (.s (.c (.int .i64 (((List.map (rI .i64) o1_0).length : Nat) : Int)))))), (12, (.a (.s (.c (.int .i64 a1v0)))))], hp := [.cells [.one (.sl 1 0 1 0 (List.map (rI .u64) a1v1).length)], .arr 1 (List.map (rI .u64) a1v1)], mv := [1] } : St)) v) (qReachedL1 c at_ o1_0 fuel v.1 v.2)
    (fun o0 => ((.exit 0), { tm := mkTm 42 [(0, (.a (.s (.c (.int .u64 c))))), (5, (.a (.s (.ref 0 0))))], hp := [.cells [.one (.sl 1 0 1 0 (List.map (rI .u64) o0).length)], .arr 1 (List.map (rI .u64) o0)], mv := [1] })) :=
  Lo_go (rec := (fun n (v : Int × (List Int)) => qReachedL1 c at_ o1_0 n v.1 v.2)) mixed (fun _ => rfl)
    (fun | _, (a1v0, a1v1) => (
    .reg [] [] [] <|
    .ite (fun a1h1 =>
    .cond true a1h1 <|
      .ifp (fun a1h2 =>
      .bind (fun _ a1h3 =>
      .reg [(0, (eA (rI .i64) a1h2 a1h3))] [] [] <|
      .reg [] [] [] <|
      .reg [] [] [] <|
      .ite (fun a1h4 =>
      .cond true a1h4 <|
        .ifp (fun a1h5 =>
        .bind (fun a1e6 a1h6 =>
        .reg [(2, (eA (rI .u64) a1h5 a1h6))] [] [] <|
        .ifp (fun a1h7 =>
        .ifp (fun a1h8 =>
        .reg [(3, (Ji (show ((List.map (rI .u64) a1v1) ++ (List.map (rI .u64) (cut [a1e6] 0 1)) = (List.map (rI .u64) (a1v1 ++ (cut [a1e6] 0 1))) ∧ (cut (List.map (rI .u64) a1v1) 0 (List.map (rI .u64) a1v1).length = (List.map (rI .u64) a1v1) ∧ (List.map (rI .u64) a1v1).length = (List.map (rI .u64) a1v1).length) ∧ ((cut (List.map (rI .u64) [a1e6]) 0 1) = (List.map (rI .u64) (cut [a1e6] 0 1)) ∧ (1 = (List.map (rI .u64) (cut [a1e6] 0 1)).length)) ∧ (((List.map (rI .u64) a1v1).length + (List.map (rI .u64) (cut [a1e6] 0 1)).length) * 9 ≤ 70368744177664)) from ⟨app_map, ⟨cut_all rfl, rfl⟩, ⟨cut_map, a1h7⟩, a1h8⟩) (.ap (List.map (rI .u64) a1v1) (List.map (rI .u64) (cut [a1e6] 0 1)) (List.map (rI .u64) (a1v1 ++ (cut [a1e6] 0 1))))))] [] [] <|
        .reg [] [] [] <|
        .gh (.keep [0, 1, 5, 10, 11, 12]) trivial <|
        .again true ((IntKind.wrap .i64 (a1v0 + 1)), (a1v1 ++ (cut [a1e6] 0 1))))))))
      (fun a1h4 =>
      .cond false a1h4 <|
        .ifp (fun a1h5 =>
        .ifp (fun a1h6 =>
        .reg [(3, (Ji (show ((List.map (rI .u64) a1v1) ++ (List.map (rI .u64) (cut [0] 0 1)) = (List.map (rI .u64) (a1v1 ++ (cut [0] 0 1))) ∧ (cut (List.map (rI .u64) a1v1) 0 (List.map (rI .u64) a1v1).length = (List.map (rI .u64) a1v1) ∧ (List.map (rI .u64) a1v1).length = (List.map (rI .u64) a1v1).length) ∧ ((cut (List.map (rI .u64) [0]) 0 1) = (List.map (rI .u64) (cut [0] 0 1)) ∧ (1 = (List.map (rI .u64) (cut [0] 0 1)).length)) ∧ (((List.map (rI .u64) a1v1).length + (List.map (rI .u64) (cut [0] 0 1)).length) * 9 ≤ 70368744177664)) from ⟨app_map, ⟨cut_all rfl, rfl⟩, ⟨cut_map, a1h5⟩, a1h6⟩) (.ap (List.map (rI .u64) a1v1) (List.map (rI .u64) (cut [0] 0 1)) (List.map (rI .u64) (a1v1 ++ (cut [0] 0 1))))))] [] [] <|
        .reg [] [] [] <|
        .gh (.keep [0, 1, 5, 10, 11, 12]) trivial <|
        .again true ((IntKind.wrap .i64 (a1v0 + 1)), (a1v1 ++ (cut [0] 0 1)))))))))
    (fun a1h1 =>
    .cond false a1h1 <|
      .gh (.keep [0, 5]) trivial <|
      .leaf true [] [] a1v1))) (fun _ _ => by kernel_rfl)
def qReached (fuel : Nat) (c : Int) (at_ : List Int) : Option Int :=
  (Option.bind (qMembers fuel c) fun o1_0 =>
  (Option.bind (qReachedL1 c at_ o1_0 fuel (0 : Int) []) fun o2_0 =>
    (iteB ((((List.map (rI .u64) o2_0).length : Nat) : Int) == 0)
      (some 0)
      (ifP (o2_0.length < 4611686018427387904)
        (Option.bind (qNeed c) fun o5_0 =>
        (ifP (0 ≤ (IntKind.wrap .i64 (o5_0 - 1)) ∧ (IntKind.wrap .i64 (o5_0 - 1)) < (((List.map (rI .u64) (sortD o2_0)).length : Nat) : Int))
          (Option.bind ((sortD o2_0)[(0 + ((IntKind.wrap .i64 (o5_0 - 1))).toNat)]?) fun e7 =>
          (some e7))))))))
theorem qReached_ok (g : GT) (fuel : Nat) (c : Int) (at_ : List Int) : FTO prog g.1 62 [(.a (.s (.c (.int .u64 c)))), (.a (.s (.ssl 1 (List.map (rI .u64) at_))))] [] (qReached fuel c at_)
    (fun o0 => ([], (.a (.s (.c (.int .u64 o0)))), [])) :=
  Fn_go mixed func62 (
  .reg [] [] [] <|
  .reg [] [] [] <|
  .adoptC 0 0 1 <|
  .bind (fun o1_0 h1 =>
  .reg [(1, (CL [] [1] (qMembers_ok g fuel c _ h1)))] [] [] <|
    .gh (.keep [0, 1, 5, 10, 11, 12]) trivial <|
    .gh (.mv [1]) trivial <|
    .bind (fun o2_0 h2 =>
    .claim false (qReachedL1_ok g c at_ o1_0 fuel ((0 : Int), []) _ h2) <|
      .reg [] [] [] <|
      .ite (fun h3 =>
      .cond true h3 <|
        .reg [] [] [] <|
        .gh (.keep [4]) trivial <|
        .leaf false [] [] 0)
      (fun h3 =>
      .cond false h3 <|
        .ifp (fun h4 =>
        .claim true (sort_region (g := g.1) (id := 12) (aT := #[20, 122]) sorts_u64 sortD_length (by kernel_rfl) (by kernel_rfl) (by kernel_rfl) (o0 := opAt (subC [1, 1, 1, 1, 0] (bodyOf f62)) 0) (o1 := opAt (subC [1, 1, 1, 1, 0] (bodyOf f62)) 1) (o2 := opAt (subC [1, 1, 1, 1, 0] (bodyOf f62)) 2) (o3 := opAt (subC [1, 1, 1, 1, 0] (bodyOf f62)) 3) ⟨rfl, rfl, rfl⟩ ⟨rfl, rfl, rfl⟩ ⟨rfl, rfl, rfl⟩ ⟨rfl, rfl, rfl⟩ (by decide) ({ tm := mkTm 42 [(0, (.a (.s (.c (.int .u64 c))))), (5, (.a (.s (.ref 0 0)))), (29, (.a (.s (.sl 1 0 1 0 (List.map (rI .u64) o2_0).length)))), (30, (.a (.s (.c (.int .i64 (((List.map (rI .u64) o2_0).length : Nat) : Int)))))), (31, (.a (.s (.c (.bool ((((List.map (rI .u64) o2_0).length : Nat) : Int) == 0))))))], hp := [.cells [.one (.sl 1 0 1 0 (List.map (rI .u64) o2_0).length)], .arr 1 (List.map (rI .u64) o2_0)], mv := [1] }) (by kernel_rfl) rfl rfl rfl (by decide) h4) <|
        .eqO 0 (.cells [.one (.sl 1 0 1 0 (List.map (rI .u64) (sortD o2_0)).length)]) (show (.cells [.one (.sl 1 0 1 0 (List.map (rI .u64) o2_0).length)] : O) = .cells [.one (.sl 1 0 1 0 (List.map (rI .u64) (sortD o2_0)).length)] from congrArg (fun z : Nat => (.cells [.one (.sl 1 0 1 0 z)] : O)) (by simp [sortD_length])) <|
        .bind (fun _ h5 =>
        .ifp (fun h6 =>
          .bind (fun e7 h7 =>
          .reg [(2, (CL [] [1] (qNeed_ok g c _ h5))), (4, (J h6)), (5, (eL (rI .u64) h7))] [] [] <|
          .gh (.keep [4]) trivial <|
          .leaf false [] [] e7)))))))) (by kernel_rfl)
def rBeatL1 (o3_0 : List Int) : Nat → Int → Raft → Option Raft
  | 0, _, _ => none
  | fuel + 1, a1v0, a1g0 =>
  (iteB (decide (a1v0 < (((List.map (rI .i64) o3_0).length : Nat) : Int)))
  (ifP (0 ≤ a1v0)
    (Option.bind (o3_0[(a1v0).toNat]?) fun a1e3 =>
    (iteB (a1e3 != a1g0.id)
    (Option.bind (rWrite a1g0 a1e3) fun a1o5_0 =>
      (rBeatL1 o3_0 fuel (IntKind.wrap .i64 (a1v0 + 1)) a1o5_0))
    (rBeatL1 o3_0 fuel (IntKind.wrap .i64 (a1v0 + 1)) a1g0))))
  (some a1g0))
theorem rBeatL1_ok (g : GT) (o3_0 : List Int) : ∀ (fuel : Nat) (v : Int × Raft), PcO prog g.1 (.loop (subC [1, 1, 0, 0] (bodyOf f22))) ((fun (a1v0, a1g0) => ({ tm := mkTm 31 [(0, (.a (.s (.ref 2 0)))), (15, (.a (.s (.ssl 1 (List.map (rI .i64) o3_0))))), (16, (.a (.s (.c (.int .i64 (((List.map (rI .i64) o3_0).length : Nat) : Int)))))), (17, (.a (.s (.c (.int .i64 a1v0)))))], hp := [.cells [.one (.c (.int .u64 a1g0.log.index)), .one (.c (.int .u64 a1g0.log.term)), .one (.c (.int .u64 a1g0.log.config)), .one (.c (.string a1g0.log.data)), .one (.sl 1 0 4 0 (List.map Entry.row a1g0.log.entries).length)], .arr 4 (List.map Entry.row a1g0.log.entries), .cells [.one (.c (.int .i64 a1g0.id)), .one (.c (.int .u64 a1g0.hterm)), .one (.c (.int .i64 a1g0.vote)), .one (.ref 0 0), .one (.c (.int .i64 a1g0.role)), .one (.c (.int .i64 a1g0.leader)), .one (.c (.int .u64 a1g0.commit)), .one (.c (.int .u64 a1g0.votes)), .row 7 1 (List.map (rI .u64) a1g0.next), .row 7 1 (List.map (rI .u64) a1g0.match_), .one (.sl 3 0 4 0 (List.map Entry.row a1g0.entries).length), .one (.c (.bool a1g0.install)), .one (.sl 4 0 10 0 (List.map Letter.row a1g0.out).length), .one (.c (.bool a1g0.reset))], .arr 4 (List.map Entry.row a1g0.entries), .arr 10 (List.map Letter.row a1g0.out)], mv := [1, 3, 4] } : St)) v) (rBeatL1 o3_0 fuel v.1 v.2)
    (fun o0 => ((.exit 0), { tm := mkTm 31 [], hp := [.cells [.one (.c (.int .u64 o0.log.index)), .one (.c (.int .u64 o0.log.term)), .one (.c (.int .u64 o0.log.config)), .one (.c (.string o0.log.data)), .one (.sl 1 0 4 0 (List.map Entry.row o0.log.entries).length)], .arr 4 (List.map Entry.row o0.log.entries), .cells [.one (.c (.int .i64 o0.id)), .one (.c (.int .u64 o0.hterm)), .one (.c (.int .i64 o0.vote)), .one (.ref 0 0), .one (.c (.int .i64 o0.role)), .one (.c (.int .i64 o0.leader)), .one (.c (.int .u64 o0.commit)), .one (.c (.int .u64 o0.votes)), .row 7 1 (List.map (rI .u64) o0.next), .row 7 1 (List.map (rI .u64) o0.match_), .one (.sl 3 0 4 0 (List.map Entry.row o0.entries).length), .one (.c (.bool o0.install)), .one (.sl 4 0 10 0 (List.map Letter.row o0.out).length), .one (.c (.bool o0.reset))], .arr 4 (List.map Entry.row o0.entries), .arr 10 (List.map Letter.row o0.out)], mv := [1, 3, 4] })) :=
  Lo_go (rec := (fun n (v : Int × Raft) => rBeatL1 o3_0 n v.1 v.2)) mixed (fun _ => rfl)
    (fun | _, (a1v0, a1g0) => (
    .reg [] [] [] <|
    .ite (fun a1h1 =>
    .cond true a1h1 <|
      .ifp (fun a1h2 =>
      .bind (fun a1e3 a1h3 =>
      .reg [(0, (eA (rI .i64) a1h2 a1h3))] [] [] <|
      .reg [] [] [] <|
      .ite (fun a1h4 =>
      .cond true a1h4 <|
        .bind (fun a1o5_0 a1h5 =>
        .reg [(2, (CL [0, 1, 2, 3, 4] [1, 1] (rWrite_ok g a1g0 a1e3 _ a1h5)))] [] [] <|
          .reg [] [] [] <|
          .gh (.keep [0, 15, 16, 17]) trivial <|
          .again true ((IntKind.wrap .i64 (a1v0 + 1)), a1o5_0)))
      (fun a1h4 =>
      .cond false a1h4 <|
        .reg [] [] [] <|
        .gh (.keep [0, 15, 16, 17]) trivial <|
        .again true ((IntKind.wrap .i64 (a1v0 + 1)), a1g0)))))
    (fun a1h1 =>
    .cond false a1h1 <|
      .gh (.keep []) trivial <|
      .leaf true [] [] a1g0))) (fun _ _ => by kernel_rfl)
def rBeat (fuel : Nat) (r : Raft) : Option Raft :=
  (iteB (r.role != 2)
  (some r)
  (Option.bind (rMembers fuel r) fun o2_0 =>
    (Option.bind (qMembers fuel o2_0) fun o3_0 =>
      (Option.bind (rBeatL1 o3_0 fuel (0 : Int) r) fun o4_0 =>
        (some o4_0)))))
theorem rBeat_ok (g : GT) (fuel : Nat) (r : Raft) : FTO prog g.1 22 [.a (.s (.ref 2 0))] (Raft.objs r) (rBeat fuel r)
    (fun o0 => ([1, 3, 4], (.t []), Raft.objs o0)) :=
  Fn_go mixed func22 (
  .reg [(8, (pS false))] [(2, gS false)] [] <|
  .ite (fun h1 =>
  .cond true h1 <|
    .gh (.keep []) trivial <|
    .leaf false [0, 1, 2, 3, 4] [] r)
  (fun h1 =>
  .cond false h1 <|
    .bind (fun o2_0 h2 =>
    .bind (fun o3_0 h3 =>
      .reg [(1, (LK [0, 1, 2, 3, 4] [1] (rMembers_ok g fuel r _ h2))), (2, (CL [] [1] (qMembers_ok g fuel o2_0 _ h3)))] [] [] <|
        .gh (.keep [0, 15, 16, 17]) trivial <|
        .gh (.mv [4, 3, 1]) trivial <|
        .bind (fun o4_0 h4 =>
        .claim false (rBeatL1_ok g o3_0 fuel ((0 : Int), r) _ h4) <|
          .gh (.keep []) trivial <|
          .leaf false [0, 1, 2, 3, 4] [] o4_0))))) (by kernel_rfl)
def rAdvance (fuel : Nat) (r : Raft) : Option Raft :=
  (Option.bind (rMembers fuel r) fun o1_0 =>
  (ifP (7 = (List.map (rI .u64) (cut r.match_ 0 7)).length)
    (Option.bind (qReached fuel o1_0 (cut r.match_ 0 7)) fun o3_0 =>
    (Option.bind (lTerm r.log o3_0) fun (o4_0, o4_1) =>
      (iteB (o4_1 != 0)
        (some r)
        (iteB (o4_0 != r.hterm)
          (some r)
          (iteB (decide (o3_0 ≤ r.commit))
            (some r)
            (Option.bind (lMembers fuel r.log) fun (o8_0, o8_1) =>
              (iteB (decide (o8_1 ≤ o3_0))
                (Option.bind (qHas o8_0 r.id) fun o10_0 =>
                  (iteB o10_0
                    (some (Raft.mk r.id r.hterm r.vote r.log r.role r.leader o3_0 r.votes r.next r.match_ r.entries r.install r.out r.reset))
                    (Option.bind (rBeat fuel (Raft.mk r.id r.hterm r.vote r.log r.role r.leader o3_0 r.votes r.next r.match_ r.entries r.install r.out r.reset)) fun o12_0 =>
                      (some (Raft.mk o12_0.id o12_0.hterm o12_0.vote o12_0.log 0 (-1) o12_0.commit o12_0.votes o12_0.next o12_0.match_ o12_0.entries o12_0.install o12_0.out o12_0.reset)))))
                (some (Raft.mk r.id r.hterm r.vote r.log r.role r.leader o3_0 r.votes r.next r.match_ r.entries r.install r.out r.reset)))))))))))
theorem rAdvance_ok (g : GT) (fuel : Nat) (r : Raft) : FTO prog g.1 52 [.a (.s (.ref 2 0))] (Raft.objs r) (rAdvance fuel r)
    (fun o0 => ([1, 3, 4], (.t []), Raft.objs o0)) :=
  Fn_go mixed func52 (
  .bind (fun o1_0 h1 =>
  .ifp (fun h2 =>
    .bind (fun o3_0 h3 =>
    .reg [(1, (LK [0, 1, 2, 3, 4] [1] (rMembers_ok g fuel r _ h1))), (6, (LDq [(2, (List.map (rI .u64) (cut r.match_ 0 7)))] (show ((True ∧ True) ∧ ((some (cut (List.map (rI .u64) r.match_) 0 7) = some (List.map (rI .u64) (cut r.match_ 0 7)) ∧ (7 = (List.map (rI .u64) (cut r.match_ 0 7)).length)) ∧ True) ∧ True) from ⟨⟨trivial, trivial⟩, ⟨⟨congrArg some cut_map, h2⟩, trivial⟩, trivial⟩) (qReached_ok g fuel o1_0 (cut r.match_ 0 7) _ h3)))] [] [] <|
      .bind (fun | _, h4 => (
      .reg [(5, (LK [0, 1] [1, 1] (lTerm_ok g r.log o3_0 _ h4)))] [] [] <|
        .ite (fun h5 =>
        .reg [(10, (pB h5)), (18, (pS true))] [(2, gB h5), (11, gS true)] [] <|
          .cond true (show true = true from rfl) <|
          .gh (.keep []) trivial <|
          .leaf false [0, 1, 2, 3, 4] [] r)
        (fun h5 =>
        .ite (fun h6 =>
          .reg [(10, (pB h5)), (18, (pB h6))] [(2, gB h5), (11, gB h6)] [] <|
            .cond true (show true = true from rfl) <|
            .gh (.keep []) trivial <|
            .leaf false [0, 1, 2, 3, 4] [] r)
          (fun h6 =>
          .reg [(10, (pB h5)), (18, (pB h6))] [(2, gB h5), (11, gB h6)] [] <|
            .ite (fun h7 =>
            .cond true h7 <|
              .gh (.keep []) trivial <|
              .leaf false [0, 1, 2, 3, 4] [] r)
            (fun h7 =>
            .cond false h7 <|
              .reg [] [] [] <|
              .bind (fun | (o8_0, _), h8 => (
              .reg [(4, (LK [0, 1] [1] (lMembers_ok g fuel r.log _ h8)))] [] [] <|
                .ite (fun h9 =>
                .bind (fun _ h10 =>
                  .reg [(9, (CL [] [1, 1] (qHas_ok g o8_0 r.id _ h10))), (11, (pB h9))] [(3, gB h9)] [] <|
                    .ite (fun h11 =>
                    .cond false (congrArg not h11) <|
                      .gh (.keep []) trivial <|
                      .leaf false [0, 1, 2, 3, 4] [] (Raft.mk r.id r.hterm r.vote r.log r.role r.leader o3_0 r.votes r.next r.match_ r.entries r.install r.out r.reset))
                    (fun h11 =>
                    .cond true (congrArg not h11) <|
                      .bind (fun o12_0 h12 =>
                      .reg [(1, (CL [0, 1, 2, 3, 4] [1] (rBeat_ok g fuel (Raft.mk r.id r.hterm r.vote r.log r.role r.leader o3_0 r.votes r.next r.match_ r.entries r.install r.out r.reset) _ h12)))] [] [] <|
                        .reg [] [] [] <|
                        .gh (.keep []) trivial <|
                        .leaf false [0, 1, 2, 3, 4] [] (Raft.mk o12_0.id o12_0.hterm o12_0.vote o12_0.log 0 (-1) o12_0.commit o12_0.votes o12_0.next o12_0.match_ o12_0.entries o12_0.install o12_0.out o12_0.reset)))))
                (fun h9 =>
                .reg [(11, (pB h9))] [(3, gB h9)] [] <|
                  .cond false (show false = false from rfl) <|
                  .gh (.keep []) trivial <|
                  .leaf false [0, 1, 2, 3, 4] [] (Raft.mk r.id r.hterm r.vote r.log r.role r.leader o3_0 r.votes r.next r.match_ r.entries r.install r.out r.reset))))))))))))) (by kernel_rfl)
def rAdd (fuel : Nat) (r : Raft) (kind : Int) (data : ByteArray) : Option (Int × Int × Raft) :=
  (Option.bind (lAdd fuel r.log r.hterm kind data) fun (o1_0, o1_1, o1_2) =>
  (iteB (o1_1 != 0)
    (some (0, o1_1, (Raft.mk r.id r.hterm r.vote o1_2 r.role r.leader r.commit r.votes r.next r.match_ r.entries r.install r.out r.reset)))
    (ifP (1 = (List.map Entry.row (cut [o1_0] 0 1)).length)
      (Option.bind (rKeep fuel (Raft.mk r.id r.hterm r.vote o1_2 r.role r.leader r.commit r.votes r.next r.match_ r.entries r.install r.out r.reset) (cut [o1_0] 0 1)) fun o4_0 =>
      (ifP (0 ≤ o4_0.id ∧ o4_0.id < ((7 : Nat) : Int))
        (Option.bind (o4_0.match_[(o4_0.id).toNat]?) fun _ =>
        (Option.bind (rBeat fuel (Raft.mk o4_0.id o4_0.hterm o4_0.vote o4_0.log o4_0.role o4_0.leader o4_0.commit o4_0.votes o4_0.next (o4_0.match_.set (o4_0.id).toNat o1_0.index) o4_0.entries o4_0.install o4_0.out o4_0.reset)) fun o7_0 =>
        (Option.bind (rAdvance fuel o7_0) fun o8_0 =>
          (some (o1_0.index, 0, o8_0))))))))))
theorem rAdd_ok (g : GT) (fuel : Nat) (r : Raft) (kind : Int) (data : ByteArray) : FTO prog g.1 33 [.a (.s (.ref 2 0)), (.a (.s (.c (.int .i64 kind)))), (.a (.s (.c (.string data))))] (Raft.objs r) (rAdd fuel r kind data)
    (fun (o0, o1, o2) => ([1, 3, 4], (.t [(.s (.c (.int .u64 o0))), (.s (.c (.int .i64 o1)))]), Raft.objs o2)) :=
  Fn_go mixed func33 (
  .reg [] [] [] <|
  .bind (fun | (o1_0, o1_1, o1_2), h1 => (
  .reg [(11, (CL [0, 1] [1, 1, 1, 1] (lAdd_ok g fuel r.log r.hterm kind data _ h1)))] [] [] <|
    .reg [] [] [] <|
    .ite (fun h2 =>
    .cond true h2 <|
      .reg [] [] [] <|
      .gh (.keep [6, 7]) trivial <|
      .leaf false [0, 1, 2, 3, 4] [] (0, o1_1, (Raft.mk r.id r.hterm r.vote o1_2 r.role r.leader r.commit r.votes r.next r.match_ r.entries r.install r.out r.reset)))
    (fun h2 =>
    .cond false h2 <|
      .ifp (fun h3 =>
      .bind (fun o4_0 h4 =>
      .reg [(5, (CLq [0, 1, 2, 3, 4] [(6, (List.map Entry.row (cut [o1_0] 0 1)))] (show ((True ∧ True) ∧ ((some (cut (List.map Entry.row [o1_0]) 0 1) = some (List.map Entry.row (cut [o1_0] 0 1)) ∧ (1 = (List.map Entry.row (cut [o1_0] 0 1)).length)) ∧ True) ∧ True) from ⟨⟨trivial, trivial⟩, ⟨⟨congrArg some cut_map, h3⟩, trivial⟩, trivial⟩) (rKeep_ok g fuel (Raft.mk r.id r.hterm r.vote o1_2 r.role r.leader r.commit r.votes r.next r.match_ r.entries r.install r.out r.reset) (cut [o1_0] 0 1) _ h4)))] [] [] <|
        .ifp (fun h5 =>
        .bind (fun e6 h6 =>
        .reg [(9, (J h5)), (10, (Ji (show ((List.map (rI .u64) o4_0.match_)[(o4_0.id).toNat]? = some ((rI .u64) e6) ∧ (List.map (rI .u64) o4_0.match_).set (o4_0.id).toNat [(.c (.int .u64 o1_0.index))] = (List.map (rI .u64) (o4_0.match_.set (o4_0.id).toNat o1_0.index))) from ⟨(map_get h6), set_map⟩) (.es ((rI .u64) e6) (List.map (rI .u64) (o4_0.match_.set (o4_0.id).toNat o1_0.index)))))] [] [] <|
        .bind (fun o7_0 h7 =>
        .reg [(1, (CL [0, 1, 2, 3, 4] [1] (rBeat_ok g fuel (Raft.mk o4_0.id o4_0.hterm o4_0.vote o4_0.log o4_0.role o4_0.leader o4_0.commit o4_0.votes o4_0.next (o4_0.match_.set (o4_0.id).toNat o1_0.index) o4_0.entries o4_0.install o4_0.out o4_0.reset) _ h7)))] [] [] <|
          .bind (fun o8_0 h8 =>
          .reg [(1, (CL [0, 1, 2, 3, 4] [1] (rAdvance_ok g fuel o7_0 _ h8)))] [] [] <|
            .reg [] [] [] <|
            .gh (.keep [6, 7]) trivial <|
            .leaf false [0, 1, 2, 3, 4] [] (o1_0.index, 0, o8_0))))))))))) (by kernel_rfl)
def rElectedL1 (o5_0 : Int) : Nat → Int → Raft → Option Raft
  | 0, _, _ => none
  | fuel + 1, a1v0, a1g0 =>
  (iteB (decide (a1v0 < 7))
  (ifP (0 ≤ a1v0 ∧ a1v0 < ((7 : Nat) : Int))
    (Option.bind (a1g0.next[(a1v0).toNat]?) fun _ =>
    (rElectedL1 o5_0 fuel (IntKind.wrap .i64 (a1v0 + 1)) (Raft.mk a1g0.id a1g0.hterm a1g0.vote a1g0.log a1g0.role a1g0.leader a1g0.commit a1g0.votes (a1g0.next.set (a1v0).toNat (IntKind.wrap .u64 (o5_0 + 1))) a1g0.match_ a1g0.entries a1g0.install a1g0.out a1g0.reset))))
  (some a1g0))
theorem rElectedL1_ok (g : GT) (o5_0 : Int) : ∀ (fuel : Nat) (v : Int × Raft), PcO prog g.1 (.loop (subC [1, 1, 1, 0, 1, 0, 0] (bodyOf f32))) ((fun (a1v0, a1g0) => ({ tm := mkTm 55 [(0, (.a (.s (.ref 2 0)))), (2, (.a (.s (.c (.int .u64 o5_0))))), (38, (.a (.s (.c (.int .i64 a1v0)))))], hp := [.cells [.one (.c (.int .u64 a1g0.log.index)), .one (.c (.int .u64 a1g0.log.term)), .one (.c (.int .u64 a1g0.log.config)), .one (.c (.string a1g0.log.data)), .one (.sl 1 0 4 0 (List.map Entry.row a1g0.log.entries).length)], .arr 4 (List.map Entry.row a1g0.log.entries), .cells [.one (.c (.int .i64 a1g0.id)), .one (.c (.int .u64 a1g0.hterm)), .one (.c (.int .i64 a1g0.vote)), .one (.ref 0 0), .one (.c (.int .i64 a1g0.role)), .one (.c (.int .i64 a1g0.leader)), .one (.c (.int .u64 a1g0.commit)), .one (.c (.int .u64 a1g0.votes)), .row 7 1 (List.map (rI .u64) a1g0.next), .row 7 1 (List.map (rI .u64) a1g0.match_), .one (.sl 3 0 4 0 (List.map Entry.row a1g0.entries).length), .one (.c (.bool a1g0.install)), .one (.sl 4 0 10 0 (List.map Letter.row a1g0.out).length), .one (.c (.bool a1g0.reset))], .arr 4 (List.map Entry.row a1g0.entries), .arr 10 (List.map Letter.row a1g0.out)], mv := [] } : St)) v) (rElectedL1 o5_0 fuel v.1 v.2)
    (fun o0 => ((.exit 0), { tm := mkTm 55 [(0, (.a (.s (.ref 2 0))))], hp := [.cells [.one (.c (.int .u64 o0.log.index)), .one (.c (.int .u64 o0.log.term)), .one (.c (.int .u64 o0.log.config)), .one (.c (.string o0.log.data)), .one (.sl 1 0 4 0 (List.map Entry.row o0.log.entries).length)], .arr 4 (List.map Entry.row o0.log.entries), .cells [.one (.c (.int .i64 o0.id)), .one (.c (.int .u64 o0.hterm)), .one (.c (.int .i64 o0.vote)), .one (.ref 0 0), .one (.c (.int .i64 o0.role)), .one (.c (.int .i64 o0.leader)), .one (.c (.int .u64 o0.commit)), .one (.c (.int .u64 o0.votes)), .row 7 1 (List.map (rI .u64) o0.next), .row 7 1 (List.map (rI .u64) o0.match_), .one (.sl 3 0 4 0 (List.map Entry.row o0.entries).length), .one (.c (.bool o0.install)), .one (.sl 4 0 10 0 (List.map Letter.row o0.out).length), .one (.c (.bool o0.reset))], .arr 4 (List.map Entry.row o0.entries), .arr 10 (List.map Letter.row o0.out)], mv := [] })) :=
  Lo_go (rec := (fun n (v : Int × Raft) => rElectedL1 o5_0 n v.1 v.2)) mixed (fun _ => rfl)
    (fun | _, (a1v0, a1g0) => (
    .reg [] [] [] <|
    .ite (fun a1h1 =>
    .cond true a1h1 <|
      .reg [] [] [] <|
      .ifp (fun a1h2 =>
      .bind (fun a1e3 a1h3 =>
      .reg [(6, (J a1h2)), (7, (Ji (show ((List.map (rI .u64) a1g0.next)[(a1v0).toNat]? = some ((rI .u64) a1e3) ∧ (List.map (rI .u64) a1g0.next).set (a1v0).toNat [(.c (.int .u64 (IntKind.wrap .u64 (o5_0 + 1))))] = (List.map (rI .u64) (a1g0.next.set (a1v0).toNat (IntKind.wrap .u64 (o5_0 + 1))))) from ⟨(map_get a1h3), set_map⟩) (.es ((rI .u64) a1e3) (List.map (rI .u64) (a1g0.next.set (a1v0).toNat (IntKind.wrap .u64 (o5_0 + 1)))))))] [] [] <|
      .reg [] [] [] <|
      .gh (.keep [0, 2, 38]) trivial <|
      .again true ((IntKind.wrap .i64 (a1v0 + 1)), (Raft.mk a1g0.id a1g0.hterm a1g0.vote a1g0.log a1g0.role a1g0.leader a1g0.commit a1g0.votes (a1g0.next.set (a1v0).toNat (IntKind.wrap .u64 (o5_0 + 1))) a1g0.match_ a1g0.entries a1g0.install a1g0.out a1g0.reset)))))
    (fun a1h1 =>
    .cond false a1h1 <|
      .gh (.keep [0]) trivial <|
      .leaf true [] [] a1g0))) (fun _ _ => by kernel_rfl)
def rElected (fuel : Nat) (r : Raft) : Option Raft :=
  (iteB (r.role != 1)
  (some r)
  (Option.bind (rMembers fuel r) fun o2_0 =>
    (Option.bind (qMajority o2_0 r.votes) fun o3_0 =>
      (iteB o3_0
        (Option.bind (lLast r.log) fun (o5_0, _) =>
          (Option.bind (rElectedL1 o5_0 fuel (0 : Int) (Raft.mk r.id r.hterm r.vote r.log 2 r.id r.commit r.votes r.next r.match_ r.entries r.install r.out r.reset)) fun o6_0 =>
            (ifP (7 = (List.map (rI .u64) o6_0.match_).length)
              (Option.bind (rAdd fuel (Raft.mk o6_0.id o6_0.hterm o6_0.vote o6_0.log o6_0.role o6_0.leader o6_0.commit o6_0.votes o6_0.next [0, 0, 0, 0, 0, 0, 0] o6_0.entries o6_0.install o6_0.out o6_0.reset) 0 (ByteArray.mk #[])) fun (_, _, o8_2) =>
              (some o8_2)))))
        (some r)))))
theorem rElected_ok (g : GT) (fuel : Nat) (r : Raft) : FTO prog g.1 32 [.a (.s (.ref 2 0))] (Raft.objs r) (rElected fuel r)
    (fun o0 => ([1, 3, 4], (.t []), Raft.objs o0)) :=
  Fn_go mixed func32 (
  .ite (fun h1 =>
  .reg [(14, (pB h1))] [(5, gB h1)] [] <|
    .cond true (show true = true from rfl) <|
    .gh (.keep []) trivial <|
    .leaf false [0, 1, 2, 3, 4] [] r)
  (fun h1 =>
  .bind (fun o2_0 h2 =>
    .bind (fun _ h3 =>
      .reg [(7, (LK [0, 1, 2, 3, 4] [1] (rMembers_ok g fuel r _ h2))), (12, (CL [] [1, 1] (qMajority_ok g o2_0 r.votes _ h3))), (14, (pB h1))] [(5, gB h1)] [] <|
        .ite (fun h4 =>
        .cond false (congrArg not h4) <|
          .reg [] [] [] <|
          .bind (fun | (o5_0, _), h5 => (
          .reg [(4, (LK [0, 1] [1] (lLast_ok g r.log _ h5)))] [] [] <|
            .reg [] [] [] <|
            .gh (.keep [0, 2, 38]) trivial <|
            .bind (fun o6_0 h6 =>
            .claim false (rElectedL1_ok g o5_0 fuel ((0 : Int), (Raft.mk r.id r.hterm r.vote r.log 2 r.id r.commit r.votes r.next r.match_ r.entries r.install r.out r.reset)) _ h6) <|
              .ifp (fun h7 =>
              .reg [(4, (J h7))] [] [] <|
              .bind (fun | (_, _, o8_2), h8 => (
              .reg [(1, (CL [0, 1, 2, 3, 4] [1, 1, 1] (rAdd_ok g fuel (Raft.mk o6_0.id o6_0.hterm o6_0.vote o6_0.log o6_0.role o6_0.leader o6_0.commit o6_0.votes o6_0.next [0, 0, 0, 0, 0, 0, 0] o6_0.entries o6_0.install o6_0.out o6_0.reset) 0 (ByteArray.mk #[]) _ h8)))] [] [] <|
                .gh (.keep []) trivial <|
                .leaf false [0, 1, 2, 3, 4] [] o8_2)))))))
        (fun h4 =>
        .cond true (congrArg not h4) <|
          .gh (.keep []) trivial <|
          .leaf false [0, 1, 2, 3, 4] [] r))))) (by kernel_rfl)
def rTimeoutL1 (o6_0 : Int) (o6_1 : Int) (o8_0 : List Int) : Nat → Int → Raft → Option Raft
  | 0, _, _ => none
  | fuel + 1, a1v0, a1g0 =>
  (iteB (decide (a1v0 < (((List.map (rI .i64) o8_0).length : Nat) : Int)))
  (ifP (0 ≤ a1v0)
    (Option.bind (o8_0[(a1v0).toNat]?) fun a1e3 =>
    (iteB (a1e3 != a1g0.id)
    (Option.bind (rSend a1g0 (Letter.mk 1 0 a1e3 0 o6_0 o6_1 0 false [] (ByteArray.mk #[]))) fun a1o5_0 =>
      (rTimeoutL1 o6_0 o6_1 o8_0 fuel (IntKind.wrap .i64 (a1v0 + 1)) a1o5_0))
    (rTimeoutL1 o6_0 o6_1 o8_0 fuel (IntKind.wrap .i64 (a1v0 + 1)) a1g0))))
  (some a1g0))
theorem rTimeoutL1_ok (g : GT) (o6_0 : Int) (o6_1 : Int) (o8_0 : List Int) : ∀ (fuel : Nat) (v : Int × Raft), PcO prog g.1 (.loop (subC [1, 1, 1, 1, 1, 1, 0, 1, 0, 0] (bodyOf f12))) ((fun (a1v0, a1g0) => ({ tm := mkTm 91 [(0, (.a (.s (.ref 2 0)))), (2, (.a (.s (.c (.int .u64 o6_0))))), (3, (.a (.s (.c (.int .u64 o6_1))))), (70, (.a (.s (.ssl 1 (List.map (rI .i64) o8_0))))), (71, (.a (.s (.c (.int .i64 (((List.map (rI .i64) o8_0).length : Nat) : Int)))))), (72, (.a (.s (.c (.int .i64 a1v0)))))], hp := [.cells [.one (.c (.int .u64 a1g0.log.index)), .one (.c (.int .u64 a1g0.log.term)), .one (.c (.int .u64 a1g0.log.config)), .one (.c (.string a1g0.log.data)), .one (.sl 1 0 4 0 (List.map Entry.row a1g0.log.entries).length)], .arr 4 (List.map Entry.row a1g0.log.entries), .cells [.one (.c (.int .i64 a1g0.id)), .one (.c (.int .u64 a1g0.hterm)), .one (.c (.int .i64 a1g0.vote)), .one (.ref 0 0), .one (.c (.int .i64 a1g0.role)), .one (.c (.int .i64 a1g0.leader)), .one (.c (.int .u64 a1g0.commit)), .one (.c (.int .u64 a1g0.votes)), .row 7 1 (List.map (rI .u64) a1g0.next), .row 7 1 (List.map (rI .u64) a1g0.match_), .one (.sl 3 0 4 0 (List.map Entry.row a1g0.entries).length), .one (.c (.bool a1g0.install)), .one (.sl 4 0 10 0 (List.map Letter.row a1g0.out).length), .one (.c (.bool a1g0.reset))], .arr 4 (List.map Entry.row a1g0.entries), .arr 10 (List.map Letter.row a1g0.out)], mv := [1, 3, 4] } : St)) v) (rTimeoutL1 o6_0 o6_1 o8_0 fuel v.1 v.2)
    (fun o0 => ((.exit 0), { tm := mkTm 91 [(0, (.a (.s (.ref 2 0))))], hp := [.cells [.one (.c (.int .u64 o0.log.index)), .one (.c (.int .u64 o0.log.term)), .one (.c (.int .u64 o0.log.config)), .one (.c (.string o0.log.data)), .one (.sl 1 0 4 0 (List.map Entry.row o0.log.entries).length)], .arr 4 (List.map Entry.row o0.log.entries), .cells [.one (.c (.int .i64 o0.id)), .one (.c (.int .u64 o0.hterm)), .one (.c (.int .i64 o0.vote)), .one (.ref 0 0), .one (.c (.int .i64 o0.role)), .one (.c (.int .i64 o0.leader)), .one (.c (.int .u64 o0.commit)), .one (.c (.int .u64 o0.votes)), .row 7 1 (List.map (rI .u64) o0.next), .row 7 1 (List.map (rI .u64) o0.match_), .one (.sl 3 0 4 0 (List.map Entry.row o0.entries).length), .one (.c (.bool o0.install)), .one (.sl 4 0 10 0 (List.map Letter.row o0.out).length), .one (.c (.bool o0.reset))], .arr 4 (List.map Entry.row o0.entries), .arr 10 (List.map Letter.row o0.out)], mv := [1, 3, 4] })) :=
  Lo_go (rec := (fun n (v : Int × Raft) => rTimeoutL1 o6_0 o6_1 o8_0 n v.1 v.2)) mixed (fun _ => rfl)
    (fun | _, (a1v0, a1g0) => (
    .reg [] [] [] <|
    .ite (fun a1h1 =>
    .cond true a1h1 <|
      .ifp (fun a1h2 =>
      .bind (fun a1e3 a1h3 =>
      .reg [(0, (eA (rI .i64) a1h2 a1h3))] [] [] <|
      .reg [] [] [] <|
      .ite (fun a1h4 =>
      .cond true a1h4 <|
        .bind (fun a1o5_0 a1h5 =>
        .reg [(5, (CL (args := [.a (.s (.ref 2 0)), (.a (.g [(.c (.int .i64 1)), (.c (.int .i64 0)), (.c (.int .i64 a1e3)), (.c (.int .u64 0)), (.c (.int .u64 o6_0)), (.c (.int .u64 o6_1)), (.c (.int .u64 0)), (.c (.bool false)), (.c (.slice none 0 0)), (.c (.string (ByteArray.mk #[])))]))]) [0, 1, 2, 3, 4] [1, 10] (FT.shut [[], [(8, 4)]] (rSend_ok g a1g0 (Letter.mk 1 0 a1e3 0 o6_0 o6_1 0 false [] (ByteArray.mk #[])) _ a1h5))))] [] [] <|
          .reg [] [] [] <|
          .gh (.keep [0, 2, 3, 70, 71, 72]) trivial <|
          .again true ((IntKind.wrap .i64 (a1v0 + 1)), a1o5_0)))
      (fun a1h4 =>
      .cond false a1h4 <|
        .reg [] [] [] <|
        .gh (.keep [0, 2, 3, 70, 71, 72]) trivial <|
        .again true ((IntKind.wrap .i64 (a1v0 + 1)), a1g0)))))
    (fun a1h1 =>
    .cond false a1h1 <|
      .gh (.keep [0]) trivial <|
      .leaf true [] [] a1g0))) (fun _ _ => by kernel_rfl)
def rTimeout (fuel : Nat) (r : Raft) : Option Raft :=
  (iteB (r.role == 2)
  (some r)
  (Option.bind (rStands fuel r) fun o2_0 =>
    (iteB o2_0
      (iteB (r.hterm == 18446744073709551615)
        (some r)
        (ifP (0 ≤ r.id)
          (Option.bind (lLast r.log) fun (o6_0, o6_1) =>
          (Option.bind (rMembers fuel (Raft.mk r.id (IntKind.wrap .u64 (r.hterm + 1)) r.id r.log 1 (-1) r.commit (IntKind.wrap .u64 ((1 : Int) * 2 ^ (min (r.id).toNat (IntKind.bits .u64)))) r.next r.match_ r.entries r.install r.out true)) fun o7_0 =>
            (Option.bind (qMembers fuel o7_0) fun o8_0 =>
              (Option.bind (rTimeoutL1 o6_0 o6_1 o8_0 fuel (0 : Int) (Raft.mk r.id (IntKind.wrap .u64 (r.hterm + 1)) r.id r.log 1 (-1) r.commit (IntKind.wrap .u64 ((1 : Int) * 2 ^ (min (r.id).toNat (IntKind.bits .u64)))) r.next r.match_ r.entries r.install r.out true)) fun o9_0 =>
                (Option.bind (rElected fuel o9_0) fun o10_0 =>
                  (some o10_0))))))))
      (some r))))
theorem rTimeout_ok (g : GT) (fuel : Nat) (r : Raft) : FTO prog g.1 12 [.a (.s (.ref 2 0))] (Raft.objs r) (rTimeout fuel r)
    (fun o0 => ([1, 3, 4], (.t []), Raft.objs o0)) :=
  Fn_go mixed func12 (
  .ite (fun h1 =>
  .reg [(8, (pS false)), (13, (pB h1)), (21, (pS true))] [(2, gS false), (9, gB h1), (14, gS true)] [] <|
    .cond true (show true = true from rfl) <|
    .gh (.keep []) trivial <|
    .leaf false [0, 1, 2, 3, 4] [] r)
  (fun h1 =>
  .bind (fun _ h2 =>
    .ite (fun h3 =>
      .reg [(8, (pS false)), (11, (LK [0, 1, 2, 3, 4] [1] (rStands_ok g fuel r _ h2))), (13, (pB h1)), (21, (pB (congrArg not h3)))] [(2, gS false), (9, gB h1), (14, gB (congrArg not h3))] [] <|
        .ite (fun h4 =>
        .cond true h4 <|
          .gh (.keep []) trivial <|
          .leaf false [0, 1, 2, 3, 4] [] r)
        (fun h4 =>
        .cond false h4 <|
          .reg [] [] [] <|
          .reg [] [] [] <|
          .ifp (fun h5 =>
          .reg [(5, (Ji h5 .ar))] [] [] <|
          .reg [] [] [] <|
          .bind (fun | (o6_0, o6_1), h6 => (
          .reg [(4, (LK [0, 1] [1] (lLast_ok g r.log _ h6)))] [] [] <|
            .bind (fun o7_0 h7 =>
            .bind (fun o8_0 h8 =>
              .reg [(1, (LK [0, 1, 2, 3, 4] [1] (rMembers_ok g fuel (Raft.mk r.id (IntKind.wrap .u64 (r.hterm + 1)) r.id r.log 1 (-1) r.commit (IntKind.wrap .u64 ((1 : Int) * 2 ^ (min (r.id).toNat (IntKind.bits .u64)))) r.next r.match_ r.entries r.install r.out true) _ h7))), (2, (CL [] [1] (qMembers_ok g fuel o7_0 _ h8)))] [] [] <|
                .gh (.keep [0, 2, 3, 70, 71, 72]) trivial <|
                .gh (.mv [4, 3, 1]) trivial <|
                .bind (fun o9_0 h9 =>
                .claim false (rTimeoutL1_ok g o6_0 o6_1 o8_0 fuel ((0 : Int), (Raft.mk r.id (IntKind.wrap .u64 (r.hterm + 1)) r.id r.log 1 (-1) r.commit (IntKind.wrap .u64 ((1 : Int) * 2 ^ (min (r.id).toNat (IntKind.bits .u64)))) r.next r.match_ r.entries r.install r.out true)) _ h9) <|
                  .bind (fun o10_0 h10 =>
                  .reg [(1, (CL [0, 1, 2, 3, 4] [1] (rElected_ok g fuel o9_0 _ h10)))] [] [] <|
                    .gh (.keep []) trivial <|
                    .leaf false [0, 1, 2, 3, 4] [] o10_0)))))))))
      (fun h3 =>
      .reg [(8, (pS false)), (11, (LK [0, 1, 2, 3, 4] [1] (rStands_ok g fuel r _ h2))), (13, (pB h1)), (21, (pB (congrArg not h3)))] [(2, gS false), (9, gB h1), (14, gB (congrArg not h3))] [] <|
        .cond true (show true = true from rfl) <|
        .gh (.keep []) trivial <|
        .leaf false [0, 1, 2, 3, 4] [] r)))) (by kernel_rfl)
def rPropose (fuel : Nat) (r : Raft) (data : ByteArray) : Option (Int × Int × Raft) :=
  (iteB (r.role != 2)
  (some (0, 30, r))
  (Option.bind (rAdd fuel r 1 data) fun (o2_0, o2_1, o2_2) =>
    (some (o2_0, o2_1, o2_2))))
theorem rPropose_ok (g : GT) (fuel : Nat) (r : Raft) (data : ByteArray) : FTO prog g.1 13 [.a (.s (.ref 2 0)), (.a (.s (.c (.string data))))] (Raft.objs r) (rPropose fuel r data)
    (fun (o0, o1, o2) => ([1, 3, 4], (.t [(.s (.c (.int .u64 o0))), (.s (.c (.int .i64 o1)))]), Raft.objs o2)) :=
  Fn_go mixed func13 (
  .reg [] [] [] <|
  .reg [(8, (pS false))] [(2, gS false)] [] <|
  .ite (fun h1 =>
  .cond true h1 <|
    .reg [] [] [] <|
    .gh (.keep [4, 5]) trivial <|
    .leaf false [0, 1, 2, 3, 4] [] (0, 30, r))
  (fun h1 =>
  .cond false h1 <|
    .bind (fun | (o2_0, o2_1, o2_2), h2 => (
    .reg [(2, (CL [0, 1, 2, 3, 4] [1, 1, 1] (rAdd_ok g fuel r 1 data _ h2)))] [] [] <|
      .gh (.keep [4, 5]) trivial <|
      .leaf false [0, 1, 2, 3, 4] [] (o2_0, o2_1, o2_2))))) (by kernel_rfl)
def rChange (fuel : Nat) (r : Raft) (add : Bool) (id : Int) : Option (Int × Int × Raft) :=
  (iteB (r.role != 2)
  (some (0, 30, r))
  (Option.bind (lMembers fuel r.log) fun (o2_0, o2_1) =>
    (Option.bind (lTerm r.log r.commit) fun (o3_0, _) =>
      (iteB (decide (o2_1 > r.commit))
        (some (0, 31, r))
        (iteB (o3_0 != r.hterm)
          (some (0, 31, r))
          (Option.bind (qChange o2_0 add id) fun (o6_0, o6_1) =>
            (iteB (o6_1 != 0)
              (some (0, o6_1, r))
              (iteB add
                (Option.bind (lLast r.log) fun (o9_0, _) =>
                  (ifP (0 ≤ id ∧ id < ((7 : Nat) : Int))
                    (Option.bind (r.next[(id).toNat]?) fun _ =>
                    (Option.bind (r.match_[(id).toNat]?) fun _ =>
                    (Option.bind (lConfig fuel o6_0) fun o13_0 =>
                    (Option.bind (rAdd fuel (Raft.mk r.id r.hterm r.vote r.log r.role r.leader r.commit r.votes (r.next.set (id).toNat (IntKind.wrap .u64 (o9_0 + 1))) (r.match_.set (id).toNat 0) r.entries r.install r.out r.reset) 2 o13_0) fun (o14_0, o14_1, o14_2) =>
                      (some (o14_0, o14_1, o14_2))))))))
                (Option.bind (lConfig fuel o6_0) fun o9_0 =>
                  (Option.bind (rAdd fuel r 2 o9_0) fun (o10_0, o10_1, o10_2) =>
                    (some (o10_0, o10_1, o10_2))))))))))))
theorem rChange_ok (g : GT) (fuel : Nat) (r : Raft) (add : Bool) (id : Int) : FTO prog g.1 20 [.a (.s (.ref 2 0)), (.a (.s (.c (.bool add)))), (.a (.s (.c (.int .i64 id))))] (Raft.objs r) (rChange fuel r add id)
    (fun (o0, o1, o2) => ([1, 3, 4], (.t [(.s (.c (.int .u64 o0))), (.s (.c (.int .i64 o1)))]), Raft.objs o2)) :=
  Fn_go mixed func20 (
  .reg [] [] [] <|
  .reg [(8, (pS false))] [(2, gS false)] [] <|
  .ite (fun h1 =>
  .cond true h1 <|
    .reg [] [] [] <|
    .gh (.keep [6, 7]) trivial <|
    .leaf false [0, 1, 2, 3, 4] [] (0, 30, r))
  (fun h1 =>
  .cond false h1 <|
    .bind (fun | (o2_0, _), h2 => (
    .reg [(4, (LK [0, 1] [1] (lMembers_ok g fuel r.log _ h2)))] [] [] <|
      .bind (fun | _, h3 => (
      .reg [(8, (LK [0, 1] [1, 1] (lTerm_ok g r.log r.commit _ h3)))] [] [] <|
        .ite (fun h4 =>
        .reg [(14, (pB h4))] [(6, gB h4)] [] <|
          .cond true (show true = true from rfl) <|
          .reg [] [] [] <|
          .gh (.keep [6, 7]) trivial <|
          .leaf false [0, 1, 2, 3, 4] [] (0, 31, r))
        (fun h4 =>
        .reg [(14, (pB h4))] [(6, gB h4)] [] <|
          .ite (fun h5 =>
          .cond true h5 <|
            .reg [] [] [] <|
            .gh (.keep [6, 7]) trivial <|
            .leaf false [0, 1, 2, 3, 4] [] (0, 31, r))
          (fun h5 =>
          .cond false h5 <|
            .bind (fun | (o6_0, o6_1), h6 => (
            .reg [(3, (CL [] [1, 1, 1] (qChange_ok g o2_0 add id _ h6)))] [] [] <|
              .reg [] [] [] <|
              .ite (fun h7 =>
              .cond true h7 <|
                .reg [] [] [] <|
                .gh (.keep [6, 7]) trivial <|
                .leaf false [0, 1, 2, 3, 4] [] (0, o6_1, r))
              (fun h7 =>
              .cond false h7 <|
                .reg [] [] [] <|
                .ite (fun h8 =>
                .cond true h8 <|
                  .bind (fun | (o9_0, _), h9 => (
                  .reg [(4, (LK [0, 1] [1] (lLast_ok g r.log _ h9)))] [] [] <|
                    .ifp (fun h10 =>
                    .bind (fun e11 h11 =>
                    .bind (fun e12 h12 =>
                    .reg [(8, (J h10)), (9, (Ji (show ((List.map (rI .u64) r.next)[(id).toNat]? = some ((rI .u64) e11) ∧ (List.map (rI .u64) r.next).set (id).toNat [(.c (.int .u64 (IntKind.wrap .u64 (o9_0 + 1))))] = (List.map (rI .u64) (r.next.set (id).toNat (IntKind.wrap .u64 (o9_0 + 1))))) from ⟨(map_get h11), set_map⟩) (.es ((rI .u64) e11) (List.map (rI .u64) (r.next.set (id).toNat (IntKind.wrap .u64 (o9_0 + 1))))))), (12, (J h10)), (13, (Ji (show ((List.map (rI .u64) r.match_)[(id).toNat]? = some ((rI .u64) e12) ∧ (List.map (rI .u64) r.match_).set (id).toNat [(.c (.int .u64 0))] = (List.map (rI .u64) (r.match_.set (id).toNat 0))) from ⟨(map_get h12), set_map⟩) (.es ((rI .u64) e12) (List.map (rI .u64) (r.match_.set (id).toNat 0)))))] [] [] <|
                    .bind (fun o13_0 h13 =>
                    .bind (fun | (o14_0, o14_1, o14_2), h14 => (
                      .reg [(2, (CL [] [1] (lConfig_ok g fuel o6_0 _ h13))), (3, (CL [0, 1, 2, 3, 4] [1, 1, 1] (rAdd_ok g fuel (Raft.mk r.id r.hterm r.vote r.log r.role r.leader r.commit r.votes (r.next.set (id).toNat (IntKind.wrap .u64 (o9_0 + 1))) (r.match_.set (id).toNat 0) r.entries r.install r.out r.reset) 2 o13_0 _ h14)))] [] [] <|
                        .gh (.keep [6, 7]) trivial <|
                        .leaf false [0, 1, 2, 3, 4] [] (o14_0, o14_1, o14_2))))))))))
                (fun h8 =>
                .cond false h8 <|
                  .bind (fun o9_0 h9 =>
                  .bind (fun | (o10_0, o10_1, o10_2), h10 => (
                    .reg [(2, (CL [] [1] (lConfig_ok g fuel o6_0 _ h9))), (3, (CL [0, 1, 2, 3, 4] [1, 1, 1] (rAdd_ok g fuel r 2 o9_0 _ h10)))] [] [] <|
                      .gh (.keep [6, 7]) trivial <|
                      .leaf false [0, 1, 2, 3, 4] [] (o10_0, o10_1, o10_2)))))))))))))))) (by kernel_rfl)
def rInstalls (r : Raft) (x : Letter) : Option Raft :=
  (iteB (decide (x.index > r.commit))
  (iteB (decide (x.prev > x.term))
    (some r)
    (Option.bind (lInstall r.log (Snapshot.mk x.index x.prev x.commit x.data)) fun (o3_0, o3_1) =>
      (iteB (o3_0 != 0)
        (some (Raft.mk r.id r.hterm r.vote o3_1 r.role r.leader r.commit r.votes r.next r.match_ r.entries r.install r.out r.reset))
        (Option.bind (rSend (Raft.mk r.id r.hterm r.vote o3_1 r.role r.leader x.index r.votes r.next r.match_ [] true r.out r.reset) (Letter.mk 4 0 x.from_ 0 x.index 0 0 true [] (ByteArray.mk #[]))) fun o5_0 =>
          (some o5_0)))))
  (Option.bind (rSend r (Letter.mk 4 0 x.from_ 0 x.index 0 0 true [] (ByteArray.mk #[]))) fun o2_0 =>
    (some o2_0)))
theorem rInstalls_ok (g : GT) (r : Raft) (x : Letter) : FTO prog g.1 37 [.a (.s (.ref 2 0)), .a (.g (Letter.row x))] (Raft.objs r) (rInstalls r x)
    (fun o0 => ([1, 3, 4], (.t []), Raft.objs o0)) :=
  Fn_go mixed func37 (
  .reg [] [] [] <|
  .reg [] [] [] <|
  .ite (fun h1 =>
  .cond true h1 <|
    .ite (fun h2 =>
    .reg [(21, (pB h2))] [(5, gB h2)] [] <|
      .cond true (show true = true from rfl) <|
      .gh (.keep []) trivial <|
      .leaf false [0, 1, 2, 3, 4] [] r)
    (fun h2 =>
    .bind (fun | (_, o3_1), h3 => (
      .reg [(19, (CL [0, 1] [1, 4] (lInstall_ok g r.log (Snapshot.mk x.index x.prev x.commit x.data) _ h3))), (21, (pB h2))] [(5, gB h2)] [] <|
        .ite (fun h4 =>
        .cond true h4 <|
          .gh (.keep []) trivial <|
          .leaf false [0, 1, 2, 3, 4] [] (Raft.mk r.id r.hterm r.vote o3_1 r.role r.leader r.commit r.votes r.next r.match_ r.entries r.install r.out r.reset))
        (fun h4 =>
        .cond false h4 <|
          .reg [] [] [] <|
          .adoptC 2 22 4 <|
          .bind (fun o5_0 h5 =>
          .reg [(6, (CL (args := [.a (.s (.ref 2 0)), (.a (.g [(.c (.int .i64 4)), (.c (.int .i64 0)), (.c (.int .i64 x.from_)), (.c (.int .u64 0)), (.c (.int .u64 x.index)), (.c (.int .u64 0)), (.c (.int .u64 0)), (.c (.bool true)), (.c (.slice none 0 0)), (.c (.string (ByteArray.mk #[])))]))]) [0, 1, 2, 6, 4] [1, 10] (FT.shut [[], [(8, 4)]] (rSend_ok g (Raft.mk r.id r.hterm r.vote o3_1 r.role r.leader x.index r.votes r.next r.match_ [] true r.out r.reset) (Letter.mk 4 0 x.from_ 0 x.index 0 0 true [] (ByteArray.mk #[])) _ h5))))] [] [] <|
            .gh (.keep []) trivial <|
            .leaf false [0, 1, 2, 6, 4] [] o5_0))))))
  (fun h1 =>
  .cond false h1 <|
    .bind (fun o2_0 h2 =>
    .reg [(6, (CL (args := [.a (.s (.ref 2 0)), (.a (.g [(.c (.int .i64 4)), (.c (.int .i64 0)), (.c (.int .i64 x.from_)), (.c (.int .u64 0)), (.c (.int .u64 x.index)), (.c (.int .u64 0)), (.c (.int .u64 0)), (.c (.bool true)), (.c (.slice none 0 0)), (.c (.string (ByteArray.mk #[])))]))]) [0, 1, 2, 3, 4] [1, 10] (FT.shut [[], [(8, 4)]] (rSend_ok g r (Letter.mk 4 0 x.from_ 0 x.index 0 0 true [] (ByteArray.mk #[])) _ h2))))] [] [] <|
      .gh (.keep []) trivial <|
      .leaf false [0, 1, 2, 3, 4] [] o2_0))) (by kernel_rfl)
def rAppended (fuel : Nat) (r : Raft) (x : Letter) : Option Raft :=
  (iteB (r.role != 2)
  (some r)
  (iteB (x.term != r.hterm)
    (some r)
    (Option.bind (lLast r.log) fun (o3_0, _) =>
      (iteB x.ok
        (iteB (decide (x.index > o3_0))
          (some r)
          (ifP (0 ≤ x.from_ ∧ x.from_ < ((7 : Nat) : Int))
            (Option.bind (r.match_[(x.from_).toNat]?) fun e7 =>
            (Option.bind (r.next[(x.from_).toNat]?) fun e8 =>
            (Option.bind ((r.match_.set (x.from_).toNat (if x.index > e7 then x.index else e7))[(x.from_).toNat]?) fun e9 =>
            (Option.bind (rAdvance fuel (Raft.mk r.id r.hterm r.vote r.log r.role r.leader r.commit r.votes (r.next.set (x.from_).toNat (if (IntKind.wrap .u64 (e9 + 1)) > e8 then (IntKind.wrap .u64 (e9 + 1)) else e8)) (r.match_.set (x.from_).toNat (if x.index > e7 then x.index else e7)) r.entries r.install r.out r.reset)) fun o10_0 =>
            (iteB (o10_0.role == 2)
              (Option.bind (o10_0.next[(x.from_).toNat]?) fun e12 =>
                (iteB (decide (e12 ≤ o3_0))
                (Option.bind (rMembers fuel o10_0) fun o14_0 =>
                  (Option.bind (qHas o14_0 x.from_) fun o15_0 =>
                    (iteB o15_0
                      (Option.bind (o10_0.match_[(x.from_).toNat]?) fun e17 =>
                        (Option.bind (rWrite (Raft.mk o10_0.id o10_0.hterm o10_0.vote o10_0.log o10_0.role o10_0.leader o10_0.commit o10_0.votes (o10_0.next.set (x.from_).toNat (IntKind.wrap .u64 (e17 + 1))) o10_0.match_ o10_0.entries o10_0.install o10_0.out o10_0.reset) x.from_) fun o18_0 =>
                        (some o18_0)))
                      (some o10_0))))
                (some o10_0)))
              (some o10_0))))))))
        (ifP (0 ≤ x.from_ ∧ x.from_ < ((7 : Nat) : Int))
          (Option.bind (r.match_[(x.from_).toNat]?) fun e6 =>
          (Option.bind (r.next[(x.from_).toNat]?) fun _ =>
          (Option.bind (rWrite (Raft.mk r.id r.hterm r.vote r.log r.role r.leader r.commit r.votes (r.next.set (x.from_).toNat (if (IntKind.wrap .u64 ((if x.index < o3_0 then x.index else o3_0) + 1)) > (IntKind.wrap .u64 (e6 + 1)) then (IntKind.wrap .u64 ((if x.index < o3_0 then x.index else o3_0) + 1)) else (IntKind.wrap .u64 (e6 + 1)))) r.match_ r.entries r.install r.out r.reset) x.from_) fun o8_0 =>
          (some o8_0)))))))))
theorem rAppended_ok (g : GT) (fuel : Nat) (r : Raft) (x : Letter) : FTO prog g.1 38 [.a (.s (.ref 2 0)), .a (.g (Letter.row x))] (Raft.objs r) (rAppended fuel r x)
    (fun o0 => ([1, 3, 4], (.t []), Raft.objs o0)) :=
  Fn_go mixed func38 (
  .reg [] [] [] <|
  .ite (fun h1 =>
  .reg [(14, (pB h1))] [(5, gB h1)] [] <|
    .cond true (show true = true from rfl) <|
    .gh (.keep []) trivial <|
    .leaf false [0, 1, 2, 3, 4] [] r)
  (fun h1 =>
  .reg [(14, (pB h1))] [(5, gB h1)] [] <|
    .ite (fun h2 =>
    .cond true h2 <|
      .gh (.keep []) trivial <|
      .leaf false [0, 1, 2, 3, 4] [] r)
    (fun h2 =>
    .cond false h2 <|
      .bind (fun | (o3_0, _), h3 => (
      .reg [(4, (LK [0, 1] [1] (lLast_ok g r.log _ h3)))] [] [] <|
        .reg [] [] [] <|
        .ite (fun h4 =>
        .cond false (congrArg not h4) <|
          .reg [] [] [] <|
          .ite (fun h5 =>
          .cond true h5 <|
            .gh (.keep []) trivial <|
            .leaf false [0, 1, 2, 3, 4] [] r)
          (fun h5 =>
          .cond false h5 <|
            .ifp (fun h6 =>
            .bind (fun e7 h7 =>
            .reg [(8, (J h6)), (9, (eL (rI .u64) h7)), (15, (J h6)), (16, (Ji (show ((List.map (rI .u64) r.match_)[(x.from_).toNat]? = some ((rI .u64) e7) ∧ (List.map (rI .u64) r.match_).set (x.from_).toNat [(.c (.int .u64 (if x.index > e7 then x.index else e7)))] = (List.map (rI .u64) (r.match_.set (x.from_).toNat (if x.index > e7 then x.index else e7)))) from ⟨(map_get h7), set_map⟩) (.es ((rI .u64) e7) (List.map (rI .u64) (r.match_.set (x.from_).toNat (if x.index > e7 then x.index else e7))))))] [] [] <|
            .bind (fun e8 h8 =>
            .bind (fun e9 h9 =>
            .reg [(8, (J h6)), (9, (eL (rI .u64) h8)), (15, (J h6)), (16, (eL (rI .u64) h9)), (21, (J h6)), (22, (Ji (show ((List.map (rI .u64) r.next)[(x.from_).toNat]? = some ((rI .u64) e8) ∧ (List.map (rI .u64) r.next).set (x.from_).toNat [(.c (.int .u64 (if (IntKind.wrap .u64 (e9 + 1)) > e8 then (IntKind.wrap .u64 (e9 + 1)) else e8)))] = (List.map (rI .u64) (r.next.set (x.from_).toNat (if (IntKind.wrap .u64 (e9 + 1)) > e8 then (IntKind.wrap .u64 (e9 + 1)) else e8)))) from ⟨(map_get h8), set_map⟩) (.es ((rI .u64) e8) (List.map (rI .u64) (r.next.set (x.from_).toNat (if (IntKind.wrap .u64 (e9 + 1)) > e8 then (IntKind.wrap .u64 (e9 + 1)) else e8))))))] [] [] <|
            .bind (fun o10_0 h10 =>
            .reg [(1, (CL [0, 1, 2, 3, 4] [1] (rAdvance_ok g fuel (Raft.mk r.id r.hterm r.vote r.log r.role r.leader r.commit r.votes (r.next.set (x.from_).toNat (if (IntKind.wrap .u64 (e9 + 1)) > e8 then (IntKind.wrap .u64 (e9 + 1)) else e8)) (r.match_.set (x.from_).toNat (if x.index > e7 then x.index else e7)) r.entries r.install r.out r.reset) _ h10)))] [] [] <|
              .ite (fun h11 =>
              .bind (fun e12 h12 =>
                .ite (fun h13 =>
                .bind (fun o14_0 h14 =>
                  .bind (fun _ h15 =>
                    .reg [(11, (J h6)), (12, (eL (rI .u64) h12)), (15, (pB h11)), (18, (LK [0, 1, 2, 3, 4] [1] (rMembers_ok g fuel o10_0 _ h14))), (21, (CL [] [1, 1] (qHas_ok g o14_0 x.from_ _ h15))), (22, (pB h13))] [(5, gB h11), (16, gB h13)] [] <|
                      .ite (fun h16 =>
                      .cond true h16 <|
                        .bind (fun e17 h17 =>
                        .reg [(8, (J h6)), (9, (eL (rI .u64) h17)), (13, (J h6)), (14, (Ji (show ((List.map (rI .u64) o10_0.next)[(x.from_).toNat]? = some ((rI .u64) e12) ∧ (List.map (rI .u64) o10_0.next).set (x.from_).toNat [(.c (.int .u64 (IntKind.wrap .u64 (e17 + 1))))] = (List.map (rI .u64) (o10_0.next.set (x.from_).toNat (IntKind.wrap .u64 (e17 + 1))))) from ⟨(map_get h12), set_map⟩) (.es ((rI .u64) e12) (List.map (rI .u64) (o10_0.next.set (x.from_).toNat (IntKind.wrap .u64 (e17 + 1)))))))] [] [] <|
                        .bind (fun o18_0 h18 =>
                        .reg [(3, (CL [0, 1, 2, 3, 4] [1, 1] (rWrite_ok g (Raft.mk o10_0.id o10_0.hterm o10_0.vote o10_0.log o10_0.role o10_0.leader o10_0.commit o10_0.votes (o10_0.next.set (x.from_).toNat (IntKind.wrap .u64 (e17 + 1))) o10_0.match_ o10_0.entries o10_0.install o10_0.out o10_0.reset) x.from_ _ h18)))] [] [] <|
                          .gh (.keep []) trivial <|
                          .leaf false [0, 1, 2, 3, 4] [] o18_0)))
                      (fun h16 =>
                      .cond false h16 <|
                        .gh (.keep []) trivial <|
                        .leaf false [0, 1, 2, 3, 4] [] o10_0))))
                (fun h13 =>
                .reg [(11, (J h6)), (12, (eL (rI .u64) h12)), (15, (pB h11)), (22, (pB h13))] [(5, gB h11), (16, gB h13)] [] <|
                  .cond false (show false = false from rfl) <|
                  .gh (.keep []) trivial <|
                  .leaf false [0, 1, 2, 3, 4] [] o10_0)))
              (fun h11 =>
              .reg [(15, (pB h11)), (22, (pS false))] [(5, gB h11), (16, gS false)] [] <|
                .cond false (show false = false from rfl) <|
                .gh (.keep []) trivial <|
                .leaf false [0, 1, 2, 3, 4] [] o10_0))))))))
        (fun h4 =>
        .cond true (congrArg not h4) <|
          .ifp (fun h5 =>
          .bind (fun e6 h6 =>
          .bind (fun e7 h7 =>
          .reg [(8, (J h5)), (9, (eL (rI .u64) h6)), (19, (J h5)), (20, (Ji (show ((List.map (rI .u64) r.next)[(x.from_).toNat]? = some ((rI .u64) e7) ∧ (List.map (rI .u64) r.next).set (x.from_).toNat [(.c (.int .u64 (if (IntKind.wrap .u64 ((if x.index < o3_0 then x.index else o3_0) + 1)) > (IntKind.wrap .u64 (e6 + 1)) then (IntKind.wrap .u64 ((if x.index < o3_0 then x.index else o3_0) + 1)) else (IntKind.wrap .u64 (e6 + 1)))))] = (List.map (rI .u64) (r.next.set (x.from_).toNat (if (IntKind.wrap .u64 ((if x.index < o3_0 then x.index else o3_0) + 1)) > (IntKind.wrap .u64 (e6 + 1)) then (IntKind.wrap .u64 ((if x.index < o3_0 then x.index else o3_0) + 1)) else (IntKind.wrap .u64 (e6 + 1)))))) from ⟨(map_get h7), set_map⟩) (.es ((rI .u64) e7) (List.map (rI .u64) (r.next.set (x.from_).toNat (if (IntKind.wrap .u64 ((if x.index < o3_0 then x.index else o3_0) + 1)) > (IntKind.wrap .u64 (e6 + 1)) then (IntKind.wrap .u64 ((if x.index < o3_0 then x.index else o3_0) + 1)) else (IntKind.wrap .u64 (e6 + 1))))))))] [] [] <|
          .bind (fun o8_0 h8 =>
          .reg [(3, (CL [0, 1, 2, 3, 4] [1, 1] (rWrite_ok g (Raft.mk r.id r.hterm r.vote r.log r.role r.leader r.commit r.votes (r.next.set (x.from_).toNat (if (IntKind.wrap .u64 ((if x.index < o3_0 then x.index else o3_0) + 1)) > (IntKind.wrap .u64 (e6 + 1)) then (IntKind.wrap .u64 ((if x.index < o3_0 then x.index else o3_0) + 1)) else (IntKind.wrap .u64 (e6 + 1)))) r.match_ r.entries r.install r.out r.reset) x.from_ _ h8)))] [] [] <|
            .gh (.keep []) trivial <|
            .leaf false [0, 1, 2, 3, 4] [] o8_0)))))))))) (by kernel_rfl)
def rReceive (fuel : Nat) (r : Raft) (x : Letter) : Option Raft :=
  (iteB (decide (x.from_ < 0))
  (some r)
  (iteB (decide (x.from_ ≥ 7))
    (some r)
    (iteB (x.from_ == r.id)
      (some r)
      (iteB (x.to != r.id)
        (some r)
        (iteB (decide (x.kind < 1))
          (some r)
          (iteB (decide (x.kind > 5))
            (some r)
            (iteB (decide (x.index > 4611686018427387904))
              (some r)
              (iteB (decide (x.term > r.hterm))
                (Option.bind (rFollow r x.term) fun o9_0 =>
                  (iteB (x.kind == 1)
                    (Option.bind (rAsked o9_0 x) fun o11_0 =>
                      (some o11_0))
                    (iteB (x.kind == 2)
                      (iteB (o9_0.role == 1)
                        (iteB (x.term == o9_0.hterm)
                          (iteB x.ok
                            (ifP (0 ≤ x.from_)
                              (Option.bind (rElected fuel (Raft.mk o9_0.id o9_0.hterm o9_0.vote o9_0.log o9_0.role o9_0.leader o9_0.commit (IntKind.wrap .u64 ((BitVec.ofInt (IntKind.bits .u64) o9_0.votes ||| BitVec.ofInt (IntKind.bits .u64) (IntKind.wrap .u64 ((1 : Int) * 2 ^ (min (x.from_).toNat (IntKind.bits .u64))))).toNat : Int)) o9_0.next o9_0.match_ o9_0.entries o9_0.install o9_0.out o9_0.reset)) fun o16_0 =>
                              (some o16_0)))
                            (some o9_0))
                          (some o9_0))
                        (some o9_0))
                      (iteB (x.kind == 3)
                        (iteB (decide (x.term < o9_0.hterm))
                          (Option.bind (rSend o9_0 (Letter.mk 4 0 x.from_ 0 0 0 0 false [] (ByteArray.mk #[]))) fun o14_0 =>
                            (some o14_0))
                          (iteB (o9_0.role == 2)
                            (some o9_0)
                            (Option.bind (rFollow o9_0 x.term) fun o15_0 =>
                              (Option.bind (rAppends fuel (Raft.mk o15_0.id o15_0.hterm o15_0.vote o15_0.log o15_0.role x.from_ o15_0.commit o15_0.votes o15_0.next o15_0.match_ o15_0.entries o15_0.install o15_0.out true) x) fun o16_0 =>
                                (some o16_0)))))
                        (iteB (x.kind == 5)
                          (iteB (decide (x.term < o9_0.hterm))
                            (Option.bind (rSend o9_0 (Letter.mk 4 0 x.from_ 0 0 0 0 false [] (ByteArray.mk #[]))) fun o15_0 =>
                              (some o15_0))
                            (iteB (o9_0.role == 2)
                              (some o9_0)
                              (Option.bind (rFollow o9_0 x.term) fun o16_0 =>
                                (Option.bind (rInstalls (Raft.mk o16_0.id o16_0.hterm o16_0.vote o16_0.log o16_0.role x.from_ o16_0.commit o16_0.votes o16_0.next o16_0.match_ o16_0.entries o16_0.install o16_0.out true) x) fun o17_0 =>
                                  (some o17_0)))))
                          (iteB (x.kind == 4)
                            (Option.bind (rAppended fuel o9_0 x) fun o15_0 =>
                              (some o15_0))
                            (some o9_0)))))))
                (iteB (x.kind == 1)
                  (Option.bind (rAsked r x) fun o10_0 =>
                    (some o10_0))
                  (iteB (x.kind == 2)
                    (iteB (r.role == 1)
                      (iteB (x.term == r.hterm)
                        (iteB x.ok
                          (ifP (0 ≤ x.from_)
                            (Option.bind (rElected fuel (Raft.mk r.id r.hterm r.vote r.log r.role r.leader r.commit (IntKind.wrap .u64 ((BitVec.ofInt (IntKind.bits .u64) r.votes ||| BitVec.ofInt (IntKind.bits .u64) (IntKind.wrap .u64 ((1 : Int) * 2 ^ (min (x.from_).toNat (IntKind.bits .u64))))).toNat : Int)) r.next r.match_ r.entries r.install r.out r.reset)) fun o15_0 =>
                            (some o15_0)))
                          (some r))
                        (some r))
                      (some r))
                    (iteB (x.kind == 3)
                      (iteB (decide (x.term < r.hterm))
                        (Option.bind (rSend r (Letter.mk 4 0 x.from_ 0 0 0 0 false [] (ByteArray.mk #[]))) fun o13_0 =>
                          (some o13_0))
                        (iteB (r.role == 2)
                          (some r)
                          (Option.bind (rFollow r x.term) fun o14_0 =>
                            (Option.bind (rAppends fuel (Raft.mk o14_0.id o14_0.hterm o14_0.vote o14_0.log o14_0.role x.from_ o14_0.commit o14_0.votes o14_0.next o14_0.match_ o14_0.entries o14_0.install o14_0.out true) x) fun o15_0 =>
                              (some o15_0)))))
                      (iteB (x.kind == 5)
                        (iteB (decide (x.term < r.hterm))
                          (Option.bind (rSend r (Letter.mk 4 0 x.from_ 0 0 0 0 false [] (ByteArray.mk #[]))) fun o14_0 =>
                            (some o14_0))
                          (iteB (r.role == 2)
                            (some r)
                            (Option.bind (rFollow r x.term) fun o15_0 =>
                              (Option.bind (rInstalls (Raft.mk o15_0.id o15_0.hterm o15_0.vote o15_0.log o15_0.role x.from_ o15_0.commit o15_0.votes o15_0.next o15_0.match_ o15_0.entries o15_0.install o15_0.out true) x) fun o16_0 =>
                                (some o16_0)))))
                        (iteB (x.kind == 4)
                          (Option.bind (rAppended fuel r x) fun o14_0 =>
                            (some o14_0))
                          (some r))))))))))))))
theorem rReceive_ok (g : GT) (fuel : Nat) (r : Raft) (x : Letter) : FTO prog g.1 16 [.a (.s (.ref 2 0)), .a (.g (Letter.row x))] (Raft.objs r) (rReceive fuel r x)
    (fun o0 => ([1, 3, 4], (.t []), Raft.objs o0)) :=
  Fn_go mixed func16 (
  .reg [] [] [] <|
  .ite (fun h1 =>
  .reg [(6, (pS false)), (11, (pB h1)), (20, (pS true)), (29, (pS true)), (34, (pS true)), (39, (pS true)), (44, (pS true))] [(2, gS false), (7, gB h1), (12, gS true), (21, gS true), (30, gS true), (35, gS true), (40, gS true)] [] <|
    .cond true (show true = true from rfl) <|
    .gh (.keep []) trivial <|
    .leaf false [0, 1, 2, 3, 4] [] r)
  (fun h1 =>
  .ite (fun h2 =>
    .reg [(6, (pS false)), (11, (pB h1)), (20, (pB h2)), (29, (pS true)), (34, (pS true)), (39, (pS true)), (44, (pS true))] [(2, gS false), (7, gB h1), (12, gB h2), (21, gS true), (30, gS true), (35, gS true), (40, gS true)] [] <|
      .cond true (show true = true from rfl) <|
      .gh (.keep []) trivial <|
      .leaf false [0, 1, 2, 3, 4] [] r)
    (fun h2 =>
    .ite (fun h3 =>
      .reg [(6, (pS false)), (11, (pB h1)), (20, (pB h2)), (29, (pB h3)), (34, (pS true)), (39, (pS true)), (44, (pS true))] [(2, gS false), (7, gB h1), (12, gB h2), (21, gB h3), (30, gS true), (35, gS true), (40, gS true)] [] <|
        .cond true (show true = true from rfl) <|
        .gh (.keep []) trivial <|
        .leaf false [0, 1, 2, 3, 4] [] r)
      (fun h3 =>
      .ite (fun h4 =>
        .reg [(6, (pS false)), (11, (pB h1)), (20, (pB h2)), (29, (pB h3)), (34, (pB h4)), (39, (pS true)), (44, (pS true))] [(2, gS false), (7, gB h1), (12, gB h2), (21, gB h3), (30, gB h4), (35, gS true), (40, gS true)] [] <|
          .cond true (show true = true from rfl) <|
          .gh (.keep []) trivial <|
          .leaf false [0, 1, 2, 3, 4] [] r)
        (fun h4 =>
        .ite (fun h5 =>
          .reg [(6, (pS false)), (11, (pB h1)), (20, (pB h2)), (29, (pB h3)), (34, (pB h4)), (39, (pB h5)), (44, (pS true))] [(2, gS false), (7, gB h1), (12, gB h2), (21, gB h3), (30, gB h4), (35, gB h5), (40, gS true)] [] <|
            .cond true (show true = true from rfl) <|
            .gh (.keep []) trivial <|
            .leaf false [0, 1, 2, 3, 4] [] r)
          (fun h5 =>
          .ite (fun h6 =>
            .reg [(6, (pS false)), (11, (pB h1)), (20, (pB h2)), (29, (pB h3)), (34, (pB h4)), (39, (pB h5)), (44, (pB h6))] [(2, gS false), (7, gB h1), (12, gB h2), (21, gB h3), (30, gB h4), (35, gB h5), (40, gB h6)] [] <|
              .cond true (show true = true from rfl) <|
              .gh (.keep []) trivial <|
              .leaf false [0, 1, 2, 3, 4] [] r)
            (fun h6 =>
            .reg [(6, (pS false)), (11, (pB h1)), (20, (pB h2)), (29, (pB h3)), (34, (pB h4)), (39, (pB h5)), (44, (pB h6))] [(2, gS false), (7, gB h1), (12, gB h2), (21, gB h3), (30, gB h4), (35, gB h5), (40, gB h6)] [] <|
              .ite (fun h7 =>
              .cond true h7 <|
                .gh (.keep []) trivial <|
                .leaf false [0, 1, 2, 3, 4] [] r)
              (fun h7 =>
              .cond false h7 <|
                .reg [] [] [] <|
                .ite (fun h8 =>
                .cond true h8 <|
                  .bind (fun o9_0 h9 =>
                  .reg [(3, (CL [0, 1, 2, 3, 4] [1, 1] (rFollow_ok g r x.term _ h9)))] [] [] <|
                    .reg [] [] [] <|
                    .reg [] [] [] <|
                    .ite (fun h10 =>
                    .cond true h10 <|
                      .bind (fun o11_0 h11 =>
                      .reg [(2, (CL [0, 1, 2, 3, 4] [1, 10] (rAsked_ok g o9_0 x _ h11)))] [] [] <|
                        .gh (.keep []) trivial <|
                        .leaf false [0, 1, 2, 3, 4] [] o11_0))
                    (fun h10 =>
                    .cond false h10 <|
                      .reg [] [] [] <|
                      .ite (fun h11 =>
                      .cond true h11 <|
                        .ite (fun h12 =>
                        .ite (fun h13 =>
                          .reg [(14, (pB h12)), (18, (pB h13))] [(5, gB h12), (15, gB h13)] [] <|
                            .ite (fun h14 =>
                            .cond true h14 <|
                              .ifp (fun h15 =>
                              .reg [(6, (Ji h15 .ar))] [] [] <|
                              .bind (fun o16_0 h16 =>
                              .reg [(1, (CL [0, 1, 2, 3, 4] [1] (rElected_ok g fuel (Raft.mk o9_0.id o9_0.hterm o9_0.vote o9_0.log o9_0.role o9_0.leader o9_0.commit (IntKind.wrap .u64 ((BitVec.ofInt (IntKind.bits .u64) o9_0.votes ||| BitVec.ofInt (IntKind.bits .u64) (IntKind.wrap .u64 ((1 : Int) * 2 ^ (min (x.from_).toNat (IntKind.bits .u64))))).toNat : Int)) o9_0.next o9_0.match_ o9_0.entries o9_0.install o9_0.out o9_0.reset) _ h16)))] [] [] <|
                                .gh (.keep []) trivial <|
                                .leaf false [0, 1, 2, 3, 4] [] o16_0)))
                            (fun h14 =>
                            .cond false h14 <|
                              .gh (.keep []) trivial <|
                              .leaf false [0, 1, 2, 3, 4] [] o9_0))
                          (fun h13 =>
                          .reg [(14, (pB h12)), (18, (pB h13))] [(5, gB h12), (15, gB h13)] [] <|
                            .cond false (show false = false from rfl) <|
                            .gh (.keep []) trivial <|
                            .leaf false [0, 1, 2, 3, 4] [] o9_0))
                        (fun h12 =>
                        .reg [(14, (pB h12)), (18, (pS false))] [(5, gB h12), (15, gS false)] [] <|
                          .cond false (show false = false from rfl) <|
                          .gh (.keep []) trivial <|
                          .leaf false [0, 1, 2, 3, 4] [] o9_0))
                      (fun h11 =>
                      .cond false h11 <|
                        .reg [] [] [] <|
                        .ite (fun h12 =>
                        .cond true h12 <|
                          .cond true h12 <|
                          .reg [] [] [] <|
                          .ite (fun h13 =>
                          .cond true h13 <|
                            .bind (fun o14_0 h14 =>
                            .reg [(4, (CL (args := [.a (.s (.ref 2 0)), (.a (.g [(.c (.int .i64 4)), (.c (.int .i64 0)), (.c (.int .i64 x.from_)), (.c (.int .u64 0)), (.c (.int .u64 0)), (.c (.int .u64 0)), (.c (.int .u64 0)), (.c (.bool false)), (.c (.slice none 0 0)), (.c (.string (ByteArray.mk #[])))]))]) [0, 1, 2, 3, 4] [1, 10] (FT.shut [[], [(8, 4)]] (rSend_ok g o9_0 (Letter.mk 4 0 x.from_ 0 0 0 0 false [] (ByteArray.mk #[])) _ h14))))] [] [] <|
                              .gh (.keep []) trivial <|
                              .leaf false [0, 1, 2, 3, 4] [] o14_0))
                          (fun h13 =>
                          .cond false h13 <|
                            .reg [] [] [] <|
                            .ite (fun h14 =>
                            .cond true h14 <|
                              .gh (.keep []) trivial <|
                              .leaf false [0, 1, 2, 3, 4] [] o9_0)
                            (fun h14 =>
                            .cond false h14 <|
                              .bind (fun o15_0 h15 =>
                              .reg [(3, (CL [0, 1, 2, 3, 4] [1, 1] (rFollow_ok g o9_0 x.term _ h15)))] [] [] <|
                                .reg [] [] [] <|
                                .reg [] [] [] <|
                                .cond true h12 <|
                                .bind (fun o16_0 h16 =>
                                .reg [(2, (CL [0, 1, 2, 3, 4] [1, 10] (rAppends_ok g fuel (Raft.mk o15_0.id o15_0.hterm o15_0.vote o15_0.log o15_0.role x.from_ o15_0.commit o15_0.votes o15_0.next o15_0.match_ o15_0.entries o15_0.install o15_0.out true) x _ h16)))] [] [] <|
                                  .gh (.keep []) trivial <|
                                  .leaf false [0, 1, 2, 3, 4] [] o16_0)))))
                        (fun h12 =>
                        .cond false h12 <|
                          .reg [] [] [] <|
                          .ite (fun h13 =>
                          .cond true h13 <|
                            .reg [] [] [] <|
                            .ite (fun h14 =>
                            .cond true h14 <|
                              .bind (fun o15_0 h15 =>
                              .reg [(4, (CL (args := [.a (.s (.ref 2 0)), (.a (.g [(.c (.int .i64 4)), (.c (.int .i64 0)), (.c (.int .i64 x.from_)), (.c (.int .u64 0)), (.c (.int .u64 0)), (.c (.int .u64 0)), (.c (.int .u64 0)), (.c (.bool false)), (.c (.slice none 0 0)), (.c (.string (ByteArray.mk #[])))]))]) [0, 1, 2, 3, 4] [1, 10] (FT.shut [[], [(8, 4)]] (rSend_ok g o9_0 (Letter.mk 4 0 x.from_ 0 0 0 0 false [] (ByteArray.mk #[])) _ h15))))] [] [] <|
                                .gh (.keep []) trivial <|
                                .leaf false [0, 1, 2, 3, 4] [] o15_0))
                            (fun h14 =>
                            .cond false h14 <|
                              .reg [] [] [] <|
                              .ite (fun h15 =>
                              .cond true h15 <|
                                .gh (.keep []) trivial <|
                                .leaf false [0, 1, 2, 3, 4] [] o9_0)
                              (fun h15 =>
                              .cond false h15 <|
                                .bind (fun o16_0 h16 =>
                                .reg [(3, (CL [0, 1, 2, 3, 4] [1, 1] (rFollow_ok g o9_0 x.term _ h16)))] [] [] <|
                                  .reg [] [] [] <|
                                  .reg [] [] [] <|
                                  .cond false h12 <|
                                  .bind (fun o17_0 h17 =>
                                  .reg [(2, (CL [0, 1, 2, 3, 4] [1, 10] (rInstalls_ok g (Raft.mk o16_0.id o16_0.hterm o16_0.vote o16_0.log o16_0.role x.from_ o16_0.commit o16_0.votes o16_0.next o16_0.match_ o16_0.entries o16_0.install o16_0.out true) x _ h17)))] [] [] <|
                                    .gh (.keep []) trivial <|
                                    .leaf false [0, 1, 2, 3, 4] [] o17_0)))))
                          (fun h13 =>
                          .cond false h13 <|
                            .reg [] [] [] <|
                            .ite (fun h14 =>
                            .cond true h14 <|
                              .bind (fun o15_0 h15 =>
                              .reg [(2, (CL [0, 1, 2, 3, 4] [1, 10] (rAppended_ok g fuel o9_0 x _ h15)))] [] [] <|
                                .gh (.keep []) trivial <|
                                .leaf false [0, 1, 2, 3, 4] [] o15_0))
                            (fun h14 =>
                            .cond false h14 <|
                              .gh (.keep []) trivial <|
                              .leaf false [0, 1, 2, 3, 4] [] o9_0)))))))
                (fun h8 =>
                .cond false h8 <|
                  .reg [] [] [] <|
                  .reg [] [] [] <|
                  .ite (fun h9 =>
                  .cond true h9 <|
                    .bind (fun o10_0 h10 =>
                    .reg [(2, (CL [0, 1, 2, 3, 4] [1, 10] (rAsked_ok g r x _ h10)))] [] [] <|
                      .gh (.keep []) trivial <|
                      .leaf false [0, 1, 2, 3, 4] [] o10_0))
                  (fun h9 =>
                  .cond false h9 <|
                    .reg [] [] [] <|
                    .ite (fun h10 =>
                    .cond true h10 <|
                      .ite (fun h11 =>
                      .ite (fun h12 =>
                        .reg [(14, (pB h11)), (18, (pB h12))] [(5, gB h11), (15, gB h12)] [] <|
                          .ite (fun h13 =>
                          .cond true h13 <|
                            .ifp (fun h14 =>
                            .reg [(6, (Ji h14 .ar))] [] [] <|
                            .bind (fun o15_0 h15 =>
                            .reg [(1, (CL [0, 1, 2, 3, 4] [1] (rElected_ok g fuel (Raft.mk r.id r.hterm r.vote r.log r.role r.leader r.commit (IntKind.wrap .u64 ((BitVec.ofInt (IntKind.bits .u64) r.votes ||| BitVec.ofInt (IntKind.bits .u64) (IntKind.wrap .u64 ((1 : Int) * 2 ^ (min (x.from_).toNat (IntKind.bits .u64))))).toNat : Int)) r.next r.match_ r.entries r.install r.out r.reset) _ h15)))] [] [] <|
                              .gh (.keep []) trivial <|
                              .leaf false [0, 1, 2, 3, 4] [] o15_0)))
                          (fun h13 =>
                          .cond false h13 <|
                            .gh (.keep []) trivial <|
                            .leaf false [0, 1, 2, 3, 4] [] r))
                        (fun h12 =>
                        .reg [(14, (pB h11)), (18, (pB h12))] [(5, gB h11), (15, gB h12)] [] <|
                          .cond false (show false = false from rfl) <|
                          .gh (.keep []) trivial <|
                          .leaf false [0, 1, 2, 3, 4] [] r))
                      (fun h11 =>
                      .reg [(14, (pB h11)), (18, (pS false))] [(5, gB h11), (15, gS false)] [] <|
                        .cond false (show false = false from rfl) <|
                        .gh (.keep []) trivial <|
                        .leaf false [0, 1, 2, 3, 4] [] r))
                    (fun h10 =>
                    .cond false h10 <|
                      .reg [] [] [] <|
                      .ite (fun h11 =>
                      .cond true h11 <|
                        .cond true h11 <|
                        .reg [] [] [] <|
                        .ite (fun h12 =>
                        .cond true h12 <|
                          .bind (fun o13_0 h13 =>
                          .reg [(4, (CL (args := [.a (.s (.ref 2 0)), (.a (.g [(.c (.int .i64 4)), (.c (.int .i64 0)), (.c (.int .i64 x.from_)), (.c (.int .u64 0)), (.c (.int .u64 0)), (.c (.int .u64 0)), (.c (.int .u64 0)), (.c (.bool false)), (.c (.slice none 0 0)), (.c (.string (ByteArray.mk #[])))]))]) [0, 1, 2, 3, 4] [1, 10] (FT.shut [[], [(8, 4)]] (rSend_ok g r (Letter.mk 4 0 x.from_ 0 0 0 0 false [] (ByteArray.mk #[])) _ h13))))] [] [] <|
                            .gh (.keep []) trivial <|
                            .leaf false [0, 1, 2, 3, 4] [] o13_0))
                        (fun h12 =>
                        .cond false h12 <|
                          .reg [] [] [] <|
                          .ite (fun h13 =>
                          .cond true h13 <|
                            .gh (.keep []) trivial <|
                            .leaf false [0, 1, 2, 3, 4] [] r)
                          (fun h13 =>
                          .cond false h13 <|
                            .bind (fun o14_0 h14 =>
                            .reg [(3, (CL [0, 1, 2, 3, 4] [1, 1] (rFollow_ok g r x.term _ h14)))] [] [] <|
                              .reg [] [] [] <|
                              .reg [] [] [] <|
                              .cond true h11 <|
                              .bind (fun o15_0 h15 =>
                              .reg [(2, (CL [0, 1, 2, 3, 4] [1, 10] (rAppends_ok g fuel (Raft.mk o14_0.id o14_0.hterm o14_0.vote o14_0.log o14_0.role x.from_ o14_0.commit o14_0.votes o14_0.next o14_0.match_ o14_0.entries o14_0.install o14_0.out true) x _ h15)))] [] [] <|
                                .gh (.keep []) trivial <|
                                .leaf false [0, 1, 2, 3, 4] [] o15_0)))))
                      (fun h11 =>
                      .cond false h11 <|
                        .reg [] [] [] <|
                        .ite (fun h12 =>
                        .cond true h12 <|
                          .reg [] [] [] <|
                          .ite (fun h13 =>
                          .cond true h13 <|
                            .bind (fun o14_0 h14 =>
                            .reg [(4, (CL (args := [.a (.s (.ref 2 0)), (.a (.g [(.c (.int .i64 4)), (.c (.int .i64 0)), (.c (.int .i64 x.from_)), (.c (.int .u64 0)), (.c (.int .u64 0)), (.c (.int .u64 0)), (.c (.int .u64 0)), (.c (.bool false)), (.c (.slice none 0 0)), (.c (.string (ByteArray.mk #[])))]))]) [0, 1, 2, 3, 4] [1, 10] (FT.shut [[], [(8, 4)]] (rSend_ok g r (Letter.mk 4 0 x.from_ 0 0 0 0 false [] (ByteArray.mk #[])) _ h14))))] [] [] <|
                              .gh (.keep []) trivial <|
                              .leaf false [0, 1, 2, 3, 4] [] o14_0))
                          (fun h13 =>
                          .cond false h13 <|
                            .reg [] [] [] <|
                            .ite (fun h14 =>
                            .cond true h14 <|
                              .gh (.keep []) trivial <|
                              .leaf false [0, 1, 2, 3, 4] [] r)
                            (fun h14 =>
                            .cond false h14 <|
                              .bind (fun o15_0 h15 =>
                              .reg [(3, (CL [0, 1, 2, 3, 4] [1, 1] (rFollow_ok g r x.term _ h15)))] [] [] <|
                                .reg [] [] [] <|
                                .reg [] [] [] <|
                                .cond false h11 <|
                                .bind (fun o16_0 h16 =>
                                .reg [(2, (CL [0, 1, 2, 3, 4] [1, 10] (rInstalls_ok g (Raft.mk o15_0.id o15_0.hterm o15_0.vote o15_0.log o15_0.role x.from_ o15_0.commit o15_0.votes o15_0.next o15_0.match_ o15_0.entries o15_0.install o15_0.out true) x _ h16)))] [] [] <|
                                  .gh (.keep []) trivial <|
                                  .leaf false [0, 1, 2, 3, 4] [] o16_0)))))
                        (fun h12 =>
                        .cond false h12 <|
                          .reg [] [] [] <|
                          .ite (fun h13 =>
                          .cond true h13 <|
                            .bind (fun o14_0 h14 =>
                            .reg [(2, (CL [0, 1, 2, 3, 4] [1, 10] (rAppended_ok g fuel r x _ h14)))] [] [] <|
                              .gh (.keep []) trivial <|
                              .leaf false [0, 1, 2, 3, 4] [] o14_0))
                          (fun h13 =>
                          .cond false h13 <|
                            .gh (.keep []) trivial <|
                            .leaf false [0, 1, 2, 3, 4] [] r)))))))))))))) (by kernel_rfl)
end Sx
