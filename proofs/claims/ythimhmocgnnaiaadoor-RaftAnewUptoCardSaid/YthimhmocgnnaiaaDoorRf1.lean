/- PRINTED by gen2.py: pure functions and their contracts. -/
import Derived.Test.YthimhmocgnnaiaaDoorRf0
namespace Sx
open Go Go.Proofs.Tryd
def qSound (c : Int) : Option Bool :=
  (iteB (c != 0)
  (some ((IntKind.wrap .u64 ((BitVec.ofInt (IntKind.bits .u64) c &&& ~~~(BitVec.ofInt (IntKind.bits .u64) 127)).toNat : Int)) == 0))
  (some false))
theorem qSound_ok (g : GT) (c : Int) : FTO prog g.1 21 [(.a (.s (.c (.int .u64 c))))] [] (qSound c)
    (fun o0 => ([], (.a (.s (.c (.bool o0)))), [])) :=
  Fn_go mixed func21 (
  .reg [] [] [] <|
  .ite (fun h1 =>
  .reg [(6, (pB h1))] [(2, gB h1)] [] <|
    .gh (.keep [2]) trivial <|
    .leaf false [] [] ((IntKind.wrap .u64 ((BitVec.ofInt (IntKind.bits .u64) c &&& ~~~(BitVec.ofInt (IntKind.bits .u64) 127)).toNat : Int)) == 0))
  (fun h1 =>
  .reg [(6, (pB h1))] [(2, gB h1)] [] <|
    .gh (.keep [2]) trivial <|
    .leaf false [] [] false)) (by kernel_rfl)
def qHas (c : Int) (id : Int) : Option Bool :=
  (iteB (decide (id ≥ 0))
  (iteB (decide (id < 7))
    (ifP (0 ≤ id)
      (some ((IntKind.wrap .u64 ((BitVec.ofInt (IntKind.bits .u64) (Int.fdiv c (2 ^ (min (id).toNat (IntKind.bits .u64)))) &&& BitVec.ofInt (IntKind.bits .u64) 1).toNat : Int)) == 1)))
    (some false))
  (some false))
theorem qHas_ok (g : GT) (c : Int) (id : Int) : FTO prog g.1 47 [(.a (.s (.c (.int .u64 c)))), (.a (.s (.c (.int .i64 id))))] [] (qHas c id)
    (fun o0 => ([], (.a (.s (.c (.bool o0)))), [])) :=
  Fn_go mixed func47 (
  .reg [] [] [] <|
  .ite (fun h1 =>
  .ite (fun h2 =>
    .ifp (fun h3 =>
      .reg [(5, (pB h1)), (9, (Ji h3 .ar)), (12, (pB h2))] [(2, gB h1), (6, gB h2)] [] <|
      .gh (.keep [4]) trivial <|
      .leaf false [] [] ((IntKind.wrap .u64 ((BitVec.ofInt (IntKind.bits .u64) (Int.fdiv c (2 ^ (min (id).toNat (IntKind.bits .u64)))) &&& BitVec.ofInt (IntKind.bits .u64) 1).toNat : Int)) == 1)))
    (fun h2 =>
    .reg [(5, (pB h1)), (12, (pB h2))] [(2, gB h1), (6, gB h2)] [] <|
      .gh (.keep [4]) trivial <|
      .leaf false [] [] false))
  (fun h1 =>
  .reg [(5, (pB h1)), (12, (pS false))] [(2, gB h1), (6, gS false)] [] <|
    .gh (.keep [4]) trivial <|
    .leaf false [] [] false)) (by kernel_rfl)
def ones64 (x : Int) : Option Int :=
  (some (IntKind.wrap .i64 ((BitVec.ofInt (IntKind.bits .i64) (IntKind.wrap .i64 (IntKind.wrap .u64 ((IntKind.wrap .u64 ((IntKind.wrap .u64 ((IntKind.wrap .u64 ((BitVec.ofInt (IntKind.bits .u64) (IntKind.wrap .u64 ((Int.fdiv (IntKind.wrap .u64 ((IntKind.wrap .u64 ((BitVec.ofInt (IntKind.bits .u64) (Int.fdiv (IntKind.wrap .u64 ((IntKind.wrap .u64 ((BitVec.ofInt (IntKind.bits .u64) (Int.fdiv x (2 ^ (1 : Nat))) &&& BitVec.ofInt (IntKind.bits .u64) 6148914691236517205).toNat : Int)) + (IntKind.wrap .u64 ((BitVec.ofInt (IntKind.bits .u64) x &&& BitVec.ofInt (IntKind.bits .u64) 6148914691236517205).toNat : Int)))) (2 ^ (2 : Nat))) &&& BitVec.ofInt (IntKind.bits .u64) 3689348814741910323).toNat : Int)) + (IntKind.wrap .u64 ((BitVec.ofInt (IntKind.bits .u64) (IntKind.wrap .u64 ((IntKind.wrap .u64 ((BitVec.ofInt (IntKind.bits .u64) (Int.fdiv x (2 ^ (1 : Nat))) &&& BitVec.ofInt (IntKind.bits .u64) 6148914691236517205).toNat : Int)) + (IntKind.wrap .u64 ((BitVec.ofInt (IntKind.bits .u64) x &&& BitVec.ofInt (IntKind.bits .u64) 6148914691236517205).toNat : Int)))) &&& BitVec.ofInt (IntKind.bits .u64) 3689348814741910323).toNat : Int)))) (2 ^ (4 : Nat))) + (IntKind.wrap .u64 ((IntKind.wrap .u64 ((BitVec.ofInt (IntKind.bits .u64) (Int.fdiv (IntKind.wrap .u64 ((IntKind.wrap .u64 ((BitVec.ofInt (IntKind.bits .u64) (Int.fdiv x (2 ^ (1 : Nat))) &&& BitVec.ofInt (IntKind.bits .u64) 6148914691236517205).toNat : Int)) + (IntKind.wrap .u64 ((BitVec.ofInt (IntKind.bits .u64) x &&& BitVec.ofInt (IntKind.bits .u64) 6148914691236517205).toNat : Int)))) (2 ^ (2 : Nat))) &&& BitVec.ofInt (IntKind.bits .u64) 3689348814741910323).toNat : Int)) + (IntKind.wrap .u64 ((BitVec.ofInt (IntKind.bits .u64) (IntKind.wrap .u64 ((IntKind.wrap .u64 ((BitVec.ofInt (IntKind.bits .u64) (Int.fdiv x (2 ^ (1 : Nat))) &&& BitVec.ofInt (IntKind.bits .u64) 6148914691236517205).toNat : Int)) + (IntKind.wrap .u64 ((BitVec.ofInt (IntKind.bits .u64) x &&& BitVec.ofInt (IntKind.bits .u64) 6148914691236517205).toNat : Int)))) &&& BitVec.ofInt (IntKind.bits .u64) 3689348814741910323).toNat : Int)))))) &&& BitVec.ofInt (IntKind.bits .u64) 1085102592571150095).toNat : Int)) + (Int.fdiv (IntKind.wrap .u64 ((BitVec.ofInt (IntKind.bits .u64) (IntKind.wrap .u64 ((Int.fdiv (IntKind.wrap .u64 ((IntKind.wrap .u64 ((BitVec.ofInt (IntKind.bits .u64) (Int.fdiv (IntKind.wrap .u64 ((IntKind.wrap .u64 ((BitVec.ofInt (IntKind.bits .u64) (Int.fdiv x (2 ^ (1 : Nat))) &&& BitVec.ofInt (IntKind.bits .u64) 6148914691236517205).toNat : Int)) + (IntKind.wrap .u64 ((BitVec.ofInt (IntKind.bits .u64) x &&& BitVec.ofInt (IntKind.bits .u64) 6148914691236517205).toNat : Int)))) (2 ^ (2 : Nat))) &&& BitVec.ofInt (IntKind.bits .u64) 3689348814741910323).toNat : Int)) + (IntKind.wrap .u64 ((BitVec.ofInt (IntKind.bits .u64) (IntKind.wrap .u64 ((IntKind.wrap .u64 ((BitVec.ofInt (IntKind.bits .u64) (Int.fdiv x (2 ^ (1 : Nat))) &&& BitVec.ofInt (IntKind.bits .u64) 6148914691236517205).toNat : Int)) + (IntKind.wrap .u64 ((BitVec.ofInt (IntKind.bits .u64) x &&& BitVec.ofInt (IntKind.bits .u64) 6148914691236517205).toNat : Int)))) &&& BitVec.ofInt (IntKind.bits .u64) 3689348814741910323).toNat : Int)))) (2 ^ (4 : Nat))) + (IntKind.wrap .u64 ((IntKind.wrap .u64 ((BitVec.ofInt (IntKind.bits .u64) (Int.fdiv (IntKind.wrap .u64 ((IntKind.wrap .u64 ((BitVec.ofInt (IntKind.bits .u64) (Int.fdiv x (2 ^ (1 : Nat))) &&& BitVec.ofInt (IntKind.bits .u64) 6148914691236517205).toNat : Int)) + (IntKind.wrap .u64 ((BitVec.ofInt (IntKind.bits .u64) x &&& BitVec.ofInt (IntKind.bits .u64) 6148914691236517205).toNat : Int)))) (2 ^ (2 : Nat))) &&& BitVec.ofInt (IntKind.bits .u64) 3689348814741910323).toNat : Int)) + (IntKind.wrap .u64 ((BitVec.ofInt (IntKind.bits .u64) (IntKind.wrap .u64 ((IntKind.wrap .u64 ((BitVec.ofInt (IntKind.bits .u64) (Int.fdiv x (2 ^ (1 : Nat))) &&& BitVec.ofInt (IntKind.bits .u64) 6148914691236517205).toNat : Int)) + (IntKind.wrap .u64 ((BitVec.ofInt (IntKind.bits .u64) x &&& BitVec.ofInt (IntKind.bits .u64) 6148914691236517205).toNat : Int)))) &&& BitVec.ofInt (IntKind.bits .u64) 3689348814741910323).toNat : Int)))))) &&& BitVec.ofInt (IntKind.bits .u64) 1085102592571150095).toNat : Int)) (2 ^ (8 : Nat))))) + (Int.fdiv (IntKind.wrap .u64 ((IntKind.wrap .u64 ((BitVec.ofInt (IntKind.bits .u64) (IntKind.wrap .u64 ((Int.fdiv (IntKind.wrap .u64 ((IntKind.wrap .u64 ((BitVec.ofInt (IntKind.bits .u64) (Int.fdiv (IntKind.wrap .u64 ((IntKind.wrap .u64 ((BitVec.ofInt (IntKind.bits .u64) (Int.fdiv x (2 ^ (1 : Nat))) &&& BitVec.ofInt (IntKind.bits .u64) 6148914691236517205).toNat : Int)) + (IntKind.wrap .u64 ((BitVec.ofInt (IntKind.bits .u64) x &&& BitVec.ofInt (IntKind.bits .u64) 6148914691236517205).toNat : Int)))) (2 ^ (2 : Nat))) &&& BitVec.ofInt (IntKind.bits .u64) 3689348814741910323).toNat : Int)) + (IntKind.wrap .u64 ((BitVec.ofInt (IntKind.bits .u64) (IntKind.wrap .u64 ((IntKind.wrap .u64 ((BitVec.ofInt (IntKind.bits .u64) (Int.fdiv x (2 ^ (1 : Nat))) &&& BitVec.ofInt (IntKind.bits .u64) 6148914691236517205).toNat : Int)) + (IntKind.wrap .u64 ((BitVec.ofInt (IntKind.bits .u64) x &&& BitVec.ofInt (IntKind.bits .u64) 6148914691236517205).toNat : Int)))) &&& BitVec.ofInt (IntKind.bits .u64) 3689348814741910323).toNat : Int)))) (2 ^ (4 : Nat))) + (IntKind.wrap .u64 ((IntKind.wrap .u64 ((BitVec.ofInt (IntKind.bits .u64) (Int.fdiv (IntKind.wrap .u64 ((IntKind.wrap .u64 ((BitVec.ofInt (IntKind.bits .u64) (Int.fdiv x (2 ^ (1 : Nat))) &&& BitVec.ofInt (IntKind.bits .u64) 6148914691236517205).toNat : Int)) + (IntKind.wrap .u64 ((BitVec.ofInt (IntKind.bits .u64) x &&& BitVec.ofInt (IntKind.bits .u64) 6148914691236517205).toNat : Int)))) (2 ^ (2 : Nat))) &&& BitVec.ofInt (IntKind.bits .u64) 3689348814741910323).toNat : Int)) + (IntKind.wrap .u64 ((BitVec.ofInt (IntKind.bits .u64) (IntKind.wrap .u64 ((IntKind.wrap .u64 ((BitVec.ofInt (IntKind.bits .u64) (Int.fdiv x (2 ^ (1 : Nat))) &&& BitVec.ofInt (IntKind.bits .u64) 6148914691236517205).toNat : Int)) + (IntKind.wrap .u64 ((BitVec.ofInt (IntKind.bits .u64) x &&& BitVec.ofInt (IntKind.bits .u64) 6148914691236517205).toNat : Int)))) &&& BitVec.ofInt (IntKind.bits .u64) 3689348814741910323).toNat : Int)))))) &&& BitVec.ofInt (IntKind.bits .u64) 1085102592571150095).toNat : Int)) + (Int.fdiv (IntKind.wrap .u64 ((BitVec.ofInt (IntKind.bits .u64) (IntKind.wrap .u64 ((Int.fdiv (IntKind.wrap .u64 ((IntKind.wrap .u64 ((BitVec.ofInt (IntKind.bits .u64) (Int.fdiv (IntKind.wrap .u64 ((IntKind.wrap .u64 ((BitVec.ofInt (IntKind.bits .u64) (Int.fdiv x (2 ^ (1 : Nat))) &&& BitVec.ofInt (IntKind.bits .u64) 6148914691236517205).toNat : Int)) + (IntKind.wrap .u64 ((BitVec.ofInt (IntKind.bits .u64) x &&& BitVec.ofInt (IntKind.bits .u64) 6148914691236517205).toNat : Int)))) (2 ^ (2 : Nat))) &&& BitVec.ofInt (IntKind.bits .u64) 3689348814741910323).toNat : Int)) + (IntKind.wrap .u64 ((BitVec.ofInt (IntKind.bits .u64) (IntKind.wrap .u64 ((IntKind.wrap .u64 ((BitVec.ofInt (IntKind.bits .u64) (Int.fdiv x (2 ^ (1 : Nat))) &&& BitVec.ofInt (IntKind.bits .u64) 6148914691236517205).toNat : Int)) + (IntKind.wrap .u64 ((BitVec.ofInt (IntKind.bits .u64) x &&& BitVec.ofInt (IntKind.bits .u64) 6148914691236517205).toNat : Int)))) &&& BitVec.ofInt (IntKind.bits .u64) 3689348814741910323).toNat : Int)))) (2 ^ (4 : Nat))) + (IntKind.wrap .u64 ((IntKind.wrap .u64 ((BitVec.ofInt (IntKind.bits .u64) (Int.fdiv (IntKind.wrap .u64 ((IntKind.wrap .u64 ((BitVec.ofInt (IntKind.bits .u64) (Int.fdiv x (2 ^ (1 : Nat))) &&& BitVec.ofInt (IntKind.bits .u64) 6148914691236517205).toNat : Int)) + (IntKind.wrap .u64 ((BitVec.ofInt (IntKind.bits .u64) x &&& BitVec.ofInt (IntKind.bits .u64) 6148914691236517205).toNat : Int)))) (2 ^ (2 : Nat))) &&& BitVec.ofInt (IntKind.bits .u64) 3689348814741910323).toNat : Int)) + (IntKind.wrap .u64 ((BitVec.ofInt (IntKind.bits .u64) (IntKind.wrap .u64 ((IntKind.wrap .u64 ((BitVec.ofInt (IntKind.bits .u64) (Int.fdiv x (2 ^ (1 : Nat))) &&& BitVec.ofInt (IntKind.bits .u64) 6148914691236517205).toNat : Int)) + (IntKind.wrap .u64 ((BitVec.ofInt (IntKind.bits .u64) x &&& BitVec.ofInt (IntKind.bits .u64) 6148914691236517205).toNat : Int)))) &&& BitVec.ofInt (IntKind.bits .u64) 3689348814741910323).toNat : Int)))))) &&& BitVec.ofInt (IntKind.bits .u64) 1085102592571150095).toNat : Int)) (2 ^ (8 : Nat))))) (2 ^ (16 : Nat))))) + (Int.fdiv (IntKind.wrap .u64 ((IntKind.wrap .u64 ((IntKind.wrap .u64 ((BitVec.ofInt (IntKind.bits .u64) (IntKind.wrap .u64 ((Int.fdiv (IntKind.wrap .u64 ((IntKind.wrap .u64 ((BitVec.ofInt (IntKind.bits .u64) (Int.fdiv (IntKind.wrap .u64 ((IntKind.wrap .u64 ((BitVec.ofInt (IntKind.bits .u64) (Int.fdiv x (2 ^ (1 : Nat))) &&& BitVec.ofInt (IntKind.bits .u64) 6148914691236517205).toNat : Int)) + (IntKind.wrap .u64 ((BitVec.ofInt (IntKind.bits .u64) x &&& BitVec.ofInt (IntKind.bits .u64) 6148914691236517205).toNat : Int)))) (2 ^ (2 : Nat))) &&& BitVec.ofInt (IntKind.bits .u64) 3689348814741910323).toNat : Int)) + (IntKind.wrap .u64 ((BitVec.ofInt (IntKind.bits .u64) (IntKind.wrap .u64 ((IntKind.wrap .u64 ((BitVec.ofInt (IntKind.bits .u64) (Int.fdiv x (2 ^ (1 : Nat))) &&& BitVec.ofInt (IntKind.bits .u64) 6148914691236517205).toNat : Int)) + (IntKind.wrap .u64 ((BitVec.ofInt (IntKind.bits .u64) x &&& BitVec.ofInt (IntKind.bits .u64) 6148914691236517205).toNat : Int)))) &&& BitVec.ofInt (IntKind.bits .u64) 3689348814741910323).toNat : Int)))) (2 ^ (4 : Nat))) + (IntKind.wrap .u64 ((IntKind.wrap .u64 ((BitVec.ofInt (IntKind.bits .u64) (Int.fdiv (IntKind.wrap .u64 ((IntKind.wrap .u64 ((BitVec.ofInt (IntKind.bits .u64) (Int.fdiv x (2 ^ (1 : Nat))) &&& BitVec.ofInt (IntKind.bits .u64) 6148914691236517205).toNat : Int)) + (IntKind.wrap .u64 ((BitVec.ofInt (IntKind.bits .u64) x &&& BitVec.ofInt (IntKind.bits .u64) 6148914691236517205).toNat : Int)))) (2 ^ (2 : Nat))) &&& BitVec.ofInt (IntKind.bits .u64) 3689348814741910323).toNat : Int)) + (IntKind.wrap .u64 ((BitVec.ofInt (IntKind.bits .u64) (IntKind.wrap .u64 ((IntKind.wrap .u64 ((BitVec.ofInt (IntKind.bits .u64) (Int.fdiv x (2 ^ (1 : Nat))) &&& BitVec.ofInt (IntKind.bits .u64) 6148914691236517205).toNat : Int)) + (IntKind.wrap .u64 ((BitVec.ofInt (IntKind.bits .u64) x &&& BitVec.ofInt (IntKind.bits .u64) 6148914691236517205).toNat : Int)))) &&& BitVec.ofInt (IntKind.bits .u64) 3689348814741910323).toNat : Int)))))) &&& BitVec.ofInt (IntKind.bits .u64) 1085102592571150095).toNat : Int)) + (Int.fdiv (IntKind.wrap .u64 ((BitVec.ofInt (IntKind.bits .u64) (IntKind.wrap .u64 ((Int.fdiv (IntKind.wrap .u64 ((IntKind.wrap .u64 ((BitVec.ofInt (IntKind.bits .u64) (Int.fdiv (IntKind.wrap .u64 ((IntKind.wrap .u64 ((BitVec.ofInt (IntKind.bits .u64) (Int.fdiv x (2 ^ (1 : Nat))) &&& BitVec.ofInt (IntKind.bits .u64) 6148914691236517205).toNat : Int)) + (IntKind.wrap .u64 ((BitVec.ofInt (IntKind.bits .u64) x &&& BitVec.ofInt (IntKind.bits .u64) 6148914691236517205).toNat : Int)))) (2 ^ (2 : Nat))) &&& BitVec.ofInt (IntKind.bits .u64) 3689348814741910323).toNat : Int)) + (IntKind.wrap .u64 ((BitVec.ofInt (IntKind.bits .u64) (IntKind.wrap .u64 ((IntKind.wrap .u64 ((BitVec.ofInt (IntKind.bits .u64) (Int.fdiv x (2 ^ (1 : Nat))) &&& BitVec.ofInt (IntKind.bits .u64) 6148914691236517205).toNat : Int)) + (IntKind.wrap .u64 ((BitVec.ofInt (IntKind.bits .u64) x &&& BitVec.ofInt (IntKind.bits .u64) 6148914691236517205).toNat : Int)))) &&& BitVec.ofInt (IntKind.bits .u64) 3689348814741910323).toNat : Int)))) (2 ^ (4 : Nat))) + (IntKind.wrap .u64 ((IntKind.wrap .u64 ((BitVec.ofInt (IntKind.bits .u64) (Int.fdiv (IntKind.wrap .u64 ((IntKind.wrap .u64 ((BitVec.ofInt (IntKind.bits .u64) (Int.fdiv x (2 ^ (1 : Nat))) &&& BitVec.ofInt (IntKind.bits .u64) 6148914691236517205).toNat : Int)) + (IntKind.wrap .u64 ((BitVec.ofInt (IntKind.bits .u64) x &&& BitVec.ofInt (IntKind.bits .u64) 6148914691236517205).toNat : Int)))) (2 ^ (2 : Nat))) &&& BitVec.ofInt (IntKind.bits .u64) 3689348814741910323).toNat : Int)) + (IntKind.wrap .u64 ((BitVec.ofInt (IntKind.bits .u64) (IntKind.wrap .u64 ((IntKind.wrap .u64 ((BitVec.ofInt (IntKind.bits .u64) (Int.fdiv x (2 ^ (1 : Nat))) &&& BitVec.ofInt (IntKind.bits .u64) 6148914691236517205).toNat : Int)) + (IntKind.wrap .u64 ((BitVec.ofInt (IntKind.bits .u64) x &&& BitVec.ofInt (IntKind.bits .u64) 6148914691236517205).toNat : Int)))) &&& BitVec.ofInt (IntKind.bits .u64) 3689348814741910323).toNat : Int)))))) &&& BitVec.ofInt (IntKind.bits .u64) 1085102592571150095).toNat : Int)) (2 ^ (8 : Nat))))) + (Int.fdiv (IntKind.wrap .u64 ((IntKind.wrap .u64 ((BitVec.ofInt (IntKind.bits .u64) (IntKind.wrap .u64 ((Int.fdiv (IntKind.wrap .u64 ((IntKind.wrap .u64 ((BitVec.ofInt (IntKind.bits .u64) (Int.fdiv (IntKind.wrap .u64 ((IntKind.wrap .u64 ((BitVec.ofInt (IntKind.bits .u64) (Int.fdiv x (2 ^ (1 : Nat))) &&& BitVec.ofInt (IntKind.bits .u64) 6148914691236517205).toNat : Int)) + (IntKind.wrap .u64 ((BitVec.ofInt (IntKind.bits .u64) x &&& BitVec.ofInt (IntKind.bits .u64) 6148914691236517205).toNat : Int)))) (2 ^ (2 : Nat))) &&& BitVec.ofInt (IntKind.bits .u64) 3689348814741910323).toNat : Int)) + (IntKind.wrap .u64 ((BitVec.ofInt (IntKind.bits .u64) (IntKind.wrap .u64 ((IntKind.wrap .u64 ((BitVec.ofInt (IntKind.bits .u64) (Int.fdiv x (2 ^ (1 : Nat))) &&& BitVec.ofInt (IntKind.bits .u64) 6148914691236517205).toNat : Int)) + (IntKind.wrap .u64 ((BitVec.ofInt (IntKind.bits .u64) x &&& BitVec.ofInt (IntKind.bits .u64) 6148914691236517205).toNat : Int)))) &&& BitVec.ofInt (IntKind.bits .u64) 3689348814741910323).toNat : Int)))) (2 ^ (4 : Nat))) + (IntKind.wrap .u64 ((IntKind.wrap .u64 ((BitVec.ofInt (IntKind.bits .u64) (Int.fdiv (IntKind.wrap .u64 ((IntKind.wrap .u64 ((BitVec.ofInt (IntKind.bits .u64) (Int.fdiv x (2 ^ (1 : Nat))) &&& BitVec.ofInt (IntKind.bits .u64) 6148914691236517205).toNat : Int)) + (IntKind.wrap .u64 ((BitVec.ofInt (IntKind.bits .u64) x &&& BitVec.ofInt (IntKind.bits .u64) 6148914691236517205).toNat : Int)))) (2 ^ (2 : Nat))) &&& BitVec.ofInt (IntKind.bits .u64) 3689348814741910323).toNat : Int)) + (IntKind.wrap .u64 ((BitVec.ofInt (IntKind.bits .u64) (IntKind.wrap .u64 ((IntKind.wrap .u64 ((BitVec.ofInt (IntKind.bits .u64) (Int.fdiv x (2 ^ (1 : Nat))) &&& BitVec.ofInt (IntKind.bits .u64) 6148914691236517205).toNat : Int)) + (IntKind.wrap .u64 ((BitVec.ofInt (IntKind.bits .u64) x &&& BitVec.ofInt (IntKind.bits .u64) 6148914691236517205).toNat : Int)))) &&& BitVec.ofInt (IntKind.bits .u64) 3689348814741910323).toNat : Int)))))) &&& BitVec.ofInt (IntKind.bits .u64) 1085102592571150095).toNat : Int)) + (Int.fdiv (IntKind.wrap .u64 ((BitVec.ofInt (IntKind.bits .u64) (IntKind.wrap .u64 ((Int.fdiv (IntKind.wrap .u64 ((IntKind.wrap .u64 ((BitVec.ofInt (IntKind.bits .u64) (Int.fdiv (IntKind.wrap .u64 ((IntKind.wrap .u64 ((BitVec.ofInt (IntKind.bits .u64) (Int.fdiv x (2 ^ (1 : Nat))) &&& BitVec.ofInt (IntKind.bits .u64) 6148914691236517205).toNat : Int)) + (IntKind.wrap .u64 ((BitVec.ofInt (IntKind.bits .u64) x &&& BitVec.ofInt (IntKind.bits .u64) 6148914691236517205).toNat : Int)))) (2 ^ (2 : Nat))) &&& BitVec.ofInt (IntKind.bits .u64) 3689348814741910323).toNat : Int)) + (IntKind.wrap .u64 ((BitVec.ofInt (IntKind.bits .u64) (IntKind.wrap .u64 ((IntKind.wrap .u64 ((BitVec.ofInt (IntKind.bits .u64) (Int.fdiv x (2 ^ (1 : Nat))) &&& BitVec.ofInt (IntKind.bits .u64) 6148914691236517205).toNat : Int)) + (IntKind.wrap .u64 ((BitVec.ofInt (IntKind.bits .u64) x &&& BitVec.ofInt (IntKind.bits .u64) 6148914691236517205).toNat : Int)))) &&& BitVec.ofInt (IntKind.bits .u64) 3689348814741910323).toNat : Int)))) (2 ^ (4 : Nat))) + (IntKind.wrap .u64 ((IntKind.wrap .u64 ((BitVec.ofInt (IntKind.bits .u64) (Int.fdiv (IntKind.wrap .u64 ((IntKind.wrap .u64 ((BitVec.ofInt (IntKind.bits .u64) (Int.fdiv x (2 ^ (1 : Nat))) &&& BitVec.ofInt (IntKind.bits .u64) 6148914691236517205).toNat : Int)) + (IntKind.wrap .u64 ((BitVec.ofInt (IntKind.bits .u64) x &&& BitVec.ofInt (IntKind.bits .u64) 6148914691236517205).toNat : Int)))) (2 ^ (2 : Nat))) &&& BitVec.ofInt (IntKind.bits .u64) 3689348814741910323).toNat : Int)) + (IntKind.wrap .u64 ((BitVec.ofInt (IntKind.bits .u64) (IntKind.wrap .u64 ((IntKind.wrap .u64 ((BitVec.ofInt (IntKind.bits .u64) (Int.fdiv x (2 ^ (1 : Nat))) &&& BitVec.ofInt (IntKind.bits .u64) 6148914691236517205).toNat : Int)) + (IntKind.wrap .u64 ((BitVec.ofInt (IntKind.bits .u64) x &&& BitVec.ofInt (IntKind.bits .u64) 6148914691236517205).toNat : Int)))) &&& BitVec.ofInt (IntKind.bits .u64) 3689348814741910323).toNat : Int)))))) &&& BitVec.ofInt (IntKind.bits .u64) 1085102592571150095).toNat : Int)) (2 ^ (8 : Nat))))) (2 ^ (16 : Nat))))) (2 ^ (32 : Nat)))))) &&& BitVec.ofInt (IntKind.bits .i64) 127).toNat : Int)))
theorem ones64_ok (g : GT) (x : Int) : FTO prog g.1 60 [(.a (.s (.c (.int .u64 x))))] [] (ones64 x)
    (fun o0 => ([], (.a (.s (.c (.int .i64 o0)))), [])) :=
  Fn_go mixed func60 (
  .reg [] [] [] <|
  .reg [] [] [] <|
  .reg [] [] [] <|
  .reg [] [] [] <|
  .reg [] [] [] <|
  .reg [] [] [] <|
  .reg [] [] [] <|
  .reg [] [] [] <|
  .gh (.keep [2]) trivial <|
  .leaf false [] [] (IntKind.wrap .i64 ((BitVec.ofInt (IntKind.bits .i64) (IntKind.wrap .i64 (IntKind.wrap .u64 ((IntKind.wrap .u64 ((IntKind.wrap .u64 ((IntKind.wrap .u64 ((BitVec.ofInt (IntKind.bits .u64) (IntKind.wrap .u64 ((Int.fdiv (IntKind.wrap .u64 ((IntKind.wrap .u64 ((BitVec.ofInt (IntKind.bits .u64) (Int.fdiv (IntKind.wrap .u64 ((IntKind.wrap .u64 ((BitVec.ofInt (IntKind.bits .u64) (Int.fdiv x (2 ^ (1 : Nat))) &&& BitVec.ofInt (IntKind.bits .u64) 6148914691236517205).toNat : Int)) + (IntKind.wrap .u64 ((BitVec.ofInt (IntKind.bits .u64) x &&& BitVec.ofInt (IntKind.bits .u64) 6148914691236517205).toNat : Int)))) (2 ^ (2 : Nat))) &&& BitVec.ofInt (IntKind.bits .u64) 3689348814741910323).toNat : Int)) + (IntKind.wrap .u64 ((BitVec.ofInt (IntKind.bits .u64) (IntKind.wrap .u64 ((IntKind.wrap .u64 ((BitVec.ofInt (IntKind.bits .u64) (Int.fdiv x (2 ^ (1 : Nat))) &&& BitVec.ofInt (IntKind.bits .u64) 6148914691236517205).toNat : Int)) + (IntKind.wrap .u64 ((BitVec.ofInt (IntKind.bits .u64) x &&& BitVec.ofInt (IntKind.bits .u64) 6148914691236517205).toNat : Int)))) &&& BitVec.ofInt (IntKind.bits .u64) 3689348814741910323).toNat : Int)))) (2 ^ (4 : Nat))) + (IntKind.wrap .u64 ((IntKind.wrap .u64 ((BitVec.ofInt (IntKind.bits .u64) (Int.fdiv (IntKind.wrap .u64 ((IntKind.wrap .u64 ((BitVec.ofInt (IntKind.bits .u64) (Int.fdiv x (2 ^ (1 : Nat))) &&& BitVec.ofInt (IntKind.bits .u64) 6148914691236517205).toNat : Int)) + (IntKind.wrap .u64 ((BitVec.ofInt (IntKind.bits .u64) x &&& BitVec.ofInt (IntKind.bits .u64) 6148914691236517205).toNat : Int)))) (2 ^ (2 : Nat))) &&& BitVec.ofInt (IntKind.bits .u64) 3689348814741910323).toNat : Int)) + (IntKind.wrap .u64 ((BitVec.ofInt (IntKind.bits .u64) (IntKind.wrap .u64 ((IntKind.wrap .u64 ((BitVec.ofInt (IntKind.bits .u64) (Int.fdiv x (2 ^ (1 : Nat))) &&& BitVec.ofInt (IntKind.bits .u64) 6148914691236517205).toNat : Int)) + (IntKind.wrap .u64 ((BitVec.ofInt (IntKind.bits .u64) x &&& BitVec.ofInt (IntKind.bits .u64) 6148914691236517205).toNat : Int)))) &&& BitVec.ofInt (IntKind.bits .u64) 3689348814741910323).toNat : Int)))))) &&& BitVec.ofInt (IntKind.bits .u64) 1085102592571150095).toNat : Int)) + (Int.fdiv (IntKind.wrap .u64 ((BitVec.ofInt (IntKind.bits .u64) (IntKind.wrap .u64 ((Int.fdiv (IntKind.wrap .u64 ((IntKind.wrap .u64 ((BitVec.ofInt (IntKind.bits .u64) (Int.fdiv (IntKind.wrap .u64 ((IntKind.wrap .u64 ((BitVec.ofInt (IntKind.bits .u64) (Int.fdiv x (2 ^ (1 : Nat))) &&& BitVec.ofInt (IntKind.bits .u64) 6148914691236517205).toNat : Int)) + (IntKind.wrap .u64 ((BitVec.ofInt (IntKind.bits .u64) x &&& BitVec.ofInt (IntKind.bits .u64) 6148914691236517205).toNat : Int)))) (2 ^ (2 : Nat))) &&& BitVec.ofInt (IntKind.bits .u64) 3689348814741910323).toNat : Int)) + (IntKind.wrap .u64 ((BitVec.ofInt (IntKind.bits .u64) (IntKind.wrap .u64 ((IntKind.wrap .u64 ((BitVec.ofInt (IntKind.bits .u64) (Int.fdiv x (2 ^ (1 : Nat))) &&& BitVec.ofInt (IntKind.bits .u64) 6148914691236517205).toNat : Int)) + (IntKind.wrap .u64 ((BitVec.ofInt (IntKind.bits .u64) x &&& BitVec.ofInt (IntKind.bits .u64) 6148914691236517205).toNat : Int)))) &&& BitVec.ofInt (IntKind.bits .u64) 3689348814741910323).toNat : Int)))) (2 ^ (4 : Nat))) + (IntKind.wrap .u64 ((IntKind.wrap .u64 ((BitVec.ofInt (IntKind.bits .u64) (Int.fdiv (IntKind.wrap .u64 ((IntKind.wrap .u64 ((BitVec.ofInt (IntKind.bits .u64) (Int.fdiv x (2 ^ (1 : Nat))) &&& BitVec.ofInt (IntKind.bits .u64) 6148914691236517205).toNat : Int)) + (IntKind.wrap .u64 ((BitVec.ofInt (IntKind.bits .u64) x &&& BitVec.ofInt (IntKind.bits .u64) 6148914691236517205).toNat : Int)))) (2 ^ (2 : Nat))) &&& BitVec.ofInt (IntKind.bits .u64) 3689348814741910323).toNat : Int)) + (IntKind.wrap .u64 ((BitVec.ofInt (IntKind.bits .u64) (IntKind.wrap .u64 ((IntKind.wrap .u64 ((BitVec.ofInt (IntKind.bits .u64) (Int.fdiv x (2 ^ (1 : Nat))) &&& BitVec.ofInt (IntKind.bits .u64) 6148914691236517205).toNat : Int)) + (IntKind.wrap .u64 ((BitVec.ofInt (IntKind.bits .u64) x &&& BitVec.ofInt (IntKind.bits .u64) 6148914691236517205).toNat : Int)))) &&& BitVec.ofInt (IntKind.bits .u64) 3689348814741910323).toNat : Int)))))) &&& BitVec.ofInt (IntKind.bits .u64) 1085102592571150095).toNat : Int)) (2 ^ (8 : Nat))))) + (Int.fdiv (IntKind.wrap .u64 ((IntKind.wrap .u64 ((BitVec.ofInt (IntKind.bits .u64) (IntKind.wrap .u64 ((Int.fdiv (IntKind.wrap .u64 ((IntKind.wrap .u64 ((BitVec.ofInt (IntKind.bits .u64) (Int.fdiv (IntKind.wrap .u64 ((IntKind.wrap .u64 ((BitVec.ofInt (IntKind.bits .u64) (Int.fdiv x (2 ^ (1 : Nat))) &&& BitVec.ofInt (IntKind.bits .u64) 6148914691236517205).toNat : Int)) + (IntKind.wrap .u64 ((BitVec.ofInt (IntKind.bits .u64) x &&& BitVec.ofInt (IntKind.bits .u64) 6148914691236517205).toNat : Int)))) (2 ^ (2 : Nat))) &&& BitVec.ofInt (IntKind.bits .u64) 3689348814741910323).toNat : Int)) + (IntKind.wrap .u64 ((BitVec.ofInt (IntKind.bits .u64) (IntKind.wrap .u64 ((IntKind.wrap .u64 ((BitVec.ofInt (IntKind.bits .u64) (Int.fdiv x (2 ^ (1 : Nat))) &&& BitVec.ofInt (IntKind.bits .u64) 6148914691236517205).toNat : Int)) + (IntKind.wrap .u64 ((BitVec.ofInt (IntKind.bits .u64) x &&& BitVec.ofInt (IntKind.bits .u64) 6148914691236517205).toNat : Int)))) &&& BitVec.ofInt (IntKind.bits .u64) 3689348814741910323).toNat : Int)))) (2 ^ (4 : Nat))) + (IntKind.wrap .u64 ((IntKind.wrap .u64 ((BitVec.ofInt (IntKind.bits .u64) (Int.fdiv (IntKind.wrap .u64 ((IntKind.wrap .u64 ((BitVec.ofInt (IntKind.bits .u64) (Int.fdiv x (2 ^ (1 : Nat))) &&& BitVec.ofInt (IntKind.bits .u64) 6148914691236517205).toNat : Int)) + (IntKind.wrap .u64 ((BitVec.ofInt (IntKind.bits .u64) x &&& BitVec.ofInt (IntKind.bits .u64) 6148914691236517205).toNat : Int)))) (2 ^ (2 : Nat))) &&& BitVec.ofInt (IntKind.bits .u64) 3689348814741910323).toNat : Int)) + (IntKind.wrap .u64 ((BitVec.ofInt (IntKind.bits .u64) (IntKind.wrap .u64 ((IntKind.wrap .u64 ((BitVec.ofInt (IntKind.bits .u64) (Int.fdiv x (2 ^ (1 : Nat))) &&& BitVec.ofInt (IntKind.bits .u64) 6148914691236517205).toNat : Int)) + (IntKind.wrap .u64 ((BitVec.ofInt (IntKind.bits .u64) x &&& BitVec.ofInt (IntKind.bits .u64) 6148914691236517205).toNat : Int)))) &&& BitVec.ofInt (IntKind.bits .u64) 3689348814741910323).toNat : Int)))))) &&& BitVec.ofInt (IntKind.bits .u64) 1085102592571150095).toNat : Int)) + (Int.fdiv (IntKind.wrap .u64 ((BitVec.ofInt (IntKind.bits .u64) (IntKind.wrap .u64 ((Int.fdiv (IntKind.wrap .u64 ((IntKind.wrap .u64 ((BitVec.ofInt (IntKind.bits .u64) (Int.fdiv (IntKind.wrap .u64 ((IntKind.wrap .u64 ((BitVec.ofInt (IntKind.bits .u64) (Int.fdiv x (2 ^ (1 : Nat))) &&& BitVec.ofInt (IntKind.bits .u64) 6148914691236517205).toNat : Int)) + (IntKind.wrap .u64 ((BitVec.ofInt (IntKind.bits .u64) x &&& BitVec.ofInt (IntKind.bits .u64) 6148914691236517205).toNat : Int)))) (2 ^ (2 : Nat))) &&& BitVec.ofInt (IntKind.bits .u64) 3689348814741910323).toNat : Int)) + (IntKind.wrap .u64 ((BitVec.ofInt (IntKind.bits .u64) (IntKind.wrap .u64 ((IntKind.wrap .u64 ((BitVec.ofInt (IntKind.bits .u64) (Int.fdiv x (2 ^ (1 : Nat))) &&& BitVec.ofInt (IntKind.bits .u64) 6148914691236517205).toNat : Int)) + (IntKind.wrap .u64 ((BitVec.ofInt (IntKind.bits .u64) x &&& BitVec.ofInt (IntKind.bits .u64) 6148914691236517205).toNat : Int)))) &&& BitVec.ofInt (IntKind.bits .u64) 3689348814741910323).toNat : Int)))) (2 ^ (4 : Nat))) + (IntKind.wrap .u64 ((IntKind.wrap .u64 ((BitVec.ofInt (IntKind.bits .u64) (Int.fdiv (IntKind.wrap .u64 ((IntKind.wrap .u64 ((BitVec.ofInt (IntKind.bits .u64) (Int.fdiv x (2 ^ (1 : Nat))) &&& BitVec.ofInt (IntKind.bits .u64) 6148914691236517205).toNat : Int)) + (IntKind.wrap .u64 ((BitVec.ofInt (IntKind.bits .u64) x &&& BitVec.ofInt (IntKind.bits .u64) 6148914691236517205).toNat : Int)))) (2 ^ (2 : Nat))) &&& BitVec.ofInt (IntKind.bits .u64) 3689348814741910323).toNat : Int)) + (IntKind.wrap .u64 ((BitVec.ofInt (IntKind.bits .u64) (IntKind.wrap .u64 ((IntKind.wrap .u64 ((BitVec.ofInt (IntKind.bits .u64) (Int.fdiv x (2 ^ (1 : Nat))) &&& BitVec.ofInt (IntKind.bits .u64) 6148914691236517205).toNat : Int)) + (IntKind.wrap .u64 ((BitVec.ofInt (IntKind.bits .u64) x &&& BitVec.ofInt (IntKind.bits .u64) 6148914691236517205).toNat : Int)))) &&& BitVec.ofInt (IntKind.bits .u64) 3689348814741910323).toNat : Int)))))) &&& BitVec.ofInt (IntKind.bits .u64) 1085102592571150095).toNat : Int)) (2 ^ (8 : Nat))))) (2 ^ (16 : Nat))))) + (Int.fdiv (IntKind.wrap .u64 ((IntKind.wrap .u64 ((IntKind.wrap .u64 ((BitVec.ofInt (IntKind.bits .u64) (IntKind.wrap .u64 ((Int.fdiv (IntKind.wrap .u64 ((IntKind.wrap .u64 ((BitVec.ofInt (IntKind.bits .u64) (Int.fdiv (IntKind.wrap .u64 ((IntKind.wrap .u64 ((BitVec.ofInt (IntKind.bits .u64) (Int.fdiv x (2 ^ (1 : Nat))) &&& BitVec.ofInt (IntKind.bits .u64) 6148914691236517205).toNat : Int)) + (IntKind.wrap .u64 ((BitVec.ofInt (IntKind.bits .u64) x &&& BitVec.ofInt (IntKind.bits .u64) 6148914691236517205).toNat : Int)))) (2 ^ (2 : Nat))) &&& BitVec.ofInt (IntKind.bits .u64) 3689348814741910323).toNat : Int)) + (IntKind.wrap .u64 ((BitVec.ofInt (IntKind.bits .u64) (IntKind.wrap .u64 ((IntKind.wrap .u64 ((BitVec.ofInt (IntKind.bits .u64) (Int.fdiv x (2 ^ (1 : Nat))) &&& BitVec.ofInt (IntKind.bits .u64) 6148914691236517205).toNat : Int)) + (IntKind.wrap .u64 ((BitVec.ofInt (IntKind.bits .u64) x &&& BitVec.ofInt (IntKind.bits .u64) 6148914691236517205).toNat : Int)))) &&& BitVec.ofInt (IntKind.bits .u64) 3689348814741910323).toNat : Int)))) (2 ^ (4 : Nat))) + (IntKind.wrap .u64 ((IntKind.wrap .u64 ((BitVec.ofInt (IntKind.bits .u64) (Int.fdiv (IntKind.wrap .u64 ((IntKind.wrap .u64 ((BitVec.ofInt (IntKind.bits .u64) (Int.fdiv x (2 ^ (1 : Nat))) &&& BitVec.ofInt (IntKind.bits .u64) 6148914691236517205).toNat : Int)) + (IntKind.wrap .u64 ((BitVec.ofInt (IntKind.bits .u64) x &&& BitVec.ofInt (IntKind.bits .u64) 6148914691236517205).toNat : Int)))) (2 ^ (2 : Nat))) &&& BitVec.ofInt (IntKind.bits .u64) 3689348814741910323).toNat : Int)) + (IntKind.wrap .u64 ((BitVec.ofInt (IntKind.bits .u64) (IntKind.wrap .u64 ((IntKind.wrap .u64 ((BitVec.ofInt (IntKind.bits .u64) (Int.fdiv x (2 ^ (1 : Nat))) &&& BitVec.ofInt (IntKind.bits .u64) 6148914691236517205).toNat : Int)) + (IntKind.wrap .u64 ((BitVec.ofInt (IntKind.bits .u64) x &&& BitVec.ofInt (IntKind.bits .u64) 6148914691236517205).toNat : Int)))) &&& BitVec.ofInt (IntKind.bits .u64) 3689348814741910323).toNat : Int)))))) &&& BitVec.ofInt (IntKind.bits .u64) 1085102592571150095).toNat : Int)) + (Int.fdiv (IntKind.wrap .u64 ((BitVec.ofInt (IntKind.bits .u64) (IntKind.wrap .u64 ((Int.fdiv (IntKind.wrap .u64 ((IntKind.wrap .u64 ((BitVec.ofInt (IntKind.bits .u64) (Int.fdiv (IntKind.wrap .u64 ((IntKind.wrap .u64 ((BitVec.ofInt (IntKind.bits .u64) (Int.fdiv x (2 ^ (1 : Nat))) &&& BitVec.ofInt (IntKind.bits .u64) 6148914691236517205).toNat : Int)) + (IntKind.wrap .u64 ((BitVec.ofInt (IntKind.bits .u64) x &&& BitVec.ofInt (IntKind.bits .u64) 6148914691236517205).toNat : Int)))) (2 ^ (2 : Nat))) &&& BitVec.ofInt (IntKind.bits .u64) 3689348814741910323).toNat : Int)) + (IntKind.wrap .u64 ((BitVec.ofInt (IntKind.bits .u64) (IntKind.wrap .u64 ((IntKind.wrap .u64 ((BitVec.ofInt (IntKind.bits .u64) (Int.fdiv x (2 ^ (1 : Nat))) &&& BitVec.ofInt (IntKind.bits .u64) 6148914691236517205).toNat : Int)) + (IntKind.wrap .u64 ((BitVec.ofInt (IntKind.bits .u64) x &&& BitVec.ofInt (IntKind.bits .u64) 6148914691236517205).toNat : Int)))) &&& BitVec.ofInt (IntKind.bits .u64) 3689348814741910323).toNat : Int)))) (2 ^ (4 : Nat))) + (IntKind.wrap .u64 ((IntKind.wrap .u64 ((BitVec.ofInt (IntKind.bits .u64) (Int.fdiv (IntKind.wrap .u64 ((IntKind.wrap .u64 ((BitVec.ofInt (IntKind.bits .u64) (Int.fdiv x (2 ^ (1 : Nat))) &&& BitVec.ofInt (IntKind.bits .u64) 6148914691236517205).toNat : Int)) + (IntKind.wrap .u64 ((BitVec.ofInt (IntKind.bits .u64) x &&& BitVec.ofInt (IntKind.bits .u64) 6148914691236517205).toNat : Int)))) (2 ^ (2 : Nat))) &&& BitVec.ofInt (IntKind.bits .u64) 3689348814741910323).toNat : Int)) + (IntKind.wrap .u64 ((BitVec.ofInt (IntKind.bits .u64) (IntKind.wrap .u64 ((IntKind.wrap .u64 ((BitVec.ofInt (IntKind.bits .u64) (Int.fdiv x (2 ^ (1 : Nat))) &&& BitVec.ofInt (IntKind.bits .u64) 6148914691236517205).toNat : Int)) + (IntKind.wrap .u64 ((BitVec.ofInt (IntKind.bits .u64) x &&& BitVec.ofInt (IntKind.bits .u64) 6148914691236517205).toNat : Int)))) &&& BitVec.ofInt (IntKind.bits .u64) 3689348814741910323).toNat : Int)))))) &&& BitVec.ofInt (IntKind.bits .u64) 1085102592571150095).toNat : Int)) (2 ^ (8 : Nat))))) + (Int.fdiv (IntKind.wrap .u64 ((IntKind.wrap .u64 ((BitVec.ofInt (IntKind.bits .u64) (IntKind.wrap .u64 ((Int.fdiv (IntKind.wrap .u64 ((IntKind.wrap .u64 ((BitVec.ofInt (IntKind.bits .u64) (Int.fdiv (IntKind.wrap .u64 ((IntKind.wrap .u64 ((BitVec.ofInt (IntKind.bits .u64) (Int.fdiv x (2 ^ (1 : Nat))) &&& BitVec.ofInt (IntKind.bits .u64) 6148914691236517205).toNat : Int)) + (IntKind.wrap .u64 ((BitVec.ofInt (IntKind.bits .u64) x &&& BitVec.ofInt (IntKind.bits .u64) 6148914691236517205).toNat : Int)))) (2 ^ (2 : Nat))) &&& BitVec.ofInt (IntKind.bits .u64) 3689348814741910323).toNat : Int)) + (IntKind.wrap .u64 ((BitVec.ofInt (IntKind.bits .u64) (IntKind.wrap .u64 ((IntKind.wrap .u64 ((BitVec.ofInt (IntKind.bits .u64) (Int.fdiv x (2 ^ (1 : Nat))) &&& BitVec.ofInt (IntKind.bits .u64) 6148914691236517205).toNat : Int)) + (IntKind.wrap .u64 ((BitVec.ofInt (IntKind.bits .u64) x &&& BitVec.ofInt (IntKind.bits .u64) 6148914691236517205).toNat : Int)))) &&& BitVec.ofInt (IntKind.bits .u64) 3689348814741910323).toNat : Int)))) (2 ^ (4 : Nat))) + (IntKind.wrap .u64 ((IntKind.wrap .u64 ((BitVec.ofInt (IntKind.bits .u64) (Int.fdiv (IntKind.wrap .u64 ((IntKind.wrap .u64 ((BitVec.ofInt (IntKind.bits .u64) (Int.fdiv x (2 ^ (1 : Nat))) &&& BitVec.ofInt (IntKind.bits .u64) 6148914691236517205).toNat : Int)) + (IntKind.wrap .u64 ((BitVec.ofInt (IntKind.bits .u64) x &&& BitVec.ofInt (IntKind.bits .u64) 6148914691236517205).toNat : Int)))) (2 ^ (2 : Nat))) &&& BitVec.ofInt (IntKind.bits .u64) 3689348814741910323).toNat : Int)) + (IntKind.wrap .u64 ((BitVec.ofInt (IntKind.bits .u64) (IntKind.wrap .u64 ((IntKind.wrap .u64 ((BitVec.ofInt (IntKind.bits .u64) (Int.fdiv x (2 ^ (1 : Nat))) &&& BitVec.ofInt (IntKind.bits .u64) 6148914691236517205).toNat : Int)) + (IntKind.wrap .u64 ((BitVec.ofInt (IntKind.bits .u64) x &&& BitVec.ofInt (IntKind.bits .u64) 6148914691236517205).toNat : Int)))) &&& BitVec.ofInt (IntKind.bits .u64) 3689348814741910323).toNat : Int)))))) &&& BitVec.ofInt (IntKind.bits .u64) 1085102592571150095).toNat : Int)) + (Int.fdiv (IntKind.wrap .u64 ((BitVec.ofInt (IntKind.bits .u64) (IntKind.wrap .u64 ((Int.fdiv (IntKind.wrap .u64 ((IntKind.wrap .u64 ((BitVec.ofInt (IntKind.bits .u64) (Int.fdiv (IntKind.wrap .u64 ((IntKind.wrap .u64 ((BitVec.ofInt (IntKind.bits .u64) (Int.fdiv x (2 ^ (1 : Nat))) &&& BitVec.ofInt (IntKind.bits .u64) 6148914691236517205).toNat : Int)) + (IntKind.wrap .u64 ((BitVec.ofInt (IntKind.bits .u64) x &&& BitVec.ofInt (IntKind.bits .u64) 6148914691236517205).toNat : Int)))) (2 ^ (2 : Nat))) &&& BitVec.ofInt (IntKind.bits .u64) 3689348814741910323).toNat : Int)) + (IntKind.wrap .u64 ((BitVec.ofInt (IntKind.bits .u64) (IntKind.wrap .u64 ((IntKind.wrap .u64 ((BitVec.ofInt (IntKind.bits .u64) (Int.fdiv x (2 ^ (1 : Nat))) &&& BitVec.ofInt (IntKind.bits .u64) 6148914691236517205).toNat : Int)) + (IntKind.wrap .u64 ((BitVec.ofInt (IntKind.bits .u64) x &&& BitVec.ofInt (IntKind.bits .u64) 6148914691236517205).toNat : Int)))) &&& BitVec.ofInt (IntKind.bits .u64) 3689348814741910323).toNat : Int)))) (2 ^ (4 : Nat))) + (IntKind.wrap .u64 ((IntKind.wrap .u64 ((BitVec.ofInt (IntKind.bits .u64) (Int.fdiv (IntKind.wrap .u64 ((IntKind.wrap .u64 ((BitVec.ofInt (IntKind.bits .u64) (Int.fdiv x (2 ^ (1 : Nat))) &&& BitVec.ofInt (IntKind.bits .u64) 6148914691236517205).toNat : Int)) + (IntKind.wrap .u64 ((BitVec.ofInt (IntKind.bits .u64) x &&& BitVec.ofInt (IntKind.bits .u64) 6148914691236517205).toNat : Int)))) (2 ^ (2 : Nat))) &&& BitVec.ofInt (IntKind.bits .u64) 3689348814741910323).toNat : Int)) + (IntKind.wrap .u64 ((BitVec.ofInt (IntKind.bits .u64) (IntKind.wrap .u64 ((IntKind.wrap .u64 ((BitVec.ofInt (IntKind.bits .u64) (Int.fdiv x (2 ^ (1 : Nat))) &&& BitVec.ofInt (IntKind.bits .u64) 6148914691236517205).toNat : Int)) + (IntKind.wrap .u64 ((BitVec.ofInt (IntKind.bits .u64) x &&& BitVec.ofInt (IntKind.bits .u64) 6148914691236517205).toNat : Int)))) &&& BitVec.ofInt (IntKind.bits .u64) 3689348814741910323).toNat : Int)))))) &&& BitVec.ofInt (IntKind.bits .u64) 1085102592571150095).toNat : Int)) (2 ^ (8 : Nat))))) (2 ^ (16 : Nat))))) (2 ^ (32 : Nat)))))) &&& BitVec.ofInt (IntKind.bits .i64) 127).toNat : Int))) (by kernel_rfl)
def qNeed (c : Int) : Option Int :=
  (Option.bind (ones64 (IntKind.wrap .u64 ((BitVec.ofInt (IntKind.bits .u64) c &&& BitVec.ofInt (IntKind.bits .u64) 127).toNat : Int))) fun o1_0 =>
  (some (IntKind.wrap .i64 ((IntKind.wrap .i64 (Int.tdiv o1_0 2)) + 1))))
theorem qNeed_ok (g : GT) (c : Int) : FTO prog g.1 61 [(.a (.s (.c (.int .u64 c))))] [] (qNeed c)
    (fun o0 => ([], (.a (.s (.c (.int .i64 o0)))), [])) :=
  Fn_go mixed func61 (
  .reg [] [] [] <|
  .bind (fun o1_0 h1 =>
  .reg [(2, (CL [] [1] (ones64_ok g (IntKind.wrap .u64 ((BitVec.ofInt (IntKind.bits .u64) c &&& BitVec.ofInt (IntKind.bits .u64) 127).toNat : Int)) _ h1)))] [] [] <|
    .gh (.keep [2]) trivial <|
    .leaf false [] [] (IntKind.wrap .i64 ((IntKind.wrap .i64 (Int.tdiv o1_0 2)) + 1)))) (by kernel_rfl)
def qMajority (c : Int) (set : Int) : Option Bool :=
  (Option.bind (ones64 (IntKind.wrap .u64 ((BitVec.ofInt (IntKind.bits .u64) (IntKind.wrap .u64 ((BitVec.ofInt (IntKind.bits .u64) c &&& BitVec.ofInt (IntKind.bits .u64) set).toNat : Int)) &&& BitVec.ofInt (IntKind.bits .u64) 127).toNat : Int))) fun o1_0 =>
  (Option.bind (qNeed c) fun o2_0 =>
    (some (decide (o1_0 ≥ o2_0)))))
theorem qMajority_ok (g : GT) (c : Int) (set : Int) : FTO prog g.1 49 [(.a (.s (.c (.int .u64 c)))), (.a (.s (.c (.int .u64 set))))] [] (qMajority c set)
    (fun o0 => ([], (.a (.s (.c (.bool o0)))), [])) :=
  Fn_go mixed func49 (
  .reg [] [] [] <|
  .bind (fun o1_0 h1 =>
  .bind (fun o2_0 h2 =>
    .reg [(4, (CL [] [1] (ones64_ok g (IntKind.wrap .u64 ((BitVec.ofInt (IntKind.bits .u64) (IntKind.wrap .u64 ((BitVec.ofInt (IntKind.bits .u64) c &&& BitVec.ofInt (IntKind.bits .u64) set).toNat : Int)) &&& BitVec.ofInt (IntKind.bits .u64) 127).toNat : Int)) _ h1))), (6, (CL [] [1] (qNeed_ok g c _ h2)))] [] [] <|
      .gh (.keep [4]) trivial <|
      .leaf false [] [] (decide (o1_0 ≥ o2_0))))) (by kernel_rfl)
def qChange (c : Int) (add : Bool) (id : Int) : Option (Int × Int) :=
  (Option.bind (qSound c) fun o1_0 =>
  (iteB o1_0
    (iteB (decide (id < 0))
      (some (0, 1))
      (iteB (decide (id ≥ 7))
        (some (0, 1))
        (ifP (0 ≤ id)
          (iteB add
          (iteB ((IntKind.wrap .u64 ((BitVec.ofInt (IntKind.bits .u64) c ||| BitVec.ofInt (IntKind.bits .u64) (IntKind.wrap .u64 ((1 : Int) * 2 ^ (min (id).toNat (IntKind.bits .u64))))).toNat : Int)) == c)
            (some (0, 32))
            (iteB ((IntKind.wrap .u64 ((BitVec.ofInt (IntKind.bits .u64) c ||| BitVec.ofInt (IntKind.bits .u64) (IntKind.wrap .u64 ((1 : Int) * 2 ^ (min (id).toNat (IntKind.bits .u64))))).toNat : Int)) == 0)
              (some (0, 32))
              (some ((IntKind.wrap .u64 ((BitVec.ofInt (IntKind.bits .u64) c ||| BitVec.ofInt (IntKind.bits .u64) (IntKind.wrap .u64 ((1 : Int) * 2 ^ (min (id).toNat (IntKind.bits .u64))))).toNat : Int)), 0))))
          (iteB ((IntKind.wrap .u64 ((BitVec.ofInt (IntKind.bits .u64) c &&& ~~~(BitVec.ofInt (IntKind.bits .u64) (IntKind.wrap .u64 ((1 : Int) * 2 ^ (min (id).toNat (IntKind.bits .u64)))))).toNat : Int)) == c)
            (some (0, 32))
            (iteB ((IntKind.wrap .u64 ((BitVec.ofInt (IntKind.bits .u64) c &&& ~~~(BitVec.ofInt (IntKind.bits .u64) (IntKind.wrap .u64 ((1 : Int) * 2 ^ (min (id).toNat (IntKind.bits .u64)))))).toNat : Int)) == 0)
              (some (0, 32))
              (some ((IntKind.wrap .u64 ((BitVec.ofInt (IntKind.bits .u64) c &&& ~~~(BitVec.ofInt (IntKind.bits .u64) (IntKind.wrap .u64 ((1 : Int) * 2 ^ (min (id).toNat (IntKind.bits .u64)))))).toNat : Int)), 0))))))))
    (some (0, 1))))
theorem qChange_ok (g : GT) (c : Int) (add : Bool) (id : Int) : FTO prog g.1 41 [(.a (.s (.c (.int .u64 c)))), (.a (.s (.c (.bool add)))), (.a (.s (.c (.int .i64 id))))] [] (qChange c add id)
    (fun (o0, o1) => ([], (.t [(.s (.c (.int .u64 o0))), (.s (.c (.int .i64 o1)))]), [])) :=
  Fn_go mixed func41 (
  .reg [] [] [] <|
  .bind (fun _ h1 =>
  .ite (fun h2 =>
    .ite (fun h3 =>
      .reg [(1, (CL [] [1] (qSound_ok g c _ h1))), (6, (pB (congrArg not h2))), (10, (pB h3))] [(3, gB (congrArg not h2)), (7, gB h3)] [] <|
        .cond true (show true = true from rfl) <|
        .reg [] [] [] <|
        .gh (.keep [6, 7]) trivial <|
        .leaf false [] [] (0, 1))
      (fun h3 =>
      .reg [(1, (CL [] [1] (qSound_ok g c _ h1))), (6, (pB (congrArg not h2))), (10, (pB h3))] [(3, gB (congrArg not h2)), (7, gB h3)] [] <|
        .ite (fun h4 =>
        .cond true h4 <|
          .reg [] [] [] <|
          .gh (.keep [6, 7]) trivial <|
          .leaf false [] [] (0, 1))
        (fun h4 =>
        .cond false h4 <|
          .ifp (fun h5 =>
          .reg [(2, (Ji h5 .ar))] [] [] <|
          .reg [] [] [] <|
          .ite (fun h6 =>
          .cond true h6 <|
            .reg [(2, (Ji h5 .ar))] [] [] <|
            .ite (fun h7 =>
            .reg [(6, (pB h7))] [(3, gB h7)] [] <|
              .cond true (show true = true from rfl) <|
              .reg [] [] [] <|
              .gh (.keep [6, 7]) trivial <|
              .leaf false [] [] (0, 32))
            (fun h7 =>
            .reg [(6, (pB h7))] [(3, gB h7)] [] <|
              .ite (fun h8 =>
              .cond true h8 <|
                .reg [] [] [] <|
                .gh (.keep [6, 7]) trivial <|
                .leaf false [] [] (0, 32))
              (fun h8 =>
              .cond false h8 <|
                .reg [] [] [] <|
                .gh (.keep [6, 7]) trivial <|
                .leaf false [] [] ((IntKind.wrap .u64 ((BitVec.ofInt (IntKind.bits .u64) c ||| BitVec.ofInt (IntKind.bits .u64) (IntKind.wrap .u64 ((1 : Int) * 2 ^ (min (id).toNat (IntKind.bits .u64))))).toNat : Int)), 0))))
          (fun h6 =>
          .cond false h6 <|
            .ite (fun h7 =>
            .reg [(6, (pB h7))] [(3, gB h7)] [] <|
              .cond true (show true = true from rfl) <|
              .reg [] [] [] <|
              .gh (.keep [6, 7]) trivial <|
              .leaf false [] [] (0, 32))
            (fun h7 =>
            .reg [(6, (pB h7))] [(3, gB h7)] [] <|
              .ite (fun h8 =>
              .cond true h8 <|
                .reg [] [] [] <|
                .gh (.keep [6, 7]) trivial <|
                .leaf false [] [] (0, 32))
              (fun h8 =>
              .cond false h8 <|
                .reg [] [] [] <|
                .gh (.keep [6, 7]) trivial <|
                .leaf false [] [] ((IntKind.wrap .u64 ((BitVec.ofInt (IntKind.bits .u64) c &&& ~~~(BitVec.ofInt (IntKind.bits .u64) (IntKind.wrap .u64 ((1 : Int) * 2 ^ (min (id).toNat (IntKind.bits .u64)))))).toNat : Int)), 0))))))))
    (fun h2 =>
    .reg [(1, (CL [] [1] (qSound_ok g c _ h1))), (6, (pB (congrArg not h2))), (10, (pS true))] [(3, gB (congrArg not h2)), (7, gS true)] [] <|
      .cond true (show true = true from rfl) <|
      .reg [] [] [] <|
      .gh (.keep [6, 7]) trivial <|
      .leaf false [] [] (0, 1)))) (by kernel_rfl)
def rdFail (_ : Reader) : Option Reader :=
  (some (Reader.mk (ByteArray.mk #[]) true))
theorem rdFail_ok (g : GT) (r : Reader) : FTO prog g.1 63 [.a (.s (.ref 0 0))] (Reader.objs r) (rdFail r)
    (fun o1 => ([], (.a (.s (.c (.int .u64 0)))), Reader.objs o1)) :=
  Fn_go mixed func63 (
  .reg [] [] [] <|
  .reg [] [] [] <|
  .cond true (show true = true from rfl) <|
  .reg [] [] [] <|
  .reg [] [] [] <|
  .gh (.keep [2]) trivial <|
  .leaf false [0] [] (Reader.mk (ByteArray.mk #[]) true)) (by kernel_rfl)
def rdFrom (s : ByteArray) : Option Reader :=
  (some (Reader.mk s false))
theorem rdFrom_ok (g : GT) (s : ByteArray) : FTO prog g.1 57 [(.a (.s (.c (.string s))))] [] (rdFrom s)
    (fun o0 => ([], (.a (.s (.ref 0 0))), Reader.objs o0)) :=
  Fn_go mixed func57 (
  .reg [] [] [] <|
  .reg [] [] [] <|
  .gh (.keep [2]) trivial <|
  .leaf false [0] [] (Reader.mk s false)) (by kernel_rfl)
def rdLeft (r : Reader) : Option (Int × Bool) :=
  (some (((ByteArray.size r.s : Nat) : Int), (!r.bad)))
theorem rdLeft_ok (g : GT) (r : Reader) : FTO prog g.1 64 [.a (.s (.ref 0 0))] (Reader.objs r) (rdLeft r)
    (fun (o0, o1) => ([], (.t [(.s (.c (.int .i64 o0))), (.s (.c (.bool o1)))]), Reader.objs r)) :=
  Fn_go mixed func64 (
  .reg [] [] [] <|
  .reg [] [] [] <|
  .cond false (show false = false from rfl) <|
  .reg [] [] [] <|
  .gh (.keep [2, 3]) trivial <|
  .leaf false [0] [] (((ByteArray.size r.s : Nat) : Int), (!r.bad))) (by kernel_rfl)
def rdDone (r : Reader) : Option Bool :=
  (Option.bind (rdLeft r) fun (o1_0, o1_1) =>
  (iteB (o1_0 == 0)
    (some o1_1)
    (some false)))
theorem rdDone_ok (g : GT) (r : Reader) : FTO prog g.1 59 [.a (.s (.ref 0 0))] (Reader.objs r) (rdDone r)
    (fun o0 => ([], (.a (.s (.c (.bool o0)))), Reader.objs r)) :=
  Fn_go mixed func59 (
  .reg [] [] [] <|
  .bind (fun | (_, o1_1), h1 => (
  .reg [(1, (LK [0] [1] (rdLeft_ok g r _ h1)))] [] [] <|
    .ite (fun h2 =>
    .reg [(4, (pB h2))] [(2, gB h2)] [] <|
      .gh (.keep [2]) trivial <|
      .leaf false [0] [] o1_1)
    (fun h2 =>
    .reg [(4, (pB h2))] [(2, gB h2)] [] <|
      .gh (.keep [2]) trivial <|
      .leaf false [0] [] false)))) (by kernel_rfl)
def rdNumL1 (r : Reader) : Nat → Int → Int → Option Int
  | 0, _, _ => none
  | fuel + 1, a1v0, a1v1 =>
  (iteB (decide (a1v1 ≤ (IntKind.wrap .i64 (((ByteArray.get! r.s 0).toNat : Nat) : Int))))
  (ifP (0 ≤ a1v1 ∧ a1v1 < ((ByteArray.size r.s : Nat) : Int))
    (rdNumL1 r fuel (IntKind.wrap .u64 ((BitVec.ofInt (IntKind.bits .u64) (IntKind.wrap .u64 (a1v0 * 2 ^ (8 : Nat))) ||| BitVec.ofInt (IntKind.bits .u64) (IntKind.wrap .u64 (((ByteArray.get! r.s (a1v1).toNat).toNat : Nat) : Int))).toNat : Int)) (IntKind.wrap .i64 (a1v1 + 1))))
  (some a1v0))
theorem rdNumL1_ok (g : GT) (r : Reader) : ∀ (fuel : Nat) (v : Int × Int), PcO prog g.1 (.loop (subC [1, 1, 1, 1, 1, 0, 1, 0, 0] (bodyOf f58))) ((fun (a1v0, a1v1) => ({ tm := mkTm 75 [(0, (.a (.s (.ref 0 0)))), (3, (.a (.s (.c (.int .i64 (IntKind.wrap .i64 (((ByteArray.get! r.s 0).toNat : Nat) : Int))))))), (4, (.a (.s (.c (.int .u64 a1v0))))), (5, (.a (.s (.c (.int .i64 a1v1)))))], hp := [.cells [.one (.c (.string r.s)), .one (.c (.bool r.bad))]], mv := [] } : St)) v) (rdNumL1 r fuel v.1 v.2)
    (fun o0 => ((.exit 0), { tm := mkTm 75 [(0, (.a (.s (.ref 0 0)))), (3, (.a (.s (.c (.int .i64 (IntKind.wrap .i64 (((ByteArray.get! r.s 0).toNat : Nat) : Int))))))), (4, (.a (.s (.c (.int .u64 o0)))))], hp := [.cells [.one (.c (.string r.s)), .one (.c (.bool r.bad))]], mv := [] })) :=
  Lo_go (rec := (fun n (v : Int × Int) => rdNumL1 r n v.1 v.2)) mixed (fun _ => rfl)
    (fun | _, (a1v0, a1v1) => (
    .reg [] [] [] <|
    .ite (fun a1h1 =>
    .cond true a1h1 <|
      .ifp (fun a1h2 =>
      .reg [(7, (Ji a1h2 .ar))] [] [] <|
      .reg [] [] [] <|
      .gh (.keep [0, 3, 4, 5]) trivial <|
      .again true ((IntKind.wrap .u64 ((BitVec.ofInt (IntKind.bits .u64) (IntKind.wrap .u64 (a1v0 * 2 ^ (8 : Nat))) ||| BitVec.ofInt (IntKind.bits .u64) (IntKind.wrap .u64 (((ByteArray.get! r.s (a1v1).toNat).toNat : Nat) : Int))).toNat : Int)), (IntKind.wrap .i64 (a1v1 + 1)))))
    (fun a1h1 =>
    .cond false a1h1 <|
      .gh (.keep [0, 3, 4]) trivial <|
      .leaf true [] [] a1v0))) (fun _ _ => by kernel_rfl)
def rdNum (fuel : Nat) (r : Reader) : Option (Int × Reader) :=
  (iteB (r.s.toList == (ByteArray.mk #[]).toList)
  (Option.bind (rdFail r) fun o2_1 =>
    (some (0, o2_1)))
  (ifP (0 ≤ (0 : Int) ∧ (0 : Int) < ((ByteArray.size r.s : Nat) : Int))
    (iteB (decide ((IntKind.wrap .i64 (((ByteArray.get! r.s 0).toNat : Nat) : Int)) > 8))
    (Option.bind (rdFail r) fun o4_1 =>
      (some (0, o4_1)))
    (iteB (decide ((IntKind.wrap .i64 (((ByteArray.get! r.s 0).toNat : Nat) : Int)) > (IntKind.wrap .i64 (((ByteArray.size r.s : Nat) : Int) - 1))))
      (Option.bind (rdFail r) fun o5_1 =>
        (some (0, o5_1)))
      (iteB (decide ((IntKind.wrap .i64 (((ByteArray.get! r.s 0).toNat : Nat) : Int)) > 0))
        (ifP (0 ≤ (1 : Int) ∧ (1 : Int) < ((ByteArray.size r.s : Nat) : Int))
          (iteB ((((ByteArray.get! r.s 1).toNat : Nat) : Int) == 0)
          (Option.bind (rdFail r) fun o8_1 =>
            (some (0, o8_1)))
          (Option.bind (rdNumL1 r fuel (0 : Int) (1 : Int)) fun o8_0 =>
            (ifP (0 ≤ (IntKind.wrap .i64 ((IntKind.wrap .i64 (((ByteArray.get! r.s 0).toNat : Nat) : Int)) + 1)) ∧ (IntKind.wrap .i64 ((IntKind.wrap .i64 (((ByteArray.get! r.s 0).toNat : Nat) : Int)) + 1)) ≤ ((ByteArray.size r.s : Nat) : Int) ∧ ((ByteArray.size r.s : Nat) : Int) ≤ ((ByteArray.size r.s : Nat) : Int))
              (some (o8_0, (Reader.mk (ByteArray.extract r.s ((IntKind.wrap .i64 ((IntKind.wrap .i64 (((ByteArray.get! r.s 0).toNat : Nat) : Int)) + 1))).toNat (ByteArray.size r.s)) r.bad)))))))
        (Option.bind (rdNumL1 r fuel (0 : Int) (1 : Int)) fun o6_0 =>
          (ifP (0 ≤ (IntKind.wrap .i64 ((IntKind.wrap .i64 (((ByteArray.get! r.s 0).toNat : Nat) : Int)) + 1)) ∧ (IntKind.wrap .i64 ((IntKind.wrap .i64 (((ByteArray.get! r.s 0).toNat : Nat) : Int)) + 1)) ≤ ((ByteArray.size r.s : Nat) : Int) ∧ ((ByteArray.size r.s : Nat) : Int) ≤ ((ByteArray.size r.s : Nat) : Int))
            (some (o6_0, (Reader.mk (ByteArray.extract r.s ((IntKind.wrap .i64 ((IntKind.wrap .i64 (((ByteArray.get! r.s 0).toNat : Nat) : Int)) + 1))).toNat (ByteArray.size r.s)) r.bad))))))))))
theorem rdNum_ok (g : GT) (fuel : Nat) (r : Reader) : FTO prog g.1 58 [.a (.s (.ref 0 0))] (Reader.objs r) (rdNum fuel r)
    (fun (o0, o1) => ([], (.a (.s (.c (.int .u64 o0)))), Reader.objs o1)) :=
  Fn_go mixed func58 (
  .reg [] [] [] <|
  .reg [(8, (pS false))] [(2, gS false)] [] <|
  .ite (fun h1 =>
  .cond true h1 <|
    .bind (fun o2_1 h2 =>
    .reg [(1, (CL [0] [1] (rdFail_ok g r _ h2)))] [] [] <|
      .gh (.keep [2]) trivial <|
      .leaf false [0] [] (0, o2_1)))
  (fun h1 =>
  .cond false h1 <|
    .ifp (fun h2 =>
    .reg [(4, (Ji h2 .ar))] [] [] <|
    .ite (fun h3 =>
    .reg [(11, (pB h3)), (23, (pS true))] [(2, gB h3), (12, gS true), (15, gU)] [] <|
      .cond true (show true = true from rfl) <|
      .bind (fun o4_1 h4 =>
      .reg [(1, (CL [0] [1] (rdFail_ok g r _ h4)))] [] [] <|
        .gh (.keep [2]) trivial <|
        .leaf false [0] [] (0, o4_1)))
    (fun h3 =>
    .ite (fun h4 =>
      .reg [(11, (pB h3)), (23, (pB h4))] [(2, gB h3), (12, gB h4), (15, gU)] [] <|
        .cond true (show true = true from rfl) <|
        .bind (fun o5_1 h5 =>
        .reg [(1, (CL [0] [1] (rdFail_ok g r _ h5)))] [] [] <|
          .gh (.keep [2]) trivial <|
          .leaf false [0] [] (0, o5_1)))
      (fun h4 =>
      .ite (fun h5 =>
        .ifp (fun h6 =>
          .reg [(11, (pB h3)), (20, (Ji h6 .ar)), (22, (pB h5)), (23, (pB h4))] [(2, gB h3), (12, gB h4), (15, gB h5)] [] <|
          .ite (fun h7 =>
          .cond true h7 <|
            .bind (fun o8_1 h8 =>
            .reg [(1, (CL [0] [1] (rdFail_ok g r _ h8)))] [] [] <|
              .gh (.keep [2]) trivial <|
              .leaf false [0] [] (0, o8_1)))
          (fun h7 =>
          .cond false h7 <|
            .reg [] [] [] <|
            .reg [] [] [] <|
            .gh (.keep [0, 3, 4, 5]) trivial <|
            .bind (fun o8_0 h8 =>
            .claim false (rdNumL1_ok g r fuel ((0 : Int), (1 : Int)) _ h8) <|
              .ifp (fun h9 =>
              .reg [(7, (J h9))] [] [] <|
              .reg [] [] [] <|
              .gh (.keep [2]) trivial <|
              .leaf false [0] [] (o8_0, (Reader.mk (ByteArray.extract r.s ((IntKind.wrap .i64 ((IntKind.wrap .i64 (((ByteArray.get! r.s 0).toNat : Nat) : Int)) + 1))).toNat (ByteArray.size r.s)) r.bad)))))))
        (fun h5 =>
        .reg [(11, (pB h3)), (22, (pB h5)), (23, (pB h4))] [(2, gB h3), (12, gB h4), (15, gB h5)] [] <|
          .cond false (show false = false from rfl) <|
          .reg [] [] [] <|
          .reg [] [] [] <|
          .gh (.keep [0, 3, 4, 5]) trivial <|
          .bind (fun o6_0 h6 =>
          .claim false (rdNumL1_ok g r fuel ((0 : Int), (1 : Int)) _ h6) <|
            .ifp (fun h7 =>
            .reg [(7, (J h7))] [] [] <|
            .reg [] [] [] <|
            .gh (.keep [2]) trivial <|
            .leaf false [0] [] (o6_0, (Reader.mk (ByteArray.extract r.s ((IntKind.wrap .i64 ((IntKind.wrap .i64 (((ByteArray.get! r.s 0).toNat : Nat) : Int)) + 1))).toNat (ByteArray.size r.s)) r.bad)))))))))) (by kernel_rfl)
def configOf (fuel : Nat) (s : ByteArray) : Option (Int × Bool) :=
  (Option.bind (rdFrom s) fun o1_0 =>
  (Option.bind (rdNum fuel o1_0) fun (o2_0, o2_1) =>
    (Option.bind (rdDone o2_1) fun o3_0 =>
      (iteB o3_0
        (Option.bind (qSound o2_0) fun o5_0 =>
          (some (o2_0, o5_0)))
        (some (o2_0, false))))))
theorem configOf_ok (g : GT) (fuel : Nat) (s : ByteArray) : FTO prog g.1 45 [(.a (.s (.c (.string s))))] [] (configOf fuel s)
    (fun (o0, o1) => ([], (.t [(.s (.c (.int .u64 o0))), (.s (.c (.bool o1)))]), [])) :=
  Fn_go mixed func45 (
  .reg [] [] [] <|
  .bind (fun o1_0 h1 =>
  .reg [(1, (CL [] [1] (rdFrom_ok g s _ h1)))] [] [] <|
    .bind (fun | (o2_0, o2_1), h2 => (
    .reg [(1, (CL [0] [1] (rdNum_ok g fuel o1_0 _ h2)))] [] [] <|
      .bind (fun _ h3 =>
      .ite (fun h4 =>
        .bind (fun o5_0 h5 =>
          .reg [(2, (LK [0] [1] (rdDone_ok g o2_1 _ h3))), (5, (CL [] [1] (qSound_ok g o2_0 _ h5))), (6, (pB h4))] [(3, gB h4)] [] <|
            .gh (.keep [2, 3]) trivial <|
            .leaf false [] [] (o2_0, o5_0)))
        (fun h4 =>
        .reg [(2, (LK [0] [1] (rdDone_ok g o2_1 _ h3))), (6, (pB h4))] [(3, gB h4)] [] <|
          .gh (.keep [2, 3]) trivial <|
          .leaf false [] [] (o2_0, false))))))) (by kernel_rfl)
def lSound (fuel : Nat) (e : Entry) (index : Int) (term : Int) : Option Bool :=
  (iteB (index == 0)
  (some false)
  (iteB (e.index != index)
    (some false)
    (iteB (decide (e.term < term))
      (some false)
      (iteB (decide (e.kind < 0))
        (some false)
        (iteB (decide (e.kind > 2))
          (some false)
          (iteB (decide (((ByteArray.size e.data : Nat) : Int) > 32768))
            (some false)
            (Option.bind (configOf fuel e.data) fun (_, o7_1) =>
              (iteB (e.kind != 2)
                (some true)
                (some o7_1)))))))))
theorem lSound_ok (g : GT) (fuel : Nat) (e : Entry) (index : Int) (term : Int) : FTO prog g.1 27 [.a (.g (Entry.row e)), (.a (.s (.c (.int .u64 index)))), (.a (.s (.c (.int .u64 term))))] [] (lSound fuel e index term)
    (fun o0 => ([], (.a (.s (.c (.bool o0)))), [])) :=
  Fn_go mixed func27 (
  .reg [] [] [] <|
  .ite (fun h1 =>
  .reg [(7, (pB h1)), (13, (pS true)), (18, (pS true)), (23, (pS true)), (29, (pS true))] [(2, gB h1), (8, gS true), (14, gS true), (19, gS true), (24, gS true)] [] <|
    .cond true (show true = true from rfl) <|
    .reg [] [] [] <|
    .gh (.keep [6]) trivial <|
    .leaf false [] [] false)
  (fun h1 =>
  .ite (fun h2 =>
    .reg [(7, (pB h1)), (13, (pB h2)), (18, (pS true)), (23, (pS true)), (29, (pS true))] [(2, gB h1), (8, gB h2), (14, gS true), (19, gS true), (24, gS true)] [] <|
      .cond true (show true = true from rfl) <|
      .reg [] [] [] <|
      .gh (.keep [6]) trivial <|
      .leaf false [] [] false)
    (fun h2 =>
    .ite (fun h3 =>
      .reg [(7, (pB h1)), (13, (pB h2)), (18, (pB h3)), (23, (pS true)), (29, (pS true))] [(2, gB h1), (8, gB h2), (14, gB h3), (19, gS true), (24, gS true)] [] <|
        .cond true (show true = true from rfl) <|
        .reg [] [] [] <|
        .gh (.keep [6]) trivial <|
        .leaf false [] [] false)
      (fun h3 =>
      .ite (fun h4 =>
        .reg [(7, (pB h1)), (13, (pB h2)), (18, (pB h3)), (23, (pB h4)), (29, (pS true))] [(2, gB h1), (8, gB h2), (14, gB h3), (19, gB h4), (24, gS true)] [] <|
          .cond true (show true = true from rfl) <|
          .reg [] [] [] <|
          .gh (.keep [6]) trivial <|
          .leaf false [] [] false)
        (fun h4 =>
        .ite (fun h5 =>
          .reg [(7, (pB h1)), (13, (pB h2)), (18, (pB h3)), (23, (pB h4)), (29, (pB h5))] [(2, gB h1), (8, gB h2), (14, gB h3), (19, gB h4), (24, gB h5)] [] <|
            .cond true (show true = true from rfl) <|
            .reg [] [] [] <|
            .gh (.keep [6]) trivial <|
            .leaf false [] [] false)
          (fun h5 =>
          .reg [(7, (pB h1)), (13, (pB h2)), (18, (pB h3)), (23, (pB h4)), (29, (pB h5))] [(2, gB h1), (8, gB h2), (14, gB h3), (19, gB h4), (24, gB h5)] [] <|
            .ite (fun h6 =>
            .cond true h6 <|
              .reg [] [] [] <|
              .gh (.keep [6]) trivial <|
              .leaf false [] [] false)
            (fun h6 =>
            .cond false h6 <|
              .bind (fun | (_, o7_1), h7 => (
              .reg [(2, (CL [] [1] (configOf_ok g fuel e.data _ h7)))] [] [] <|
                .ite (fun h8 =>
                .reg [(5, (pB h8))] [(3, gB h8)] [] <|
                  .gh (.keep [6]) trivial <|
                  .leaf false [] [] true)
                (fun h8 =>
                .reg [(5, (pB h8))] [(3, gB h8)] [] <|
                  .gh (.keep [6]) trivial <|
                  .leaf false [] [] o7_1)))))))))) (by kernel_rfl)
def lFirst (g_ : Log) : Option Snapshot :=
  (some (Snapshot.mk g_.index g_.term g_.config g_.data))
theorem lFirst_ok (g : GT) (g_ : Log) : FTO prog g.1 24 [.a (.s (.ref 0 0))] (Log.objs g_) (lFirst g_)
    (fun o0 => ([], (.a (.g (Snapshot.row o0))), Log.objs g_)) :=
  Fn_go mixed func24 (
  .reg [] [] [] <|
  .reg [] [] [] <|
  .cond false (show false = false from rfl) <|
  .reg [] [] [] <|
  .gh (.keep [2]) trivial <|
  .leaf false [0, 1] [] (Snapshot.mk g_.index g_.term g_.config g_.data)) (by kernel_rfl)
def lLast (g_ : Log) : Option (Int × Int) :=
  (iteB (decide ((((List.map Entry.row g_.entries).length : Nat) : Int) > 0))
  (ifP (0 ≤ (IntKind.wrap .i64 ((((List.map Entry.row g_.entries).length : Nat) : Int) - 1)) ∧ (IntKind.wrap .i64 ((((List.map Entry.row g_.entries).length : Nat) : Int) - 1)) < (((List.map Entry.row g_.entries).length : Nat) : Int))
    (Option.bind (g_.entries[(0 + ((IntKind.wrap .i64 ((((List.map Entry.row g_.entries).length : Nat) : Int) - 1))).toNat)]?) fun e3 =>
    (some (e3.index, e3.term))))
  (some (g_.index, g_.term)))
theorem lLast_ok (g : GT) (g_ : Log) : FTO prog g.1 19 [.a (.s (.ref 0 0))] (Log.objs g_) (lLast g_)
    (fun (o0, o1) => ([], (.t [(.s (.c (.int .u64 o0))), (.s (.c (.int .u64 o1)))]), Log.objs g_)) :=
  Fn_go mixed func19 (
  .reg [] [] [] <|
  .reg [] [] [] <|
  .cond false (show false = false from rfl) <|
  .reg [] [] [] <|
  .reg [] [] [] <|
  .ite (fun h1 =>
  .cond true h1 <|
    .ifp (fun h2 =>
    .bind (fun e3 h3 =>
    .reg [(6, (J h2)), (8, (eL Entry.row h3)), (15, (J h2)), (17, (eL Entry.row h3))] [] [] <|
    .gh (.keep [2, 3]) trivial <|
    .leaf false [0, 1] [] (e3.index, e3.term))))
  (fun h1 =>
  .cond false h1 <|
    .reg [] [] [] <|
    .gh (.keep [2, 3]) trivial <|
    .leaf false [0, 1] [] (g_.index, g_.term))) (by kernel_rfl)
def lAt (g_ : Log) (i : Int) : Option Int :=
  (iteB (decide (i ≤ g_.index))
  (some (-1))
  (iteB (decide ((IntKind.wrap .u64 (i - g_.index)) > (IntKind.wrap .u64 (((List.map Entry.row g_.entries).length : Nat) : Int))))
    (some (-1))
    (some (IntKind.wrap .i64 (IntKind.wrap .u64 ((IntKind.wrap .u64 (i - g_.index)) - 1))))))
theorem lAt_ok (g : GT) (g_ : Log) (i : Int) : FTO prog g.1 39 [.a (.s (.ref 0 0)), (.a (.s (.c (.int .u64 i))))] (Log.objs g_) (lAt g_ i)
    (fun o0 => ([], (.a (.s (.c (.int .i64 o0)))), Log.objs g_)) :=
  Fn_go mixed func39 (
  .reg [] [] [] <|
  .ite (fun h1 =>
  .reg [(10, (pS false)), (26, (pB h1))] [(2, gS false), (11, gB h1)] [] <|
    .cond true (show true = true from rfl) <|
    .reg [] [] [] <|
    .gh (.keep [4]) trivial <|
    .leaf false [0, 1] [] (-1))
  (fun h1 =>
  .reg [(10, (pS false)), (26, (pB h1))] [(2, gS false), (11, gB h1)] [] <|
    .ite (fun h2 =>
    .cond true h2 <|
      .reg [] [] [] <|
      .gh (.keep [4]) trivial <|
      .leaf false [0, 1] [] (-1))
    (fun h2 =>
    .cond false h2 <|
      .reg [] [] [] <|
      .gh (.keep [4]) trivial <|
      .leaf false [0, 1] [] (IntKind.wrap .i64 (IntKind.wrap .u64 ((IntKind.wrap .u64 (i - g_.index)) - 1)))))) (by kernel_rfl)
def lTerm (g_ : Log) (i : Int) : Option (Int × Int) :=
  (Option.bind (lAt g_ i) fun o1_0 =>
  (iteB (decide (o1_0 ≥ 0))
    (ifP (0 ≤ o1_0 ∧ o1_0 < (((List.map Entry.row g_.entries).length : Nat) : Int))
      (Option.bind (g_.entries[(0 + (o1_0).toNat)]?) fun e4 =>
      (some (e4.term, 0))))
    (iteB (i == g_.index)
      (some (g_.term, 0))
      (some (0, 20)))))
theorem lTerm_ok (g : GT) (g_ : Log) (i : Int) : FTO prog g.1 25 [.a (.s (.ref 0 0)), (.a (.s (.c (.int .u64 i))))] (Log.objs g_) (lTerm g_ i)
    (fun (o0, o1) => ([], (.t [(.s (.c (.int .u64 o0))), (.s (.c (.int .i64 o1)))]), Log.objs g_)) :=
  Fn_go mixed func25 (
  .reg [] [] [] <|
  .bind (fun _ h1 =>
  .reg [(2, (LK [0, 1] [1, 1] (lAt_ok g g_ i _ h1)))] [] [] <|
    .reg [] [] [] <|
    .ite (fun h2 =>
    .cond true h2 <|
      .ifp (fun h3 =>
      .bind (fun e4 h4 =>
      .reg [(5, (J h3)), (7, (eL Entry.row h4))] [] [] <|
      .gh (.keep [4, 5]) trivial <|
      .leaf false [0, 1] [] (e4.term, 0))))
    (fun h2 =>
    .cond false h2 <|
      .reg [(10, (pS true))] [(2, gS true)] [] <|
      .ite (fun h3 =>
      .cond true h3 <|
        .reg [] [] [] <|
        .gh (.keep [4, 5]) trivial <|
        .leaf false [0, 1] [] (g_.term, 0))
      (fun h3 =>
      .cond false h3 <|
        .reg [] [] [] <|
        .gh (.keep [4, 5]) trivial <|
        .leaf false [0, 1] [] (0, 20))))) (by kernel_rfl)
def lGet (g_ : Log) (i : Int) (n : Int) : Option ((List Entry)) :=
  (Option.bind (lAt g_ i) fun o1_0 =>
  (iteB (decide (o1_0 < 0))
    (some [])
    (iteB (decide (n ≤ 0))
      (some [])
      (ifP (0 ≤ o1_0 ∧ o1_0 ≤ (if (IntKind.wrap .i64 (o1_0 + (if (((List.map Entry.row g_.entries).length : Nat) : Int) < n then (((List.map Entry.row g_.entries).length : Nat) : Int) else n))) < (((List.map Entry.row g_.entries).length : Nat) : Int) then (IntKind.wrap .i64 (o1_0 + (if (((List.map Entry.row g_.entries).length : Nat) : Int) < n then (((List.map Entry.row g_.entries).length : Nat) : Int) else n))) else (((List.map Entry.row g_.entries).length : Nat) : Int)) ∧ (if (IntKind.wrap .i64 (o1_0 + (if (((List.map Entry.row g_.entries).length : Nat) : Int) < n then (((List.map Entry.row g_.entries).length : Nat) : Int) else n))) < (((List.map Entry.row g_.entries).length : Nat) : Int) then (IntKind.wrap .i64 (o1_0 + (if (((List.map Entry.row g_.entries).length : Nat) : Int) < n then (((List.map Entry.row g_.entries).length : Nat) : Int) else n))) else (((List.map Entry.row g_.entries).length : Nat) : Int)) ≤ (((List.map Entry.row g_.entries).length : Nat) : Int))
        (ifP (((if (IntKind.wrap .i64 (o1_0 + (if (((List.map Entry.row g_.entries).length : Nat) : Int) < n then (((List.map Entry.row g_.entries).length : Nat) : Int) else n))) < (((List.map Entry.row g_.entries).length : Nat) : Int) then (IntKind.wrap .i64 (o1_0 + (if (((List.map Entry.row g_.entries).length : Nat) : Int) < n then (((List.map Entry.row g_.entries).length : Nat) : Int) else n))) else (((List.map Entry.row g_.entries).length : Nat) : Int)) - o1_0).toNat = (List.map Entry.row (cut g_.entries (0 + (o1_0).toNat) ((if (IntKind.wrap .i64 (o1_0 + (if (((List.map Entry.row g_.entries).length : Nat) : Int) < n then (((List.map Entry.row g_.entries).length : Nat) : Int) else n))) < (((List.map Entry.row g_.entries).length : Nat) : Int) then (IntKind.wrap .i64 (o1_0 + (if (((List.map Entry.row g_.entries).length : Nat) : Int) < n then (((List.map Entry.row g_.entries).length : Nat) : Int) else n))) else (((List.map Entry.row g_.entries).length : Nat) : Int)) - o1_0).toNat)).length)
        (ifP ((List.map Entry.row (cut g_.entries (0 + (o1_0).toNat) ((if (IntKind.wrap .i64 (o1_0 + (if (((List.map Entry.row g_.entries).length : Nat) : Int) < n then (((List.map Entry.row g_.entries).length : Nat) : Int) else n))) < (((List.map Entry.row g_.entries).length : Nat) : Int) then (IntKind.wrap .i64 (o1_0 + (if (((List.map Entry.row g_.entries).length : Nat) : Int) < n then (((List.map Entry.row g_.entries).length : Nat) : Int) else n))) else (((List.map Entry.row g_.entries).length : Nat) : Int)) - o1_0).toNat)).length * 41 ≤ 70368744177664)
        (some (cut g_.entries (0 + (o1_0).toNat) ((if (IntKind.wrap .i64 (o1_0 + (if (((List.map Entry.row g_.entries).length : Nat) : Int) < n then (((List.map Entry.row g_.entries).length : Nat) : Int) else n))) < (((List.map Entry.row g_.entries).length : Nat) : Int) then (IntKind.wrap .i64 (o1_0 + (if (((List.map Entry.row g_.entries).length : Nat) : Int) < n then (((List.map Entry.row g_.entries).length : Nat) : Int) else n))) else (((List.map Entry.row g_.entries).length : Nat) : Int)) - o1_0).toNat))))))))
theorem lGet_ok (g : GT) (g_ : Log) (i : Int) (n : Int) : FTO prog g.1 18 [.a (.s (.ref 0 0)), (.a (.s (.c (.int .u64 i)))), (.a (.s (.c (.int .i64 n))))] (Log.objs g_) (lGet g_ i n)
    (fun o0 => ([], (.a (.s (.ssl 4 (List.map Entry.row o0)))), Log.objs g_)) :=
  Fn_go mixed func18 (
  .reg [] [] [] <|
  .bind (fun o1_0 h1 =>
  .reg [(2, (LK [0, 1] [1, 1] (lAt_ok g g_ i _ h1)))] [] [] <|
    .ite (fun h2 =>
    .reg [(5, (pB h2))] [(2, gB h2)] [] <|
      .cond true (show true = true from rfl) <|
      .reg [] [] [] <|
      .gh (.keep [6]) trivial <|
      .leaf false [0, 1] [[(0, 4)]] [])
    (fun h2 =>
    .reg [(5, (pB h2))] [(2, gB h2)] [] <|
      .ite (fun h3 =>
      .cond true h3 <|
        .reg [] [] [] <|
        .gh (.keep [6]) trivial <|
        .leaf false [0, 1] [[(0, 4)]] [])
      (fun h3 =>
      .cond false h3 <|
        .ifp (fun h4 =>
        .ifp (fun h5 =>
        .ifp (fun h6 =>
        .reg [(20, (J h4)), (21, (Ji (show (((cut (List.map Entry.row g_.entries) (0 + (o1_0).toNat) ((if (IntKind.wrap .i64 (o1_0 + (if (((List.map Entry.row g_.entries).length : Nat) : Int) < n then (((List.map Entry.row g_.entries).length : Nat) : Int) else n))) < (((List.map Entry.row g_.entries).length : Nat) : Int) then (IntKind.wrap .i64 (o1_0 + (if (((List.map Entry.row g_.entries).length : Nat) : Int) < n then (((List.map Entry.row g_.entries).length : Nat) : Int) else n))) else (((List.map Entry.row g_.entries).length : Nat) : Int)) - o1_0).toNat) = (List.map Entry.row (cut g_.entries (0 + (o1_0).toNat) ((if (IntKind.wrap .i64 (o1_0 + (if (((List.map Entry.row g_.entries).length : Nat) : Int) < n then (((List.map Entry.row g_.entries).length : Nat) : Int) else n))) < (((List.map Entry.row g_.entries).length : Nat) : Int) then (IntKind.wrap .i64 (o1_0 + (if (((List.map Entry.row g_.entries).length : Nat) : Int) < n then (((List.map Entry.row g_.entries).length : Nat) : Int) else n))) else (((List.map Entry.row g_.entries).length : Nat) : Int)) - o1_0).toNat)) ∧ (((if (IntKind.wrap .i64 (o1_0 + (if (((List.map Entry.row g_.entries).length : Nat) : Int) < n then (((List.map Entry.row g_.entries).length : Nat) : Int) else n))) < (((List.map Entry.row g_.entries).length : Nat) : Int) then (IntKind.wrap .i64 (o1_0 + (if (((List.map Entry.row g_.entries).length : Nat) : Int) < n then (((List.map Entry.row g_.entries).length : Nat) : Int) else n))) else (((List.map Entry.row g_.entries).length : Nat) : Int)) - o1_0).toNat = (List.map Entry.row (cut g_.entries (0 + (o1_0).toNat) ((if (IntKind.wrap .i64 (o1_0 + (if (((List.map Entry.row g_.entries).length : Nat) : Int) < n then (((List.map Entry.row g_.entries).length : Nat) : Int) else n))) < (((List.map Entry.row g_.entries).length : Nat) : Int) then (IntKind.wrap .i64 (o1_0 + (if (((List.map Entry.row g_.entries).length : Nat) : Int) < n then (((List.map Entry.row g_.entries).length : Nat) : Int) else n))) else (((List.map Entry.row g_.entries).length : Nat) : Int)) - o1_0).toNat)).length)) ∧ ((List.map Entry.row (cut g_.entries (0 + (o1_0).toNat) ((if (IntKind.wrap .i64 (o1_0 + (if (((List.map Entry.row g_.entries).length : Nat) : Int) < n then (((List.map Entry.row g_.entries).length : Nat) : Int) else n))) < (((List.map Entry.row g_.entries).length : Nat) : Int) then (IntKind.wrap .i64 (o1_0 + (if (((List.map Entry.row g_.entries).length : Nat) : Int) < n then (((List.map Entry.row g_.entries).length : Nat) : Int) else n))) else (((List.map Entry.row g_.entries).length : Nat) : Int)) - o1_0).toNat)).length * 41 ≤ 70368744177664)) from ⟨⟨cut_map, h5⟩, h6⟩) (.ap [] (List.map Entry.row (cut g_.entries (0 + (o1_0).toNat) ((if (IntKind.wrap .i64 (o1_0 + (if (((List.map Entry.row g_.entries).length : Nat) : Int) < n then (((List.map Entry.row g_.entries).length : Nat) : Int) else n))) < (((List.map Entry.row g_.entries).length : Nat) : Int) then (IntKind.wrap .i64 (o1_0 + (if (((List.map Entry.row g_.entries).length : Nat) : Int) < n then (((List.map Entry.row g_.entries).length : Nat) : Int) else n))) else (((List.map Entry.row g_.entries).length : Nat) : Int)) - o1_0).toNat)) [])))] [] [] <|
        .gh (.keep [6]) trivial <|
        .gh (.lend [(2, (List.map Entry.row (cut g_.entries (0 + (o1_0).toNat) ((if (IntKind.wrap .i64 (o1_0 + (if (((List.map Entry.row g_.entries).length : Nat) : Int) < n then (((List.map Entry.row g_.entries).length : Nat) : Int) else n))) < (((List.map Entry.row g_.entries).length : Nat) : Int) then (IntKind.wrap .i64 (o1_0 + (if (((List.map Entry.row g_.entries).length : Nat) : Int) < n then (((List.map Entry.row g_.entries).length : Nat) : Int) else n))) else (((List.map Entry.row g_.entries).length : Nat) : Int)) - o1_0).toNat)))]) (show ((some (cut (List.map Entry.row (cut g_.entries (0 + (o1_0).toNat) ((if (IntKind.wrap .i64 (o1_0 + (if (((List.map Entry.row g_.entries).length : Nat) : Int) < n then (((List.map Entry.row g_.entries).length : Nat) : Int) else n))) < (((List.map Entry.row g_.entries).length : Nat) : Int) then (IntKind.wrap .i64 (o1_0 + (if (((List.map Entry.row g_.entries).length : Nat) : Int) < n then (((List.map Entry.row g_.entries).length : Nat) : Int) else n))) else (((List.map Entry.row g_.entries).length : Nat) : Int)) - o1_0).toNat)) 0 (List.map Entry.row (cut g_.entries (0 + (o1_0).toNat) ((if (IntKind.wrap .i64 (o1_0 + (if (((List.map Entry.row g_.entries).length : Nat) : Int) < n then (((List.map Entry.row g_.entries).length : Nat) : Int) else n))) < (((List.map Entry.row g_.entries).length : Nat) : Int) then (IntKind.wrap .i64 (o1_0 + (if (((List.map Entry.row g_.entries).length : Nat) : Int) < n then (((List.map Entry.row g_.entries).length : Nat) : Int) else n))) else (((List.map Entry.row g_.entries).length : Nat) : Int)) - o1_0).toNat)).length) = some (List.map Entry.row (cut g_.entries (0 + (o1_0).toNat) ((if (IntKind.wrap .i64 (o1_0 + (if (((List.map Entry.row g_.entries).length : Nat) : Int) < n then (((List.map Entry.row g_.entries).length : Nat) : Int) else n))) < (((List.map Entry.row g_.entries).length : Nat) : Int) then (IntKind.wrap .i64 (o1_0 + (if (((List.map Entry.row g_.entries).length : Nat) : Int) < n then (((List.map Entry.row g_.entries).length : Nat) : Int) else n))) else (((List.map Entry.row g_.entries).length : Nat) : Int)) - o1_0).toNat)) ∧ (List.map Entry.row (cut g_.entries (0 + (o1_0).toNat) ((if (IntKind.wrap .i64 (o1_0 + (if (((List.map Entry.row g_.entries).length : Nat) : Int) < n then (((List.map Entry.row g_.entries).length : Nat) : Int) else n))) < (((List.map Entry.row g_.entries).length : Nat) : Int) then (IntKind.wrap .i64 (o1_0 + (if (((List.map Entry.row g_.entries).length : Nat) : Int) < n then (((List.map Entry.row g_.entries).length : Nat) : Int) else n))) else (((List.map Entry.row g_.entries).length : Nat) : Int)) - o1_0).toNat)).length = (List.map Entry.row (cut g_.entries (0 + (o1_0).toNat) ((if (IntKind.wrap .i64 (o1_0 + (if (((List.map Entry.row g_.entries).length : Nat) : Int) < n then (((List.map Entry.row g_.entries).length : Nat) : Int) else n))) < (((List.map Entry.row g_.entries).length : Nat) : Int) then (IntKind.wrap .i64 (o1_0 + (if (((List.map Entry.row g_.entries).length : Nat) : Int) < n then (((List.map Entry.row g_.entries).length : Nat) : Int) else n))) else (((List.map Entry.row g_.entries).length : Nat) : Int)) - o1_0).toNat)).length) ∧ True) from ⟨⟨congrArg some (cut_all rfl), rfl⟩, trivial⟩) <|
        .leaf false [0, 1] [] (cut g_.entries (0 + (o1_0).toNat) ((if (IntKind.wrap .i64 (o1_0 + (if (((List.map Entry.row g_.entries).length : Nat) : Int) < n then (((List.map Entry.row g_.entries).length : Nat) : Int) else n))) < (((List.map Entry.row g_.entries).length : Nat) : Int) then (IntKind.wrap .i64 (o1_0 + (if (((List.map Entry.row g_.entries).length : Nat) : Int) < n then (((List.map Entry.row g_.entries).length : Nat) : Int) else n))) else (((List.map Entry.row g_.entries).length : Nat) : Int)) - o1_0).toNat)))))))) (by kernel_rfl)
def lAdd (fuel : Nat) (g_ : Log) (term : Int) (kind : Int) (data : ByteArray) : Option (Entry × Int × Log) :=
  (Option.bind (lLast g_) fun (o1_0, o1_1) =>
  (Option.bind (lSound fuel (Entry.mk term (IntKind.wrap .u64 (o1_0 + 1)) kind data) (IntKind.wrap .u64 (o1_0 + 1)) o1_1) fun o2_0 =>
    (iteB o2_0
      (ifP (1 = (List.map Entry.row (cut [(Entry.mk term (IntKind.wrap .u64 (o1_0 + 1)) kind data)] 0 1)).length)
        (ifP (((List.map Entry.row g_.entries).length + (List.map Entry.row (cut [(Entry.mk term (IntKind.wrap .u64 (o1_0 + 1)) kind data)] 0 1)).length) * 41 ≤ 70368744177664)
        (some ((Entry.mk term (IntKind.wrap .u64 (o1_0 + 1)) kind data), 0, (Log.mk g_.index g_.term g_.config g_.data (g_.entries ++ (cut [(Entry.mk term (IntKind.wrap .u64 (o1_0 + 1)) kind data)] 0 1)))))))
      (some ((Entry.mk 0 0 0 (ByteArray.mk #[])), 1, g_)))))
theorem lAdd_ok (g : GT) (fuel : Nat) (g_ : Log) (term : Int) (kind : Int) (data : ByteArray) : FTO prog g.1 50 [.a (.s (.ref 0 0)), (.a (.s (.c (.int .u64 term)))), (.a (.s (.c (.int .i64 kind)))), (.a (.s (.c (.string data))))] (Log.objs g_) (lAdd fuel g_ term kind data)
    (fun (o0, o1, o2) => ([1], (.t [(.g (Entry.row o0)), (.s (.c (.int .i64 o1)))]), Log.objs o2)) :=
  Fn_go mixed func50 (
  .reg [] [] [] <|
  .bind (fun | (o1_0, o1_1), h1 => (
  .reg [(1, (LK [0, 1] [1] (lLast_ok g g_ _ h1)))] [] [] <|
    .reg [] [] [] <|
    .bind (fun _ h2 =>
    .reg [(7, (CL [] [4, 1, 1] (lSound_ok g fuel (Entry.mk term (IntKind.wrap .u64 (o1_0 + 1)) kind data) (IntKind.wrap .u64 (o1_0 + 1)) o1_1 _ h2))), (9, (pS false))] [(2, gS false)] [] <|
      .ite (fun h3 =>
      .cond false (congrArg not h3) <|
        .ifp (fun h4 =>
        .ifp (fun h5 =>
        .reg [(7, (Ji (show ((List.map Entry.row g_.entries) ++ (List.map Entry.row (cut [(Entry.mk term (IntKind.wrap .u64 (o1_0 + 1)) kind data)] 0 1)) = (List.map Entry.row (g_.entries ++ (cut [(Entry.mk term (IntKind.wrap .u64 (o1_0 + 1)) kind data)] 0 1))) ∧ (cut (List.map Entry.row g_.entries) 0 (List.map Entry.row g_.entries).length = (List.map Entry.row g_.entries) ∧ (List.map Entry.row g_.entries).length = (List.map Entry.row g_.entries).length) ∧ ((cut (List.map Entry.row [(Entry.mk term (IntKind.wrap .u64 (o1_0 + 1)) kind data)]) 0 1) = (List.map Entry.row (cut [(Entry.mk term (IntKind.wrap .u64 (o1_0 + 1)) kind data)] 0 1)) ∧ (1 = (List.map Entry.row (cut [(Entry.mk term (IntKind.wrap .u64 (o1_0 + 1)) kind data)] 0 1)).length)) ∧ (((List.map Entry.row g_.entries).length + (List.map Entry.row (cut [(Entry.mk term (IntKind.wrap .u64 (o1_0 + 1)) kind data)] 0 1)).length) * 41 ≤ 70368744177664)) from ⟨app_map, ⟨cut_all rfl, rfl⟩, ⟨cut_map, h4⟩, h5⟩) (.ap (List.map Entry.row g_.entries) (List.map Entry.row (cut [(Entry.mk term (IntKind.wrap .u64 (o1_0 + 1)) kind data)] 0 1)) (List.map Entry.row (g_.entries ++ (cut [(Entry.mk term (IntKind.wrap .u64 (o1_0 + 1)) kind data)] 0 1))))))] [] [] <|
        .reg [] [] [] <|
        .gh (.keep [8, 9]) trivial <|
        .leaf false [0, 1] [] ((Entry.mk term (IntKind.wrap .u64 (o1_0 + 1)) kind data), 0, (Log.mk g_.index g_.term g_.config g_.data (g_.entries ++ (cut [(Entry.mk term (IntKind.wrap .u64 (o1_0 + 1)) kind data)] 0 1)))))))
      (fun h3 =>
      .cond true (congrArg not h3) <|
        .reg [] [] [] <|
        .gh (.keep [8, 9]) trivial <|
        .leaf false [0, 1] [] ((Entry.mk 0 0 0 (ByteArray.mk #[])), 1, g_)))))) (by kernel_rfl)
def lMembersAtL1 (g_ : Log) (i : Int) : Nat → Int → Option ((Int × Int) ⊕ Unit)
  | 0, _ => none
  | fuel + 1, a1v0 =>
  (iteB (decide (a1v0 ≥ 0))
  (ifP (0 ≤ a1v0 ∧ a1v0 < (((List.map Entry.row g_.entries).length : Nat) : Int))
    (Option.bind (g_.entries[(0 + (a1v0).toNat)]?) fun a1e3 =>
    (iteB (a1e3.kind == 2)
    (iteB (decide (a1e3.index ≤ i))
      (Option.bind (configOf fuel a1e3.data) fun (a1o6_0, _) =>
        (some (Sum.inl (a1o6_0, a1e3.index))))
      (lMembersAtL1 g_ i fuel (IntKind.wrap .i64 (a1v0 - 1))))
    (lMembersAtL1 g_ i fuel (IntKind.wrap .i64 (a1v0 - 1))))))
  (some (Sum.inr ())))
theorem lMembersAtL1_ok (g : GT) (g_ : Log) (i : Int) : ∀ (fuel : Nat) (v : Int), PcO prog g.1 (.loop (subC [1, 1, 0, 1, 0, 0] (bodyOf f46))) ((fun a1v0 => ({ tm := mkTm 57 [(0, (.a (.s (.ref 0 0)))), (1, (.a (.s (.c (.int .u64 i))))), (6, (.a (.s (.c (.int .i64 a1v0)))))], hp := [.cells [.one (.c (.int .u64 g_.index)), .one (.c (.int .u64 g_.term)), .one (.c (.int .u64 g_.config)), .one (.c (.string g_.data)), .one (.sl 1 0 4 0 (List.map Entry.row g_.entries).length)], .arr 4 (List.map Entry.row g_.entries)], mv := [] } : St)) v) (lMembersAtL1 g_ i fuel v)
    (Sum.elim (fun (o0, o1) => (.ret, { tm := mkTm 57 [(4, (.a (.s (.c (.int .u64 o0))))), (5, (.a (.s (.c (.int .u64 o1)))))], hp := [.cells [.one (.c (.int .u64 g_.index)), .one (.c (.int .u64 g_.term)), .one (.c (.int .u64 g_.config)), .one (.c (.string g_.data)), .one (.sl 1 0 4 0 (List.map Entry.row g_.entries).length)], .arr 4 (List.map Entry.row g_.entries)], mv := [] })) (fun _ => ((.exit 0), { tm := mkTm 57 [(0, (.a (.s (.ref 0 0))))], hp := [.cells [.one (.c (.int .u64 g_.index)), .one (.c (.int .u64 g_.term)), .one (.c (.int .u64 g_.config)), .one (.c (.string g_.data)), .one (.sl 1 0 4 0 (List.map Entry.row g_.entries).length)], .arr 4 (List.map Entry.row g_.entries)], mv := [] }))) :=
  Lo_go (rec := (fun n (v : Int) => lMembersAtL1 g_ i n v)) mixed (fun _ => rfl)
    (fun fuel a1v0 =>
    .reg [] [] [] <|
    .ite (fun a1h1 =>
    .cond true a1h1 <|
      .ifp (fun a1h2 =>
      .bind (fun a1e3 a1h3 =>
      .reg [(5, (J a1h2)), (6, (eL Entry.row a1h3))] [] [] <|
      .ite (fun a1h4 =>
      .reg [(8, (pB a1h4))] [(3, gB a1h4)] [] <|
        .ite (fun a1h5 =>
        .cond true a1h5 <|
          .bind (fun | (a1o6_0, _), a1h6 => (
          .reg [(2, (CL [] [1] (configOf_ok g fuel a1e3.data _ a1h6)))] [] [] <|
            .reg [] [] [] <|
            .gh (.keep [4, 5]) trivial <|
            .leaf true [] [] (Sum.inl (a1o6_0, a1e3.index)))))
        (fun a1h5 =>
        .cond false a1h5 <|
          .reg [] [] [] <|
          .gh (.keep [0, 1, 6]) trivial <|
          .again true (IntKind.wrap .i64 (a1v0 - 1))))
      (fun a1h4 =>
      .reg [(8, (pB a1h4))] [(3, gB a1h4)] [] <|
        .cond false (show false = false from rfl) <|
        .reg [] [] [] <|
        .gh (.keep [0, 1, 6]) trivial <|
        .again true (IntKind.wrap .i64 (a1v0 - 1))))))
    (fun a1h1 =>
    .cond false a1h1 <|
      .gh (.keep [0]) trivial <|
      .leaf true [] [] (Sum.inr ()))) (fun _ _ => by kernel_rfl)
def lMembersAt (fuel : Nat) (g_ : Log) (i : Int) : Option (Int × Int) :=
  (Option.bind (lMembersAtL1 g_ i fuel (IntKind.wrap .i64 ((((List.map Entry.row g_.entries).length : Nat) : Int) - 1))) fun o1 => sumC o1 (fun (o1_0, o1_1) =>
  (some (o1_0, o1_1)))
  (fun _ =>
  (some (g_.config, g_.index))))
theorem lMembersAt_ok (g : GT) (fuel : Nat) (g_ : Log) (i : Int) : FTO prog g.1 46 [.a (.s (.ref 0 0)), (.a (.s (.c (.int .u64 i))))] (Log.objs g_) (lMembersAt fuel g_ i)
    (fun (o0, o1) => ([], (.t [(.s (.c (.int .u64 o0))), (.s (.c (.int .u64 o1)))]), Log.objs g_)) :=
  Fn_go mixed func46 (
  .reg [] [] [] <|
  .reg [] [] [] <|
  .cond false (show false = false from rfl) <|
  .reg [] [] [] <|
  .gh (.keep [0, 1, 6]) trivial <|
  .bind (fun _ k1 => .sum (fun | (o1_0, o1_1), s1 => (
  have h1 := k1.trans (congrArg some s1)
  .claim false (lMembersAtL1_ok g g_ i fuel (IntKind.wrap .i64 ((((List.map Entry.row g_.entries).length : Nat) : Int) - 1)) _ h1) <|
    .gh (.keep [4, 5]) trivial <|
    .leaf false [0, 1] [] (o1_0, o1_1)))
  (fun _ s1 =>
  have h1 := k1.trans (congrArg some s1)
  .claim false (lMembersAtL1_ok g g_ i fuel (IntKind.wrap .i64 ((((List.map Entry.row g_.entries).length : Nat) : Int) - 1)) _ h1) <|
    .reg [] [] [] <|
    .gh (.keep [4, 5]) trivial <|
    .leaf false [0, 1] [] (g_.config, g_.index)))) (by kernel_rfl)
def lMembers (fuel : Nat) (g_ : Log) : Option (Int × Int) :=
  (Option.bind (lMembersAt fuel g_ 18446744073709551615) fun (o1_0, o1_1) =>
  (some (o1_0, o1_1)))
theorem lMembers_ok (g : GT) (fuel : Nat) (g_ : Log) : FTO prog g.1 40 [.a (.s (.ref 0 0))] (Log.objs g_) (lMembers fuel g_)
    (fun (o0, o1) => ([], (.t [(.s (.c (.int .u64 o0))), (.s (.c (.int .u64 o1)))]), Log.objs g_)) :=
  Fn_go mixed func40 (
  .reg [] [] [] <|
  .reg [] [] [] <|
  .cond false (show false = false from rfl) <|
  .bind (fun | (o1_0, o1_1), h1 => (
  .reg [(1, (LK [0, 1] [1, 1] (lMembersAt_ok g fuel g_ 18446744073709551615 _ h1)))] [] [] <|
    .gh (.keep [2, 3]) trivial <|
    .leaf false [0, 1] [] (o1_0, o1_1)))) (by kernel_rfl)
def lCompact (fuel : Nat) (g_ : Log) (i : Int) (data : ByteArray) : Option (Int × Log) :=
  (Option.bind (lAt g_ i) fun o1_0 =>
  (iteB (decide (o1_0 < 0))
    (some (20, g_))
    (Option.bind (lMembersAt fuel g_ i) fun (o3_0, _) =>
      (ifP (0 ≤ o1_0 ∧ o1_0 < (((List.map Entry.row g_.entries).length : Nat) : Int))
        (Option.bind (g_.entries[(0 + (o1_0).toNat)]?) fun e5 =>
        (ifP (0 ≤ (IntKind.wrap .i64 (o1_0 + 1)) ∧ (IntKind.wrap .i64 (o1_0 + 1)) ≤ (((List.map Entry.row g_.entries).length : Nat) : Int) ∧ (((List.map Entry.row g_.entries).length : Nat) : Int) ≤ (((List.map Entry.row g_.entries).length : Nat) : Int))
        (ifP (((((List.map Entry.row g_.entries).length : Nat) : Int) - (IntKind.wrap .i64 (o1_0 + 1))).toNat = (List.map Entry.row (cut g_.entries (0 + ((IntKind.wrap .i64 (o1_0 + 1))).toNat) ((((List.map Entry.row g_.entries).length : Nat) : Int) - (IntKind.wrap .i64 (o1_0 + 1))).toNat)).length)
        (ifP ((List.map Entry.row (cut g_.entries (0 + ((IntKind.wrap .i64 (o1_0 + 1))).toNat) ((((List.map Entry.row g_.entries).length : Nat) : Int) - (IntKind.wrap .i64 (o1_0 + 1))).toNat)).length * 41 ≤ 70368744177664)
        (some (0, (Log.mk i e5.term o3_0 data (cut g_.entries (0 + ((IntKind.wrap .i64 (o1_0 + 1))).toNat) ((((List.map Entry.row g_.entries).length : Nat) : Int) - (IntKind.wrap .i64 (o1_0 + 1))).toNat))))))))))))
theorem lCompact_ok (g : GT) (fuel : Nat) (g_ : Log) (i : Int) (data : ByteArray) : FTO prog g.1 44 [.a (.s (.ref 0 0)), (.a (.s (.c (.int .u64 i)))), (.a (.s (.c (.string data))))] (Log.objs g_) (lCompact fuel g_ i data)
    (fun (o0, o1) => ([1], (.a (.s (.c (.int .i64 o0)))), Log.objs o1)) :=
  Fn_go mixed func44 (
  .reg [] [] [] <|
  .bind (fun o1_0 h1 =>
  .reg [(2, (LK [0, 1] [1, 1] (lAt_ok g g_ i _ h1)))] [] [] <|
    .reg [] [] [] <|
    .ite (fun h2 =>
    .cond true h2 <|
      .reg [] [] [] <|
      .gh (.keep [6]) trivial <|
      .leaf false [0, 1] [] (20, g_))
    (fun h2 =>
    .cond false h2 <|
      .bind (fun | (o3_0, _), h3 => (
      .reg [(2, (LK [0, 1] [1, 1] (lMembersAt_ok g fuel g_ i _ h3)))] [] [] <|
        .ifp (fun h4 =>
        .bind (fun e5 h5 =>
        .reg [(6, (J h4)), (8, (eL Entry.row h5))] [] [] <|
        .ifp (fun h6 =>
        .ifp (fun h7 =>
        .ifp (fun h8 =>
        .reg [(9, (J h6)), (10, (Ji (show (((cut (List.map Entry.row g_.entries) (0 + ((IntKind.wrap .i64 (o1_0 + 1))).toNat) ((((List.map Entry.row g_.entries).length : Nat) : Int) - (IntKind.wrap .i64 (o1_0 + 1))).toNat) = (List.map Entry.row (cut g_.entries (0 + ((IntKind.wrap .i64 (o1_0 + 1))).toNat) ((((List.map Entry.row g_.entries).length : Nat) : Int) - (IntKind.wrap .i64 (o1_0 + 1))).toNat)) ∧ (((((List.map Entry.row g_.entries).length : Nat) : Int) - (IntKind.wrap .i64 (o1_0 + 1))).toNat = (List.map Entry.row (cut g_.entries (0 + ((IntKind.wrap .i64 (o1_0 + 1))).toNat) ((((List.map Entry.row g_.entries).length : Nat) : Int) - (IntKind.wrap .i64 (o1_0 + 1))).toNat)).length)) ∧ ((List.map Entry.row (cut g_.entries (0 + ((IntKind.wrap .i64 (o1_0 + 1))).toNat) ((((List.map Entry.row g_.entries).length : Nat) : Int) - (IntKind.wrap .i64 (o1_0 + 1))).toNat)).length * 41 ≤ 70368744177664)) from ⟨⟨cut_map, h7⟩, h8⟩) (.ap [] (List.map Entry.row (cut g_.entries (0 + ((IntKind.wrap .i64 (o1_0 + 1))).toNat) ((((List.map Entry.row g_.entries).length : Nat) : Int) - (IntKind.wrap .i64 (o1_0 + 1))).toNat)) [])))] [] [] <|
        .reg [] [] [] <|
        .gh (.keep [6]) trivial <|
        .leaf false [0, 3] [] (0, (Log.mk i e5.term o3_0 data (cut g_.entries (0 + ((IntKind.wrap .i64 (o1_0 + 1))).toNat) ((((List.map Entry.row g_.entries).length : Nat) : Int) - (IntKind.wrap .i64 (o1_0 + 1))).toNat))))))))))))) (by kernel_rfl)
def lInstall (g_ : Log) (s : Snapshot) : Option (Int × Log) :=
  (Option.bind (qSound s.config) fun o1_0 =>
  (iteB o1_0
    (iteB (decide (s.index ≤ g_.index))
      (some (20, g_))
      (Option.bind (lTerm g_ s.index) fun (o4_0, o4_1) =>
        (iteB (o4_1 == 0)
          (iteB (o4_0 == s.term)
            (Option.bind (lAt g_ s.index) fun o7_0 =>
              (ifP (0 ≤ (IntKind.wrap .i64 (o7_0 + 1)) ∧ (IntKind.wrap .i64 (o7_0 + 1)) ≤ (((List.map Entry.row g_.entries).length : Nat) : Int) ∧ (((List.map Entry.row g_.entries).length : Nat) : Int) ≤ (((List.map Entry.row g_.entries).length : Nat) : Int))
                (ifP (((((List.map Entry.row g_.entries).length : Nat) : Int) - (IntKind.wrap .i64 (o7_0 + 1))).toNat = (List.map Entry.row (cut g_.entries (0 + ((IntKind.wrap .i64 (o7_0 + 1))).toNat) ((((List.map Entry.row g_.entries).length : Nat) : Int) - (IntKind.wrap .i64 (o7_0 + 1))).toNat)).length)
                (ifP ((List.map Entry.row (cut g_.entries (0 + ((IntKind.wrap .i64 (o7_0 + 1))).toNat) ((((List.map Entry.row g_.entries).length : Nat) : Int) - (IntKind.wrap .i64 (o7_0 + 1))).toNat)).length * 41 ≤ 70368744177664)
                (some (0, (Log.mk s.index s.term s.config s.data (cut g_.entries (0 + ((IntKind.wrap .i64 (o7_0 + 1))).toNat) ((((List.map Entry.row g_.entries).length : Nat) : Int) - (IntKind.wrap .i64 (o7_0 + 1))).toNat))))))))
            (some (0, (Log.mk s.index s.term s.config s.data []))))
          (some (0, (Log.mk s.index s.term s.config s.data []))))))
    (some (1, g_))))
theorem lInstall_ok (g : GT) (g_ : Log) (s : Snapshot) : FTO prog g.1 54 [.a (.s (.ref 0 0)), .a (.g (Snapshot.row s))] (Log.objs g_) (lInstall g_ s)
    (fun (o0, o1) => ([1], (.a (.s (.c (.int .i64 o0)))), Log.objs o1)) :=
  Fn_go mixed func54 (
  .reg [] [] [] <|
  .bind (fun _ h1 =>
  .reg [(5, (CL [] [1] (qSound_ok g s.config _ h1))), (7, (pS false))] [(2, gS false)] [] <|
    .ite (fun h2 =>
    .cond false (congrArg not h2) <|
      .reg [] [] [] <|
      .ite (fun h3 =>
      .cond true h3 <|
        .reg [] [] [] <|
        .gh (.keep [4]) trivial <|
        .leaf false [0, 1] [] (20, g_))
      (fun h3 =>
      .cond false h3 <|
        .reg [] [] [] <|
        .bind (fun | _, h4 => (
        .reg [(3, (LK [0, 1] [1, 1] (lTerm_ok g g_ s.index _ h4)))] [] [] <|
          .ite (fun h5 =>
          .reg [(7, (pB h5))] [(2, gB h5)] [] <|
            .ite (fun h6 =>
            .cond true h6 <|
              .bind (fun o7_0 h7 =>
              .ifp (fun h8 =>
                .ifp (fun h9 =>
                .ifp (fun h10 =>
                .reg [(8, (LK [0, 1] [1, 1] (lAt_ok g g_ s.index _ h7))), (10, (J h8)), (11, (Ji (show (((cut (List.map Entry.row g_.entries) (0 + ((IntKind.wrap .i64 (o7_0 + 1))).toNat) ((((List.map Entry.row g_.entries).length : Nat) : Int) - (IntKind.wrap .i64 (o7_0 + 1))).toNat) = (List.map Entry.row (cut g_.entries (0 + ((IntKind.wrap .i64 (o7_0 + 1))).toNat) ((((List.map Entry.row g_.entries).length : Nat) : Int) - (IntKind.wrap .i64 (o7_0 + 1))).toNat)) ∧ (((((List.map Entry.row g_.entries).length : Nat) : Int) - (IntKind.wrap .i64 (o7_0 + 1))).toNat = (List.map Entry.row (cut g_.entries (0 + ((IntKind.wrap .i64 (o7_0 + 1))).toNat) ((((List.map Entry.row g_.entries).length : Nat) : Int) - (IntKind.wrap .i64 (o7_0 + 1))).toNat)).length)) ∧ ((List.map Entry.row (cut g_.entries (0 + ((IntKind.wrap .i64 (o7_0 + 1))).toNat) ((((List.map Entry.row g_.entries).length : Nat) : Int) - (IntKind.wrap .i64 (o7_0 + 1))).toNat)).length * 41 ≤ 70368744177664)) from ⟨⟨cut_map, h9⟩, h10⟩) (.ap [] (List.map Entry.row (cut g_.entries (0 + ((IntKind.wrap .i64 (o7_0 + 1))).toNat) ((((List.map Entry.row g_.entries).length : Nat) : Int) - (IntKind.wrap .i64 (o7_0 + 1))).toNat)) [])))] [] [] <|
                .reg [] [] [] <|
                .reg [] [] [] <|
                .gh (.keep [4]) trivial <|
                .leaf false [0, 3] [] (0, (Log.mk s.index s.term s.config s.data (cut g_.entries (0 + ((IntKind.wrap .i64 (o7_0 + 1))).toNat) ((((List.map Entry.row g_.entries).length : Nat) : Int) - (IntKind.wrap .i64 (o7_0 + 1))).toNat))))))))
            (fun h6 =>
            .cond false h6 <|
              .reg [] [] [] <|
              .adoptC 0 4 4 <|
              .reg [] [] [] <|
              .gh (.keep [4]) trivial <|
              .leaf false [0, 3] [] (0, (Log.mk s.index s.term s.config s.data []))))
          (fun h5 =>
          .reg [(7, (pB h5))] [(2, gB h5)] [] <|
            .cond false (show false = false from rfl) <|
            .reg [] [] [] <|
            .adoptC 0 4 4 <|
            .reg [] [] [] <|
            .gh (.keep [4]) trivial <|
            .leaf false [0, 3] [] (0, (Log.mk s.index s.term s.config s.data [])))))))
    (fun h2 =>
    .cond true (congrArg not h2) <|
      .reg [] [] [] <|
      .gh (.keep [4]) trivial <|
      .leaf false [0, 1] [] (1, g_)))) (by kernel_rfl)
def lNewL1 (s : Snapshot) (l : List Entry) : Nat → Int → Log → Option (Log ⊕ Log)
  | 0, _, _ => none
  | fuel + 1, a1v0, a1g0 =>
  (iteB (decide (a1v0 < (((List.map Entry.row l).length : Nat) : Int)))
  (ifP (0 ≤ a1v0)
    (Option.bind (l[(a1v0).toNat]?) fun a1e3 =>
    (Option.bind (lLast a1g0) fun (a1o4_0, a1o4_1) =>
    (Option.bind (lSound fuel a1e3 (IntKind.wrap .u64 (a1o4_0 + 1)) a1o4_1) fun a1o5_0 =>
      (iteB a1o5_0
        (ifP (1 = (List.map Entry.row (cut [a1e3] 0 1)).length)
          (ifP (((List.map Entry.row a1g0.entries).length + (List.map Entry.row (cut [a1e3] 0 1)).length) * 41 ≤ 70368744177664)
          (lNewL1 s l fuel (IntKind.wrap .i64 (a1v0 + 1)) (Log.mk a1g0.index a1g0.term a1g0.config a1g0.data (a1g0.entries ++ (cut [a1e3] 0 1))))))
        (some (Sum.inl a1g0)))))))
  (some (Sum.inr a1g0)))
theorem lNewL1_ok (g : GT) (s : Snapshot) (l : List Entry) : ∀ (fuel : Nat) (v : Int × Log), PcO prog g.1 (.loop (subC [1, 1, 1, 0, 1, 0, 0] (bodyOf f10))) ((fun (a1v0, a1g0) => ({ tm := mkTm 47 [(6, (.a (.s (.ref 1 0)))), (18, (.a (.s (.ssl 4 (List.map Entry.row l))))), (19, (.a (.s (.c (.int .i64 (((List.map Entry.row l).length : Nat) : Int)))))), (20, (.a (.s (.c (.int .i64 a1v0)))))], hp := [.cells [.one (.c (.int .u64 s.index)), .one (.c (.int .u64 s.term)), .one (.c (.int .u64 s.config)), .one (.c (.string s.data))], .cells [.one (.c (.int .u64 a1g0.index)), .one (.c (.int .u64 a1g0.term)), .one (.c (.int .u64 a1g0.config)), .one (.c (.string a1g0.data)), .one (.sl 2 0 4 0 (List.map Entry.row a1g0.entries).length)], .arr 4 (List.map Entry.row a1g0.entries)], mv := [2] } : St)) v) (lNewL1 s l fuel v.1 v.2)
    (Sum.elim (fun o0 => (.ret, { tm := mkTm 47 [(4, (.a (.s (.c (.pointer none))))), (5, (.a (.s (.c (.int .i64 1)))))], hp := [.cells [.one (.c (.int .u64 s.index)), .one (.c (.int .u64 s.term)), .one (.c (.int .u64 s.config)), .one (.c (.string s.data))], .cells [.one (.c (.int .u64 o0.index)), .one (.c (.int .u64 o0.term)), .one (.c (.int .u64 o0.config)), .one (.c (.string o0.data)), .one (.sl 2 0 4 0 (List.map Entry.row o0.entries).length)], .arr 4 (List.map Entry.row o0.entries)], mv := [2] })) (fun o0 => ((.exit 0), { tm := mkTm 47 [(6, (.a (.s (.ref 1 0))))], hp := [.cells [.one (.c (.int .u64 s.index)), .one (.c (.int .u64 s.term)), .one (.c (.int .u64 s.config)), .one (.c (.string s.data))], .cells [.one (.c (.int .u64 o0.index)), .one (.c (.int .u64 o0.term)), .one (.c (.int .u64 o0.config)), .one (.c (.string o0.data)), .one (.sl 2 0 4 0 (List.map Entry.row o0.entries).length)], .arr 4 (List.map Entry.row o0.entries)], mv := [2] }))) :=
  Lo_go (rec := (fun n (v : Int × Log) => lNewL1 s l n v.1 v.2)) mixed (fun _ => rfl)
    (fun | fuel, (a1v0, a1g0) => (
    .reg [] [] [] <|
    .ite (fun a1h1 =>
    .cond true a1h1 <|
      .ifp (fun a1h2 =>
      .bind (fun a1e3 a1h3 =>
      .reg [(0, (eA Entry.row a1h2 a1h3))] [] [] <|
      .bind (fun | (a1o4_0, a1o4_1), a1h4 => (
      .reg [(1, (LK [1, 2] [1] (lLast_ok g a1g0 _ a1h4)))] [] [] <|
        .bind (fun _ a1h5 =>
        .reg [(4, (CL [] [4, 1, 1] (lSound_ok g fuel a1e3 (IntKind.wrap .u64 (a1o4_0 + 1)) a1o4_1 _ a1h5)))] [] [] <|
          .ite (fun a1h6 =>
          .cond false (congrArg not a1h6) <|
            .ifp (fun a1h7 =>
            .ifp (fun a1h8 =>
            .reg [(7, (Ji (show ((List.map Entry.row a1g0.entries) ++ (List.map Entry.row (cut [a1e3] 0 1)) = (List.map Entry.row (a1g0.entries ++ (cut [a1e3] 0 1))) ∧ (cut (List.map Entry.row a1g0.entries) 0 (List.map Entry.row a1g0.entries).length = (List.map Entry.row a1g0.entries) ∧ (List.map Entry.row a1g0.entries).length = (List.map Entry.row a1g0.entries).length) ∧ ((cut (List.map Entry.row [a1e3]) 0 1) = (List.map Entry.row (cut [a1e3] 0 1)) ∧ (1 = (List.map Entry.row (cut [a1e3] 0 1)).length)) ∧ (((List.map Entry.row a1g0.entries).length + (List.map Entry.row (cut [a1e3] 0 1)).length) * 41 ≤ 70368744177664)) from ⟨app_map, ⟨cut_all rfl, rfl⟩, ⟨cut_map, a1h7⟩, a1h8⟩) (.ap (List.map Entry.row a1g0.entries) (List.map Entry.row (cut [a1e3] 0 1)) (List.map Entry.row (a1g0.entries ++ (cut [a1e3] 0 1))))))] [] [] <|
            .reg [] [] [] <|
            .gh (.keep [6, 18, 19, 20]) trivial <|
            .again true ((IntKind.wrap .i64 (a1v0 + 1)), (Log.mk a1g0.index a1g0.term a1g0.config a1g0.data (a1g0.entries ++ (cut [a1e3] 0 1)))))))
          (fun a1h6 =>
          .cond true (congrArg not a1h6) <|
            .reg [] [] [] <|
            .gh (.keep [4, 5]) trivial <|
            .leaf true [] [] (Sum.inl a1g0))))))))
    (fun a1h1 =>
    .cond false a1h1 <|
      .gh (.keep [6]) trivial <|
      .leaf true [] [] (Sum.inr a1g0)))) (fun _ _ => by kernel_rfl)
def lNew (fuel : Nat) (s : Snapshot) (l : List Entry) : Option (Unit ⊕ Log) :=
  (Option.bind (qSound s.config) fun o1_0 =>
  (iteB o1_0
    (Option.bind (lNewL1 s l fuel (0 : Int) (Log.mk s.index s.term s.config s.data [])) fun o3 => sumC o3 (fun _ =>
      (some (Sum.inl ())))
      (fun o3_0 =>
      (some (Sum.inr o3_0))))
    (some (Sum.inl ()))))
theorem lNew_ok (g : GT) (fuel : Nat) (s : Snapshot) (l : List Entry) : FTO prog g.1 10 [.a (.g (Snapshot.row s)), (.a (.s (.ssl 4 (List.map Entry.row l))))] [] (lNew fuel s l)
    (Sum.elim (fun _ => ([], (.t [(.s (.c (.pointer none))), (.s (.c (.int .i64 1)))]), [])) (fun o1 => ([], (.t [(.s (.ref 0 0)), (.s (.c (.int .i64 0)))]), Log.objs o1))) :=
  Fn_go mixed func10 (
  .reg [] [] [] <|
  .bind (fun _ h1 =>
  .reg [(2, (CL [] [1] (qSound_ok g s.config _ h1)))] [] [] <|
    .ite (fun h2 =>
    .cond false (congrArg not h2) <|
      .reg [] [] [] <|
      .adoptC 1 4 4 <|
      .reg [] [] [] <|
      .gh (.keep [6, 18, 19, 20]) trivial <|
      .gh (.mv [2]) trivial <|
      .bind (fun _ k3 => .sum (fun _ s3 =>
      have h3 := k3.trans (congrArg some s3)
      .claim false (lNewL1_ok g s l fuel ((0 : Int), (Log.mk s.index s.term s.config s.data [])) _ h3) <|
        .gh (.keep [4, 5]) trivial <|
        .leaf false [] [] (Sum.inl ()))
      (fun o3_0 s3 =>
      have h3 := k3.trans (congrArg some s3)
      .claim false (lNewL1_ok g s l fuel ((0 : Int), (Log.mk s.index s.term s.config s.data [])) _ h3) <|
        .reg [] [] [] <|
        .gh (.keep [4, 5]) trivial <|
        .leaf false [1, 2] [] (Sum.inr o3_0))))
    (fun h2 =>
    .cond true (congrArg not h2) <|
      .reg [] [] [] <|
      .gh (.keep [4, 5]) trivial <|
      .leaf false [] [] (Sum.inl ())))) (by kernel_rfl)
def lMergeL1 (g_ : Log) (index : Int) (term : Int) (l : List Entry) : Nat → Int → Option (Unit ⊕ Unit)
  | 0, _ => none
  | fuel + 1, a1v0 =>
  (iteB (decide (a1v0 < (((List.map Entry.row l).length : Nat) : Int)))
  (ifP (0 ≤ a1v0)
    (Option.bind (l[(a1v0).toNat]?) fun a1e3 =>
    (iteB (decide (a1v0 > 0))
    (ifP (0 ≤ (IntKind.wrap .i64 (a1v0 - 1)))
      (Option.bind (l[((IntKind.wrap .i64 (a1v0 - 1))).toNat]?) fun a1e6 =>
      (Option.bind (lSound fuel a1e3 (IntKind.wrap .u64 ((IntKind.wrap .u64 (index + 1)) + (IntKind.wrap .u64 a1v0))) a1e6.term) fun a1o7_0 =>
      (iteB a1o7_0
        (lMergeL1 g_ index term l fuel (IntKind.wrap .i64 (a1v0 + 1)))
        (some (Sum.inl ()))))))
    (Option.bind (lSound fuel a1e3 (IntKind.wrap .u64 ((IntKind.wrap .u64 (index + 1)) + (IntKind.wrap .u64 a1v0))) term) fun a1o5_0 =>
      (iteB a1o5_0
        (lMergeL1 g_ index term l fuel (IntKind.wrap .i64 (a1v0 + 1)))
        (some (Sum.inl ())))))))
  (some (Sum.inr ())))
theorem lMergeL1_ok (g : GT) (g_ : Log) (index : Int) (term : Int) (l : List Entry) : ∀ (fuel : Nat) (v : Int), PcO prog g.1 (.loop (subC [1, 1, 0, 1, 0, 0] (bodyOf f53))) ((fun a1v0 => ({ tm := mkTm 172 [(0, (.a (.s (.ref 0 0)))), (1, (.a (.s (.c (.int .u64 index))))), (2, (.a (.s (.c (.int .u64 term))))), (3, (.a (.s (.ssl 4 (List.map Entry.row l))))), (20, (.a (.s (.ssl 4 (List.map Entry.row l))))), (21, (.a (.s (.c (.int .i64 (((List.map Entry.row l).length : Nat) : Int)))))), (22, (.a (.s (.c (.int .i64 a1v0)))))], hp := [.cells [.one (.c (.int .u64 g_.index)), .one (.c (.int .u64 g_.term)), .one (.c (.int .u64 g_.config)), .one (.c (.string g_.data)), .one (.sl 1 0 4 0 (List.map Entry.row g_.entries).length)], .arr 4 (List.map Entry.row g_.entries)], mv := [] } : St)) v) (lMergeL1 g_ index term l fuel v)
    (Sum.elim (fun _ => (.ret, { tm := mkTm 172 [(8, (.a (.s (.c (.slice none 0 0))))), (9, (.a (.s (.c (.bool false)))))], hp := [.cells [.one (.c (.int .u64 g_.index)), .one (.c (.int .u64 g_.term)), .one (.c (.int .u64 g_.config)), .one (.c (.string g_.data)), .one (.sl 1 0 4 0 (List.map Entry.row g_.entries).length)], .arr 4 (List.map Entry.row g_.entries)], mv := [] })) (fun _ => ((.exit 0), { tm := mkTm 172 [(0, (.a (.s (.ref 0 0)))), (1, (.a (.s (.c (.int .u64 index))))), (2, (.a (.s (.c (.int .u64 term))))), (3, (.a (.s (.ssl 4 (List.map Entry.row l)))))], hp := [.cells [.one (.c (.int .u64 g_.index)), .one (.c (.int .u64 g_.term)), .one (.c (.int .u64 g_.config)), .one (.c (.string g_.data)), .one (.sl 1 0 4 0 (List.map Entry.row g_.entries).length)], .arr 4 (List.map Entry.row g_.entries)], mv := [] }))) :=
  Lo_go (rec := (fun n (v : Int) => lMergeL1 g_ index term l n v)) mixed (fun _ => rfl)
    (fun fuel a1v0 =>
    .reg [] [] [] <|
    .ite (fun a1h1 =>
    .cond true a1h1 <|
      .ifp (fun a1h2 =>
      .bind (fun a1e3 a1h3 =>
      .reg [(1, (eA Entry.row a1h2 a1h3))] [] [] <|
      .reg [] [] [] <|
      .reg [] [] [] <|
      .ite (fun a1h4 =>
      .cond true a1h4 <|
        .ifp (fun a1h5 =>
        .bind (fun a1e6 a1h6 =>
        .reg [(3, (eA Entry.row a1h5 a1h6))] [] [] <|
        .bind (fun _ a1h7 =>
        .reg [(7, (CL [] [4, 1, 1] (lSound_ok g fuel a1e3 (IntKind.wrap .u64 ((IntKind.wrap .u64 (index + 1)) + (IntKind.wrap .u64 a1v0))) a1e6.term _ a1h7)))] [] [] <|
          .ite (fun a1h8 =>
          .cond false (congrArg not a1h8) <|
            .reg [] [] [] <|
            .gh (.keep [0, 1, 2, 3, 20, 21, 22]) trivial <|
            .again true (IntKind.wrap .i64 (a1v0 + 1)))
          (fun a1h8 =>
          .cond true (congrArg not a1h8) <|
            .reg [] [] [] <|
            .gh (.keep [8, 9]) trivial <|
            .leaf true [] [] (Sum.inl ()))))))
      (fun a1h4 =>
      .cond false a1h4 <|
        .bind (fun _ a1h5 =>
        .reg [(7, (CL [] [4, 1, 1] (lSound_ok g fuel a1e3 (IntKind.wrap .u64 ((IntKind.wrap .u64 (index + 1)) + (IntKind.wrap .u64 a1v0))) term _ a1h5)))] [] [] <|
          .ite (fun a1h6 =>
          .cond false (congrArg not a1h6) <|
            .reg [] [] [] <|
            .gh (.keep [0, 1, 2, 3, 20, 21, 22]) trivial <|
            .again true (IntKind.wrap .i64 (a1v0 + 1)))
          (fun a1h6 =>
          .cond true (congrArg not a1h6) <|
            .reg [] [] [] <|
            .gh (.keep [8, 9]) trivial <|
            .leaf true [] [] (Sum.inl ())))))))
    (fun a1h1 =>
    .cond false a1h1 <|
      .gh (.keep [0, 1, 2, 3]) trivial <|
      .leaf true [] [] (Sum.inr ()))) (fun _ _ => by kernel_rfl)
def lMergeL4 (g_ : Log) : Nat → Int → Int → List Entry → Option (Int × Int × (List Entry))
  | 0, _, _, _ => none
  | fuel + 1, a4v0, a4v1, a4v2 =>
  (iteB (decide ((((List.map Entry.row a4v2).length : Nat) : Int) > 0))
  (Option.bind (a4v2[0]?) fun a4e2 =>
    (iteB (decide (a4e2.index ≤ g_.index))
    (ifP (0 ≤ (1 : Int) ∧ (1 : Int) ≤ (((List.map Entry.row a4v2).length : Nat) : Int) ∧ (((List.map Entry.row a4v2).length : Nat) : Int) ≤ (((List.map Entry.row a4v2).length : Nat) : Int))
      (lMergeL4 g_ fuel a4e2.index a4e2.term (cut a4v2 1 ((((List.map Entry.row a4v2).length : Nat) : Int) - 1).toNat)))
    (some (a4v0, a4v1, a4v2))))
  (some (a4v0, a4v1, a4v2)))
theorem lMergeL4_ok (g : GT) (g_ : Log) : ∀ (fuel : Nat) (v : Int × Int × (List Entry)), PcO prog g.1 (.loop (subC [1, 1, 1, 0, 0, 0] (bodyOf f53))) ((fun (a4v0, a4v1, a4v2) => ({ tm := mkTm 172 [(0, (.a (.s (.ref 0 0)))), (1, (.a (.s (.c (.int .u64 a4v0))))), (2, (.a (.s (.c (.int .u64 a4v1))))), (3, (.a (.s (.ssl 4 (List.map Entry.row a4v2)))))], hp := [.cells [.one (.c (.int .u64 g_.index)), .one (.c (.int .u64 g_.term)), .one (.c (.int .u64 g_.config)), .one (.c (.string g_.data)), .one (.sl 1 0 4 0 (List.map Entry.row g_.entries).length)], .arr 4 (List.map Entry.row g_.entries)], mv := [] } : St)) v) (lMergeL4 g_ fuel v.1 v.2.1 v.2.2)
    (fun (o0, o1, o2) => ((.exit 2), { tm := mkTm 172 [(0, (.a (.s (.ref 0 0)))), (1, (.a (.s (.c (.int .u64 o0))))), (2, (.a (.s (.c (.int .u64 o1))))), (3, (.a (.s (.ssl 4 (List.map Entry.row o2)))))], hp := [.cells [.one (.c (.int .u64 g_.index)), .one (.c (.int .u64 g_.term)), .one (.c (.int .u64 g_.config)), .one (.c (.string g_.data)), .one (.sl 1 0 4 0 (List.map Entry.row g_.entries).length)], .arr 4 (List.map Entry.row g_.entries)], mv := [] })) :=
  Lo_go (rec := (fun n (v : Int × Int × (List Entry)) => lMergeL4 g_ n v.1 v.2.1 v.2.2)) mixed (fun _ => rfl)
    (fun | _, (a4v0, a4v1, a4v2) => (
    .ite (fun a4h1 =>
    .bind (fun a4e2 a4h2 =>
      .reg [(5, (Ji (show (0 ≤ (0 : Int) ∧ (List.map Entry.row a4v2)[0]? = some (Entry.row a4e2)) from ⟨(by decide), map_get a4h2⟩) (.e (Entry.row a4e2)))), (14, (pB a4h1))] [(3, gB a4h1)] [] <|
      .ite (fun a4h3 =>
      .cond true a4h3 <|
        .reg [(1, (Ji (show (0 ≤ (0 : Int) ∧ (List.map Entry.row a4v2)[0]? = some (Entry.row a4e2)) from ⟨(by decide), map_get a4h2⟩) (.e (Entry.row a4e2)))), (5, (Ji (show (0 ≤ (0 : Int) ∧ (List.map Entry.row a4v2)[0]? = some (Entry.row a4e2)) from ⟨(by decide), map_get a4h2⟩) (.e (Entry.row a4e2))))] [] [] <|
        .ifp (fun a4h4 =>
        .reg [(1, (J a4h4))] [] [] <|
        .eqT 3 ((.a (.s (.ssl 4 (List.map Entry.row (cut a4v2 1 ((((List.map Entry.row a4v2).length : Nat) : Int) - 1).toNat)))))) (show ((.a (.s (.ssl 4 (cut (List.map Entry.row a4v2) 1 ((((List.map Entry.row a4v2).length : Nat) : Int) - 1).toNat)))) : T) = (.a (.s (.ssl 4 (List.map Entry.row (cut a4v2 1 ((((List.map Entry.row a4v2).length : Nat) : Int) - 1).toNat))))) from (congrArg (fun z => (.a (.s (.ssl 4 z)) : T)) cut_map)) <|
        .eqT 70 ((.a (.s (.ssl 4 (List.map Entry.row (cut a4v2 1 ((((List.map Entry.row a4v2).length : Nat) : Int) - 1).toNat)))))) (show ((.a (.s (.ssl 4 (cut (List.map Entry.row a4v2) 1 ((((List.map Entry.row a4v2).length : Nat) : Int) - 1).toNat)))) : T) = (.a (.s (.ssl 4 (List.map Entry.row (cut a4v2 1 ((((List.map Entry.row a4v2).length : Nat) : Int) - 1).toNat))))) from (congrArg (fun z => (.a (.s (.ssl 4 z)) : T)) cut_map)) <|
        .gh (.keep [0, 1, 2, 3]) trivial <|
        .again true (a4e2.index, a4e2.term, (cut a4v2 1 ((((List.map Entry.row a4v2).length : Nat) : Int) - 1).toNat))))
      (fun a4h3 =>
      .cond false a4h3 <|
        .gh (.keep [0, 1, 2, 3]) trivial <|
        .leaf true [] [] (a4v0, a4v1, a4v2))))
    (fun a4h1 =>
    .reg [(14, (pB a4h1))] [(3, gB a4h1)] [] <|
      .cond false (show false = false from rfl) <|
      .gh (.keep [0, 1, 2, 3]) trivial <|
      .leaf true [] [] (a4v0, a4v1, a4v2)))) (fun _ _ => by kernel_rfl)
def lMergeL5 (g_ : Log) (o2_2 : List Entry) : Nat → Int → Option ((Int × Int × Int × ByteArray × (List Entry) × (List Entry)) ⊕ ((Int × Int × Int × ByteArray × (List Entry) × Log) ⊕ Unit))
  | 0, _ => none
  | fuel + 1, a5v0 =>
  (iteB (decide (a5v0 < (((List.map Entry.row o2_2).length : Nat) : Int)))
  (ifP (0 ≤ a5v0)
    (Option.bind (o2_2[(a5v0).toNat]?) fun a5e3 =>
    (Option.bind (lAt g_ a5e3.index) fun a5o4_0 =>
    (iteB (decide (a5o4_0 ≥ 0))
      (ifP (0 ≤ a5o4_0 ∧ a5o4_0 < (((List.map Entry.row g_.entries).length : Nat) : Int))
        (Option.bind (g_.entries[(0 + (a5o4_0).toNat)]?) fun a5e7 =>
        (iteB (a5e7.term == a5e3.term)
        (lMergeL5 g_ o2_2 fuel (IntKind.wrap .i64 (a5v0 + 1)))
        (ifP (0 ≤ (0 : Int) ∧ (0 : Int) ≤ a5o4_0 ∧ a5o4_0 ≤ (((List.map Entry.row g_.entries).length : Nat) : Int))
          (ifP ((a5o4_0 - 0).toNat = (List.map Entry.row (cut g_.entries 0 (a5o4_0 - 0).toNat)).length)
          (ifP ((List.map Entry.row (cut g_.entries 0 (a5o4_0 - 0).toNat)).length * 41 ≤ 70368744177664)
          (ifP (0 ≤ a5v0 ∧ a5v0 ≤ (((List.map Entry.row o2_2).length : Nat) : Int) ∧ (((List.map Entry.row o2_2).length : Nat) : Int) ≤ (((List.map Entry.row o2_2).length : Nat) : Int))
          (ifP (((List.map Entry.row (cut g_.entries 0 (a5o4_0 - 0).toNat)).length + (List.map Entry.row (cut o2_2 (a5v0).toNat ((((List.map Entry.row o2_2).length : Nat) : Int) - a5v0).toNat)).length) * 41 ≤ 70368744177664)
          (ifP ((List.map Entry.row (cut o2_2 (a5v0).toNat ((((List.map Entry.row o2_2).length : Nat) : Int) - a5v0).toNat)).length * 41 ≤ 70368744177664)
          (some (Sum.inl (a5e3.term, a5e3.index, a5e3.kind, a5e3.data, ((cut g_.entries 0 (a5o4_0 - 0).toNat) ++ (cut o2_2 (a5v0).toNat ((((List.map Entry.row o2_2).length : Nat) : Int) - a5v0).toNat)), (cut o2_2 (a5v0).toNat ((((List.map Entry.row o2_2).length : Nat) : Int) - a5v0).toNat)))))))))))))
      (ifP (0 ≤ a5v0 ∧ a5v0 ≤ (((List.map Entry.row o2_2).length : Nat) : Int) ∧ (((List.map Entry.row o2_2).length : Nat) : Int) ≤ (((List.map Entry.row o2_2).length : Nat) : Int))
        (ifP (((List.map Entry.row g_.entries).length + (List.map Entry.row (cut o2_2 (a5v0).toNat ((((List.map Entry.row o2_2).length : Nat) : Int) - a5v0).toNat)).length) * 41 ≤ 70368744177664)
        (ifP ((List.map Entry.row (cut o2_2 (a5v0).toNat ((((List.map Entry.row o2_2).length : Nat) : Int) - a5v0).toNat)).length * 41 ≤ 70368744177664)
        (some (Sum.inr (Sum.inl (a5e3.term, a5e3.index, a5e3.kind, a5e3.data, (cut o2_2 (a5v0).toNat ((((List.map Entry.row o2_2).length : Nat) : Int) - a5v0).toNat), (Log.mk g_.index g_.term g_.config g_.data (g_.entries ++ (cut o2_2 (a5v0).toNat ((((List.map Entry.row o2_2).length : Nat) : Int) - a5v0).toNat))))))))))))))
  (some (Sum.inr (Sum.inr ()))))
theorem lMergeL5_ok (g : GT) (g_ : Log) (o2_2 : List Entry) : ∀ (fuel : Nat) (v : Int), PcO prog g.1 (.loop (subC [1, 1, 1, 1, 1, 1, 0, 1, 0, 0] (bodyOf f53))) ((fun a5v0 => ({ tm := mkTm 172 [(0, (.a (.s (.ref 0 0)))), (3, (.a (.s (.ssl 4 (List.map Entry.row o2_2))))), (118, (.a (.s (.ssl 4 (List.map Entry.row o2_2))))), (119, (.a (.s (.c (.int .i64 (((List.map Entry.row o2_2).length : Nat) : Int)))))), (120, (.a (.s (.c (.int .i64 a5v0)))))], hp := [.cells [.one (.c (.int .u64 g_.index)), .one (.c (.int .u64 g_.term)), .one (.c (.int .u64 g_.config)), .one (.c (.string g_.data)), .one (.sl 1 0 4 0 (List.map Entry.row g_.entries).length)], .arr 4 (List.map Entry.row g_.entries)], mv := [] } : St)) v) (lMergeL5 g_ o2_2 fuel v)
    (Sum.elim (fun (o0, o1, o2, o3, o4, o5) => (.ret, { tm := mkTm 172 [(8, (.a (.s (.sl 4 0 4 0 (List.map Entry.row o5).length)))), (9, (.a (.s (.c (.bool true)))))], hp := [.cells [.one (.c (.int .u64 g_.index)), .one (.c (.int .u64 g_.term)), .one (.c (.int .u64 g_.config)), .one (.c (.string g_.data)), .one (.sl 3 0 4 0 (List.map Entry.row o4).length)], .arr 4 (List.map Entry.row g_.entries), .cells [.one (.c (.int .u64 o0)), .one (.c (.int .u64 o1)), .one (.c (.int .i64 o2)), .one (.c (.string o3))], .arr 4 (List.map Entry.row o4), .arr 4 (List.map Entry.row o5)], mv := [3] })) (Sum.elim (fun (o0, o1, o2, o3, o4, o5) => (.ret, { tm := mkTm 172 [(8, (.a (.s (.sl 3 0 4 0 (List.map Entry.row o4).length)))), (9, (.a (.s (.c (.bool true)))))], hp := [.cells [.one (.c (.int .u64 o5.index)), .one (.c (.int .u64 o5.term)), .one (.c (.int .u64 o5.config)), .one (.c (.string o5.data)), .one (.sl 1 0 4 0 (List.map Entry.row o5.entries).length)], .arr 4 (List.map Entry.row o5.entries), .cells [.one (.c (.int .u64 o0)), .one (.c (.int .u64 o1)), .one (.c (.int .i64 o2)), .one (.c (.string o3))], .arr 4 (List.map Entry.row o4)], mv := [1] })) (fun _ => ((.exit 4), { tm := mkTm 172 [], hp := [.cells [.one (.c (.int .u64 g_.index)), .one (.c (.int .u64 g_.term)), .one (.c (.int .u64 g_.config)), .one (.c (.string g_.data)), .one (.sl 1 0 4 0 (List.map Entry.row g_.entries).length)], .arr 4 (List.map Entry.row g_.entries)], mv := [] })))) :=
  Lo_go (rec := (fun n (v : Int) => lMergeL5 g_ o2_2 n v)) mixed (fun _ => rfl)
    (fun _ a5v0 =>
    .reg [] [] [] <|
    .ite (fun a5h1 =>
    .cond true a5h1 <|
      .ifp (fun a5h2 =>
      .bind (fun a5e3 a5h3 =>
      .reg [(1, (eA Entry.row a5h2 a5h3))] [] [] <|
      .bind (fun a5o4_0 a5h4 =>
      .reg [(3, (LK [0, 1] [1, 1] (lAt_ok g g_ a5e3.index _ a5h4)))] [] [] <|
        .ite (fun a5h5 =>
        .ifp (fun a5h6 =>
          .bind (fun _ a5h7 =>
          .reg [(8, (J a5h6)), (10, (eL Entry.row a5h7)), (14, (pB a5h5))] [(2, gB a5h5)] [] <|
          .ite (fun a5h8 =>
          .cond true a5h8 <|
            .reg [] [] [] <|
            .gh (.keep [0, 3, 118, 119, 120]) trivial <|
            .again true (IntKind.wrap .i64 (a5v0 + 1)))
          (fun a5h8 =>
          .cond false a5h8 <|
            .reg [] [] [] <|
            .cond true a5h5 <|
            .ifp (fun a5h9 =>
            .ifp (fun a5h10 =>
            .ifp (fun a5h11 =>
            .reg [(6, (J a5h9)), (7, (Ji (show (((cut (List.map Entry.row g_.entries) 0 (a5o4_0 - 0).toNat) = (List.map Entry.row (cut g_.entries 0 (a5o4_0 - 0).toNat)) ∧ ((a5o4_0 - 0).toNat = (List.map Entry.row (cut g_.entries 0 (a5o4_0 - 0).toNat)).length)) ∧ ((List.map Entry.row (cut g_.entries 0 (a5o4_0 - 0).toNat)).length * 41 ≤ 70368744177664)) from ⟨⟨cut_map, a5h10⟩, a5h11⟩) (.ap [] (List.map Entry.row (cut g_.entries 0 (a5o4_0 - 0).toNat)) [])))] [] [] <|
            .ifp (fun a5h12 =>
            .ifp (fun a5h13 =>
            .reg [(7, (J a5h12)), (8, (Ji (show ((List.map Entry.row (cut g_.entries 0 (a5o4_0 - 0).toNat)) ++ (List.map Entry.row (cut o2_2 (a5v0).toNat ((((List.map Entry.row o2_2).length : Nat) : Int) - a5v0).toNat)) = (List.map Entry.row ((cut g_.entries 0 (a5o4_0 - 0).toNat) ++ (cut o2_2 (a5v0).toNat ((((List.map Entry.row o2_2).length : Nat) : Int) - a5v0).toNat))) ∧ (cut (List.map Entry.row (cut g_.entries 0 (a5o4_0 - 0).toNat)) 0 (List.map Entry.row (cut g_.entries 0 (a5o4_0 - 0).toNat)).length = (List.map Entry.row (cut g_.entries 0 (a5o4_0 - 0).toNat)) ∧ (List.map Entry.row (cut g_.entries 0 (a5o4_0 - 0).toNat)).length = (List.map Entry.row (cut g_.entries 0 (a5o4_0 - 0).toNat)).length) ∧ ((cut (List.map Entry.row o2_2) (a5v0).toNat ((((List.map Entry.row o2_2).length : Nat) : Int) - a5v0).toNat) = (List.map Entry.row (cut o2_2 (a5v0).toNat ((((List.map Entry.row o2_2).length : Nat) : Int) - a5v0).toNat)) ∧ True) ∧ (((List.map Entry.row (cut g_.entries 0 (a5o4_0 - 0).toNat)).length + (List.map Entry.row (cut o2_2 (a5v0).toNat ((((List.map Entry.row o2_2).length : Nat) : Int) - a5v0).toNat)).length) * 41 ≤ 70368744177664)) from ⟨app_map, ⟨cut_all rfl, rfl⟩, ⟨cut_map, trivial⟩, a5h13⟩) (.ap (List.map Entry.row (cut g_.entries 0 (a5o4_0 - 0).toNat)) (List.map Entry.row (cut o2_2 (a5v0).toNat ((((List.map Entry.row o2_2).length : Nat) : Int) - a5v0).toNat)) (List.map Entry.row ((cut g_.entries 0 (a5o4_0 - 0).toNat) ++ (cut o2_2 (a5v0).toNat ((((List.map Entry.row o2_2).length : Nat) : Int) - a5v0).toNat))))))] [] [] <|
            .eqT 163 ((.a (.s (.ssl 4 (List.map Entry.row (cut o2_2 (a5v0).toNat ((((List.map Entry.row o2_2).length : Nat) : Int) - a5v0).toNat)))))) (show ((.a (.s (.ssl 4 (cut (List.map Entry.row o2_2) (a5v0).toNat ((((List.map Entry.row o2_2).length : Nat) : Int) - a5v0).toNat)))) : T) = (.a (.s (.ssl 4 (List.map Entry.row (cut o2_2 (a5v0).toNat ((((List.map Entry.row o2_2).length : Nat) : Int) - a5v0).toNat))))) from (congrArg (fun z => (.a (.s (.ssl 4 z)) : T)) cut_map)) <|
            .ifp (fun a5h14 =>
            .reg [(2, (J a5h12)), (3, (Ji (show (((cut (List.map Entry.row o2_2) (a5v0).toNat ((((List.map Entry.row o2_2).length : Nat) : Int) - a5v0).toNat) = (List.map Entry.row (cut o2_2 (a5v0).toNat ((((List.map Entry.row o2_2).length : Nat) : Int) - a5v0).toNat)) ∧ True) ∧ ((List.map Entry.row (cut o2_2 (a5v0).toNat ((((List.map Entry.row o2_2).length : Nat) : Int) - a5v0).toNat)).length * 41 ≤ 70368744177664)) from ⟨⟨cut_map, trivial⟩, a5h14⟩) (.ap [] (List.map Entry.row (cut o2_2 (a5v0).toNat ((((List.map Entry.row o2_2).length : Nat) : Int) - a5v0).toNat)) [])))] [] [] <|
            .eqT 169 ((.a (.s (.ssl 4 (List.map Entry.row (cut o2_2 (a5v0).toNat ((((List.map Entry.row o2_2).length : Nat) : Int) - a5v0).toNat)))))) (show ((.a (.s (.ssl 4 (cut (List.map Entry.row o2_2) (a5v0).toNat ((((List.map Entry.row o2_2).length : Nat) : Int) - a5v0).toNat)))) : T) = (.a (.s (.ssl 4 (List.map Entry.row (cut o2_2 (a5v0).toNat ((((List.map Entry.row o2_2).length : Nat) : Int) - a5v0).toNat))))) from (congrArg (fun z => (.a (.s (.ssl 4 z)) : T)) cut_map)) <|
            .gh (.keep [8, 9]) trivial <|
            .leaf false [] [] (Sum.inl (a5e3.term, a5e3.index, a5e3.kind, a5e3.data, ((cut g_.entries 0 (a5o4_0 - 0).toNat) ++ (cut o2_2 (a5v0).toNat ((((List.map Entry.row o2_2).length : Nat) : Int) - a5v0).toNat)), (cut o2_2 (a5v0).toNat ((((List.map Entry.row o2_2).length : Nat) : Int) - a5v0).toNat)))))))))))))
        (fun a5h5 =>
        .reg [(14, (pB a5h5))] [(2, gB a5h5)] [] <|
          .cond false (show false = false from rfl) <|
          .reg [] [] [] <|
          .cond false a5h5 <|
          .ifp (fun a5h6 =>
          .ifp (fun a5h7 =>
          .reg [(7, (J a5h6)), (8, (Ji (show ((List.map Entry.row g_.entries) ++ (List.map Entry.row (cut o2_2 (a5v0).toNat ((((List.map Entry.row o2_2).length : Nat) : Int) - a5v0).toNat)) = (List.map Entry.row (g_.entries ++ (cut o2_2 (a5v0).toNat ((((List.map Entry.row o2_2).length : Nat) : Int) - a5v0).toNat))) ∧ (cut (List.map Entry.row g_.entries) 0 (List.map Entry.row g_.entries).length = (List.map Entry.row g_.entries) ∧ (List.map Entry.row g_.entries).length = (List.map Entry.row g_.entries).length) ∧ ((cut (List.map Entry.row o2_2) (a5v0).toNat ((((List.map Entry.row o2_2).length : Nat) : Int) - a5v0).toNat) = (List.map Entry.row (cut o2_2 (a5v0).toNat ((((List.map Entry.row o2_2).length : Nat) : Int) - a5v0).toNat)) ∧ True) ∧ (((List.map Entry.row g_.entries).length + (List.map Entry.row (cut o2_2 (a5v0).toNat ((((List.map Entry.row o2_2).length : Nat) : Int) - a5v0).toNat)).length) * 41 ≤ 70368744177664)) from ⟨app_map, ⟨cut_all rfl, rfl⟩, ⟨cut_map, trivial⟩, a5h7⟩) (.ap (List.map Entry.row g_.entries) (List.map Entry.row (cut o2_2 (a5v0).toNat ((((List.map Entry.row o2_2).length : Nat) : Int) - a5v0).toNat)) (List.map Entry.row (g_.entries ++ (cut o2_2 (a5v0).toNat ((((List.map Entry.row o2_2).length : Nat) : Int) - a5v0).toNat))))))] [] [] <|
          .eqT 163 ((.a (.s (.ssl 4 (List.map Entry.row (cut o2_2 (a5v0).toNat ((((List.map Entry.row o2_2).length : Nat) : Int) - a5v0).toNat)))))) (show ((.a (.s (.ssl 4 (cut (List.map Entry.row o2_2) (a5v0).toNat ((((List.map Entry.row o2_2).length : Nat) : Int) - a5v0).toNat)))) : T) = (.a (.s (.ssl 4 (List.map Entry.row (cut o2_2 (a5v0).toNat ((((List.map Entry.row o2_2).length : Nat) : Int) - a5v0).toNat))))) from (congrArg (fun z => (.a (.s (.ssl 4 z)) : T)) cut_map)) <|
          .ifp (fun a5h8 =>
          .reg [(2, (J a5h6)), (3, (Ji (show (((cut (List.map Entry.row o2_2) (a5v0).toNat ((((List.map Entry.row o2_2).length : Nat) : Int) - a5v0).toNat) = (List.map Entry.row (cut o2_2 (a5v0).toNat ((((List.map Entry.row o2_2).length : Nat) : Int) - a5v0).toNat)) ∧ True) ∧ ((List.map Entry.row (cut o2_2 (a5v0).toNat ((((List.map Entry.row o2_2).length : Nat) : Int) - a5v0).toNat)).length * 41 ≤ 70368744177664)) from ⟨⟨cut_map, trivial⟩, a5h8⟩) (.ap [] (List.map Entry.row (cut o2_2 (a5v0).toNat ((((List.map Entry.row o2_2).length : Nat) : Int) - a5v0).toNat)) [])))] [] [] <|
          .eqT 169 ((.a (.s (.ssl 4 (List.map Entry.row (cut o2_2 (a5v0).toNat ((((List.map Entry.row o2_2).length : Nat) : Int) - a5v0).toNat)))))) (show ((.a (.s (.ssl 4 (cut (List.map Entry.row o2_2) (a5v0).toNat ((((List.map Entry.row o2_2).length : Nat) : Int) - a5v0).toNat)))) : T) = (.a (.s (.ssl 4 (List.map Entry.row (cut o2_2 (a5v0).toNat ((((List.map Entry.row o2_2).length : Nat) : Int) - a5v0).toNat))))) from (congrArg (fun z => (.a (.s (.ssl 4 z)) : T)) cut_map)) <|
          .gh (.keep [8, 9]) trivial <|
          .leaf false [] [] (Sum.inr (Sum.inl (a5e3.term, a5e3.index, a5e3.kind, a5e3.data, (cut o2_2 (a5v0).toNat ((((List.map Entry.row o2_2).length : Nat) : Int) - a5v0).toNat), (Log.mk g_.index g_.term g_.config g_.data (g_.entries ++ (cut o2_2 (a5v0).toNat ((((List.map Entry.row o2_2).length : Nat) : Int) - a5v0).toNat))))))))))))))
    (fun a5h1 =>
    .cond false a5h1 <|
      .gh (.keep []) trivial <|
      .leaf true [] [] (Sum.inr (Sum.inr ())))) (fun _ _ => by kernel_rfl)
def lMerge (fuel : Nat) (g_ : Log) (index : Int) (term : Int) (l : List Entry) : Option ((List Entry) × Bool × Log) :=
  (Option.bind (lMergeL1 g_ index term l fuel (0 : Int)) fun o1 => sumC o1 (fun _ =>
  (some ([], false, g_)))
  (fun _ =>
  (Option.bind (lMergeL4 g_ fuel index term l) fun (o2_0, o2_1, o2_2) =>
    (iteB (decide (o2_0 < g_.index))
      (some ([], true, g_))
      (Option.bind (lTerm g_ o2_0) fun (o4_0, o4_1) =>
        (iteB (decide (o2_0 > g_.index))
          (iteB (o4_1 != 0)
            (some ([], false, g_))
            (iteB (o4_0 != o2_1)
              (some ([], false, g_))
              (iteB (o2_0 == g_.index)
                (iteB (o2_1 != g_.term)
                  (some ([], false, g_))
                  (Option.bind (lMergeL5 g_ o2_2 fuel (0 : Int)) fun o10 => sumC o10 (fun (_, _, _, _, o10_4, o10_5) =>
                    (some (o10_5, true, (Log.mk g_.index g_.term g_.config g_.data o10_4))))
                    (fun r10_0 => sumC r10_0 (fun (_, _, _, _, o10_4, o10_5) =>
                    (some (o10_4, true, o10_5)))
                    (fun _ =>
                    (some ([], true, g_))))))
                (Option.bind (lMergeL5 g_ o2_2 fuel (0 : Int)) fun o9 => sumC o9 (fun (_, _, _, _, o9_4, o9_5) =>
                  (some (o9_5, true, (Log.mk g_.index g_.term g_.config g_.data o9_4))))
                  (fun r9_0 => sumC r9_0 (fun (_, _, _, _, o9_4, o9_5) =>
                  (some (o9_4, true, o9_5)))
                  (fun _ =>
                  (some ([], true, g_))))))))
          (iteB (o2_0 == g_.index)
            (iteB (o2_1 != g_.term)
              (some ([], false, g_))
              (Option.bind (lMergeL5 g_ o2_2 fuel (0 : Int)) fun o8 => sumC o8 (fun (_, _, _, _, o8_4, o8_5) =>
                (some (o8_5, true, (Log.mk g_.index g_.term g_.config g_.data o8_4))))
                (fun r8_0 => sumC r8_0 (fun (_, _, _, _, o8_4, o8_5) =>
                (some (o8_4, true, o8_5)))
                (fun _ =>
                (some ([], true, g_))))))
            (Option.bind (lMergeL5 g_ o2_2 fuel (0 : Int)) fun o7 => sumC o7 (fun (_, _, _, _, o7_4, o7_5) =>
              (some (o7_5, true, (Log.mk g_.index g_.term g_.config g_.data o7_4))))
              (fun r7_0 => sumC r7_0 (fun (_, _, _, _, o7_4, o7_5) =>
              (some (o7_4, true, o7_5)))
              (fun _ =>
              (some ([], true, g_))))))))))))
theorem lMerge_ok (g : GT) (fuel : Nat) (g_ : Log) (index : Int) (term : Int) (l : List Entry) : FTO prog g.1 53 [.a (.s (.ref 0 0)), (.a (.s (.c (.int .u64 index)))), (.a (.s (.c (.int .u64 term)))), (.a (.s (.ssl 4 (List.map Entry.row l))))] (Log.objs g_) (lMerge fuel g_ index term l)
    (fun (o0, o1, o2) => ([1], (.t [(.s (.ssl 4 (List.map Entry.row o0))), (.s (.c (.bool o1)))]), Log.objs o2)) :=
  Fn_go mixed func53 (
  .reg [] [] [] <|
  .reg [] [] [] <|
  .cond false (show false = false from rfl) <|
  .reg [] [] [] <|
  .gh (.keep [0, 1, 2, 3, 20, 21, 22]) trivial <|
  .bind (fun _ k1 => .sum (fun _ s1 =>
  have h1 := k1.trans (congrArg some s1)
  .claim false (lMergeL1_ok g g_ index term l fuel (0 : Int) _ h1) <|
    .gh (.keep [8, 9]) trivial <|
    .leaf false [0, 1] [[(0, 4)], []] ([], false, g_))
  (fun _ s1 =>
  have h1 := k1.trans (congrArg some s1)
  .claim false (lMergeL1_ok g g_ index term l fuel (0 : Int) _ h1) <|
    .gh (.keep [0, 1, 2, 3]) trivial <|
    .bind (fun | (o2_0, _, o2_2), h2 => (
    .claim false (lMergeL4_ok g g_ fuel (index, term, l) _ h2) <|
      .reg [] [] [] <|
      .ite (fun h3 =>
      .cond true h3 <|
        .reg [] [] [] <|
        .gh (.keep [8, 9]) trivial <|
        .leaf false [0, 1] [[(0, 4)], []] ([], true, g_))
      (fun h3 =>
      .cond false h3 <|
        .bind (fun | _, h4 => (
        .reg [(2, (LK [0, 1] [1, 1] (lTerm_ok g g_ o2_0 _ h4)))] [] [] <|
          .ite (fun h5 =>
          .ite (fun h6 =>
            .reg [(14, (pB h6)), (15, (pB h5)), (33, (pS true))] [(7, gB h5), (10, gB h6), (16, gS true), (24, gU)] [] <|
              .cond true (show true = true from rfl) <|
              .reg [] [] [] <|
              .gh (.keep [8, 9]) trivial <|
              .leaf false [0, 1] [[(0, 4)], []] ([], false, g_))
            (fun h6 =>
            .ite (fun h7 =>
              .reg [(14, (pB h6)), (15, (pB h5)), (33, (pB h7))] [(7, gB h5), (10, gB h6), (16, gB h7), (24, gU)] [] <|
                .cond true (show true = true from rfl) <|
                .reg [] [] [] <|
                .gh (.keep [8, 9]) trivial <|
                .leaf false [0, 1] [[(0, 4)], []] ([], false, g_))
              (fun h7 =>
              .ite (fun h8 =>
                .reg [(14, (pB h6)), (15, (pB h5)), (32, (pB h8)), (33, (pB h7))] [(7, gB h5), (10, gB h6), (16, gB h7), (24, gB h8)] [] <|
                  .ite (fun h9 =>
                  .cond true h9 <|
                    .reg [] [] [] <|
                    .gh (.keep [8, 9]) trivial <|
                    .leaf false [0, 1] [[(0, 4)], []] ([], false, g_))
                  (fun h9 =>
                  .cond false h9 <|
                    .reg [] [] [] <|
                    .gh (.keep [0, 3, 118, 119, 120]) trivial <|
                    .bind (fun _ k10 => .sum (fun | (_, _, _, _, o10_4, o10_5), s10 => (
                    have h10 := k10.trans (congrArg some s10)
                    .claim false (lMergeL5_ok g g_ o2_2 fuel (0 : Int) _ h10) <|
                      .gh (.keep [8, 9]) trivial <|
                      .gh (.lend [(4, (List.map Entry.row o10_5))]) (show ((some (cut (List.map Entry.row o10_5) 0 (List.map Entry.row o10_5).length) = some (List.map Entry.row o10_5) ∧ (List.map Entry.row o10_5).length = (List.map Entry.row o10_5).length) ∧ True) from ⟨⟨congrArg some (cut_all rfl), rfl⟩, trivial⟩) <|
                      .leaf false [0, 3] [] (o10_5, true, (Log.mk g_.index g_.term g_.config g_.data o10_4))))
                    (fun _ q10_0 => have q10_0z := k10.trans (congrArg some q10_0)
                    .sum (fun | (_, _, _, _, o10_4, o10_5), s10 => (
                    have h10 := q10_0z.trans (congrArg (fun z => some (Sum.inr z)) s10)
                    .claim false (lMergeL5_ok g g_ o2_2 fuel (0 : Int) _ h10) <|
                      .gh (.keep [8, 9]) trivial <|
                      .gh (.lend [(3, (List.map Entry.row o10_4))]) (show ((some (cut (List.map Entry.row o10_4) 0 (List.map Entry.row o10_4).length) = some (List.map Entry.row o10_4) ∧ (List.map Entry.row o10_4).length = (List.map Entry.row o10_4).length) ∧ True) from ⟨⟨congrArg some (cut_all rfl), rfl⟩, trivial⟩) <|
                      .leaf false [0, 1] [] (o10_4, true, o10_5)))
                    (fun _ s10 =>
                    have h10 := q10_0z.trans (congrArg (fun z => some (Sum.inr z)) s10)
                    .claim false (lMergeL5_ok g g_ o2_2 fuel (0 : Int) _ h10) <|
                      .reg [] [] [] <|
                      .gh (.keep [8, 9]) trivial <|
                      .leaf false [0, 1] [[(0, 4)], []] ([], true, g_))))))
                (fun h8 =>
                .reg [(14, (pB h6)), (15, (pB h5)), (32, (pB h8)), (33, (pB h7))] [(7, gB h5), (10, gB h6), (16, gB h7), (24, gB h8)] [] <|
                  .cond false (show false = false from rfl) <|
                  .reg [] [] [] <|
                  .gh (.keep [0, 3, 118, 119, 120]) trivial <|
                  .bind (fun _ k9 => .sum (fun | (_, _, _, _, o9_4, o9_5), s9 => (
                  have h9 := k9.trans (congrArg some s9)
                  .claim false (lMergeL5_ok g g_ o2_2 fuel (0 : Int) _ h9) <|
                    .gh (.keep [8, 9]) trivial <|
                    .gh (.lend [(4, (List.map Entry.row o9_5))]) (show ((some (cut (List.map Entry.row o9_5) 0 (List.map Entry.row o9_5).length) = some (List.map Entry.row o9_5) ∧ (List.map Entry.row o9_5).length = (List.map Entry.row o9_5).length) ∧ True) from ⟨⟨congrArg some (cut_all rfl), rfl⟩, trivial⟩) <|
                    .leaf false [0, 3] [] (o9_5, true, (Log.mk g_.index g_.term g_.config g_.data o9_4))))
                  (fun _ q9_0 => have q9_0z := k9.trans (congrArg some q9_0)
                  .sum (fun | (_, _, _, _, o9_4, o9_5), s9 => (
                  have h9 := q9_0z.trans (congrArg (fun z => some (Sum.inr z)) s9)
                  .claim false (lMergeL5_ok g g_ o2_2 fuel (0 : Int) _ h9) <|
                    .gh (.keep [8, 9]) trivial <|
                    .gh (.lend [(3, (List.map Entry.row o9_4))]) (show ((some (cut (List.map Entry.row o9_4) 0 (List.map Entry.row o9_4).length) = some (List.map Entry.row o9_4) ∧ (List.map Entry.row o9_4).length = (List.map Entry.row o9_4).length) ∧ True) from ⟨⟨congrArg some (cut_all rfl), rfl⟩, trivial⟩) <|
                    .leaf false [0, 1] [] (o9_4, true, o9_5)))
                  (fun _ s9 =>
                  have h9 := q9_0z.trans (congrArg (fun z => some (Sum.inr z)) s9)
                  .claim false (lMergeL5_ok g g_ o2_2 fuel (0 : Int) _ h9) <|
                    .reg [] [] [] <|
                    .gh (.keep [8, 9]) trivial <|
                    .leaf false [0, 1] [[(0, 4)], []] ([], true, g_))))))))
          (fun h5 =>
          .ite (fun h6 =>
            .reg [(15, (pB h5)), (32, (pB h6)), (33, (pS false))] [(7, gB h5), (10, gU), (16, gS false), (24, gB h6)] [] <|
              .ite (fun h7 =>
              .cond true h7 <|
                .reg [] [] [] <|
                .gh (.keep [8, 9]) trivial <|
                .leaf false [0, 1] [[(0, 4)], []] ([], false, g_))
              (fun h7 =>
              .cond false h7 <|
                .reg [] [] [] <|
                .gh (.keep [0, 3, 118, 119, 120]) trivial <|
                .bind (fun _ k8 => .sum (fun | (_, _, _, _, o8_4, o8_5), s8 => (
                have h8 := k8.trans (congrArg some s8)
                .claim false (lMergeL5_ok g g_ o2_2 fuel (0 : Int) _ h8) <|
                  .gh (.keep [8, 9]) trivial <|
                  .gh (.lend [(4, (List.map Entry.row o8_5))]) (show ((some (cut (List.map Entry.row o8_5) 0 (List.map Entry.row o8_5).length) = some (List.map Entry.row o8_5) ∧ (List.map Entry.row o8_5).length = (List.map Entry.row o8_5).length) ∧ True) from ⟨⟨congrArg some (cut_all rfl), rfl⟩, trivial⟩) <|
                  .leaf false [0, 3] [] (o8_5, true, (Log.mk g_.index g_.term g_.config g_.data o8_4))))
                (fun _ q8_0 => have q8_0z := k8.trans (congrArg some q8_0)
                .sum (fun | (_, _, _, _, o8_4, o8_5), s8 => (
                have h8 := q8_0z.trans (congrArg (fun z => some (Sum.inr z)) s8)
                .claim false (lMergeL5_ok g g_ o2_2 fuel (0 : Int) _ h8) <|
                  .gh (.keep [8, 9]) trivial <|
                  .gh (.lend [(3, (List.map Entry.row o8_4))]) (show ((some (cut (List.map Entry.row o8_4) 0 (List.map Entry.row o8_4).length) = some (List.map Entry.row o8_4) ∧ (List.map Entry.row o8_4).length = (List.map Entry.row o8_4).length) ∧ True) from ⟨⟨congrArg some (cut_all rfl), rfl⟩, trivial⟩) <|
                  .leaf false [0, 1] [] (o8_4, true, o8_5)))
                (fun _ s8 =>
                have h8 := q8_0z.trans (congrArg (fun z => some (Sum.inr z)) s8)
                .claim false (lMergeL5_ok g g_ o2_2 fuel (0 : Int) _ h8) <|
                  .reg [] [] [] <|
                  .gh (.keep [8, 9]) trivial <|
                  .leaf false [0, 1] [[(0, 4)], []] ([], true, g_))))))
            (fun h6 =>
            .reg [(15, (pB h5)), (32, (pB h6)), (33, (pS false))] [(7, gB h5), (10, gU), (16, gS false), (24, gB h6)] [] <|
              .cond false (show false = false from rfl) <|
              .reg [] [] [] <|
              .gh (.keep [0, 3, 118, 119, 120]) trivial <|
              .bind (fun _ k7 => .sum (fun | (_, _, _, _, o7_4, o7_5), s7 => (
              have h7 := k7.trans (congrArg some s7)
              .claim false (lMergeL5_ok g g_ o2_2 fuel (0 : Int) _ h7) <|
                .gh (.keep [8, 9]) trivial <|
                .gh (.lend [(4, (List.map Entry.row o7_5))]) (show ((some (cut (List.map Entry.row o7_5) 0 (List.map Entry.row o7_5).length) = some (List.map Entry.row o7_5) ∧ (List.map Entry.row o7_5).length = (List.map Entry.row o7_5).length) ∧ True) from ⟨⟨congrArg some (cut_all rfl), rfl⟩, trivial⟩) <|
                .leaf false [0, 3] [] (o7_5, true, (Log.mk g_.index g_.term g_.config g_.data o7_4))))
              (fun _ q7_0 => have q7_0z := k7.trans (congrArg some q7_0)
              .sum (fun | (_, _, _, _, o7_4, o7_5), s7 => (
              have h7 := q7_0z.trans (congrArg (fun z => some (Sum.inr z)) s7)
              .claim false (lMergeL5_ok g g_ o2_2 fuel (0 : Int) _ h7) <|
                .gh (.keep [8, 9]) trivial <|
                .gh (.lend [(3, (List.map Entry.row o7_4))]) (show ((some (cut (List.map Entry.row o7_4) 0 (List.map Entry.row o7_4).length) = some (List.map Entry.row o7_4) ∧ (List.map Entry.row o7_4).length = (List.map Entry.row o7_4).length) ∧ True) from ⟨⟨congrArg some (cut_all rfl), rfl⟩, trivial⟩) <|
                .leaf false [0, 1] [] (o7_4, true, o7_5)))
              (fun _ s7 =>
              have h7 := q7_0z.trans (congrArg (fun z => some (Sum.inr z)) s7)
              .claim false (lMergeL5_ok g g_ o2_2 fuel (0 : Int) _ h7) <|
                .reg [] [] [] <|
                .gh (.keep [8, 9]) trivial <|
                .leaf false [0, 1] [[(0, 4)], []] ([], true, g_)))))))))))))) (by kernel_rfl)
def wrNumL1 (w : Writer) (x : Int) : Nat → Int → Int → Option Int
  | 0, _, _ => none
  | fuel + 1, a1v0, a1v1 =>
  (iteB (decide (a1v1 > 0))
  (wrNumL1 w x fuel (IntKind.wrap .i64 (a1v0 + 1)) (Int.fdiv a1v1 (2 ^ (8 : Nat))))
  (some a1v0))
theorem wrNumL1_ok (g : GT) (w : Writer) (x : Int) : ∀ (fuel : Nat) (v : Int × Int), PcO prog g.1 (.loop (subC [1, 1, 1, 0, 1, 0, 0] (bodyOf f55))) ((fun (a1v0, a1v1) => ({ tm := mkTm 49 [(0, (.a (.s (.ref 0 0)))), (1, (.a (.s (.c (.int .u64 x))))), (5, (.a (.s (.c (.int .i64 a1v0))))), (6, (.a (.s (.c (.int .u64 a1v1)))))], hp := [.cells [.one (.sl 1 0 1 0 (List.map (rI .u8) w.b).length)], .arr 1 (List.map (rI .u8) w.b)], mv := [] } : St)) v) (wrNumL1 w x fuel v.1 v.2)
    (fun o0 => ((.exit 0), { tm := mkTm 49 [(0, (.a (.s (.ref 0 0)))), (1, (.a (.s (.c (.int .u64 x))))), (5, (.a (.s (.c (.int .i64 o0)))))], hp := [.cells [.one (.sl 1 0 1 0 (List.map (rI .u8) w.b).length)], .arr 1 (List.map (rI .u8) w.b)], mv := [] })) :=
  Lo_go (rec := (fun n (v : Int × Int) => wrNumL1 w x n v.1 v.2)) mixed (fun _ => rfl)
    (fun | _, (a1v0, a1v1) => (
    .reg [] [] [] <|
    .ite (fun a1h1 =>
    .cond true a1h1 <|
      .reg [] [] [] <|
      .reg [] [] [] <|
      .gh (.keep [0, 1, 5, 6]) trivial <|
      .again true ((IntKind.wrap .i64 (a1v0 + 1)), (Int.fdiv a1v1 (2 ^ (8 : Nat)))))
    (fun a1h1 =>
    .cond false a1h1 <|
      .gh (.keep [0, 1, 5]) trivial <|
      .leaf true [] [] a1v0))) (fun _ _ => by kernel_rfl)
def wrNumL2 (x : Int) (o1_0 : Int) : Nat → Int → Writer → Option Writer
  | 0, _, _ => none
  | fuel + 1, a2v0, a2g0 =>
  (iteB (decide (a2v0 ≥ 0))
  (ifP (0 ≤ (IntKind.wrap .i64 ((8 : Int) * a2v0)))
    (ifP (1 = (List.map (rI .u8) (cut [(IntKind.wrap .u8 (Int.fdiv x (2 ^ (min ((IntKind.wrap .i64 ((8 : Int) * a2v0))).toNat (IntKind.bits .u64)))))] 0 1)).length)
    (ifP (((List.map (rI .u8) a2g0.b).length + (List.map (rI .u8) (cut [(IntKind.wrap .u8 (Int.fdiv x (2 ^ (min ((IntKind.wrap .i64 ((8 : Int) * a2v0))).toNat (IntKind.bits .u64)))))] 0 1)).length) * 2 ≤ 70368744177664)
    (wrNumL2 x o1_0 fuel (IntKind.wrap .i64 (a2v0 - 1)) (Writer.mk (a2g0.b ++ (cut [(IntKind.wrap .u8 (Int.fdiv x (2 ^ (min ((IntKind.wrap .i64 ((8 : Int) * a2v0))).toNat (IntKind.bits .u64)))))] 0 1)))))))
  (some a2g0))
theorem wrNumL2_ok (g : GT) (x : Int) (o1_0 : Int) : ∀ (fuel : Nat) (v : Int × Writer), PcO prog g.1 (.loop (subC [1, 1, 1, 1, 1, 0, 1, 0, 0] (bodyOf f55))) ((fun (a2v0, a2g0) => ({ tm := mkTm 49 [(0, (.a (.s (.ref 0 0)))), (1, (.a (.s (.c (.int .u64 x))))), (7, (.a (.s (.c (.int .i64 a2v0)))))], hp := [.cells [.one (.sl 1 0 1 0 (List.map (rI .u8) a2g0.b).length)], .arr 1 (List.map (rI .u8) a2g0.b), .arr 1 (List.map (rI .u8) [(IntKind.wrap .u8 o1_0)])], mv := [1] } : St)) v) (wrNumL2 x o1_0 fuel v.1 v.2)
    (fun o0 => ((.exit 2), { tm := mkTm 49 [(0, (.a (.s (.ref 0 0))))], hp := [.cells [.one (.sl 1 0 1 0 (List.map (rI .u8) o0.b).length)], .arr 1 (List.map (rI .u8) o0.b), .arr 1 (List.map (rI .u8) [(IntKind.wrap .u8 o1_0)])], mv := [1] })) :=
  Lo_go (rec := (fun n (v : Int × Writer) => wrNumL2 x o1_0 n v.1 v.2)) mixed (fun _ => rfl)
    (fun | _, (a2v0, a2g0) => (
    .reg [] [] [] <|
    .ite (fun a2h1 =>
    .cond true a2h1 <|
      .ifp (fun a2h2 =>
      .ifp (fun a2h3 =>
      .ifp (fun a2h4 =>
      .reg [(8, (Ji a2h2 .ar)), (11, (Ji (show ((List.map (rI .u8) a2g0.b) ++ (List.map (rI .u8) (cut [(IntKind.wrap .u8 (Int.fdiv x (2 ^ (min ((IntKind.wrap .i64 ((8 : Int) * a2v0))).toNat (IntKind.bits .u64)))))] 0 1)) = (List.map (rI .u8) (a2g0.b ++ (cut [(IntKind.wrap .u8 (Int.fdiv x (2 ^ (min ((IntKind.wrap .i64 ((8 : Int) * a2v0))).toNat (IntKind.bits .u64)))))] 0 1))) ∧ (cut (List.map (rI .u8) a2g0.b) 0 (List.map (rI .u8) a2g0.b).length = (List.map (rI .u8) a2g0.b) ∧ (List.map (rI .u8) a2g0.b).length = (List.map (rI .u8) a2g0.b).length) ∧ ((cut (List.map (rI .u8) [(IntKind.wrap .u8 (Int.fdiv x (2 ^ (min ((IntKind.wrap .i64 ((8 : Int) * a2v0))).toNat (IntKind.bits .u64)))))]) 0 1) = (List.map (rI .u8) (cut [(IntKind.wrap .u8 (Int.fdiv x (2 ^ (min ((IntKind.wrap .i64 ((8 : Int) * a2v0))).toNat (IntKind.bits .u64)))))] 0 1)) ∧ (1 = (List.map (rI .u8) (cut [(IntKind.wrap .u8 (Int.fdiv x (2 ^ (min ((IntKind.wrap .i64 ((8 : Int) * a2v0))).toNat (IntKind.bits .u64)))))] 0 1)).length)) ∧ (((List.map (rI .u8) a2g0.b).length + (List.map (rI .u8) (cut [(IntKind.wrap .u8 (Int.fdiv x (2 ^ (min ((IntKind.wrap .i64 ((8 : Int) * a2v0))).toNat (IntKind.bits .u64)))))] 0 1)).length) * 2 ≤ 70368744177664)) from ⟨app_map, ⟨cut_all rfl, rfl⟩, ⟨cut_map, a2h3⟩, a2h4⟩) (.ap (List.map (rI .u8) a2g0.b) (List.map (rI .u8) (cut [(IntKind.wrap .u8 (Int.fdiv x (2 ^ (min ((IntKind.wrap .i64 ((8 : Int) * a2v0))).toNat (IntKind.bits .u64)))))] 0 1)) (List.map (rI .u8) (a2g0.b ++ (cut [(IntKind.wrap .u8 (Int.fdiv x (2 ^ (min ((IntKind.wrap .i64 ((8 : Int) * a2v0))).toNat (IntKind.bits .u64)))))] 0 1))))))] [] [] <|
      .reg [] [] [] <|
      .gh (.keep [0, 1, 7]) trivial <|
      .again true ((IntKind.wrap .i64 (a2v0 - 1)), (Writer.mk (a2g0.b ++ (cut [(IntKind.wrap .u8 (Int.fdiv x (2 ^ (min ((IntKind.wrap .i64 ((8 : Int) * a2v0))).toNat (IntKind.bits .u64)))))] 0 1))))))))
    (fun a2h1 =>
    .cond false a2h1 <|
      .gh (.keep [0]) trivial <|
      .leaf true [] [] a2g0))) (fun _ _ => by kernel_rfl)
def wrNum (fuel : Nat) (w : Writer) (x : Int) : Option Writer :=
  (Option.bind (wrNumL1 w x fuel (0 : Int) x) fun o1_0 =>
  (ifP (1 = (List.map (rI .u8) (cut [(IntKind.wrap .u8 o1_0)] 0 1)).length)
    (ifP (((List.map (rI .u8) w.b).length + (List.map (rI .u8) (cut [(IntKind.wrap .u8 o1_0)] 0 1)).length) * 2 ≤ 70368744177664)
    (Option.bind (wrNumL2 x o1_0 fuel (IntKind.wrap .i64 (o1_0 - 1)) (Writer.mk (w.b ++ (cut [(IntKind.wrap .u8 o1_0)] 0 1)))) fun o4_0 =>
    (some o4_0)))))
theorem wrNum_ok (g : GT) (fuel : Nat) (w : Writer) (x : Int) : FTO prog g.1 55 [.a (.s (.ref 0 0)), (.a (.s (.c (.int .u64 x))))] (Writer.objs w) (wrNum fuel w x)
    (fun o0 => ([1], (.a (.s (.ref 0 0))), Writer.objs o0)) :=
  Fn_go mixed func55 (
  .reg [] [] [] <|
  .reg [] [] [] <|
  .cond false (show false = false from rfl) <|
  .reg [] [] [] <|
  .reg [] [] [] <|
  .gh (.keep [0, 1, 5, 6]) trivial <|
  .bind (fun o1_0 h1 =>
  .claim false (wrNumL1_ok g w x fuel ((0 : Int), x) _ h1) <|
    .ifp (fun h2 =>
    .ifp (fun h3 =>
    .reg [(8, (Ji (show ((List.map (rI .u8) w.b) ++ (List.map (rI .u8) (cut [(IntKind.wrap .u8 o1_0)] 0 1)) = (List.map (rI .u8) (w.b ++ (cut [(IntKind.wrap .u8 o1_0)] 0 1))) ∧ (cut (List.map (rI .u8) w.b) 0 (List.map (rI .u8) w.b).length = (List.map (rI .u8) w.b) ∧ (List.map (rI .u8) w.b).length = (List.map (rI .u8) w.b).length) ∧ ((cut (List.map (rI .u8) [(IntKind.wrap .u8 o1_0)]) 0 1) = (List.map (rI .u8) (cut [(IntKind.wrap .u8 o1_0)] 0 1)) ∧ (1 = (List.map (rI .u8) (cut [(IntKind.wrap .u8 o1_0)] 0 1)).length)) ∧ (((List.map (rI .u8) w.b).length + (List.map (rI .u8) (cut [(IntKind.wrap .u8 o1_0)] 0 1)).length) * 2 ≤ 70368744177664)) from ⟨app_map, ⟨cut_all rfl, rfl⟩, ⟨cut_map, h2⟩, h3⟩) (.ap (List.map (rI .u8) w.b) (List.map (rI .u8) (cut [(IntKind.wrap .u8 o1_0)] 0 1)) (List.map (rI .u8) (w.b ++ (cut [(IntKind.wrap .u8 o1_0)] 0 1))))))] [] [] <|
    .reg [] [] [] <|
    .gh (.keep [0, 1, 7]) trivial <|
    .bind (fun o4_0 h4 =>
    .claim false (wrNumL2_ok g x o1_0 fuel ((IntKind.wrap .i64 (o1_0 - 1)), (Writer.mk (w.b ++ (cut [(IntKind.wrap .u8 o1_0)] 0 1)))) _ h4) <|
      .reg [] [] [] <|
      .gh (.keep [4]) trivial <|
      .leaf false [0, 1] [] o4_0))))) (by kernel_rfl)
def wrNumNL1 (x : Int) : Nat → Int → Int → Option Int
  | 0, _, _ => none
  | fuel + 1, a1v0, a1v1 =>
  (iteB (decide (a1v1 > 0))
  (wrNumNL1 x fuel (IntKind.wrap .i64 (a1v0 + 1)) (Int.fdiv a1v1 (2 ^ (8 : Nat))))
  (some a1v0))
theorem wrNumNL1_ok (g : GT) (x : Int) : ∀ (fuel : Nat) (v : Int × Int), PcO prog g.1 (.loop (subC [1, 1, 1, 0, 1, 0, 0] (bodyOf f55))) ((fun (a1v0, a1v1) => ({ tm := mkTm 49 [(0, (.a (.s (.ref 0 0)))), (1, (.a (.s (.c (.int .u64 x))))), (5, (.a (.s (.c (.int .i64 a1v0))))), (6, (.a (.s (.c (.int .u64 a1v1)))))], hp := [.cells [.one (.c (.slice none 0 0))]], mv := [] } : St)) v) (wrNumNL1 x fuel v.1 v.2)
    (fun o0 => ((.exit 0), { tm := mkTm 49 [(0, (.a (.s (.ref 0 0)))), (1, (.a (.s (.c (.int .u64 x))))), (5, (.a (.s (.c (.int .i64 o0)))))], hp := [.cells [.one (.c (.slice none 0 0))]], mv := [] })) :=
  Lo_go (rec := (fun n (v : Int × Int) => wrNumNL1 x n v.1 v.2)) mixed (fun _ => rfl)
    (fun | _, (a1v0, a1v1) => (
    .reg [] [] [] <|
    .ite (fun a1h1 =>
    .cond true a1h1 <|
      .reg [] [] [] <|
      .reg [] [] [] <|
      .gh (.keep [0, 1, 5, 6]) trivial <|
      .again true ((IntKind.wrap .i64 (a1v0 + 1)), (Int.fdiv a1v1 (2 ^ (8 : Nat)))))
    (fun a1h1 =>
    .cond false a1h1 <|
      .gh (.keep [0, 1, 5]) trivial <|
      .leaf true [] [] a1v0))) (fun _ _ => by kernel_rfl)
def wrNumNL2 (x : Int) (o1_0 : Int) : Nat → Int → Writer → Option Writer
  | 0, _, _ => none
  | fuel + 1, a2v0, a2g0 =>
  (iteB (decide (a2v0 ≥ 0))
  (ifP (0 ≤ (IntKind.wrap .i64 ((8 : Int) * a2v0)))
    (ifP (1 = (List.map (rI .u8) (cut [(IntKind.wrap .u8 (Int.fdiv x (2 ^ (min ((IntKind.wrap .i64 ((8 : Int) * a2v0))).toNat (IntKind.bits .u64)))))] 0 1)).length)
    (ifP (((List.map (rI .u8) a2g0.b).length + (List.map (rI .u8) (cut [(IntKind.wrap .u8 (Int.fdiv x (2 ^ (min ((IntKind.wrap .i64 ((8 : Int) * a2v0))).toNat (IntKind.bits .u64)))))] 0 1)).length) * 2 ≤ 70368744177664)
    (wrNumNL2 x o1_0 fuel (IntKind.wrap .i64 (a2v0 - 1)) (Writer.mk (a2g0.b ++ (cut [(IntKind.wrap .u8 (Int.fdiv x (2 ^ (min ((IntKind.wrap .i64 ((8 : Int) * a2v0))).toNat (IntKind.bits .u64)))))] 0 1)))))))
  (some a2g0))
theorem wrNumNL2_ok (g : GT) (x : Int) (o1_0 : Int) : ∀ (fuel : Nat) (v : Int × Writer), PcO prog g.1 (.loop (subC [1, 1, 1, 1, 1, 0, 1, 0, 0] (bodyOf f55))) ((fun (a2v0, a2g0) => ({ tm := mkTm 49 [(0, (.a (.s (.ref 0 0)))), (1, (.a (.s (.c (.int .u64 x))))), (7, (.a (.s (.c (.int .i64 a2v0)))))], hp := [.cells [.one (.sl 2 0 1 0 (List.map (rI .u8) a2g0.b).length)], .arr 1 (List.map (rI .u8) [(IntKind.wrap .u8 o1_0)]), .arr 1 (List.map (rI .u8) a2g0.b)], mv := [2] } : St)) v) (wrNumNL2 x o1_0 fuel v.1 v.2)
    (fun o0 => ((.exit 2), { tm := mkTm 49 [(0, (.a (.s (.ref 0 0))))], hp := [.cells [.one (.sl 2 0 1 0 (List.map (rI .u8) o0.b).length)], .arr 1 (List.map (rI .u8) [(IntKind.wrap .u8 o1_0)]), .arr 1 (List.map (rI .u8) o0.b)], mv := [2] })) :=
  Lo_go (rec := (fun n (v : Int × Writer) => wrNumNL2 x o1_0 n v.1 v.2)) mixed (fun _ => rfl)
    (fun | _, (a2v0, a2g0) => (
    .reg [] [] [] <|
    .ite (fun a2h1 =>
    .cond true a2h1 <|
      .ifp (fun a2h2 =>
      .ifp (fun a2h3 =>
      .ifp (fun a2h4 =>
      .reg [(8, (Ji a2h2 .ar)), (11, (Ji (show ((List.map (rI .u8) a2g0.b) ++ (List.map (rI .u8) (cut [(IntKind.wrap .u8 (Int.fdiv x (2 ^ (min ((IntKind.wrap .i64 ((8 : Int) * a2v0))).toNat (IntKind.bits .u64)))))] 0 1)) = (List.map (rI .u8) (a2g0.b ++ (cut [(IntKind.wrap .u8 (Int.fdiv x (2 ^ (min ((IntKind.wrap .i64 ((8 : Int) * a2v0))).toNat (IntKind.bits .u64)))))] 0 1))) ∧ (cut (List.map (rI .u8) a2g0.b) 0 (List.map (rI .u8) a2g0.b).length = (List.map (rI .u8) a2g0.b) ∧ (List.map (rI .u8) a2g0.b).length = (List.map (rI .u8) a2g0.b).length) ∧ ((cut (List.map (rI .u8) [(IntKind.wrap .u8 (Int.fdiv x (2 ^ (min ((IntKind.wrap .i64 ((8 : Int) * a2v0))).toNat (IntKind.bits .u64)))))]) 0 1) = (List.map (rI .u8) (cut [(IntKind.wrap .u8 (Int.fdiv x (2 ^ (min ((IntKind.wrap .i64 ((8 : Int) * a2v0))).toNat (IntKind.bits .u64)))))] 0 1)) ∧ (1 = (List.map (rI .u8) (cut [(IntKind.wrap .u8 (Int.fdiv x (2 ^ (min ((IntKind.wrap .i64 ((8 : Int) * a2v0))).toNat (IntKind.bits .u64)))))] 0 1)).length)) ∧ (((List.map (rI .u8) a2g0.b).length + (List.map (rI .u8) (cut [(IntKind.wrap .u8 (Int.fdiv x (2 ^ (min ((IntKind.wrap .i64 ((8 : Int) * a2v0))).toNat (IntKind.bits .u64)))))] 0 1)).length) * 2 ≤ 70368744177664)) from ⟨app_map, ⟨cut_all rfl, rfl⟩, ⟨cut_map, a2h3⟩, a2h4⟩) (.ap (List.map (rI .u8) a2g0.b) (List.map (rI .u8) (cut [(IntKind.wrap .u8 (Int.fdiv x (2 ^ (min ((IntKind.wrap .i64 ((8 : Int) * a2v0))).toNat (IntKind.bits .u64)))))] 0 1)) (List.map (rI .u8) (a2g0.b ++ (cut [(IntKind.wrap .u8 (Int.fdiv x (2 ^ (min ((IntKind.wrap .i64 ((8 : Int) * a2v0))).toNat (IntKind.bits .u64)))))] 0 1))))))] [] [] <|
      .reg [] [] [] <|
      .gh (.keep [0, 1, 7]) trivial <|
      .again true ((IntKind.wrap .i64 (a2v0 - 1)), (Writer.mk (a2g0.b ++ (cut [(IntKind.wrap .u8 (Int.fdiv x (2 ^ (min ((IntKind.wrap .i64 ((8 : Int) * a2v0))).toNat (IntKind.bits .u64)))))] 0 1))))))))
    (fun a2h1 =>
    .cond false a2h1 <|
      .gh (.keep [0]) trivial <|
      .leaf true [] [] a2g0))) (fun _ _ => by kernel_rfl)
def wrNumN (fuel : Nat) (_ : WriterN) (x : Int) : Option Writer :=
  (Option.bind (wrNumNL1 x fuel (0 : Int) x) fun o1_0 =>
  (ifP (1 = (List.map (rI .u8) (cut [(IntKind.wrap .u8 o1_0)] 0 1)).length)
    (ifP ((List.map (rI .u8) (cut [(IntKind.wrap .u8 o1_0)] 0 1)).length * 2 ≤ 70368744177664)
    (Option.bind (wrNumNL2 x o1_0 fuel (IntKind.wrap .i64 (o1_0 - 1)) (Writer.mk (cut [(IntKind.wrap .u8 o1_0)] 0 1))) fun o4_0 =>
    (some o4_0)))))
theorem wrNumN_ok (g : GT) (fuel : Nat) (w : WriterN) (x : Int) : FTO prog g.1 55 [.a (.s (.ref 0 0)), (.a (.s (.c (.int .u64 x))))] (WriterN.objs w) (wrNumN fuel w x)
    (fun o0 => ([], (.a (.s (.ref 0 0))), Writer.objs o0)) :=
  Fn_go mixed func55 (
  .reg [] [] [] <|
  .reg [] [] [] <|
  .cond false (show false = false from rfl) <|
  .reg [] [] [] <|
  .reg [] [] [] <|
  .gh (.keep [0, 1, 5, 6]) trivial <|
  .bind (fun o1_0 h1 =>
  .claim false (wrNumNL1_ok g x fuel ((0 : Int), x) _ h1) <|
    .ifp (fun h2 =>
    .ifp (fun h3 =>
    .reg [(8, (Ji (show (((cut (List.map (rI .u8) [(IntKind.wrap .u8 o1_0)]) 0 1) = (List.map (rI .u8) (cut [(IntKind.wrap .u8 o1_0)] 0 1)) ∧ (1 = (List.map (rI .u8) (cut [(IntKind.wrap .u8 o1_0)] 0 1)).length)) ∧ ((List.map (rI .u8) (cut [(IntKind.wrap .u8 o1_0)] 0 1)).length * 2 ≤ 70368744177664)) from ⟨⟨cut_map, h2⟩, h3⟩) (.ap [] (List.map (rI .u8) (cut [(IntKind.wrap .u8 o1_0)] 0 1)) [])))] [] [] <|
    .reg [] [] [] <|
    .gh (.keep [0, 1, 7]) trivial <|
    .gh (.mv [2]) trivial <|
    .bind (fun o4_0 h4 =>
    .claim false (wrNumNL2_ok g x o1_0 fuel ((IntKind.wrap .i64 (o1_0 - 1)), (Writer.mk (cut [(IntKind.wrap .u8 o1_0)] 0 1))) _ h4) <|
      .reg [] [] [] <|
      .gh (.keep [4]) trivial <|
      .leaf false [0, 2] [] o4_0))))) (by kernel_rfl)
def wrBytes (w : Writer) : Option ByteArray :=
  (some (strOf w.b))
theorem wrBytes_ok (g : GT) (w : Writer) : FTO prog g.1 56 [.a (.s (.ref 0 0))] (Writer.objs w) (wrBytes w)
    (fun o0 => ([], (.a (.s (.c (.string o0)))), Writer.objs w)) :=
  Fn_go mixed func56 (
  .reg [] [] [] <|
  .reg [] [] [] <|
  .cond false (show false = false from rfl) <|
  .reg [(4, (Ji (show (some (cut (List.map (rI .u8) w.b) 0 (List.map (rI .u8) w.b).length) = some (List.map (rI .u8) w.b) ∧ (List.map (rI .u8) w.b).length = (w.b).length) from ⟨congrArg some (cut_all rfl), (by simp)⟩) (.st w.b)))] [] [] <|
  .gh (.keep [2]) trivial <|
  .leaf false [0, 1] [] (strOf w.b)) (by kernel_rfl)
def lConfig (fuel : Nat) (c : Int) : Option ByteArray :=
  (Option.bind (wrNumN fuel (WriterN.mk ) c) fun o1_0 =>
  (Option.bind (wrBytes o1_0) fun o2_0 =>
    (some o2_0)))
theorem lConfig_ok (g : GT) (fuel : Nat) (c : Int) : FTO prog g.1 42 [(.a (.s (.c (.int .u64 c))))] [] (lConfig fuel c)
    (fun o0 => ([], (.a (.s (.c (.string o0)))), [])) :=
  Fn_go mixed func42 (
  .reg [] [] [] <|
  .bind (fun o1_0 h1 =>
  .bind (fun o2_0 h2 =>
    .reg [(2, (CL [0] [1, 1] (wrNumN_ok g fuel (WriterN.mk ) c _ h1))), (3, (LK [0, 1] [1] (wrBytes_ok g o1_0 _ h2)))] [] [] <|
      .gh (.keep [2]) trivial <|
      .leaf false [] [] o2_0))) (by kernel_rfl)
def rSend (r : Raft) (x : Letter) : Option Raft :=
  (ifP (1 = (List.map Letter.row (cut [(Letter.mk x.kind r.id x.to r.hterm x.index x.prev x.commit x.ok x.entries x.data)] 0 1)).length)
  (ifP (((List.map Letter.row r.out).length + (List.map Letter.row (cut [(Letter.mk x.kind r.id x.to r.hterm x.index x.prev x.commit x.ok x.entries x.data)] 0 1)).length) * 105 ≤ 70368744177664)
  (some (Raft.mk r.id r.hterm r.vote r.log r.role r.leader r.commit r.votes r.next r.match_ r.entries r.install (r.out ++ (cut [(Letter.mk x.kind r.id x.to r.hterm x.index x.prev x.commit x.ok x.entries x.data)] 0 1)) r.reset))))
theorem rSend_ok (g : GT) (r : Raft) (x : Letter) : FTO prog g.1 31 [.a (.s (.ref 2 0)), .a (.g (Letter.row x))] (Raft.objs r) (rSend r x)
    (fun o0 => ([1, 3, 4], (.t []), Raft.objs o0)) :=
  Fn_go mixed func31 (
  .reg [] [] [] <|
  .reg [] [] [] <|
  .ifp (fun h1 =>
  .ifp (fun h2 =>
  .reg [(8, (Ji (show ((List.map Letter.row r.out) ++ (List.map Letter.row (cut [(Letter.mk x.kind r.id x.to r.hterm x.index x.prev x.commit x.ok x.entries x.data)] 0 1)) = (List.map Letter.row (r.out ++ (cut [(Letter.mk x.kind r.id x.to r.hterm x.index x.prev x.commit x.ok x.entries x.data)] 0 1))) ∧ (cut (List.map Letter.row r.out) 0 (List.map Letter.row r.out).length = (List.map Letter.row r.out) ∧ (List.map Letter.row r.out).length = (List.map Letter.row r.out).length) ∧ ((cut (List.map Letter.row [(Letter.mk x.kind r.id x.to r.hterm x.index x.prev x.commit x.ok x.entries x.data)]) 0 1) = (List.map Letter.row (cut [(Letter.mk x.kind r.id x.to r.hterm x.index x.prev x.commit x.ok x.entries x.data)] 0 1)) ∧ (1 = (List.map Letter.row (cut [(Letter.mk x.kind r.id x.to r.hterm x.index x.prev x.commit x.ok x.entries x.data)] 0 1)).length)) ∧ (((List.map Letter.row r.out).length + (List.map Letter.row (cut [(Letter.mk x.kind r.id x.to r.hterm x.index x.prev x.commit x.ok x.entries x.data)] 0 1)).length) * 105 ≤ 70368744177664)) from ⟨app_map, ⟨cut_all rfl, rfl⟩, ⟨cut_map, h1⟩, h2⟩) (.ap (List.map Letter.row r.out) (List.map Letter.row (cut [(Letter.mk x.kind r.id x.to r.hterm x.index x.prev x.commit x.ok x.entries x.data)] 0 1)) (List.map Letter.row (r.out ++ (cut [(Letter.mk x.kind r.id x.to r.hterm x.index x.prev x.commit x.ok x.entries x.data)] 0 1))))))] [] [] <|
  .gh (.keep []) trivial <|
  .leaf false [0, 1, 2, 3, 4] [] (Raft.mk r.id r.hterm r.vote r.log r.role r.leader r.commit r.votes r.next r.match_ r.entries r.install (r.out ++ (cut [(Letter.mk x.kind r.id x.to r.hterm x.index x.prev x.commit x.ok x.entries x.data)] 0 1)) r.reset)))) (by kernel_rfl)
def rFollow (r : Raft) (term : Int) : Option Raft :=
  (iteB (decide (term > r.hterm))
  (some (Raft.mk r.id term (-1) r.log 0 (-1) r.commit r.votes r.next r.match_ r.entries r.install r.out r.reset))
  (some (Raft.mk r.id r.hterm r.vote r.log 0 r.leader r.commit r.votes r.next r.match_ r.entries r.install r.out r.reset)))
theorem rFollow_ok (g : GT) (r : Raft) (term : Int) : FTO prog g.1 34 [.a (.s (.ref 2 0)), (.a (.s (.c (.int .u64 term))))] (Raft.objs r) (rFollow r term)
    (fun o0 => ([1, 3, 4], (.t []), Raft.objs o0)) :=
  Fn_go mixed func34 (
  .reg [] [] [] <|
  .reg [] [] [] <|
  .ite (fun h1 =>
  .cond true h1 <|
    .reg [] [] [] <|
    .reg [] [] [] <|
    .gh (.keep []) trivial <|
    .leaf false [0, 1, 2, 3, 4] [] (Raft.mk r.id term (-1) r.log 0 (-1) r.commit r.votes r.next r.match_ r.entries r.install r.out r.reset))
  (fun h1 =>
  .cond false h1 <|
    .gh (.keep []) trivial <|
    .leaf false [0, 1, 2, 3, 4] [] (Raft.mk r.id r.hterm r.vote r.log 0 r.leader r.commit r.votes r.next r.match_ r.entries r.install r.out r.reset))) (by kernel_rfl)
def rMembers (fuel : Nat) (r : Raft) : Option Int :=
  (Option.bind (lMembers fuel r.log) fun (o1_0, _) =>
  (some o1_0))
theorem rMembers_ok (g : GT) (fuel : Nat) (r : Raft) : FTO prog g.1 30 [.a (.s (.ref 2 0))] (Raft.objs r) (rMembers fuel r)
    (fun o0 => ([], (.a (.s (.c (.int .u64 o0)))), Raft.objs r)) :=
  Fn_go mixed func30 (
  .reg [] [] [] <|
  .bind (fun | (o1_0, _), h1 => (
  .reg [(4, (LK [0, 1] [1] (lMembers_ok g fuel r.log _ h1)))] [] [] <|
    .reg [] [] [] <|
    .gh (.keep [2]) trivial <|
    .leaf false [0, 1, 2, 3, 4] [] o1_0))) (by kernel_rfl)
def rStands (fuel : Nat) (r : Raft) : Option Bool :=
  (Option.bind (lMembers fuel r.log) fun (o1_0, o1_1) =>
  (iteB (decide (o1_1 > r.commit))
    (Option.bind (lMembersAt fuel r.log (IntKind.wrap .u64 (o1_1 - 1))) fun (o3_0, _) =>
      (Option.bind (qHas o1_0 r.id) fun o4_0 =>
        (iteB o4_0
          (some true)
          (Option.bind (qHas o3_0 r.id) fun o6_0 =>
            (some o6_0)))))
    (Option.bind (qHas o1_0 r.id) fun o3_0 =>
      (iteB o3_0
        (some true)
        (some o3_0)))))
theorem rStands_ok (g : GT) (fuel : Nat) (r : Raft) : FTO prog g.1 28 [.a (.s (.ref 2 0))] (Raft.objs r) (rStands fuel r)
    (fun o0 => ([], (.a (.s (.c (.bool o0)))), Raft.objs r)) :=
  Fn_go mixed func28 (
  .reg [] [] [] <|
  .bind (fun | (o1_0, o1_1), h1 => (
  .reg [(4, (LK [0, 1] [1] (lMembers_ok g fuel r.log _ h1)))] [] [] <|
    .reg [] [] [] <|
    .reg [] [] [] <|
    .ite (fun h2 =>
    .cond true h2 <|
      .bind (fun | (o3_0, _), h3 => (
      .reg [(6, (LK [0, 1] [1, 1] (lMembersAt_ok g fuel r.log (IntKind.wrap .u64 (o1_1 - 1)) _ h3)))] [] [] <|
        .bind (fun _ h4 =>
        .ite (fun h5 =>
          .reg [(5, (CL [] [1, 1] (qHas_ok g o1_0 r.id _ h4))), (13, (pB h5))] [(6, gB h5)] [] <|
            .gh (.keep [2]) trivial <|
            .leaf false [0, 1, 2, 3, 4] [] true)
          (fun h5 =>
          .bind (fun o6_0 h6 =>
            .reg [(5, (CL [] [1, 1] (qHas_ok g o1_0 r.id _ h4))), (12, (CL [] [1, 1] (qHas_ok g o3_0 r.id _ h6))), (13, (pB h5))] [(6, gB h5)] [] <|
              .gh (.keep [2]) trivial <|
              .leaf false [0, 1, 2, 3, 4] [] o6_0))))))
    (fun h2 =>
    .cond false h2 <|
      .bind (fun o3_0 h3 =>
      .ite (fun h4 =>
        .reg [(5, (CL [] [1, 1] (qHas_ok g o1_0 r.id _ h3))), (13, (pB h4))] [(6, gB h4)] [] <|
          .gh (.keep [2]) trivial <|
          .leaf false [0, 1, 2, 3, 4] [] true)
        (fun h4 =>
        .reg [(5, (CL [] [1, 1] (qHas_ok g o1_0 r.id _ h3))), (12, (CL [] [1, 1] (qHas_ok g o1_0 r.id _ h3))), (13, (pB h4))] [(6, gB h4)] [] <|
          .gh (.keep [2]) trivial <|
          .leaf false [0, 1, 2, 3, 4] [] o3_0)))))) (by kernel_rfl)
def rWrite (r : Raft) (to : Int) : Option Raft :=
  (Option.bind (lFirst r.log) fun o1_0 =>
  (ifP (0 ≤ to ∧ to < ((7 : Nat) : Int))
    (Option.bind (r.next[(to).toNat]?) fun e3 =>
    (iteB (decide (e3 ≤ o1_0.index))
    (Option.bind (rSend r (Letter.mk 5 0 to 0 o1_0.index o1_0.term o1_0.config false [] o1_0.data)) fun o5_0 =>
      (some o5_0))
    (Option.bind (lTerm r.log (IntKind.wrap .u64 (e3 - 1))) fun (o5_0, _) =>
      (Option.bind (lGet r.log (IntKind.wrap .u64 ((IntKind.wrap .u64 (e3 - 1)) + 1)) 8) fun o6_0 =>
        (Option.bind (rSend r (Letter.mk 3 0 to 0 (IntKind.wrap .u64 (e3 - 1)) o5_0 r.commit false o6_0 (ByteArray.mk #[]))) fun o7_0 =>
          (some o7_0))))))))
theorem rWrite_ok (g : GT) (r : Raft) (to : Int) : FTO prog g.1 43 [.a (.s (.ref 2 0)), (.a (.s (.c (.int .i64 to))))] (Raft.objs r) (rWrite r to)
    (fun o0 => ([1, 3, 4], (.t []), Raft.objs o0)) :=
  Fn_go mixed func43 (
  .bind (fun o1_0 h1 =>
  .reg [(4, (LK [0, 1] [1] (lFirst_ok g r.log _ h1)))] [] [] <|
    .ifp (fun h2 =>
    .bind (fun e3 h3 =>
    .reg [(4, (J h2)), (5, (eL (rI .u64) h3))] [] [] <|
    .ite (fun h4 =>
    .cond true h4 <|
      .bind (fun o5_0 h5 =>
      .reg [(11, (CL (args := [.a (.s (.ref 2 0)), (.a (.g [(.c (.int .i64 5)), (.c (.int .i64 0)), (.c (.int .i64 to)), (.c (.int .u64 0)), (.c (.int .u64 o1_0.index)), (.c (.int .u64 o1_0.term)), (.c (.int .u64 o1_0.config)), (.c (.bool false)), (.c (.slice none 0 0)), (.c (.string o1_0.data))]))]) [0, 1, 2, 3, 4] [1, 10] (FT.shut [[], [(8, 4)]] (rSend_ok g r (Letter.mk 5 0 to 0 o1_0.index o1_0.term o1_0.config false [] o1_0.data) _ h5))))] [] [] <|
        .gh (.keep []) trivial <|
        .leaf false [0, 1, 2, 3, 4] [] o5_0))
    (fun h4 =>
    .cond false h4 <|
      .reg [(4, (J h2)), (5, (eL (rI .u64) h3))] [] [] <|
      .bind (fun | (o5_0, _), h5 => (
      .reg [(5, (LK [0, 1] [1, 1] (lTerm_ok g r.log (IntKind.wrap .u64 (e3 - 1)) _ h5)))] [] [] <|
        .bind (fun o6_0 h6 =>
        .bind (fun o7_0 h7 =>
          .reg [(10, (LK [0, 1] [1, 1, 1] (lGet_ok g r.log (IntKind.wrap .u64 ((IntKind.wrap .u64 (e3 - 1)) + 1)) 8 _ h6))), (16, (CL [0, 1, 2, 3, 4] [1, 10] (rSend_ok g r (Letter.mk 3 0 to 0 (IntKind.wrap .u64 (e3 - 1)) o5_0 r.commit false o6_0 (ByteArray.mk #[])) _ h7)))] [] [] <|
            .gh (.keep []) trivial <|
            .leaf false [0, 1, 2, 3, 4] [] o7_0))))))))) (by kernel_rfl)
def rStatus (r : Raft) : Option (Int × Int × Hard × Int) :=
  (some (r.role, r.leader, (Hard.mk r.hterm r.vote), r.commit))
theorem rStatus_ok (g : GT) (r : Raft) : FTO prog g.1 23 [.a (.s (.ref 2 0))] (Raft.objs r) (rStatus r)
    (fun (o0, o1, o2, o3) => ([], (.t [(.s (.c (.int .i64 o0))), (.s (.c (.int .i64 o1))), (.g (Hard.row o2)), (.s (.c (.int .u64 o3)))]), Raft.objs r)) :=
  Fn_go mixed func23 (
  .reg [] [] [] <|
  .reg [] [] [] <|
  .cond false (show false = false from rfl) <|
  .reg [] [] [] <|
  .gh (.keep [2, 3, 4, 5]) trivial <|
  .leaf false [0, 1, 2, 3, 4] [] (r.role, r.leader, (Hard.mk r.hterm r.vote), r.commit)) (by kernel_rfl)
def rLog (_ : Raft) : Option Unit :=
  (some ())
theorem rLog_ok (g : GT) (r : Raft) : FTO prog g.1 17 [.a (.s (.ref 2 0))] (Raft.objs r) (rLog r)
    (fun _ => ([], (.a (.s (.ref 0 0))), Raft.objs r)) :=
  Fn_go mixed func17 (
  .reg [] [] [] <|
  .reg [] [] [] <|
  .cond false (show false = false from rfl) <|
  .reg [] [] [] <|
  .gh (.keep [2]) trivial <|
  .leaf false [0, 1, 2, 3, 4] [] ()) (by kernel_rfl)
def rTake (r : Raft) : Option (Ready × Raft) :=
  (some ((Ready.mk r.hterm r.vote r.entries r.install r.out r.reset r.commit), (Raft.mk r.id r.hterm r.vote r.log r.role r.leader r.commit r.votes r.next r.match_ [] false [] false)))
theorem rTake_ok (g : GT) (r : Raft) : FTO prog g.1 14 [.a (.s (.ref 2 0))] (Raft.objs r) (rTake r)
    (fun (o0, o1) => ([1, 3, 4], (.a (.g (Ready.row o0))), Raft.objs o1)) :=
  Fn_go mixed func14 (
  .reg [] [] [] <|
  .reg [] [] [] <|
  .cond false (show false = false from rfl) <|
  .reg [] [] [] <|
  .reg [] [] [] <|
  .adoptC 2 22 4 <|
  .adoptC 2 24 10 <|
  .reg [] [] [] <|
  .gh (.keep [2]) trivial <|
  .gh (.lend [(3, (List.map Entry.row r.entries)), (4, (List.map Letter.row r.out))]) (show ((some (cut (List.map Entry.row r.entries) 0 (List.map Entry.row r.entries).length) = some (List.map Entry.row r.entries) ∧ (List.map Entry.row r.entries).length = (List.map Entry.row r.entries).length) ∧ (some (cut (List.map Letter.row r.out) 0 (List.map Letter.row r.out).length) = some (List.map Letter.row r.out) ∧ (List.map Letter.row r.out).length = (List.map Letter.row r.out).length) ∧ (some (cut (List.map Entry.row r.entries) 0 (List.map Entry.row r.entries).length) = some (List.map Entry.row r.entries) ∧ (List.map Entry.row r.entries).length = (List.map Entry.row r.entries).length) ∧ (some (cut (List.map Letter.row r.out) 0 (List.map Letter.row r.out).length) = some (List.map Letter.row r.out) ∧ (List.map Letter.row r.out).length = (List.map Letter.row r.out).length) ∧ True) from ⟨⟨congrArg some (cut_all rfl), rfl⟩, ⟨congrArg some (cut_all rfl), rfl⟩, ⟨congrArg some (cut_all rfl), rfl⟩, ⟨congrArg some (cut_all rfl), rfl⟩, trivial⟩) <|
  .leaf false [0, 1, 2, 7, 8] [] ((Ready.mk r.hterm r.vote r.entries r.install r.out r.reset r.commit), (Raft.mk r.id r.hterm r.vote r.log r.role r.leader r.commit r.votes r.next r.match_ [] false [] false))) (by kernel_rfl)
def rTimeout_nil : Option Unit :=
  (some ())
theorem rTimeout_nil_ok (g : GT) : FTO prog g.1 12 [.a (.s (.c (.pointer none)))] [] (rTimeout_nil )
    (fun _ => ([], (.t []), [])) :=
  Fn_go mixed func12 (
  .reg [(8, (pS true)), (13, (pS true)), (21, (pS true))] [(2, gS true), (9, gS true), (14, gS true)] [] <|
  .cond true (show true = true from rfl) <|
  .gh (.keep []) trivial <|
  .leaf false [] [] ()) (by kernel_rfl)
def rBeat_nil : Option Unit :=
  (some ())
theorem rBeat_nil_ok (g : GT) : FTO prog g.1 22 [.a (.s (.c (.pointer none)))] [] (rBeat_nil )
    (fun _ => ([], (.t []), [])) :=
  Fn_go mixed func22 (
  .reg [(8, (pS true))] [(2, gS true)] [] <|
  .cond true (show true = true from rfl) <|
  .gh (.keep []) trivial <|
  .leaf false [] [] ()) (by kernel_rfl)
def rReceive_nil (_ : Letter) : Option Unit :=
  (some ())
theorem rReceive_nil_ok (g : GT) (x : Letter) : FTO prog g.1 16 [.a (.s (.c (.pointer none))), .a (.g (Letter.row x))] [] (rReceive_nil x)
    (fun _ => ([], (.t []), [])) :=
  Fn_go mixed func16 (
  .reg [] [] [] <|
  .reg [(6, (pS true)), (11, (pS true)), (20, (pS true)), (29, (pS true)), (34, (pS true)), (39, (pS true)), (44, (pS true))] [(2, gS true), (7, gS true), (12, gS true), (21, gS true), (30, gS true), (35, gS true), (40, gS true)] [] <|
  .cond true (show true = true from rfl) <|
  .gh (.keep []) trivial <|
  .leaf false [] [] ()) (by kernel_rfl)
def rPropose_nil (_ : ByteArray) : Option Unit :=
  (some ())
theorem rPropose_nil_ok (g : GT) (data : ByteArray) : FTO prog g.1 13 [.a (.s (.c (.pointer none))), (.a (.s (.c (.string data))))] [] (rPropose_nil data)
    (fun _ => ([], (.t [(.s (.c (.int .u64 0))), (.s (.c (.int .i64 30)))]), [])) :=
  Fn_go mixed func13 (
  .reg [] [] [] <|
  .reg [(8, (pS true))] [(2, gS true)] [] <|
  .cond true (show true = true from rfl) <|
  .reg [] [] [] <|
  .gh (.keep [4, 5]) trivial <|
  .leaf false [] [] ()) (by kernel_rfl)
def rChange_nil (_ : Bool) (_ : Int) : Option Unit :=
  (some ())
theorem rChange_nil_ok (g : GT) (add : Bool) (id : Int) : FTO prog g.1 20 [.a (.s (.c (.pointer none))), (.a (.s (.c (.bool add)))), (.a (.s (.c (.int .i64 id))))] [] (rChange_nil add id)
    (fun _ => ([], (.t [(.s (.c (.int .u64 0))), (.s (.c (.int .i64 30)))]), [])) :=
  Fn_go mixed func20 (
  .reg [] [] [] <|
  .reg [(8, (pS true))] [(2, gS true)] [] <|
  .cond true (show true = true from rfl) <|
  .reg [] [] [] <|
  .gh (.keep [6, 7]) trivial <|
  .leaf false [] [] ()) (by kernel_rfl)
def rStatus_nil : Option Hard :=
  (some (Hard.mk 0 (-1)))
theorem rStatus_nil_ok (g : GT) : FTO prog g.1 23 [.a (.s (.c (.pointer none)))] [] (rStatus_nil )
    (fun o2 => ([], (.t [(.s (.c (.int .i64 0))), (.s (.c (.int .i64 (-1)))), (.g (Hard.row o2)), (.s (.c (.int .u64 0)))]), [])) :=
  Fn_go mixed func23 (
  .reg [] [] [] <|
  .reg [] [] [] <|
  .cond true (show true = true from rfl) <|
  .reg [] [] [] <|
  .gh (.keep [2, 3, 4, 5]) trivial <|
  .leaf false [] [] (Hard.mk 0 (-1))) (by kernel_rfl)
def rTake_nil : Option Ready :=
  (some (Ready.mk 0 0 [] false [] false 0))
theorem rTake_nil_ok (g : GT) : FTO prog g.1 14 [.a (.s (.c (.pointer none)))] [] (rTake_nil )
    (fun o0 => ([], (.a (.g (Ready.row o0))), [])) :=
  Fn_go mixed func14 (
  .reg [] [] [] <|
  .reg [] [] [] <|
  .cond true (show true = true from rfl) <|
  .reg [] [] [] <|
  .gh (.keep [2]) trivial <|
  .leaf false [] [[(2, 4), (4, 10)]] (Ready.mk 0 0 [] false [] false 0)) (by kernel_rfl)
def rLog_nil : Option Unit :=
  (some ())
theorem rLog_nil_ok (g : GT) : FTO prog g.1 17 [.a (.s (.c (.pointer none)))] [] (rLog_nil )
    (fun _ => ([], (.a (.s (.c (.pointer none)))), [])) :=
  Fn_go mixed func17 (
  .reg [] [] [] <|
  .reg [] [] [] <|
  .cond true (show true = true from rfl) <|
  .reg [] [] [] <|
  .gh (.keep [2]) trivial <|
  .leaf false [] [] ()) (by kernel_rfl)
def rCompact_nil (_ : Int) (_ : ByteArray) : Option Unit :=
  (some ())
theorem rCompact_nil_ok (g : GT) (i : Int) (data : ByteArray) : FTO prog g.1 26 [.a (.s (.c (.pointer none))), (.a (.s (.c (.int .u64 i)))), (.a (.s (.c (.string data))))] [] (rCompact_nil i data)
    (fun _ => ([], (.a (.s (.c (.int .i64 1)))), [])) :=
  Fn_go mixed func26 (
  .reg [] [] [] <|
  .reg [(9, (pS true))] [(2, gS true)] [] <|
  .cond true (show true = true from rfl) <|
  .reg [] [] [] <|
  .gh (.keep [6]) trivial <|
  .leaf false [] [] ()) (by kernel_rfl)
def rNew_nil (id : Int) (_ : Hard) : Option Unit :=
  (iteB (decide (id < 0))
  (some ())
  (iteB (decide (id ≥ 7))
    (some ())
    (some ())))
theorem rNew_nil_ok (g : GT) (id : Int) (h_ : Hard) : FTO prog g.1 11 [(.a (.s (.c (.int .i64 id)))), .a (.g (Hard.row h_)), .a (.s (.c (.pointer none)))] [] (rNew_nil id h_)
    (fun _ => ([], (.t [(.s (.c (.pointer none))), (.s (.c (.int .i64 1)))]), [])) :=
  Fn_go mixed func11 (
  .reg [] [] [] <|
  .ite (fun h1 =>
  .reg [(5, (pB h1)), (9, (pS true)), (14, (pS true)), (19, (pS true))] [(2, gB h1), (6, gS true), (10, gS true), (15, gS true)] [] <|
    .cond true (show true = true from rfl) <|
    .reg [] [] [] <|
    .gh (.keep [6, 7]) trivial <|
    .leaf false [] [] ())
  (fun h1 =>
  .ite (fun h2 =>
    .reg [(5, (pB h1)), (9, (pB h2)), (14, (pS true)), (19, (pS true))] [(2, gB h1), (6, gB h2), (10, gS true), (15, gS true)] [] <|
      .cond true (show true = true from rfl) <|
      .reg [] [] [] <|
      .gh (.keep [6, 7]) trivial <|
      .leaf false [] [] ())
    (fun h2 =>
    .reg [(5, (pB h1)), (9, (pB h2)), (14, (pS true)), (19, (pS true))] [(2, gB h1), (6, gB h2), (10, gS true), (15, gS true)] [] <|
      .cond true (show true = true from rfl) <|
      .reg [] [] [] <|
      .gh (.keep [6, 7]) trivial <|
      .leaf false [] [] ()))) (by kernel_rfl)
def rNew (id : Int) (h_ : Hard) (g_ : Log) : Option (Unit ⊕ Raft) :=
  (iteB (decide (id < 0))
  (some (Sum.inl ()))
  (iteB (decide (id ≥ 7))
    (some (Sum.inl ()))
    (iteB (decide (h_.vote < (-1)))
      (some (Sum.inl ()))
      (iteB (decide (h_.vote ≥ 7))
        (some (Sum.inl ()))
        (Option.bind (lLast g_) fun (o5_0, o5_1) =>
          (iteB (decide (o5_1 > h_.term))
            (some (Sum.inl ()))
            (iteB (decide (o5_0 > 9223372036854775808))
              (some (Sum.inl ()))
              (Option.bind (lFirst g_) fun o8_0 =>
                (some (Sum.inr (Raft.mk id h_.term h_.vote g_ 0 (-1) o8_0.index 0 [0, 0, 0, 0, 0, 0, 0] [0, 0, 0, 0, 0, 0, 0] [] false [] false)))))))))))
theorem rNew_ok (g : GT) (id : Int) (h_ : Hard) (g_ : Log) : FTO prog g.1 11 [(.a (.s (.c (.int .i64 id)))), .a (.g (Hard.row h_)), .a (.s (.ref 0 0))] (Log.objs g_) (rNew id h_ g_)
    (Sum.elim (fun _ => ([], (.t [(.s (.c (.pointer none))), (.s (.c (.int .i64 1)))]), Log.objs g_)) (fun o1 => ([1], (.t [(.s (.ref 2 0)), (.s (.c (.int .i64 0)))]), Raft.objs o1))) :=
  Fn_go mixed func11 (
  .reg [] [] [] <|
  .ite (fun h1 =>
  .reg [(5, (pB h1)), (9, (pS true)), (14, (pS true)), (19, (pS true))] [(2, gB h1), (6, gS true), (10, gS true), (15, gS true)] [] <|
    .cond true (show true = true from rfl) <|
    .reg [] [] [] <|
    .gh (.keep [6, 7]) trivial <|
    .leaf false [0, 1] [] (Sum.inl ()))
  (fun h1 =>
  .ite (fun h2 =>
    .reg [(5, (pB h1)), (9, (pB h2)), (14, (pS true)), (19, (pS true))] [(2, gB h1), (6, gB h2), (10, gS true), (15, gS true)] [] <|
      .cond true (show true = true from rfl) <|
      .reg [] [] [] <|
      .gh (.keep [6, 7]) trivial <|
      .leaf false [0, 1] [] (Sum.inl ()))
    (fun h2 =>
    .ite (fun h3 =>
      .reg [(5, (pB h1)), (9, (pB h2)), (14, (pS false)), (19, (pB h3))] [(2, gB h1), (6, gB h2), (10, gS false), (15, gB h3)] [] <|
        .cond true (show true = true from rfl) <|
        .reg [] [] [] <|
        .gh (.keep [6, 7]) trivial <|
        .leaf false [0, 1] [] (Sum.inl ()))
      (fun h3 =>
      .reg [(5, (pB h1)), (9, (pB h2)), (14, (pS false)), (19, (pB h3))] [(2, gB h1), (6, gB h2), (10, gS false), (15, gB h3)] [] <|
        .ite (fun h4 =>
        .cond true h4 <|
          .reg [] [] [] <|
          .gh (.keep [6, 7]) trivial <|
          .leaf false [0, 1] [] (Sum.inl ()))
        (fun h4 =>
        .cond false h4 <|
          .bind (fun | _, h5 => (
          .reg [(1, (LK [0, 1] [1] (lLast_ok g g_ _ h5)))] [] [] <|
            .ite (fun h6 =>
            .reg [(7, (pB h6))] [(4, gB h6)] [] <|
              .cond true (show true = true from rfl) <|
              .reg [] [] [] <|
              .gh (.keep [6, 7]) trivial <|
              .leaf false [0, 1] [] (Sum.inl ()))
            (fun h6 =>
            .reg [(7, (pB h6))] [(4, gB h6)] [] <|
              .ite (fun h7 =>
              .cond true h7 <|
                .reg [] [] [] <|
                .gh (.keep [6, 7]) trivial <|
                .leaf false [0, 1] [] (Sum.inl ()))
              (fun h7 =>
              .cond false h7 <|
                .bind (fun o8_0 h8 =>
                .reg [(4, (LK [0, 1] [1] (lFirst_ok g g_ _ h8))), (7, (It' (.i (.sh [(8, 7, 1), (15, 7, 1)]))))] [] [] <|
                  .adoptC 3 22 4 <|
                  .adoptC 3 24 10 <|
                  .gh (.keep [6, 7]) trivial <|
                  .leaf false [0, 1, 3, 4, 5] [] (Sum.inr (Raft.mk id h_.term h_.vote g_ 0 (-1) o8_0.index 0 [0, 0, 0, 0, 0, 0, 0] [0, 0, 0, 0, 0, 0, 0] [] false [] false)))))))))))) (by kernel_rfl)
def rKeepL1 (l : List Entry) : Nat → Raft → Option Raft
  | 0, _ => none
  | fuel + 1, a1g0 =>
  (iteB (decide ((((List.map Entry.row a1g0.entries).length : Nat) : Int) > 0))
  (ifP (0 ≤ (IntKind.wrap .i64 ((((List.map Entry.row a1g0.entries).length : Nat) : Int) - 1)) ∧ (IntKind.wrap .i64 ((((List.map Entry.row a1g0.entries).length : Nat) : Int) - 1)) < (((List.map Entry.row a1g0.entries).length : Nat) : Int))
    (Option.bind (a1g0.entries[(0 + ((IntKind.wrap .i64 ((((List.map Entry.row a1g0.entries).length : Nat) : Int) - 1))).toNat)]?) fun a1e3 =>
    (Option.bind (l[0]?) fun a1e4 =>
    (iteB (decide (a1e3.index ≥ a1e4.index))
    (ifP (0 ≤ (0 : Int) ∧ (0 : Int) ≤ (IntKind.wrap .i64 ((((List.map Entry.row a1g0.entries).length : Nat) : Int) - 1)) ∧ (IntKind.wrap .i64 ((((List.map Entry.row a1g0.entries).length : Nat) : Int) - 1)) ≤ (((List.map Entry.row a1g0.entries).length : Nat) : Int))
      (ifP (((IntKind.wrap .i64 ((((List.map Entry.row a1g0.entries).length : Nat) : Int) - 1)) - 0).toNat = (List.map Entry.row (cut a1g0.entries 0 ((IntKind.wrap .i64 ((((List.map Entry.row a1g0.entries).length : Nat) : Int) - 1)) - 0).toNat)).length)
      (rKeepL1 l fuel (Raft.mk a1g0.id a1g0.hterm a1g0.vote a1g0.log a1g0.role a1g0.leader a1g0.commit a1g0.votes a1g0.next a1g0.match_ (cut a1g0.entries 0 ((IntKind.wrap .i64 ((((List.map Entry.row a1g0.entries).length : Nat) : Int) - 1)) - 0).toNat) a1g0.install a1g0.out a1g0.reset))))
    (some a1g0)))))
  (some a1g0))
theorem rKeepL1_ok (g : GT) (l : List Entry) : ∀ (fuel : Nat) (v : Raft), PcO prog g.1 (.loop (subC [1, 0, 0, 0] (bodyOf f51))) ((fun a1g0 => ({ tm := mkTm 56 [(0, (.a (.s (.ref 2 22)))), (1, (.a (.s (.ssl 4 (List.map Entry.row l)))))], hp := [.cells [.one (.c (.int .u64 a1g0.log.index)), .one (.c (.int .u64 a1g0.log.term)), .one (.c (.int .u64 a1g0.log.config)), .one (.c (.string a1g0.log.data)), .one (.sl 1 0 4 0 (List.map Entry.row a1g0.log.entries).length)], .arr 4 (List.map Entry.row a1g0.log.entries), .cells [.one (.c (.int .i64 a1g0.id)), .one (.c (.int .u64 a1g0.hterm)), .one (.c (.int .i64 a1g0.vote)), .one (.ref 0 0), .one (.c (.int .i64 a1g0.role)), .one (.c (.int .i64 a1g0.leader)), .one (.c (.int .u64 a1g0.commit)), .one (.c (.int .u64 a1g0.votes)), .row 7 1 (List.map (rI .u64) a1g0.next), .row 7 1 (List.map (rI .u64) a1g0.match_), .one (.sl 3 0 4 0 (List.map Entry.row a1g0.entries).length), .one (.c (.bool a1g0.install)), .one (.sl 4 0 10 0 (List.map Letter.row a1g0.out).length), .one (.c (.bool a1g0.reset))], .arr 4 (List.map Entry.row a1g0.entries), .arr 10 (List.map Letter.row a1g0.out)], mv := [] } : St)) v) (rKeepL1 l fuel v)
    (fun o0 => ((.exit 0), { tm := mkTm 56 [(0, (.a (.s (.ref 2 22)))), (1, (.a (.s (.ssl 4 (List.map Entry.row l)))))], hp := [.cells [.one (.c (.int .u64 o0.log.index)), .one (.c (.int .u64 o0.log.term)), .one (.c (.int .u64 o0.log.config)), .one (.c (.string o0.log.data)), .one (.sl 1 0 4 0 (List.map Entry.row o0.log.entries).length)], .arr 4 (List.map Entry.row o0.log.entries), .cells [.one (.c (.int .i64 o0.id)), .one (.c (.int .u64 o0.hterm)), .one (.c (.int .i64 o0.vote)), .one (.ref 0 0), .one (.c (.int .i64 o0.role)), .one (.c (.int .i64 o0.leader)), .one (.c (.int .u64 o0.commit)), .one (.c (.int .u64 o0.votes)), .row 7 1 (List.map (rI .u64) o0.next), .row 7 1 (List.map (rI .u64) o0.match_), .one (.sl 3 0 4 0 (List.map Entry.row o0.entries).length), .one (.c (.bool o0.install)), .one (.sl 4 0 10 0 (List.map Letter.row o0.out).length), .one (.c (.bool o0.reset))], .arr 4 (List.map Entry.row o0.entries), .arr 10 (List.map Letter.row o0.out)], mv := [] })) :=
  Lo_go (rec := (fun n (v : Raft) => rKeepL1 l n v)) mixed (fun _ => rfl)
    (fun _ a1g0 =>
    .ite (fun a1h1 =>
    .ifp (fun a1h2 =>
      .bind (fun _ a1h3 =>
      .bind (fun a1e4 a1h4 =>
      .reg [(17, (J a1h2)), (19, (eL Entry.row a1h3)), (21, (Ji (show (0 ≤ (0 : Int) ∧ (List.map Entry.row l)[0]? = some (Entry.row a1e4)) from ⟨(by decide), map_get a1h4⟩) (.e (Entry.row a1e4)))), (25, (pB a1h1))] [(6, gB a1h1)] [] <|
      .ite (fun a1h5 =>
      .cond true a1h5 <|
        .ifp (fun a1h6 =>
        .reg [(11, (J a1h6))] [] [] <|
        .ifp (fun a1h7 =>
        .gh (.trim 3 ((IntKind.wrap .i64 ((((List.map Entry.row a1g0.entries).length : Nat) : Int) - 1)) - 0).toNat) trivial <|
        .eqO 3 (.arr 4 (List.map Entry.row (cut a1g0.entries 0 ((IntKind.wrap .i64 ((((List.map Entry.row a1g0.entries).length : Nat) : Int) - 1)) - 0).toNat))) (show ((.arr 4 (cut (List.map Entry.row a1g0.entries) 0 ((IntKind.wrap .i64 ((((List.map Entry.row a1g0.entries).length : Nat) : Int) - 1)) - 0).toNat) : O) = .arr 4 (List.map Entry.row (cut a1g0.entries 0 ((IntKind.wrap .i64 ((((List.map Entry.row a1g0.entries).length : Nat) : Int) - 1)) - 0).toNat))) from (congrArg (fun z => (O.arr 4 z)) cut_map)) <|
        .eqO 2 (.cells [.one (.c (.int .i64 a1g0.id)), .one (.c (.int .u64 a1g0.hterm)), .one (.c (.int .i64 a1g0.vote)), .one (.ref 0 0), .one (.c (.int .i64 a1g0.role)), .one (.c (.int .i64 a1g0.leader)), .one (.c (.int .u64 a1g0.commit)), .one (.c (.int .u64 a1g0.votes)), .row 7 1 (List.map (rI .u64) a1g0.next), .row 7 1 (List.map (rI .u64) a1g0.match_), .one (.sl 3 0 4 0 (List.map Entry.row (cut a1g0.entries 0 ((IntKind.wrap .i64 ((((List.map Entry.row a1g0.entries).length : Nat) : Int) - 1)) - 0).toNat)).length), .one (.c (.bool a1g0.install)), .one (.sl 4 0 10 0 (List.map Letter.row a1g0.out).length), .one (.c (.bool a1g0.reset))]) (show ((.cells [.one (.c (.int .i64 a1g0.id)), .one (.c (.int .u64 a1g0.hterm)), .one (.c (.int .i64 a1g0.vote)), .one (.ref 0 0), .one (.c (.int .i64 a1g0.role)), .one (.c (.int .i64 a1g0.leader)), .one (.c (.int .u64 a1g0.commit)), .one (.c (.int .u64 a1g0.votes)), .row 7 1 (List.map (rI .u64) a1g0.next), .row 7 1 (List.map (rI .u64) a1g0.match_), .one (.sl 3 0 4 0 ((IntKind.wrap .i64 ((((List.map Entry.row a1g0.entries).length : Nat) : Int) - 1)) - 0).toNat), .one (.c (.bool a1g0.install)), .one (.sl 4 0 10 0 (List.map Letter.row a1g0.out).length), .one (.c (.bool a1g0.reset))] : O) = .cells [.one (.c (.int .i64 a1g0.id)), .one (.c (.int .u64 a1g0.hterm)), .one (.c (.int .i64 a1g0.vote)), .one (.ref 0 0), .one (.c (.int .i64 a1g0.role)), .one (.c (.int .i64 a1g0.leader)), .one (.c (.int .u64 a1g0.commit)), .one (.c (.int .u64 a1g0.votes)), .row 7 1 (List.map (rI .u64) a1g0.next), .row 7 1 (List.map (rI .u64) a1g0.match_), .one (.sl 3 0 4 0 (List.map Entry.row (cut a1g0.entries 0 ((IntKind.wrap .i64 ((((List.map Entry.row a1g0.entries).length : Nat) : Int) - 1)) - 0).toNat)).length), .one (.c (.bool a1g0.install)), .one (.sl 4 0 10 0 (List.map Letter.row a1g0.out).length), .one (.c (.bool a1g0.reset))]) from (congrArg (fun z : Nat => (.cells [.one (.c (.int .i64 a1g0.id)), .one (.c (.int .u64 a1g0.hterm)), .one (.c (.int .i64 a1g0.vote)), .one (.ref 0 0), .one (.c (.int .i64 a1g0.role)), .one (.c (.int .i64 a1g0.leader)), .one (.c (.int .u64 a1g0.commit)), .one (.c (.int .u64 a1g0.votes)), .row 7 1 (List.map (rI .u64) a1g0.next), .row 7 1 (List.map (rI .u64) a1g0.match_), .one (.sl 3 0 4 0 z), .one (.c (.bool a1g0.install)), .one (.sl 4 0 10 0 (List.map Letter.row a1g0.out).length), .one (.c (.bool a1g0.reset))] : O)) a1h7)) <|
        .gh (.keep [0, 1]) trivial <|
        .again true (Raft.mk a1g0.id a1g0.hterm a1g0.vote a1g0.log a1g0.role a1g0.leader a1g0.commit a1g0.votes a1g0.next a1g0.match_ (cut a1g0.entries 0 ((IntKind.wrap .i64 ((((List.map Entry.row a1g0.entries).length : Nat) : Int) - 1)) - 0).toNat) a1g0.install a1g0.out a1g0.reset))))
      (fun a1h5 =>
      .cond false a1h5 <|
        .gh (.keep [0, 1]) trivial <|
        .leaf true [] [] a1g0)))))
    (fun a1h1 =>
    .reg [(25, (pB a1h1))] [(6, gB a1h1)] [] <|
      .cond false (show false = false from rfl) <|
      .gh (.keep [0, 1]) trivial <|
      .leaf true [] [] a1g0)) (fun _ _ => by kernel_rfl)
def rKeep (fuel : Nat) (r : Raft) (l : List Entry) : Option Raft :=
  (iteB ((((List.map Entry.row l).length : Nat) : Int) == 0)
  (some r)
  (Option.bind (rKeepL1 l fuel r) fun o2_0 =>
    (ifP (((List.map Entry.row o2_0.entries).length + (List.map Entry.row l).length) * 41 ≤ 70368744177664)
      (some (Raft.mk o2_0.id o2_0.hterm o2_0.vote o2_0.log o2_0.role o2_0.leader o2_0.commit o2_0.votes o2_0.next o2_0.match_ (o2_0.entries ++ l) o2_0.install o2_0.out o2_0.reset)))))
theorem rKeep_ok (g : GT) (fuel : Nat) (r : Raft) (l : List Entry) : FTO prog g.1 51 [.a (.s (.ref 2 22)), (.a (.s (.ssl 4 (List.map Entry.row l))))] (Raft.objs r) (rKeep fuel r l)
    (fun o0 => ([1, 3, 4], (.t []), Raft.objs o0)) :=
  Fn_go mixed func51 (
  .reg [] [] [] <|
  .ite (fun h1 =>
  .cond true h1 <|
    .gh (.keep []) trivial <|
    .leaf false [0, 1, 2, 3, 4] [] r)
  (fun h1 =>
  .cond false h1 <|
    .gh (.keep [0, 1]) trivial <|
    .bind (fun o2_0 h2 =>
    .claim false (rKeepL1_ok g l fuel r _ h2) <|
      .ifp (fun h3 =>
      .reg [(6, (Ji (show ((List.map Entry.row o2_0.entries) ++ (List.map Entry.row l) = (List.map Entry.row (o2_0.entries ++ l)) ∧ (cut (List.map Entry.row o2_0.entries) 0 (List.map Entry.row o2_0.entries).length = (List.map Entry.row o2_0.entries) ∧ (List.map Entry.row o2_0.entries).length = (List.map Entry.row o2_0.entries).length) ∧ ((List.map Entry.row l) = (List.map Entry.row l) ∧ True) ∧ (((List.map Entry.row o2_0.entries).length + (List.map Entry.row l).length) * 41 ≤ 70368744177664)) from ⟨app_map, ⟨cut_all rfl, rfl⟩, ⟨rfl, trivial⟩, h3⟩) (.ap (List.map Entry.row o2_0.entries) (List.map Entry.row l) (List.map Entry.row (o2_0.entries ++ l)))))] [] [] <|
      .gh (.keep []) trivial <|
      .leaf false [0, 1, 2, 3, 4] [] (Raft.mk o2_0.id o2_0.hterm o2_0.vote o2_0.log o2_0.role o2_0.leader o2_0.commit o2_0.votes o2_0.next o2_0.match_ (o2_0.entries ++ l) o2_0.install o2_0.out o2_0.reset))))) (by kernel_rfl)
def rAsked (r : Raft) (x : Letter) : Option Raft :=
  (Option.bind (lLast r.log) fun (o1_0, o1_1) =>
  (iteB (decide (x.prev > o1_1))
    (iteB (x.term == r.hterm)
      (iteB (r.role == 0)
        (iteB (r.vote == (-1))
          (Option.bind (rSend (Raft.mk r.id r.hterm x.from_ r.log r.role r.leader r.commit r.votes r.next r.match_ r.entries r.install r.out true) (Letter.mk 2 0 x.from_ 0 0 0 0 true [] (ByteArray.mk #[]))) fun o6_0 =>
            (some o6_0))
          (iteB (r.vote == x.from_)
            (Option.bind (rSend (Raft.mk r.id r.hterm x.from_ r.log r.role r.leader r.commit r.votes r.next r.match_ r.entries r.install r.out true) (Letter.mk 2 0 x.from_ 0 0 0 0 true [] (ByteArray.mk #[]))) fun o7_0 =>
              (some o7_0))
            (Option.bind (rSend r (Letter.mk 2 0 x.from_ 0 0 0 0 false [] (ByteArray.mk #[]))) fun o7_0 =>
              (some o7_0))))
        (Option.bind (rSend r (Letter.mk 2 0 x.from_ 0 0 0 0 false [] (ByteArray.mk #[]))) fun o5_0 =>
          (some o5_0)))
      (Option.bind (rSend r (Letter.mk 2 0 x.from_ 0 0 0 0 false [] (ByteArray.mk #[]))) fun o4_0 =>
        (some o4_0)))
    (iteB (x.prev == o1_1)
      (iteB (x.term == r.hterm)
        (iteB (r.role == 0)
          (iteB (r.vote == (-1))
            (iteB (decide (x.index ≥ o1_0))
              (Option.bind (rSend (Raft.mk r.id r.hterm x.from_ r.log r.role r.leader r.commit r.votes r.next r.match_ r.entries r.install r.out true) (Letter.mk 2 0 x.from_ 0 0 0 0 (decide (x.index ≥ o1_0)) [] (ByteArray.mk #[]))) fun o8_0 =>
                (some o8_0))
              (Option.bind (rSend r (Letter.mk 2 0 x.from_ 0 0 0 0 (decide (x.index ≥ o1_0)) [] (ByteArray.mk #[]))) fun o8_0 =>
                (some o8_0)))
            (iteB (r.vote == x.from_)
              (iteB (decide (x.index ≥ o1_0))
                (Option.bind (rSend (Raft.mk r.id r.hterm x.from_ r.log r.role r.leader r.commit r.votes r.next r.match_ r.entries r.install r.out true) (Letter.mk 2 0 x.from_ 0 0 0 0 (decide (x.index ≥ o1_0)) [] (ByteArray.mk #[]))) fun o9_0 =>
                  (some o9_0))
                (Option.bind (rSend r (Letter.mk 2 0 x.from_ 0 0 0 0 (decide (x.index ≥ o1_0)) [] (ByteArray.mk #[]))) fun o9_0 =>
                  (some o9_0)))
              (Option.bind (rSend r (Letter.mk 2 0 x.from_ 0 0 0 0 false [] (ByteArray.mk #[]))) fun o8_0 =>
                (some o8_0))))
          (Option.bind (rSend r (Letter.mk 2 0 x.from_ 0 0 0 0 false [] (ByteArray.mk #[]))) fun o6_0 =>
            (some o6_0)))
        (Option.bind (rSend r (Letter.mk 2 0 x.from_ 0 0 0 0 false [] (ByteArray.mk #[]))) fun o5_0 =>
          (some o5_0)))
      (iteB (x.term == r.hterm)
        (iteB (r.role == 0)
          (iteB (r.vote == (-1))
            (Option.bind (rSend r (Letter.mk 2 0 x.from_ 0 0 0 0 false [] (ByteArray.mk #[]))) fun o7_0 =>
              (some o7_0))
            (iteB (r.vote == x.from_)
              (Option.bind (rSend r (Letter.mk 2 0 x.from_ 0 0 0 0 false [] (ByteArray.mk #[]))) fun o8_0 =>
                (some o8_0))
              (Option.bind (rSend r (Letter.mk 2 0 x.from_ 0 0 0 0 false [] (ByteArray.mk #[]))) fun o8_0 =>
                (some o8_0))))
          (Option.bind (rSend r (Letter.mk 2 0 x.from_ 0 0 0 0 false [] (ByteArray.mk #[]))) fun o6_0 =>
            (some o6_0)))
        (Option.bind (rSend r (Letter.mk 2 0 x.from_ 0 0 0 0 false [] (ByteArray.mk #[]))) fun o5_0 =>
          (some o5_0))))))
theorem rAsked_ok (g : GT) (r : Raft) (x : Letter) : FTO prog g.1 35 [.a (.s (.ref 2 0)), .a (.g (Letter.row x))] (Raft.objs r) (rAsked r x)
    (fun o0 => ([1, 3, 4], (.t []), Raft.objs o0)) :=
  Fn_go mixed func35 (
  .reg [] [] [] <|
  .bind (fun | (o1_0, _), h1 => (
  .reg [(4, (LK [0, 1] [1] (lLast_ok g r.log _ h1)))] [] [] <|
    .ite (fun h2 =>
    .reg [(15, (pB h2))] [(4, gB h2), (9, gU)] [] <|
      .ite (fun h3 =>
      .ite (fun h4 =>
        .ite (fun h5 =>
          .reg [(14, (pB h3)), (31, (pB h5)), (32, (pB h4)), (35, (pS true))] [(8, gB h3), (15, gB h4), (22, gB h5), (33, gS true)] [] <|
            .reg [] [] [] <|
            .cond true (show true = true from rfl) <|
            .reg [] [] [] <|
            .bind (fun o6_0 h6 =>
            .reg [(5, (CL (args := [.a (.s (.ref 2 0)), (.a (.g [(.c (.int .i64 2)), (.c (.int .i64 0)), (.c (.int .i64 x.from_)), (.c (.int .u64 0)), (.c (.int .u64 0)), (.c (.int .u64 0)), (.c (.int .u64 0)), (.c (.bool true)), (.c (.slice none 0 0)), (.c (.string (ByteArray.mk #[])))]))]) [0, 1, 2, 3, 4] [1, 10] (FT.shut [[], [(8, 4)]] (rSend_ok g (Raft.mk r.id r.hterm x.from_ r.log r.role r.leader r.commit r.votes r.next r.match_ r.entries r.install r.out true) (Letter.mk 2 0 x.from_ 0 0 0 0 true [] (ByteArray.mk #[])) _ h6))))] [] [] <|
              .gh (.keep []) trivial <|
              .leaf false [0, 1, 2, 3, 4] [] o6_0))
          (fun h5 =>
          .ite (fun h6 =>
            .reg [(14, (pB h3)), (31, (pB h5)), (32, (pB h4)), (35, (pB h6))] [(8, gB h3), (15, gB h4), (22, gB h5), (33, gB h6)] [] <|
              .reg [] [] [] <|
              .cond true (show true = true from rfl) <|
              .reg [] [] [] <|
              .bind (fun o7_0 h7 =>
              .reg [(5, (CL (args := [.a (.s (.ref 2 0)), (.a (.g [(.c (.int .i64 2)), (.c (.int .i64 0)), (.c (.int .i64 x.from_)), (.c (.int .u64 0)), (.c (.int .u64 0)), (.c (.int .u64 0)), (.c (.int .u64 0)), (.c (.bool true)), (.c (.slice none 0 0)), (.c (.string (ByteArray.mk #[])))]))]) [0, 1, 2, 3, 4] [1, 10] (FT.shut [[], [(8, 4)]] (rSend_ok g (Raft.mk r.id r.hterm x.from_ r.log r.role r.leader r.commit r.votes r.next r.match_ r.entries r.install r.out true) (Letter.mk 2 0 x.from_ 0 0 0 0 true [] (ByteArray.mk #[])) _ h7))))] [] [] <|
                .gh (.keep []) trivial <|
                .leaf false [0, 1, 2, 3, 4] [] o7_0))
            (fun h6 =>
            .reg [(14, (pB h3)), (31, (pB h5)), (32, (pB h4)), (35, (pB h6))] [(8, gB h3), (15, gB h4), (22, gB h5), (33, gB h6)] [] <|
              .reg [] [] [] <|
              .cond false (show false = false from rfl) <|
              .bind (fun o7_0 h7 =>
              .reg [(5, (CL (args := [.a (.s (.ref 2 0)), (.a (.g [(.c (.int .i64 2)), (.c (.int .i64 0)), (.c (.int .i64 x.from_)), (.c (.int .u64 0)), (.c (.int .u64 0)), (.c (.int .u64 0)), (.c (.int .u64 0)), (.c (.bool false)), (.c (.slice none 0 0)), (.c (.string (ByteArray.mk #[])))]))]) [0, 1, 2, 3, 4] [1, 10] (FT.shut [[], [(8, 4)]] (rSend_ok g r (Letter.mk 2 0 x.from_ 0 0 0 0 false [] (ByteArray.mk #[])) _ h7))))] [] [] <|
                .gh (.keep []) trivial <|
                .leaf false [0, 1, 2, 3, 4] [] o7_0))))
        (fun h4 =>
        .reg [(14, (pB h3)), (32, (pB h4)), (35, (pS false))] [(8, gB h3), (15, gB h4), (22, gU), (33, gS false)] [] <|
          .reg [] [] [] <|
          .cond false (show false = false from rfl) <|
          .bind (fun o5_0 h5 =>
          .reg [(5, (CL (args := [.a (.s (.ref 2 0)), (.a (.g [(.c (.int .i64 2)), (.c (.int .i64 0)), (.c (.int .i64 x.from_)), (.c (.int .u64 0)), (.c (.int .u64 0)), (.c (.int .u64 0)), (.c (.int .u64 0)), (.c (.bool false)), (.c (.slice none 0 0)), (.c (.string (ByteArray.mk #[])))]))]) [0, 1, 2, 3, 4] [1, 10] (FT.shut [[], [(8, 4)]] (rSend_ok g r (Letter.mk 2 0 x.from_ 0 0 0 0 false [] (ByteArray.mk #[])) _ h5))))] [] [] <|
            .gh (.keep []) trivial <|
            .leaf false [0, 1, 2, 3, 4] [] o5_0)))
      (fun h3 =>
      .reg [(14, (pB h3)), (32, (pS false)), (35, (pS false))] [(8, gB h3), (15, gS false), (22, gU), (33, gS false)] [] <|
        .reg [] [] [] <|
        .cond false (show false = false from rfl) <|
        .bind (fun o4_0 h4 =>
        .reg [(5, (CL (args := [.a (.s (.ref 2 0)), (.a (.g [(.c (.int .i64 2)), (.c (.int .i64 0)), (.c (.int .i64 x.from_)), (.c (.int .u64 0)), (.c (.int .u64 0)), (.c (.int .u64 0)), (.c (.int .u64 0)), (.c (.bool false)), (.c (.slice none 0 0)), (.c (.string (ByteArray.mk #[])))]))]) [0, 1, 2, 3, 4] [1, 10] (FT.shut [[], [(8, 4)]] (rSend_ok g r (Letter.mk 2 0 x.from_ 0 0 0 0 false [] (ByteArray.mk #[])) _ h4))))] [] [] <|
          .gh (.keep []) trivial <|
          .leaf false [0, 1, 2, 3, 4] [] o4_0)))
    (fun h2 =>
    .ite (fun h3 =>
      .reg [(14, (pB h3)), (15, (pB h2))] [(4, gB h2), (9, gB h3)] [] <|
        .ite (fun h4 =>
        .ite (fun h5 =>
          .ite (fun h6 =>
            .reg [(14, (pB h4)), (31, (pB h6)), (32, (pB h5)), (35, (pS true))] [(8, gB h4), (15, gB h5), (22, gB h6), (33, gS true)] [] <|
              .reg [] [] [] <|
              .ite (fun h7 =>
              .cond true h7 <|
                .reg [] [] [] <|
                .bind (fun o8_0 h8 =>
                .reg [(5, (CL (args := [.a (.s (.ref 2 0)), (.a (.g [(.c (.int .i64 2)), (.c (.int .i64 0)), (.c (.int .i64 x.from_)), (.c (.int .u64 0)), (.c (.int .u64 0)), (.c (.int .u64 0)), (.c (.int .u64 0)), (.c (.bool (decide (x.index ≥ o1_0)))), (.c (.slice none 0 0)), (.c (.string (ByteArray.mk #[])))]))]) [0, 1, 2, 3, 4] [1, 10] (FT.shut [[], [(8, 4)]] (rSend_ok g (Raft.mk r.id r.hterm x.from_ r.log r.role r.leader r.commit r.votes r.next r.match_ r.entries r.install r.out true) (Letter.mk 2 0 x.from_ 0 0 0 0 (decide (x.index ≥ o1_0)) [] (ByteArray.mk #[])) _ h8))))] [] [] <|
                  .gh (.keep []) trivial <|
                  .leaf false [0, 1, 2, 3, 4] [] o8_0))
              (fun h7 =>
              .cond false h7 <|
                .bind (fun o8_0 h8 =>
                .reg [(5, (CL (args := [.a (.s (.ref 2 0)), (.a (.g [(.c (.int .i64 2)), (.c (.int .i64 0)), (.c (.int .i64 x.from_)), (.c (.int .u64 0)), (.c (.int .u64 0)), (.c (.int .u64 0)), (.c (.int .u64 0)), (.c (.bool (decide (x.index ≥ o1_0)))), (.c (.slice none 0 0)), (.c (.string (ByteArray.mk #[])))]))]) [0, 1, 2, 3, 4] [1, 10] (FT.shut [[], [(8, 4)]] (rSend_ok g r (Letter.mk 2 0 x.from_ 0 0 0 0 (decide (x.index ≥ o1_0)) [] (ByteArray.mk #[])) _ h8))))] [] [] <|
                  .gh (.keep []) trivial <|
                  .leaf false [0, 1, 2, 3, 4] [] o8_0)))
            (fun h6 =>
            .ite (fun h7 =>
              .reg [(14, (pB h4)), (31, (pB h6)), (32, (pB h5)), (35, (pB h7))] [(8, gB h4), (15, gB h5), (22, gB h6), (33, gB h7)] [] <|
                .reg [] [] [] <|
                .ite (fun h8 =>
                .cond true h8 <|
                  .reg [] [] [] <|
                  .bind (fun o9_0 h9 =>
                  .reg [(5, (CL (args := [.a (.s (.ref 2 0)), (.a (.g [(.c (.int .i64 2)), (.c (.int .i64 0)), (.c (.int .i64 x.from_)), (.c (.int .u64 0)), (.c (.int .u64 0)), (.c (.int .u64 0)), (.c (.int .u64 0)), (.c (.bool (decide (x.index ≥ o1_0)))), (.c (.slice none 0 0)), (.c (.string (ByteArray.mk #[])))]))]) [0, 1, 2, 3, 4] [1, 10] (FT.shut [[], [(8, 4)]] (rSend_ok g (Raft.mk r.id r.hterm x.from_ r.log r.role r.leader r.commit r.votes r.next r.match_ r.entries r.install r.out true) (Letter.mk 2 0 x.from_ 0 0 0 0 (decide (x.index ≥ o1_0)) [] (ByteArray.mk #[])) _ h9))))] [] [] <|
                    .gh (.keep []) trivial <|
                    .leaf false [0, 1, 2, 3, 4] [] o9_0))
                (fun h8 =>
                .cond false h8 <|
                  .bind (fun o9_0 h9 =>
                  .reg [(5, (CL (args := [.a (.s (.ref 2 0)), (.a (.g [(.c (.int .i64 2)), (.c (.int .i64 0)), (.c (.int .i64 x.from_)), (.c (.int .u64 0)), (.c (.int .u64 0)), (.c (.int .u64 0)), (.c (.int .u64 0)), (.c (.bool (decide (x.index ≥ o1_0)))), (.c (.slice none 0 0)), (.c (.string (ByteArray.mk #[])))]))]) [0, 1, 2, 3, 4] [1, 10] (FT.shut [[], [(8, 4)]] (rSend_ok g r (Letter.mk 2 0 x.from_ 0 0 0 0 (decide (x.index ≥ o1_0)) [] (ByteArray.mk #[])) _ h9))))] [] [] <|
                    .gh (.keep []) trivial <|
                    .leaf false [0, 1, 2, 3, 4] [] o9_0)))
              (fun h7 =>
              .reg [(14, (pB h4)), (31, (pB h6)), (32, (pB h5)), (35, (pB h7))] [(8, gB h4), (15, gB h5), (22, gB h6), (33, gB h7)] [] <|
                .reg [] [] [] <|
                .cond false (show false = false from rfl) <|
                .bind (fun o8_0 h8 =>
                .reg [(5, (CL (args := [.a (.s (.ref 2 0)), (.a (.g [(.c (.int .i64 2)), (.c (.int .i64 0)), (.c (.int .i64 x.from_)), (.c (.int .u64 0)), (.c (.int .u64 0)), (.c (.int .u64 0)), (.c (.int .u64 0)), (.c (.bool false)), (.c (.slice none 0 0)), (.c (.string (ByteArray.mk #[])))]))]) [0, 1, 2, 3, 4] [1, 10] (FT.shut [[], [(8, 4)]] (rSend_ok g r (Letter.mk 2 0 x.from_ 0 0 0 0 false [] (ByteArray.mk #[])) _ h8))))] [] [] <|
                  .gh (.keep []) trivial <|
                  .leaf false [0, 1, 2, 3, 4] [] o8_0))))
          (fun h5 =>
          .reg [(14, (pB h4)), (32, (pB h5)), (35, (pS false))] [(8, gB h4), (15, gB h5), (22, gU), (33, gS false)] [] <|
            .reg [] [] [] <|
            .cond false (show false = false from rfl) <|
            .bind (fun o6_0 h6 =>
            .reg [(5, (CL (args := [.a (.s (.ref 2 0)), (.a (.g [(.c (.int .i64 2)), (.c (.int .i64 0)), (.c (.int .i64 x.from_)), (.c (.int .u64 0)), (.c (.int .u64 0)), (.c (.int .u64 0)), (.c (.int .u64 0)), (.c (.bool false)), (.c (.slice none 0 0)), (.c (.string (ByteArray.mk #[])))]))]) [0, 1, 2, 3, 4] [1, 10] (FT.shut [[], [(8, 4)]] (rSend_ok g r (Letter.mk 2 0 x.from_ 0 0 0 0 false [] (ByteArray.mk #[])) _ h6))))] [] [] <|
              .gh (.keep []) trivial <|
              .leaf false [0, 1, 2, 3, 4] [] o6_0)))
        (fun h4 =>
        .reg [(14, (pB h4)), (32, (pS false)), (35, (pS false))] [(8, gB h4), (15, gS false), (22, gU), (33, gS false)] [] <|
          .reg [] [] [] <|
          .cond false (show false = false from rfl) <|
          .bind (fun o5_0 h5 =>
          .reg [(5, (CL (args := [.a (.s (.ref 2 0)), (.a (.g [(.c (.int .i64 2)), (.c (.int .i64 0)), (.c (.int .i64 x.from_)), (.c (.int .u64 0)), (.c (.int .u64 0)), (.c (.int .u64 0)), (.c (.int .u64 0)), (.c (.bool false)), (.c (.slice none 0 0)), (.c (.string (ByteArray.mk #[])))]))]) [0, 1, 2, 3, 4] [1, 10] (FT.shut [[], [(8, 4)]] (rSend_ok g r (Letter.mk 2 0 x.from_ 0 0 0 0 false [] (ByteArray.mk #[])) _ h5))))] [] [] <|
            .gh (.keep []) trivial <|
            .leaf false [0, 1, 2, 3, 4] [] o5_0)))
      (fun h3 =>
      .reg [(14, (pB h3)), (15, (pB h2))] [(4, gB h2), (9, gB h3)] [] <|
        .ite (fun h4 =>
        .ite (fun h5 =>
          .ite (fun h6 =>
            .reg [(14, (pB h4)), (31, (pB h6)), (32, (pB h5)), (35, (pS true))] [(8, gB h4), (15, gB h5), (22, gB h6), (33, gS true)] [] <|
              .reg [] [] [] <|
              .cond false (show false = false from rfl) <|
              .bind (fun o7_0 h7 =>
              .reg [(5, (CL (args := [.a (.s (.ref 2 0)), (.a (.g [(.c (.int .i64 2)), (.c (.int .i64 0)), (.c (.int .i64 x.from_)), (.c (.int .u64 0)), (.c (.int .u64 0)), (.c (.int .u64 0)), (.c (.int .u64 0)), (.c (.bool false)), (.c (.slice none 0 0)), (.c (.string (ByteArray.mk #[])))]))]) [0, 1, 2, 3, 4] [1, 10] (FT.shut [[], [(8, 4)]] (rSend_ok g r (Letter.mk 2 0 x.from_ 0 0 0 0 false [] (ByteArray.mk #[])) _ h7))))] [] [] <|
                .gh (.keep []) trivial <|
                .leaf false [0, 1, 2, 3, 4] [] o7_0))
            (fun h6 =>
            .ite (fun h7 =>
              .reg [(14, (pB h4)), (31, (pB h6)), (32, (pB h5)), (35, (pB h7))] [(8, gB h4), (15, gB h5), (22, gB h6), (33, gB h7)] [] <|
                .reg [] [] [] <|
                .cond false (show false = false from rfl) <|
                .bind (fun o8_0 h8 =>
                .reg [(5, (CL (args := [.a (.s (.ref 2 0)), (.a (.g [(.c (.int .i64 2)), (.c (.int .i64 0)), (.c (.int .i64 x.from_)), (.c (.int .u64 0)), (.c (.int .u64 0)), (.c (.int .u64 0)), (.c (.int .u64 0)), (.c (.bool false)), (.c (.slice none 0 0)), (.c (.string (ByteArray.mk #[])))]))]) [0, 1, 2, 3, 4] [1, 10] (FT.shut [[], [(8, 4)]] (rSend_ok g r (Letter.mk 2 0 x.from_ 0 0 0 0 false [] (ByteArray.mk #[])) _ h8))))] [] [] <|
                  .gh (.keep []) trivial <|
                  .leaf false [0, 1, 2, 3, 4] [] o8_0))
              (fun h7 =>
              .reg [(14, (pB h4)), (31, (pB h6)), (32, (pB h5)), (35, (pB h7))] [(8, gB h4), (15, gB h5), (22, gB h6), (33, gB h7)] [] <|
                .reg [] [] [] <|
                .cond false (show false = false from rfl) <|
                .bind (fun o8_0 h8 =>
                .reg [(5, (CL (args := [.a (.s (.ref 2 0)), (.a (.g [(.c (.int .i64 2)), (.c (.int .i64 0)), (.c (.int .i64 x.from_)), (.c (.int .u64 0)), (.c (.int .u64 0)), (.c (.int .u64 0)), (.c (.int .u64 0)), (.c (.bool false)), (.c (.slice none 0 0)), (.c (.string (ByteArray.mk #[])))]))]) [0, 1, 2, 3, 4] [1, 10] (FT.shut [[], [(8, 4)]] (rSend_ok g r (Letter.mk 2 0 x.from_ 0 0 0 0 false [] (ByteArray.mk #[])) _ h8))))] [] [] <|
                  .gh (.keep []) trivial <|
                  .leaf false [0, 1, 2, 3, 4] [] o8_0))))
          (fun h5 =>
          .reg [(14, (pB h4)), (32, (pB h5)), (35, (pS false))] [(8, gB h4), (15, gB h5), (22, gU), (33, gS false)] [] <|
            .reg [] [] [] <|
            .cond false (show false = false from rfl) <|
            .bind (fun o6_0 h6 =>
            .reg [(5, (CL (args := [.a (.s (.ref 2 0)), (.a (.g [(.c (.int .i64 2)), (.c (.int .i64 0)), (.c (.int .i64 x.from_)), (.c (.int .u64 0)), (.c (.int .u64 0)), (.c (.int .u64 0)), (.c (.int .u64 0)), (.c (.bool false)), (.c (.slice none 0 0)), (.c (.string (ByteArray.mk #[])))]))]) [0, 1, 2, 3, 4] [1, 10] (FT.shut [[], [(8, 4)]] (rSend_ok g r (Letter.mk 2 0 x.from_ 0 0 0 0 false [] (ByteArray.mk #[])) _ h6))))] [] [] <|
              .gh (.keep []) trivial <|
              .leaf false [0, 1, 2, 3, 4] [] o6_0)))
        (fun h4 =>
        .reg [(14, (pB h4)), (32, (pS false)), (35, (pS false))] [(8, gB h4), (15, gS false), (22, gU), (33, gS false)] [] <|
          .reg [] [] [] <|
          .cond false (show false = false from rfl) <|
          .bind (fun o5_0 h5 =>
          .reg [(5, (CL (args := [.a (.s (.ref 2 0)), (.a (.g [(.c (.int .i64 2)), (.c (.int .i64 0)), (.c (.int .i64 x.from_)), (.c (.int .u64 0)), (.c (.int .u64 0)), (.c (.int .u64 0)), (.c (.int .u64 0)), (.c (.bool false)), (.c (.slice none 0 0)), (.c (.string (ByteArray.mk #[])))]))]) [0, 1, 2, 3, 4] [1, 10] (FT.shut [[], [(8, 4)]] (rSend_ok g r (Letter.mk 2 0 x.from_ 0 0 0 0 false [] (ByteArray.mk #[])) _ h5))))] [] [] <|
            .gh (.keep []) trivial <|
            .leaf false [0, 1, 2, 3, 4] [] o5_0))))))) (by kernel_rfl)
def rAppendsL1 (r : Raft) (x : Letter) : Nat → Int → Option (Unit ⊕ Unit)
  | 0, _ => none
  | fuel + 1, a1v0 =>
  (iteB (decide (a1v0 < (((List.map Entry.row x.entries).length : Nat) : Int)))
  (ifP (0 ≤ a1v0)
    (Option.bind (x.entries[(a1v0).toNat]?) fun a1e3 =>
    (iteB (decide (a1e3.term > x.term))
    (some (Sum.inl ()))
    (rAppendsL1 r x fuel (IntKind.wrap .i64 (a1v0 + 1))))))
  (some (Sum.inr ())))
theorem rAppendsL1_ok (g : GT) (r : Raft) (x : Letter) : ∀ (fuel : Nat) (v : Int), PcO prog g.1 (.loop (subC [1, 0, 1, 0, 0] (bodyOf f36))) ((fun a1v0 => ({ tm := mkTm 104 [(0, (.a (.s (.ref 2 0)))), (3, (.a (.s (.ref 5 0)))), (13, (.a (.s (.ssl 4 (List.map Entry.row x.entries))))), (14, (.a (.s (.c (.int .i64 (((List.map Entry.row x.entries).length : Nat) : Int)))))), (15, (.a (.s (.c (.int .i64 a1v0)))))], hp := [.cells [.one (.c (.int .u64 r.log.index)), .one (.c (.int .u64 r.log.term)), .one (.c (.int .u64 r.log.config)), .one (.c (.string r.log.data)), .one (.sl 1 0 4 0 (List.map Entry.row r.log.entries).length)], .arr 4 (List.map Entry.row r.log.entries), .cells [.one (.c (.int .i64 r.id)), .one (.c (.int .u64 r.hterm)), .one (.c (.int .i64 r.vote)), .one (.ref 0 0), .one (.c (.int .i64 r.role)), .one (.c (.int .i64 r.leader)), .one (.c (.int .u64 r.commit)), .one (.c (.int .u64 r.votes)), .row 7 1 (List.map (rI .u64) r.next), .row 7 1 (List.map (rI .u64) r.match_), .one (.sl 3 0 4 0 (List.map Entry.row r.entries).length), .one (.c (.bool r.install)), .one (.sl 4 0 10 0 (List.map Letter.row r.out).length), .one (.c (.bool r.reset))], .arr 4 (List.map Entry.row r.entries), .arr 10 (List.map Letter.row r.out), .cells [.one (.c (.int .i64 x.kind)), .one (.c (.int .i64 x.from_)), .one (.c (.int .i64 x.to)), .one (.c (.int .u64 x.term)), .one (.c (.int .u64 x.index)), .one (.c (.int .u64 x.prev)), .one (.c (.int .u64 x.commit)), .one (.c (.bool x.ok)), .one (.ssl 4 (List.map Entry.row x.entries)), .one (.c (.string x.data))]], mv := [] } : St)) v) (rAppendsL1 r x fuel v)
    (Sum.elim (fun _ => (.ret, { tm := mkTm 104 [], hp := [.cells [.one (.c (.int .u64 r.log.index)), .one (.c (.int .u64 r.log.term)), .one (.c (.int .u64 r.log.config)), .one (.c (.string r.log.data)), .one (.sl 1 0 4 0 (List.map Entry.row r.log.entries).length)], .arr 4 (List.map Entry.row r.log.entries), .cells [.one (.c (.int .i64 r.id)), .one (.c (.int .u64 r.hterm)), .one (.c (.int .i64 r.vote)), .one (.ref 0 0), .one (.c (.int .i64 r.role)), .one (.c (.int .i64 r.leader)), .one (.c (.int .u64 r.commit)), .one (.c (.int .u64 r.votes)), .row 7 1 (List.map (rI .u64) r.next), .row 7 1 (List.map (rI .u64) r.match_), .one (.sl 3 0 4 0 (List.map Entry.row r.entries).length), .one (.c (.bool r.install)), .one (.sl 4 0 10 0 (List.map Letter.row r.out).length), .one (.c (.bool r.reset))], .arr 4 (List.map Entry.row r.entries), .arr 10 (List.map Letter.row r.out), .cells [.one (.c (.int .i64 x.kind)), .one (.c (.int .i64 x.from_)), .one (.c (.int .i64 x.to)), .one (.c (.int .u64 x.term)), .one (.c (.int .u64 x.index)), .one (.c (.int .u64 x.prev)), .one (.c (.int .u64 x.commit)), .one (.c (.bool x.ok)), .one (.ssl 4 (List.map Entry.row x.entries)), .one (.c (.string x.data))]], mv := [] })) (fun _ => ((.exit 0), { tm := mkTm 104 [(0, (.a (.s (.ref 2 0)))), (3, (.a (.s (.ref 5 0))))], hp := [.cells [.one (.c (.int .u64 r.log.index)), .one (.c (.int .u64 r.log.term)), .one (.c (.int .u64 r.log.config)), .one (.c (.string r.log.data)), .one (.sl 1 0 4 0 (List.map Entry.row r.log.entries).length)], .arr 4 (List.map Entry.row r.log.entries), .cells [.one (.c (.int .i64 r.id)), .one (.c (.int .u64 r.hterm)), .one (.c (.int .i64 r.vote)), .one (.ref 0 0), .one (.c (.int .i64 r.role)), .one (.c (.int .i64 r.leader)), .one (.c (.int .u64 r.commit)), .one (.c (.int .u64 r.votes)), .row 7 1 (List.map (rI .u64) r.next), .row 7 1 (List.map (rI .u64) r.match_), .one (.sl 3 0 4 0 (List.map Entry.row r.entries).length), .one (.c (.bool r.install)), .one (.sl 4 0 10 0 (List.map Letter.row r.out).length), .one (.c (.bool r.reset))], .arr 4 (List.map Entry.row r.entries), .arr 10 (List.map Letter.row r.out), .cells [.one (.c (.int .i64 x.kind)), .one (.c (.int .i64 x.from_)), .one (.c (.int .i64 x.to)), .one (.c (.int .u64 x.term)), .one (.c (.int .u64 x.index)), .one (.c (.int .u64 x.prev)), .one (.c (.int .u64 x.commit)), .one (.c (.bool x.ok)), .one (.ssl 4 (List.map Entry.row x.entries)), .one (.c (.string x.data))]], mv := [] }))) :=
  Lo_go (rec := (fun n (v : Int) => rAppendsL1 r x n v)) mixed (fun _ => rfl)
    (fun _ a1v0 =>
    .reg [] [] [] <|
    .ite (fun a1h1 =>
    .cond true a1h1 <|
      .ifp (fun a1h2 =>
      .bind (fun _ a1h3 =>
      .reg [(0, (eA Entry.row a1h2 a1h3))] [] [] <|
      .reg [] [] [] <|
      .ite (fun a1h4 =>
      .cond true a1h4 <|
        .gh (.keep []) trivial <|
        .leaf true [] [] (Sum.inl ()))
      (fun a1h4 =>
      .cond false a1h4 <|
        .reg [] [] [] <|
        .gh (.keep [0, 3, 13, 14, 15]) trivial <|
        .again true (IntKind.wrap .i64 (a1v0 + 1))))))
    (fun a1h1 =>
    .cond false a1h1 <|
      .gh (.keep [0, 3]) trivial <|
      .leaf true [] [] (Sum.inr ()))) (fun _ _ => by kernel_rfl)
def rAppends (fuel : Nat) (r : Raft) (x : Letter) : Option Raft :=
  (Option.bind (rAppendsL1 r x fuel (0 : Int)) fun o1 => sumC o1 (fun _ =>
  (some r))
  (fun _ =>
  (Option.bind (lMerge fuel r.log x.index x.prev x.entries) fun (o2_0, o2_1, o2_2) =>
    (iteB o2_1
      (Option.bind (rKeep fuel (Raft.mk r.id r.hterm r.vote o2_2 r.role r.leader r.commit r.votes r.next r.match_ r.entries r.install r.out r.reset) o2_0) fun o4_0 =>
        (Option.bind (rSend (Raft.mk o4_0.id o4_0.hterm o4_0.vote o4_0.log o4_0.role o4_0.leader (if (if (IntKind.wrap .u64 (x.index + (IntKind.wrap .u64 (((List.map Entry.row x.entries).length : Nat) : Int)))) < x.commit then (IntKind.wrap .u64 (x.index + (IntKind.wrap .u64 (((List.map Entry.row x.entries).length : Nat) : Int)))) else x.commit) > o4_0.commit then (if (IntKind.wrap .u64 (x.index + (IntKind.wrap .u64 (((List.map Entry.row x.entries).length : Nat) : Int)))) < x.commit then (IntKind.wrap .u64 (x.index + (IntKind.wrap .u64 (((List.map Entry.row x.entries).length : Nat) : Int)))) else x.commit) else o4_0.commit) o4_0.votes o4_0.next o4_0.match_ o4_0.entries o4_0.install o4_0.out o4_0.reset) (Letter.mk 4 0 x.from_ 0 (IntKind.wrap .u64 (x.index + (IntKind.wrap .u64 (((List.map Entry.row x.entries).length : Nat) : Int)))) 0 0 true [] (ByteArray.mk #[]))) fun o5_0 =>
          (some o5_0)))
      (Option.bind (lLast o2_2) fun (o4_0, _) =>
        (iteB (decide (x.index > 0))
          (iteB (decide ((IntKind.wrap .u64 (x.index - 1)) > r.commit))
            (Option.bind (rSend (Raft.mk r.id r.hterm r.vote o2_2 r.role r.leader r.commit r.votes r.next r.match_ r.entries r.install r.out r.reset) (Letter.mk 4 0 x.from_ 0 (if (IntKind.wrap .u64 (x.index - 1)) < o4_0 then (IntKind.wrap .u64 (x.index - 1)) else o4_0) 0 0 false [] (ByteArray.mk #[]))) fun o7_0 =>
              (some o7_0))
            (Option.bind (rSend (Raft.mk r.id r.hterm r.vote o2_2 r.role r.leader r.commit r.votes r.next r.match_ r.entries r.install r.out r.reset) (Letter.mk 4 0 x.from_ 0 r.commit 0 0 false [] (ByteArray.mk #[]))) fun o7_0 =>
              (some o7_0)))
          (Option.bind (rSend (Raft.mk r.id r.hterm r.vote o2_2 r.role r.leader r.commit r.votes r.next r.match_ r.entries r.install r.out r.reset) (Letter.mk 4 0 x.from_ 0 r.commit 0 0 false [] (ByteArray.mk #[]))) fun o6_0 =>
            (some o6_0))))))))
theorem rAppends_ok (g : GT) (fuel : Nat) (r : Raft) (x : Letter) : FTO prog g.1 36 [.a (.s (.ref 2 0)), .a (.g (Letter.row x))] (Raft.objs r) (rAppends fuel r x)
    (fun o0 => ([1, 3, 4], (.t []), Raft.objs o0)) :=
  Fn_go mixed func36 (
  .reg [] [] [] <|
  .reg [] [] [] <|
  .gh (.keep [0, 3, 13, 14, 15]) trivial <|
  .bind (fun _ k1 => .sum (fun _ s1 =>
  have h1 := k1.trans (congrArg some s1)
  .claim false (rAppendsL1_ok g r x fuel (0 : Int) _ h1) <|
    .gh (.keep []) trivial <|
    .leaf false [0, 1, 2, 3, 4] [] r)
  (fun _ s1 =>
  have h1 := k1.trans (congrArg some s1)
  .claim false (rAppendsL1_ok g r x fuel (0 : Int) _ h1) <|
    .bind (fun | (o2_0, _, o2_2), h2 => (
    .reg [(10, (CL [0, 1] [1, 1, 1, 1] (lMerge_ok g fuel r.log x.index x.prev x.entries _ h2)))] [] [] <|
      .reg [] [] [] <|
      .ite (fun h3 =>
      .cond false (congrArg not h3) <|
        .bind (fun o4_0 h4 =>
        .reg [(4, (CL [0, 1, 2, 3, 4] [1, 1] (rKeep_ok g fuel (Raft.mk r.id r.hterm r.vote o2_2 r.role r.leader r.commit r.votes r.next r.match_ r.entries r.install r.out r.reset) o2_0 _ h4)))] [] [] <|
          .reg [] [] [] <|
          .reg [] [] [] <|
          .bind (fun o5_0 h5 =>
          .reg [(5, (CL (args := [.a (.s (.ref 2 0)), (.a (.g [(.c (.int .i64 4)), (.c (.int .i64 0)), (.c (.int .i64 x.from_)), (.c (.int .u64 0)), (.c (.int .u64 (IntKind.wrap .u64 (x.index + (IntKind.wrap .u64 (((List.map Entry.row x.entries).length : Nat) : Int)))))), (.c (.int .u64 0)), (.c (.int .u64 0)), (.c (.bool true)), (.c (.slice none 0 0)), (.c (.string (ByteArray.mk #[])))]))]) [0, 1, 2, 3, 4] [1, 10] (FT.shut [[], [(8, 4)]] (rSend_ok g (Raft.mk o4_0.id o4_0.hterm o4_0.vote o4_0.log o4_0.role o4_0.leader (if (if (IntKind.wrap .u64 (x.index + (IntKind.wrap .u64 (((List.map Entry.row x.entries).length : Nat) : Int)))) < x.commit then (IntKind.wrap .u64 (x.index + (IntKind.wrap .u64 (((List.map Entry.row x.entries).length : Nat) : Int)))) else x.commit) > o4_0.commit then (if (IntKind.wrap .u64 (x.index + (IntKind.wrap .u64 (((List.map Entry.row x.entries).length : Nat) : Int)))) < x.commit then (IntKind.wrap .u64 (x.index + (IntKind.wrap .u64 (((List.map Entry.row x.entries).length : Nat) : Int)))) else x.commit) else o4_0.commit) o4_0.votes o4_0.next o4_0.match_ o4_0.entries o4_0.install o4_0.out o4_0.reset) (Letter.mk 4 0 x.from_ 0 (IntKind.wrap .u64 (x.index + (IntKind.wrap .u64 (((List.map Entry.row x.entries).length : Nat) : Int)))) 0 0 true [] (ByteArray.mk #[])) _ h5))))] [] [] <|
            .gh (.keep []) trivial <|
            .leaf false [0, 1, 2, 3, 4] [] o5_0)))
      (fun h3 =>
      .cond true (congrArg not h3) <|
        .bind (fun | (o4_0, _), h4 => (
        .reg [(4, (LK [0, 1] [1] (lLast_ok g o2_2 _ h4)))] [] [] <|
          .reg [] [] [] <|
          .ite (fun h5 =>
          .reg [(9, (pB h5))] [(3, gB h5)] [] <|
            .ite (fun h6 =>
            .cond true h6 <|
              .reg [] [] [] <|
              .bind (fun o7_0 h7 =>
              .reg [(5, (CL (args := [.a (.s (.ref 2 0)), (.a (.g [(.c (.int .i64 4)), (.c (.int .i64 0)), (.c (.int .i64 x.from_)), (.c (.int .u64 0)), (.c (.int .u64 (if (IntKind.wrap .u64 (x.index - 1)) < o4_0 then (IntKind.wrap .u64 (x.index - 1)) else o4_0))), (.c (.int .u64 0)), (.c (.int .u64 0)), (.c (.bool false)), (.c (.slice none 0 0)), (.c (.string (ByteArray.mk #[])))]))]) [0, 1, 2, 3, 4] [1, 10] (FT.shut [[], [(8, 4)]] (rSend_ok g (Raft.mk r.id r.hterm r.vote o2_2 r.role r.leader r.commit r.votes r.next r.match_ r.entries r.install r.out r.reset) (Letter.mk 4 0 x.from_ 0 (if (IntKind.wrap .u64 (x.index - 1)) < o4_0 then (IntKind.wrap .u64 (x.index - 1)) else o4_0) 0 0 false [] (ByteArray.mk #[])) _ h7))))] [] [] <|
                .gh (.keep []) trivial <|
                .leaf false [0, 1, 2, 3, 4] [] o7_0))
            (fun h6 =>
            .cond false h6 <|
              .bind (fun o7_0 h7 =>
              .reg [(5, (CL (args := [.a (.s (.ref 2 0)), (.a (.g [(.c (.int .i64 4)), (.c (.int .i64 0)), (.c (.int .i64 x.from_)), (.c (.int .u64 0)), (.c (.int .u64 r.commit)), (.c (.int .u64 0)), (.c (.int .u64 0)), (.c (.bool false)), (.c (.slice none 0 0)), (.c (.string (ByteArray.mk #[])))]))]) [0, 1, 2, 3, 4] [1, 10] (FT.shut [[], [(8, 4)]] (rSend_ok g (Raft.mk r.id r.hterm r.vote o2_2 r.role r.leader r.commit r.votes r.next r.match_ r.entries r.install r.out r.reset) (Letter.mk 4 0 x.from_ 0 r.commit 0 0 false [] (ByteArray.mk #[])) _ h7))))] [] [] <|
                .gh (.keep []) trivial <|
                .leaf false [0, 1, 2, 3, 4] [] o7_0)))
          (fun h5 =>
          .reg [(9, (pB h5))] [(3, gB h5)] [] <|
            .cond false (show false = false from rfl) <|
            .bind (fun o6_0 h6 =>
            .reg [(5, (CL (args := [.a (.s (.ref 2 0)), (.a (.g [(.c (.int .i64 4)), (.c (.int .i64 0)), (.c (.int .i64 x.from_)), (.c (.int .u64 0)), (.c (.int .u64 r.commit)), (.c (.int .u64 0)), (.c (.int .u64 0)), (.c (.bool false)), (.c (.slice none 0 0)), (.c (.string (ByteArray.mk #[])))]))]) [0, 1, 2, 3, 4] [1, 10] (FT.shut [[], [(8, 4)]] (rSend_ok g (Raft.mk r.id r.hterm r.vote o2_2 r.role r.leader r.commit r.votes r.next r.match_ r.entries r.install r.out r.reset) (Letter.mk 4 0 x.from_ 0 r.commit 0 0 false [] (ByteArray.mk #[])) _ h6))))] [] [] <|
              .gh (.keep []) trivial <|
              .leaf false [0, 1, 2, 3, 4] [] o6_0)))))))))) (by kernel_rfl)
def rCompact (fuel : Nat) (r : Raft) (i : Int) (data : ByteArray) : Option (Int × Raft) :=
  (iteB (decide (i > r.commit))
  (some (1, r))
  (Option.bind (lCompact fuel r.log i data) fun (o2_0, o2_1) =>
    (some (o2_0, (Raft.mk r.id r.hterm r.vote o2_1 r.role r.leader r.commit r.votes r.next r.match_ r.entries r.install r.out r.reset)))))
theorem rCompact_ok (g : GT) (fuel : Nat) (r : Raft) (i : Int) (data : ByteArray) : FTO prog g.1 26 [.a (.s (.ref 2 0)), (.a (.s (.c (.int .u64 i)))), (.a (.s (.c (.string data))))] (Raft.objs r) (rCompact fuel r i data)
    (fun (o0, o1) => ([1, 3, 4], (.a (.s (.c (.int .i64 o0)))), Raft.objs o1)) :=
  Fn_go mixed func26 (
  .reg [] [] [] <|
  .reg [(9, (pS false))] [(2, gS false)] [] <|
  .ite (fun h1 =>
  .cond true h1 <|
    .reg [] [] [] <|
    .gh (.keep [6]) trivial <|
    .leaf false [0, 1, 2, 3, 4] [] (1, r))
  (fun h1 =>
  .cond false h1 <|
    .bind (fun | (o2_0, o2_1), h2 => (
    .reg [(6, (CL [0, 1] [1, 1, 1] (lCompact_ok g fuel r.log i data _ h2)))] [] [] <|
      .gh (.keep [6]) trivial <|
      .leaf false [0, 1, 2, 3, 4] [] (o2_0, (Raft.mk r.id r.hterm r.vote o2_1 r.role r.leader r.commit r.votes r.next r.match_ r.entries r.install r.out r.reset)))))) (by kernel_rfl)
def lawLightL1 (l : List Entry) (calls : List Call) : Nat → Int → Int → Option Int
  | 0, _, _ => none
  | fuel + 1, a1v0, a1v1 =>
  (iteB (decide (a1v1 < (((List.map Entry.row l).length : Nat) : Int)))
  (ifP (0 ≤ a1v1)
    (Option.bind (l[(a1v1).toNat]?) fun a1e3 =>
    (lawLightL1 l calls fuel (IntKind.wrap .i64 (a1v0 + (IntKind.wrap .i64 (Int.tdiv ((ByteArray.size a1e3.data : Nat) : Int) 100)))) (IntKind.wrap .i64 (a1v1 + 1)))))
  (some a1v0))
theorem lawLightL1_ok (g : GT) (l : List Entry) (calls : List Call) : ∀ (fuel : Nat) (v : Int × Int), PcO prog g.1 (.loop (subC [1, 1, 0, 1, 0, 0] (bodyOf f15))) ((fun (a1v0, a1v1) => ({ tm := mkTm 70 [(1, (.a (.s (.ssl 15 (List.map Call.row calls))))), (5, (.a (.s (.c (.int .i64 a1v0))))), (17, (.a (.s (.ssl 4 (List.map Entry.row l))))), (18, (.a (.s (.c (.int .i64 (((List.map Entry.row l).length : Nat) : Int)))))), (19, (.a (.s (.c (.int .i64 a1v1)))))], hp := [], mv := [] } : St)) v) (lawLightL1 l calls fuel v.1 v.2)
    (fun o0 => ((.exit 0), { tm := mkTm 70 [(1, (.a (.s (.ssl 15 (List.map Call.row calls))))), (5, (.a (.s (.c (.int .i64 o0)))))], hp := [], mv := [] })) :=
  Lo_go (rec := (fun n (v : Int × Int) => lawLightL1 l calls n v.1 v.2)) mixed (fun _ => rfl)
    (fun | _, (a1v0, a1v1) => (
    .reg [] [] [] <|
    .ite (fun a1h1 =>
    .cond true a1h1 <|
      .ifp (fun a1h2 =>
      .bind (fun a1e3 a1h3 =>
      .reg [(0, (eA Entry.row a1h2 a1h3))] [] [] <|
      .reg [] [] [] <|
      .reg [] [] [] <|
      .gh (.keep [1, 5, 17, 18, 19]) trivial <|
      .again true ((IntKind.wrap .i64 (a1v0 + (IntKind.wrap .i64 (Int.tdiv ((ByteArray.size a1e3.data : Nat) : Int) 100)))), (IntKind.wrap .i64 (a1v1 + 1))))))
    (fun a1h1 =>
    .cond false a1h1 <|
      .gh (.keep [1, 5]) trivial <|
      .leaf true [] [] a1v0))) (fun _ _ => by kernel_rfl)
def lawLightL4 (calls : List Call) (a2e2 : Call) : Nat → Int → Int → Option Int
  | 0, _, _ => none
  | fuel + 1, a4v0, a4v1 =>
  (iteB (decide (a4v1 < (((List.map Entry.row a2e2.letter_entries).length : Nat) : Int)))
  (ifP (0 ≤ a4v1)
    (Option.bind (a2e2.letter_entries[(a4v1).toNat]?) fun a4e3 =>
    (lawLightL4 calls a2e2 fuel (IntKind.wrap .i64 (a4v0 + (IntKind.wrap .i64 (Int.tdiv ((ByteArray.size a4e3.data : Nat) : Int) 100)))) (IntKind.wrap .i64 (a4v1 + 1)))))
  (some a4v0))
theorem lawLightL4_ok (g : GT) (calls : List Call) (a2e2 : Call) : ∀ (fuel : Nat) (v : Int × Int), PcO prog g.1 (.loop (subC [1, 1, 1, 0, 1, 0, 0, 1, 1, 0, 0, 1, 1, 1, 0, 0] (bodyOf f15))) ((fun (a4v0, a4v1) => ({ tm := mkTm 70 [(5, (.a (.s (.c (.int .i64 a4v0))))), (30, (.a (.s (.ssl 15 (List.map Call.row calls))))), (31, (.a (.s (.c (.int .i64 (((List.map Call.row calls).length : Nat) : Int)))))), (32, (.a (.s (.c (.int .i64 0))))), (54, (.a (.s (.ssl 4 (List.map Entry.row a2e2.letter_entries))))), (55, (.a (.s (.c (.int .i64 (((List.map Entry.row a2e2.letter_entries).length : Nat) : Int)))))), (56, (.a (.s (.c (.int .i64 a4v1)))))], hp := [.cells [.one (.c (.int .i64 a2e2.kind)), .one (.c (.int .i64 a2e2.letter_kind)), .one (.c (.int .i64 a2e2.letter_from_)), .one (.c (.int .i64 a2e2.letter_to)), .one (.c (.int .u64 a2e2.letter_term)), .one (.c (.int .u64 a2e2.letter_index)), .one (.c (.int .u64 a2e2.letter_prev)), .one (.c (.int .u64 a2e2.letter_commit)), .one (.c (.bool a2e2.letter_ok)), .one (.ssl 4 (List.map Entry.row a2e2.letter_entries)), .one (.c (.string a2e2.letter_data)), .one (.c (.string a2e2.data)), .one (.c (.int .i64 a2e2.id)), .one (.c (.int .u64 a2e2.index)), .one (.c (.bool a2e2.add))]], mv := [] } : St)) v) (lawLightL4 calls a2e2 fuel v.1 v.2)
    (fun o0 => ((.exit 4), { tm := mkTm 70 [(5, (.a (.s (.c (.int .i64 o0))))), (30, (.a (.s (.ssl 15 (List.map Call.row calls))))), (31, (.a (.s (.c (.int .i64 (((List.map Call.row calls).length : Nat) : Int)))))), (32, (.a (.s (.c (.int .i64 0)))))], hp := [.cells [.one (.c (.int .i64 a2e2.kind)), .one (.c (.int .i64 a2e2.letter_kind)), .one (.c (.int .i64 a2e2.letter_from_)), .one (.c (.int .i64 a2e2.letter_to)), .one (.c (.int .u64 a2e2.letter_term)), .one (.c (.int .u64 a2e2.letter_index)), .one (.c (.int .u64 a2e2.letter_prev)), .one (.c (.int .u64 a2e2.letter_commit)), .one (.c (.bool a2e2.letter_ok)), .one (.ssl 4 (List.map Entry.row a2e2.letter_entries)), .one (.c (.string a2e2.letter_data)), .one (.c (.string a2e2.data)), .one (.c (.int .i64 a2e2.id)), .one (.c (.int .u64 a2e2.index)), .one (.c (.bool a2e2.add))]], mv := [] })) :=
  Lo_go (rec := (fun n (v : Int × Int) => lawLightL4 calls a2e2 n v.1 v.2)) mixed (fun _ => rfl)
    (fun | _, (a4v0, a4v1) => (
    .reg [] [] [] <|
    .ite (fun a4h1 =>
    .cond true a4h1 <|
      .ifp (fun a4h2 =>
      .bind (fun a4e3 a4h3 =>
      .reg [(0, (eA Entry.row a4h2 a4h3))] [] [] <|
      .reg [] [] [] <|
      .reg [] [] [] <|
      .gh (.keep [5, 30, 31, 32, 54, 55, 56]) trivial <|
      .again true ((IntKind.wrap .i64 (a4v0 + (IntKind.wrap .i64 (Int.tdiv ((ByteArray.size a4e3.data : Nat) : Int) 100)))), (IntKind.wrap .i64 (a4v1 + 1))))))
    (fun a4h1 =>
    .cond false a4h1 <|
      .gh (.keep [5, 30, 31, 32]) trivial <|
      .leaf true [] [] a4v0))) (fun _ _ => by kernel_rfl)
def lawLightL6 (calls : List Call) (a2v1 : Int) (a2e3 : Call) : Nat → Int → Int → Option Int
  | 0, _, _ => none
  | fuel + 1, a6v0, a6v1 =>
  (iteB (decide (a6v1 < (((List.map Entry.row a2e3.letter_entries).length : Nat) : Int)))
  (ifP (0 ≤ a6v1)
    (Option.bind (a2e3.letter_entries[(a6v1).toNat]?) fun a6e3 =>
    (lawLightL6 calls a2v1 a2e3 fuel (IntKind.wrap .i64 (a6v0 + (IntKind.wrap .i64 (Int.tdiv ((ByteArray.size a6e3.data : Nat) : Int) 100)))) (IntKind.wrap .i64 (a6v1 + 1)))))
  (some a6v0))
theorem lawLightL6_ok (g : GT) (calls : List Call) (a2v1 : Int) (a2e3 : Call) : ∀ (fuel : Nat) (v : Int × Int), PcO prog g.1 (.loop (subC [1, 1, 1, 0, 1, 0, 0, 1, 1, 0, 0, 1, 1, 1, 0, 0] (bodyOf f15))) ((fun (a6v0, a6v1) => ({ tm := mkTm 70 [(5, (.a (.s (.c (.int .i64 a6v0))))), (30, (.a (.s (.ssl 15 (List.map Call.row calls))))), (31, (.a (.s (.c (.int .i64 (((List.map Call.row calls).length : Nat) : Int)))))), (32, (.a (.s (.c (.int .i64 a2v1))))), (54, (.a (.s (.ssl 4 (List.map Entry.row a2e3.letter_entries))))), (55, (.a (.s (.c (.int .i64 (((List.map Entry.row a2e3.letter_entries).length : Nat) : Int)))))), (56, (.a (.s (.c (.int .i64 a6v1)))))], hp := [.cells [.one (.c (.int .i64 a2e3.kind)), .one (.c (.int .i64 a2e3.letter_kind)), .one (.c (.int .i64 a2e3.letter_from_)), .one (.c (.int .i64 a2e3.letter_to)), .one (.c (.int .u64 a2e3.letter_term)), .one (.c (.int .u64 a2e3.letter_index)), .one (.c (.int .u64 a2e3.letter_prev)), .one (.c (.int .u64 a2e3.letter_commit)), .one (.c (.bool a2e3.letter_ok)), .one (.ssl 4 (List.map Entry.row a2e3.letter_entries)), .one (.c (.string a2e3.letter_data)), .one (.c (.string a2e3.data)), .one (.c (.int .i64 a2e3.id)), .one (.c (.int .u64 a2e3.index)), .one (.c (.bool a2e3.add))]], mv := [] } : St)) v) (lawLightL6 calls a2v1 a2e3 fuel v.1 v.2)
    (fun o0 => ((.exit 4), { tm := mkTm 70 [(5, (.a (.s (.c (.int .i64 o0))))), (30, (.a (.s (.ssl 15 (List.map Call.row calls))))), (31, (.a (.s (.c (.int .i64 (((List.map Call.row calls).length : Nat) : Int)))))), (32, (.a (.s (.c (.int .i64 a2v1)))))], hp := [.cells [.one (.c (.int .i64 a2e3.kind)), .one (.c (.int .i64 a2e3.letter_kind)), .one (.c (.int .i64 a2e3.letter_from_)), .one (.c (.int .i64 a2e3.letter_to)), .one (.c (.int .u64 a2e3.letter_term)), .one (.c (.int .u64 a2e3.letter_index)), .one (.c (.int .u64 a2e3.letter_prev)), .one (.c (.int .u64 a2e3.letter_commit)), .one (.c (.bool a2e3.letter_ok)), .one (.ssl 4 (List.map Entry.row a2e3.letter_entries)), .one (.c (.string a2e3.letter_data)), .one (.c (.string a2e3.data)), .one (.c (.int .i64 a2e3.id)), .one (.c (.int .u64 a2e3.index)), .one (.c (.bool a2e3.add))]], mv := [] })) :=
  Lo_go (rec := (fun n (v : Int × Int) => lawLightL6 calls a2v1 a2e3 n v.1 v.2)) mixed (fun _ => rfl)
    (fun | _, (a6v0, a6v1) => (
    .reg [] [] [] <|
    .ite (fun a6h1 =>
    .cond true a6h1 <|
      .ifp (fun a6h2 =>
      .bind (fun a6e3 a6h3 =>
      .reg [(0, (eA Entry.row a6h2 a6h3))] [] [] <|
      .reg [] [] [] <|
      .reg [] [] [] <|
      .gh (.keep [5, 30, 31, 32, 54, 55, 56]) trivial <|
      .again true ((IntKind.wrap .i64 (a6v0 + (IntKind.wrap .i64 (Int.tdiv ((ByteArray.size a6e3.data : Nat) : Int) 100)))), (IntKind.wrap .i64 (a6v1 + 1))))))
    (fun a6h1 =>
    .cond false a6h1 <|
      .gh (.keep [5, 30, 31, 32]) trivial <|
      .leaf true [] [] a6v0))) (fun _ _ => by kernel_rfl)
def lawLightL2 (calls : List Call) : Nat → Int → Int → Option Int
  | 0, _, _ => none
  | fuel + 1, a2v0, a2v1 =>
  (iteB (decide (a2v1 < (((List.map Call.row calls).length : Nat) : Int)))
  (ifP (0 ≤ a2v1)
    (Option.bind (calls[(a2v1).toNat]?) fun a2e3 =>
    (Option.bind (lawLightL6 calls a2v1 a2e3 fuel (IntKind.wrap .i64 (a2v0 + (IntKind.wrap .i64 ((((List.map Entry.row a2e3.letter_entries).length : Nat) : Int) + (IntKind.wrap .i64 (Int.tdiv (IntKind.wrap .i64 (((ByteArray.size a2e3.data : Nat) : Int) + ((ByteArray.size a2e3.letter_data : Nat) : Int))) 100)))))) (0 : Int)) fun a2o4_0 =>
    (lawLightL2 calls fuel a2o4_0 (IntKind.wrap .i64 (a2v1 + 1))))))
  (some a2v0))
theorem lawLightL2_ok (g : GT) (calls : List Call) : ∀ (fuel : Nat) (v : Int × Int), PcO prog g.1 (.loop (subC [1, 1, 1, 0, 1, 0, 0] (bodyOf f15))) ((fun (a2v0, a2v1) => ({ tm := mkTm 70 [(5, (.a (.s (.c (.int .i64 a2v0))))), (30, (.a (.s (.ssl 15 (List.map Call.row calls))))), (31, (.a (.s (.c (.int .i64 (((List.map Call.row calls).length : Nat) : Int)))))), (32, (.a (.s (.c (.int .i64 a2v1)))))], hp := [], mv := [] } : St)) v) (lawLightL2 calls fuel v.1 v.2)
    (fun o0 => ((.exit 2), { tm := mkTm 70 [(5, (.a (.s (.c (.int .i64 o0)))))], hp := [], mv := [] })) :=
  Lo_go (rec := (fun n (v : Int × Int) => lawLightL2 calls n v.1 v.2)) mixed (fun _ => rfl)
    (fun | fuel, (a2v0, a2v1) => (
    .reg [] [] [] <|
    .ite (fun a2h1 =>
    .cond true a2h1 <|
      .ifp (fun a2h2 =>
      .bind (fun a2e3 a2h3 =>
      .reg [(0, (eA Call.row a2h2 a2h3))] [] [] <|
      .reg [] [] [] <|
      .reg [] [] [] <|
      .gh (.keep [5, 30, 31, 32, 54, 55, 56]) trivial <|
      .bind (fun a2o4_0 a2h4 =>
      .claim false (lawLightL6_ok g calls a2v1 a2e3 fuel ((IntKind.wrap .i64 (a2v0 + (IntKind.wrap .i64 ((((List.map Entry.row a2e3.letter_entries).length : Nat) : Int) + (IntKind.wrap .i64 (Int.tdiv (IntKind.wrap .i64 (((ByteArray.size a2e3.data : Nat) : Int) + ((ByteArray.size a2e3.letter_data : Nat) : Int))) 100)))))), (0 : Int)) _ a2h4) <|
        .reg [] [] [] <|
        .gh (.keep [5, 30, 31, 32]) trivial <|
        .again true (a2o4_0, (IntKind.wrap .i64 (a2v1 + 1)))))))
    (fun a2h1 =>
    .cond false a2h1 <|
      .gh (.keep [5]) trivial <|
      .leaf true [] [] a2v0))) (fun _ _ => by kernel_rfl)
def lawLight (fuel : Nat) (l : List Entry) (calls : List Call) : Option Bool :=
  (Option.bind (lawLightL1 l calls fuel (IntKind.wrap .i64 ((((List.map Entry.row l).length : Nat) : Int) + (((List.map Call.row calls).length : Nat) : Int))) (0 : Int)) fun o1_0 =>
  (Option.bind (lawLightL2 calls fuel o1_0 (0 : Int)) fun o2_0 =>
    (some (decide (o2_0 ≤ 600)))))
theorem lawLight_ok (g : GT) (fuel : Nat) (l : List Entry) (calls : List Call) : FTO prog g.1 15 [(.a (.s (.ssl 4 (List.map Entry.row l)))), (.a (.s (.ssl 15 (List.map Call.row calls))))] [] (lawLight fuel l calls)
    (fun o0 => ([], (.a (.s (.c (.bool o0)))), [])) :=
  Fn_go mixed func15 (
  .reg [] [] [] <|
  .reg [] [] [] <|
  .reg [] [] [] <|
  .gh (.keep [1, 5, 17, 18, 19]) trivial <|
  .bind (fun o1_0 h1 =>
  .claim false (lawLightL1_ok g l calls fuel ((IntKind.wrap .i64 ((((List.map Entry.row l).length : Nat) : Int) + (((List.map Call.row calls).length : Nat) : Int))), (0 : Int)) _ h1) <|
    .reg [] [] [] <|
    .gh (.keep [5, 30, 31, 32]) trivial <|
    .bind (fun o2_0 h2 =>
    .claim false (lawLightL2_ok g calls fuel (o1_0, (0 : Int)) _ h2) <|
      .reg [] [] [] <|
      .gh (.keep [4]) trivial <|
      .leaf false [] [] (decide (o2_0 ≤ 600))))) (by kernel_rfl)
end Sx
