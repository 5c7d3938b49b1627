/- The log and the quorum, for every node: they answer, and what holds of their answers. -/
import Derived.Test.YthimhmocgnnaiaaDoorPw
namespace Sx
open Go Go.Proofs

/-! ### Members -/
def mem (v : Nat) : List Int := ((List.range 7).filter fun i => v.testBit i).map Int.ofNat
set_option maxRecDepth 100000 in
theorem mem_tab (f : Nat) : ((List.range 128).all fun v => decide (qMembersL1 (f + 20) (v : Int) [] = some (mem v) ∧ ones64 (v : Int) = some ((mem v).length : Int))) = true := by kernel_rfl
theorem mem_at (f v : Nat) (h : v < 128) : qMembersL1 (f + 20) (v : Int) [] = some (mem v) ∧ ones64 (v : Int) = some ((mem v).length : Int) :=
  of_decide_eq_true (List.all_eq_true.mp (mem_tab f) v (List.mem_range.mpr h))
theorem mem_len (v : Nat) : (mem v).length ≤ 7 := by
  have h := List.length_filter_le (fun i => v.testBit i) (List.range 7)
  simp only [List.length_range] at h
  unfold mem; rw [List.length_map]; exact h
theorem mem_lt (v : Nat) (x : Int) (h : x ∈ mem v) : 0 ≤ x ∧ x < 7 := by
  unfold mem at h
  obtain ⟨i, hi, rfl⟩ := List.mem_map.mp h
  have h2 := List.mem_range.mp (List.mem_filter.mp hi).1
  exact ⟨Int.natCast_nonneg i, by have : ((i : Nat) : Int) < 7 := by omega
                                  exact this⟩
theorem low7 (c : Int) : ∃ v : Nat, v < 128 ∧ IntKind.wrap .u64 (((BitVec.ofInt (IntKind.bits .u64) c &&& BitVec.ofInt (IntKind.bits .u64) 127).toNat : Nat) : Int) = (v : Int) := by
  have h : (BitVec.ofInt (IntKind.bits .u64) c &&& BitVec.ofInt (IntKind.bits .u64) 127).toNat ≤ 127 := by
    rw [BitVec.toNat_and]
    exact Nat.le_trans Nat.and_le_right (by decide)
  exact ⟨_, by omega, wu (by omega) (by omega)⟩
theorem qMembers_sp (c : Int) (fuel : Nat) (hf : 20 ≤ fuel) : Sp (qMembers fuel c) (fun l => l.length ≤ 7 ∧ (∀ x ∈ l, 0 ≤ x ∧ x < 7) ∧ ∃ v : Nat, v < 128 ∧ IntKind.wrap .u64 (((BitVec.ofInt (IntKind.bits .u64) c &&& BitVec.ofInt (IntKind.bits .u64) 127).toNat : Nat) : Int) = (v : Int) ∧ l = mem v) := by
  obtain ⟨f, rfl⟩ : ∃ f, fuel = f + 20 := ⟨fuel - 20, by omega⟩
  obtain ⟨v, hv, hw⟩ := low7 c
  unfold qMembers
  rw [hw, (mem_at f v hv).1]
  exact Sp.ret ⟨mem_len v, mem_lt v, v, hv, rfl, rfl⟩
theorem ones_sp (x : Int) : Sp (ones64 x) (fun _ => True) := by unfold ones64; exact ⟨_, rfl, trivial⟩
theorem qNeed_sp (c : Int) : Sp (qNeed c) (fun _ => True) := by
  unfold qNeed
  exact Sp.bind (ones_sp _) fun _ _ => Sp.ret trivial
theorem qMajority_sp (c s : Int) : Sp (qMajority c s) (fun _ => True) := by
  unfold qMajority
  exact Sp.bind (ones_sp _) fun _ _ => Sp.bind (qNeed_sp c) fun _ _ => Sp.ret trivial
theorem qSound_sp (c : Int) : Sp (qSound c) (fun _ => True) := by
  unfold qSound
  exact Sp.ite (fun _ => ⟨_, rfl, trivial⟩) (fun _ => ⟨_, rfl, trivial⟩)
theorem qHas_sp (c i : Int) : Sp (qHas c i) (fun _ => True) := by
  unfold qHas
  exact Sp.ite (fun h => Sp.ite (fun _ => Sp.ifp (of_decide_eq_true h) (Sp.ret trivial)) (fun _ => Sp.ret trivial)) (fun _ => Sp.ret trivial)
theorem qChange_sp (c i : Int) (b : Bool) : Sp (qChange c b i) (fun o => 0 ≤ o.1 ∧ o.1 < 18446744073709551616) := by
  have h0 : (0 : Int) ≤ 0 ∧ (0 : Int) < 18446744073709551616 := by decide
  unfold qChange
  refine Sp.bind (qSound_sp c) fun _ _ => Sp.ite (fun _ => ?_) (fun _ => Sp.ret h0)
  refine Sp.ite (fun _ => Sp.ret h0) (fun h => Sp.ite (fun _ => Sp.ret h0) (fun _ => ?_))
  have h := of_decide_eq_false h
  refine Sp.ifp (by omega) (Sp.ite (fun _ => ?_) (fun _ => ?_)) <;>
    exact Sp.ite (fun _ => Sp.ret h0) (fun _ => Sp.ite (fun _ => Sp.ret h0) (fun _ => Sp.ret (wuRange _)))

theorem reachL1_sp (c : Int) (at_ l : List Int) (ha : at_.length = 7) (hl : l.length ≤ 7) (hm : ∀ x ∈ l, 0 ≤ x ∧ x < 7) :
    ∀ (fuel k : Nat) (acc : List Int), k ≤ l.length → acc.length = k → l.length < fuel + k → Sp (qReachedL1 c at_ l fuel k acc) (fun r => r.length = l.length)
  | 0, k, acc, h1, h2, h3 => by omega
  | fuel + 1, k, acc, h1, h2, h3 => by
    rw [qReachedL1]
    simp only [List.length_map]
    refine Sp.ite (fun h => ?_) (fun h => ?_)
    · have h := of_decide_eq_true h
      refine Sp.ifp (by omega) ?_
      rw [Int.toNat_natCast]
      refine Sp.bind (Sp.get (by omega)) (fun x hx => ?_)
      obtain ⟨hx0, hx7⟩ := hm x (List.mem_of_getElem? hx)
      rw [wi (x := (k : Int) + 1) (by omega) (by omega)]
      refine Sp.ite (fun _ => ?_) (fun h4 => absurd (of_decide_eq_false h4) (by omega))
      refine Sp.ifp hx0 (Sp.bind (Sp.get (by omega)) (fun y _ => ?_))
      refine Sp.ifp (by simp [cut]) (Sp.ifp (by simp [cut]; omega) ?_)
      have := reachL1_sp c at_ l ha hl hm fuel (k + 1) (acc ++ cut [y] 0 1) (by omega) (by simp [cut, h2]) (by omega)
      simpa using this
    · have h := of_decide_eq_false h
      exact Sp.ret (by omega)
theorem qReached_sp (c : Int) (at_ : List Int) (ha : at_.length = 7) (fuel : Nat) (hf : 20 ≤ fuel) : Sp (qReached fuel c at_) (fun _ => True) := by
  unfold qReached
  refine Sp.bind (qMembers_sp c fuel hf) (fun l hl => ?_)
  obtain ⟨h7, hm, v, hv, hw, rfl⟩ := hl
  refine Sp.bind (reachL1_sp c at_ _ ha h7 hm fuel 0 [] (Nat.zero_le _) rfl (by omega)) (fun r hr => ?_)
  simp only [List.length_map]
  refine Sp.ite (fun _ => Sp.ret trivial) (fun h0 => ?_)
  have h0 : r.length ≠ 0 := fun h => by rw [h] at h0; cases h0
  refine Sp.ifp (by omega) ?_
  have hn : qNeed c = some (IntKind.wrap .i64 ((IntKind.wrap .i64 (Int.tdiv ((mem v).length : Int) 2)) + 1)) := by
    unfold qNeed; rw [hw, (mem_at 0 v hv).2]; rfl
  have hd : Int.tdiv ((mem v).length : Int) 2 = (((mem v).length / 2 : Nat) : Int) := by rw [Int.tdiv_eq_ediv_of_nonneg (by omega)]; omega
  rw [hd, wi (x := (((mem v).length / 2 : Nat) : Int)) (by omega) (by omega), wi (by omega) (by omega)] at hn
  rw [hn]
  simp only [Option.bind_some]
  rw [wi (by omega) (by omega)]
  refine Sp.ifp (by rw [sortD_length]; omega) ?_
  exact Sp.bind (Sp.get (by rw [sortD_length]; omega)) (fun _ _ => Sp.ret trivial)
end Sx
