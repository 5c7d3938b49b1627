/- A small logic for the pure functions: `Sp x Q`: x answers, and its answer is so; and what the wrapped integers are in their ranges. -/
import Derived.Test.YthimhmocgnnaiaaDoorRf2
namespace Sx
open Go Go.Proofs

def Sp {α : Type} (x : Option α) (Q : α → Prop) : Prop := ∃ a, x = some a ∧ Q a
theorem Sp.ret {α : Type} {a : α} {Q : α → Prop} (h : Q a) : Sp (some a) Q := ⟨a, rfl, h⟩
theorem Sp.ite {α : Type} {b : Bool} {x y : Option α} {Q : α → Prop} (h1 : b = true → Sp x Q) (h2 : b = false → Sp y Q) : Sp (iteB b x y) Q := by
  cases b
  · exact h2 rfl
  · exact h1 rfl
theorem Sp.ifp {α : Type} {p : Prop} [Decidable p] {x : Option α} {Q : α → Prop} (h : p) (h1 : Sp x Q) : Sp (ifP p x) Q := by
  unfold ifP; rw [if_pos h]; exact h1
theorem Sp.bind {α β : Type} {x : Option α} {f : α → Option β} {R : α → Prop} {Q : β → Prop} (h1 : Sp x R) (h2 : ∀ a, R a → Sp (f a) Q) : Sp (Option.bind x f) Q := by
  obtain ⟨a, rfl, h⟩ := h1
  exact h2 a h
theorem Sp.sum {A B γ : Type} {s : A ⊕ B} {x : A → Option γ} {y : B → Option γ} {Q : γ → Prop} (h1 : ∀ a, s = .inl a → Sp (x a) Q) (h2 : ∀ b, s = .inr b → Sp (y b) Q) : Sp (sumC s x y) Q := by
  cases s
  · exact h1 _ rfl
  · exact h2 _ rfl
theorem Sp.mono {α : Type} {x : Option α} {Q R : α → Prop} (h : Sp x Q) (h1 : ∀ a, Q a → R a) : Sp x R := by
  obtain ⟨a, h2, h3⟩ := h; exact ⟨a, h2, h1 a h3⟩
theorem Sp.eq {α : Type} {x : Option α} {a : α} (h : x = some a) : Sp x (fun b => b = a) := ⟨a, h, rfl⟩
theorem Sp.to {α : Type} {x : Option α} {a : α} (h : Sp x (fun b => b = a)) : x = some a := by obtain ⟨b, h1, rfl⟩ := h; exact h1
theorem Sp.get {α : Type} {l : List α} {i : Nat} (h : i < l.length) : Sp (l[i]?) (fun a => l[i]? = some a) := ⟨l[i], List.getElem?_eq_getElem h, List.getElem?_eq_getElem h⟩

theorem iteB_t {α : Type} (x y : Option α) : iteB true x y = x := rfl
theorem iteB_f {α : Type} (x y : Option α) : iteB false x y = y := rfl
theorem ifP_T {α : Type} [inst : Decidable True] (x : Option α) : ifP True x = x := if_pos trivial

theorem wi {x : Int} (h0 : -9223372036854775808 ≤ x) (h1 : x < 9223372036854775808) : IntKind.wrap .i64 x = x := by
  have e : IntKind.wrap .i64 x = (if x % 18446744073709551616 ≥ 9223372036854775808 then x % 18446744073709551616 - 18446744073709551616 else x % 18446744073709551616) := by
    simp [IntKind.wrap, IntKind.bits, IntKind.signed]
  rw [e]; split <;> omega
theorem wu {x : Int} (h0 : 0 ≤ x) (h1 : x < 18446744073709551616) : IntKind.wrap .u64 x = x := by
  have e : IntKind.wrap .u64 x = x % 18446744073709551616 := by
    simp [IntKind.wrap, IntKind.bits, IntKind.signed]
  rw [e]; omega
theorem wuRange (x : Int) : 0 ≤ IntKind.wrap .u64 x ∧ IntKind.wrap .u64 x < 18446744073709551616 := by
  have e : IntKind.wrap .u64 x = x % 18446744073709551616 := by
    simp [IntKind.wrap, IntKind.bits, IntKind.signed]
  rw [e]; omega

/-! ### Bytes read as a number: it always answers -/
theorem rdNumL1_tot (r : Reader) (m : Nat) (hm : IntKind.wrap .i64 (((ByteArray.get! r.s 0).toNat : Nat) : Int) = m) (hl : m < r.s.size) (h8 : m ≤ 8) :
    ∀ (fuel k : Nat) (a : Int), k ≤ m + 1 → m + 1 < fuel + k → Sp (rdNumL1 r fuel a k) (fun _ => True)
  | 0, k, a, h1, h2 => by omega
  | fuel + 1, k, a, h1, h2 => by
    rw [rdNumL1, hm]
    refine Sp.ite (fun h => ?_) (fun _ => Sp.ret trivial)
    have h3 := of_decide_eq_true h
    refine Sp.ifp (by omega) ?_
    rw [wi (x := (k : Int) + 1) (by omega) (by omega)]
    exact rdNumL1_tot r m hm hl h8 fuel (k + 1) _ (by omega) (by omega)
theorem rdNum_tot (s : ByteArray) (b : Bool) (hs : s.size ≤ maxLen) (fuel : Nat) (hf : 12 ≤ fuel) : Sp (rdNum fuel ⟨s, b⟩) (fun _ => True) := by
  have hM : (maxLen : Nat) < 9223372036854775808 := by decide
  have hb : (ByteArray.get! s 0).toNat < 256 := UInt8.toNat_lt _
  have hw : IntKind.wrap .i64 (((ByteArray.get! s 0).toNat : Nat) : Int) = ((ByteArray.get! s 0).toNat : Nat) := wi (by omega) (by omega)
  unfold rdNum
  refine Sp.ite (fun _ => ⟨_, rfl, trivial⟩) (fun h0 => ?_)
  have hpos : 0 < s.size := by
    rcases Nat.eq_zero_or_pos s.size with h | h
    · exfalso
      have : s = ByteArray.mk #[] := by
        cases s with
        | mk d => simp only [ByteArray.size] at h; rw [Array.size_eq_zero_iff.mp h]
      rw [this] at h0; simp at h0
    · exact h
  refine Sp.ifp (by simp only []; omega) ?_
  simp only []
  rw [hw]
  refine Sp.ite (fun _ => ⟨_, rfl, trivial⟩) (fun h1 => ?_)
  have h1 := of_decide_eq_false h1
  refine Sp.ite (fun _ => ⟨_, rfl, trivial⟩) (fun h2 => ?_)
  have h2 := of_decide_eq_false h2
  rw [wi (x := (s.size : Int) - 1) (by omega) (by omega)] at h2
  have hq : ∀ a : Int, Sp (rdNumL1 ⟨s, b⟩ fuel a (1 : Int)) (fun _ => True) := fun a => by
    have := rdNumL1_tot ⟨s, b⟩ _ hw (by simp only []; omega) (by omega) fuel 1 a (by omega) (by omega)
    simpa using this
  have hw1 : IntKind.wrap .i64 ((((ByteArray.get! s 0).toNat : Nat) : Int) + 1) = (((ByteArray.get! s 0).toNat : Nat) : Int) + 1 := wi (by omega) (by omega)
  refine Sp.ite (fun h3 => ?_) (fun _ => ?_)
  · have h3 := of_decide_eq_true h3
    refine Sp.ifp (by omega) ?_
    refine Sp.ite (fun _ => ⟨_, rfl, trivial⟩) (fun _ => ?_)
    refine Sp.bind (hq _) (fun _ _ => Sp.ifp ?_ (Sp.ret trivial))
    rw [hw1]; omega
  · refine Sp.bind (hq _) (fun _ _ => Sp.ifp ?_ (Sp.ret trivial))
    rw [hw1]; omega
theorem configOf_tot (s : ByteArray) (hs : s.size ≤ maxLen) (fuel : Nat) (hf : 12 ≤ fuel) : Sp (configOf fuel s) (fun _ => True) := by
  unfold configOf rdFrom
  refine Sp.bind (R := fun r => r = ⟨s, false⟩) (Sp.ret rfl) (fun r hr => ?_)
  subst hr
  refine Sp.bind (rdNum_tot s false hs fuel hf) (fun a _ => ?_)
  obtain ⟨x, r⟩ := a
  refine Sp.bind (R := fun _ => True) ?_ (fun b _ => ?_)
  · unfold rdDone rdLeft
    refine Sp.bind (R := fun _ => True) ⟨_, rfl, trivial⟩ (fun a _ => ?_)
    exact Sp.ite (fun _ => ⟨_, rfl, trivial⟩) (fun _ => ⟨_, rfl, trivial⟩)
  · refine Sp.ite (fun _ => ?_) (fun _ => ⟨_, rfl, trivial⟩)
    refine Sp.bind (R := fun _ => True) ?_ (fun b _ => ⟨_, rfl, trivial⟩)
    unfold qSound
    exact Sp.ite (fun _ => ⟨_, rfl, trivial⟩) (fun _ => ⟨_, rfl, trivial⟩)
end Sx
