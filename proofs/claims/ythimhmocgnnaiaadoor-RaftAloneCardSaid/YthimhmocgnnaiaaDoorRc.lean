/- RaftAlone: the law answers true (the loops, the beginning, the end). -/
import Derived.Test.YthimhmocgnnaiaaDoorRa
namespace Sx
open Go Go.Proofs

set_option maxRecDepth 100000 in
theorem begun_any (f : Nat) : lawBegun (f + 70) = some true := by kernel_rfl
def es0 : List Entry := [⟨1, 1, 0, ByteArray.mk #[]⟩]
theorem good0 : Good es0 := ⟨by decide, fun j e he => by
  match j, he with
  | 0, he => simp only [es0, List.getElem?_cons_zero, Option.some.injEq] at he; subst he; exact ⟨rfl, rfl, rfl⟩
  | j + 1, he => simp [es0] at he⟩
def R0 (i : Nat) : Raft := ⟨i, 0, -1, ⟨0, 0, pw i, ByteArray.mk #[], []⟩, 0, -1, 0, 0, [0, 0, 0, 0, 0, 0, 0], [0, 0, 0, 0, 0, 0, 0], [], false, [], false⟩
set_option maxRecDepth 100000 in
theorem aNew (i : Nat) (hi : i < 7) (f : Nat) : lNew (f + 70) (Snapshot.mk 0 0 (IntKind.wrap .u64 ((1 : Int) * 2 ^ (min ((i : Int)).toNat (IntKind.bits .u64)))) (ByteArray.mk #[])) [] = some (.inr ⟨0, 0, pw i, ByteArray.mk #[], []⟩) :=
  match i, hi with
  | 0, _ => (by kernel_rfl : lNew (f + 70) (Snapshot.mk 0 0 (IntKind.wrap .u64 ((1 : Int) * 2 ^ (min (((0 : Nat) : Int)).toNat (IntKind.bits .u64)))) (ByteArray.mk #[])) [] = some (.inr ⟨0, 0, pw 0, ByteArray.mk #[], []⟩))
  | 1, _ => (by kernel_rfl : lNew (f + 70) (Snapshot.mk 0 0 (IntKind.wrap .u64 ((1 : Int) * 2 ^ (min (((1 : Nat) : Int)).toNat (IntKind.bits .u64)))) (ByteArray.mk #[])) [] = some (.inr ⟨0, 0, pw 1, ByteArray.mk #[], []⟩))
  | 2, _ => (by kernel_rfl : lNew (f + 70) (Snapshot.mk 0 0 (IntKind.wrap .u64 ((1 : Int) * 2 ^ (min (((2 : Nat) : Int)).toNat (IntKind.bits .u64)))) (ByteArray.mk #[])) [] = some (.inr ⟨0, 0, pw 2, ByteArray.mk #[], []⟩))
  | 3, _ => (by kernel_rfl : lNew (f + 70) (Snapshot.mk 0 0 (IntKind.wrap .u64 ((1 : Int) * 2 ^ (min (((3 : Nat) : Int)).toNat (IntKind.bits .u64)))) (ByteArray.mk #[])) [] = some (.inr ⟨0, 0, pw 3, ByteArray.mk #[], []⟩))
  | 4, _ => (by kernel_rfl : lNew (f + 70) (Snapshot.mk 0 0 (IntKind.wrap .u64 ((1 : Int) * 2 ^ (min (((4 : Nat) : Int)).toNat (IntKind.bits .u64)))) (ByteArray.mk #[])) [] = some (.inr ⟨0, 0, pw 4, ByteArray.mk #[], []⟩))
  | 5, _ => (by kernel_rfl : lNew (f + 70) (Snapshot.mk 0 0 (IntKind.wrap .u64 ((1 : Int) * 2 ^ (min (((5 : Nat) : Int)).toNat (IntKind.bits .u64)))) (ByteArray.mk #[])) [] = some (.inr ⟨0, 0, pw 5, ByteArray.mk #[], []⟩))
  | 6, _ => (by kernel_rfl : lNew (f + 70) (Snapshot.mk 0 0 (IntKind.wrap .u64 ((1 : Int) * 2 ^ (min (((6 : Nat) : Int)).toNat (IntKind.bits .u64)))) (ByteArray.mk #[])) [] = some (.inr ⟨0, 0, pw 6, ByteArray.mk #[], []⟩))
theorem aNode (i : Nat) (hi : i < 7) : rNew i (Hard.mk 0 (-1)) ⟨0, 0, pw i, ByteArray.mk #[], []⟩ = some (.inr (R0 i)) :=
  match i, hi with
  | 0, _ => (by kernel_rfl : rNew ((0 : Nat) : Int) (Hard.mk 0 (-1)) ⟨0, 0, pw 0, ByteArray.mk #[], []⟩ = some (.inr (R0 0)))
  | 1, _ => (by kernel_rfl : rNew ((1 : Nat) : Int) (Hard.mk 0 (-1)) ⟨0, 0, pw 1, ByteArray.mk #[], []⟩ = some (.inr (R0 1)))
  | 2, _ => (by kernel_rfl : rNew ((2 : Nat) : Int) (Hard.mk 0 (-1)) ⟨0, 0, pw 2, ByteArray.mk #[], []⟩ = some (.inr (R0 2)))
  | 3, _ => (by kernel_rfl : rNew ((3 : Nat) : Int) (Hard.mk 0 (-1)) ⟨0, 0, pw 3, ByteArray.mk #[], []⟩ = some (.inr (R0 3)))
  | 4, _ => (by kernel_rfl : rNew ((4 : Nat) : Int) (Hard.mk 0 (-1)) ⟨0, 0, pw 4, ByteArray.mk #[], []⟩ = some (.inr (R0 4)))
  | 5, _ => (by kernel_rfl : rNew ((5 : Nat) : Int) (Hard.mk 0 (-1)) ⟨0, 0, pw 5, ByteArray.mk #[], []⟩ = some (.inr (R0 5)))
  | 6, _ => (by kernel_rfl : rNew ((6 : Nat) : Int) (Hard.mk 0 (-1)) ⟨0, 0, pw 6, ByteArray.mk #[], []⟩ = some (.inr (R0 6)))
set_option maxRecDepth 100000 in
theorem aTimeout (i : Nat) (hi : i < 7) (f : Nat) : rTimeout (f + 70) (R0 i) = some (mkR i es0) :=
  match i, hi with
  | 0, _ => (by kernel_rfl : rTimeout (f + 70) (R0 0) = some (mkR 0 es0))
  | 1, _ => (by kernel_rfl : rTimeout (f + 70) (R0 1) = some (mkR 1 es0))
  | 2, _ => (by kernel_rfl : rTimeout (f + 70) (R0 2) = some (mkR 2 es0))
  | 3, _ => (by kernel_rfl : rTimeout (f + 70) (R0 3) = some (mkR 3 es0))
  | 4, _ => (by kernel_rfl : rTimeout (f + 70) (R0 4) = some (mkR 4 es0))
  | 5, _ => (by kernel_rfl : rTimeout (f + 70) (R0 5) = some (mkR 5 es0))
  | 6, _ => (by kernel_rfl : rTimeout (f + 70) (R0 6) = some (mkR 6 es0))

theorem aL1 (id : Int) (data : List ByteArray) (hd : ∀ s ∈ data, s.size ≤ maxLen) : ∀ (fuel k n : Nat), k ≤ data.length → n ≤ 300 → k ≤ n → data.length < fuel + k →
    Sp (lawAloneL1 id data fuel n k) (fun o => o = .inl () ∨ (o = .inr () ∧ data.length ≤ 300 ∧ ∀ (j : Nat) (s : ByteArray), k ≤ j → data[j]? = some s → s.size ≤ 32768))
  | 0, k, n, h1, h2, h3, h4 => by omega
  | fuel + 1, k, n, h1, h2, h3, h4 => by
    rw [lawAloneL1]
    simp only [List.length_map]
    refine Sp.ite (fun h => ?_) (fun h => ?_)
    · have h := of_decide_eq_true h
      refine Sp.ifp (by omega) ?_
      rw [Int.toNat_natCast]
      refine Sp.bind (Sp.get (by omega)) (fun s hs => ?_)
      have hsz : s.size ≤ maxLen := hd s (List.mem_of_getElem? hs)
      have hM : (maxLen : Nat) < 9223372036854775808 := by decide
      have ht : Int.tdiv ((s.size : Nat) : Int) 100 = ((s.size / 100 : Nat) : Int) := by rw [Int.tdiv_eq_ediv_of_nonneg (by omega)]; omega
      rw [ht, wi (x := ((s.size / 100 : Nat) : Int)) (by omega) (by omega), wi (x := 1 + ((s.size / 100 : Nat) : Int)) (by omega) (by omega)]
      refine Sp.ite (fun _ => Sp.ret (Or.inl rfl)) (fun h5 => ?_)
      refine Sp.ite (fun _ => Sp.ret (Or.inl rfl)) (fun h6 => ?_)
      have h5 := of_decide_eq_false h5
      have h6 := of_decide_eq_false h6
      have hw : IntKind.wrap .i64 ((n : Int) + (1 + ((s.size / 100 : Nat) : Int))) = ((n + 1 + s.size / 100 : Nat) : Int) := by rw [wi (by omega) (by omega)]; omega
      rw [hw] at h5 ⊢
      rw [wi (x := (k : Int) + 1) (by omega) (by omega)]
      refine Sp.mono (aL1 id data hd fuel (k + 1) (n + 1 + s.size / 100) (by omega) (by omega) (by omega) (by omega)) (fun o ho => ?_)
      rcases ho with ho | ⟨ho, hl, hj⟩
      · exact Or.inl ho
      · refine Or.inr ⟨ho, hl, fun j t hkj hjt => ?_⟩
        rcases Nat.eq_or_lt_of_le hkj with rfl | hlt
        · rw [hs] at hjt; injection hjt with hjt; subst hjt; omega
        · exact hj j t hlt hjt
    · have h := of_decide_eq_false h
      refine Sp.ret (Or.inr ⟨rfl, by omega, fun j s hkj hjt => ?_⟩)
      rw [List.getElem?_eq_none (by omega)] at hjt; cases hjt

theorem aL8 (id : Int) (data : List ByteArray) (i : Nat) (hi : i < 7) (hl : data.length ≤ 300) (hd : ∀ (j : Nat) (s : ByteArray), data[j]? = some s → s.size ≤ 32768) : ∀ (fuel k : Nat) (es : List Entry), k ≤ data.length → Good es → es.length = k + 1 → 2 * data.length + 30 ≤ fuel + k →
    Sp (lawAloneL8 id data fuel k (mkR i es)) (fun o => ∃ es', o = .inr (mkR i es') ∧ es'.length = data.length + 1)
  | 0, k, es, h1, h2, h3, h4 => by omega
  | fuel + 1, k, es, h1, h2, h3, h4 => by
    rw [lawAloneL8]
    simp only [List.length_map]
    refine Sp.ite (fun h => ?_) (fun h => ?_)
    · have h := of_decide_eq_true h
      refine Sp.ifp (by omega) ?_
      rw [Int.toNat_natCast]
      refine Sp.bind (Sp.get (by omega)) (fun s hs => ?_)
      rw [aPropose fuel (by omega) i hi es h2 (by omega) (by omega) s (hd k s hs)]
      simp only [Option.bind_some]
      rw [wi (x := (k : Int) + 2) (by omega) (by omega), wu (by omega) (by omega), wi (by omega) (by omega)]
      refine Sp.ite (fun h => by cases h) (fun _ => ?_)
      refine Sp.ite (fun h => ?_) (fun _ => ?_)
      · have h := (bne_iff_ne).mp h
        omega
      · exact aL8 id data i hi hl hd fuel (k + 1) _ (by omega) (good_add h2 s 1 rfl) (by simp [h3]) (by omega)
    · have h := of_decide_eq_false h
      exact Sp.ret ⟨es, rfl, by omega⟩

theorem alone_true (id : Int) (data : List ByteArray) (hd : ∀ s ∈ data, s.size ≤ maxLen) : lawAlone (2 * data.length + 70) id data = some true := by
  have hr : 0 ≤ Int.tmod (IntKind.wrap .i64 ((Int.tmod id 7) + 7)) 7 ∧ Int.tmod (IntKind.wrap .i64 ((Int.tmod id 7) + 7)) 7 < 7 := by
    have h1 := Int.tmod_lt_of_pos id (show (0 : Int) < 7 by decide)
    have h2 : -7 < Int.tmod id 7 := by
      have := Int.tmod_lt_of_pos (-id) (show (0 : Int) < 7 by decide)
      rw [Int.neg_tmod] at this; omega
    rw [wi (by omega) (by omega)]
    exact ⟨Int.tmod_nonneg _ (by omega), Int.tmod_lt_of_pos _ (by decide)⟩
  unfold lawAlone
  generalize Int.tmod (IntKind.wrap .i64 ((Int.tmod id 7) + 7)) 7 = j at hr ⊢
  obtain ⟨i, rfl⟩ : ∃ i : Nat, j = i := ⟨j.toNat, by omega⟩
  have hi : i < 7 := by omega
  rw [begun_any]
  simp only [Option.bind_some, iteB_t, List.length_map]
  refine Sp.to ?_
  refine Sp.bind (aL1 id data hd (2 * data.length + 70) 0 0 (by omega) (by omega) (by omega) (by omega)) (fun o ho => ?_)
  rcases ho with rfl | ⟨rfl, hl, hsz⟩
  · exact Sp.ret rfl
  refine Sp.sum (fun a h => by cases h) (fun b _ => ?_)
  refine Sp.ifp (by omega) ?_
  rw [aNew i hi]
  simp only [Option.bind_some]
  refine Sp.sum (fun a h => by cases h) (fun b hb => ?_)
  injection hb with hb; subst hb
  rw [aNode i hi]
  simp only [Option.bind_some]
  refine Sp.sum (fun a h => by cases h) (fun b hb => ?_)
  injection hb with hb; subst hb
  rw [aTimeout i hi]
  simp only [Option.bind_some]
  refine Sp.bind (aL8 id data i hi hl (fun j s h => hsz j s (Nat.zero_le _) h) _ 0 es0 (by omega) good0 rfl (by omega)) (fun o ho => ?_)
  obtain ⟨es, rfl, hes⟩ := ho
  refine Sp.sum (fun a h => by cases h) (fun b hb => ?_)
  injection hb with hb; subst hb
  unfold rTake
  simp only [Option.bind_some, mkR, List.length_nil]
  have hw : IntKind.wrap .i64 ((data.length : Int) + 1) = (es.length : Int) := by rw [wi (by omega) (by omega)]; omega
  rw [hw, wu (by omega) (by omega)]
  refine Sp.ite (fun _ => ?_) (fun h => by cases h)
  refine Sp.ite (fun _ => ?_) (fun h => by simp at h)
  refine Sp.ite (fun _ => ?_) (fun h => by simp at h)
  refine Sp.ret ?_
  simp
end Sx
