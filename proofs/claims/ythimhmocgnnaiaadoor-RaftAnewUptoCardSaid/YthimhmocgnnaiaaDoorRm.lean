/- A log and a node that begin; a configuration as bytes; the light check. -/
import Derived.Test.YthimhmocgnnaiaaDoorRk
namespace Sx
open Go Go.Proofs

structure LB (m : Nat) (s : Snapshot) (g : Log) : Prop where
  ix : g.index = s.index
  len : g.entries.length = m
  top : s.index + m < 18446744073709551616
  idx : ∀ (j : Nat) (e : Entry), g.entries[j]? = some e → e.index = g.index + 1 + j
  siz : ∀ e ∈ g.entries, e.data.size ≤ 32768

theorem lNewL1_sp (s : Snapshot) (hs : 0 ≤ s.index) (l : List Entry) (hl : l.length ≤ big) : ∀ (fuel k : Nat) (g : Log), k ≤ l.length → l.length + 20 < fuel + k → LB k s g →
    Sp (lNewL1 s l fuel k g) (fun o => ∀ g', o = .inr g' → LB l.length s g')
  | 0, k, g, h1, h2, _ => by omega
  | fuel + 1, k, g, h1, h2, h => by
    have hl' := hl; unfold big at hl'
    have hix := h.ix; have hlen := h.len; have htop := h.top
    rw [lNewL1]
    simp only [List.length_map]
    refine Sp.ite (fun h3 => ?_) (fun h3 => ?_)
    · have h3 := of_decide_eq_true h3
      refine Sp.ifp (by omega) ?_
      rw [Int.toNat_natCast]
      refine Sp.bind (Sp.get (by omega)) (fun e he => ?_)
      refine Sp.bind (lLast_sp' (by omega) h.idx) (fun o ho => ?_)
      obtain ⟨a, b⟩ := o
      dsimp only at ho ⊢
      refine Sp.bind (lSound_sp fuel (by omega) _ _ _) (fun b hb => ?_)
      refine Sp.ite (fun h4 => ?_) (fun _ => Sp.ret fun g' h => (by cases h))
      obtain ⟨h5, h6, h7⟩ := hb h4
      have hlt : a + 1 < 18446744073709551616 := by
        rcases Int.lt_or_le (a + 1) 18446744073709551616 with h8 | h8
        · exact h8
        · exfalso
          apply h7
          have : a + 1 = 18446744073709551616 := by omega
          rw [this]; decide
      rw [wu (by omega) hlt] at h5
      have hc : cut [e] 0 1 = [e] := rfl
      rw [hc, wi (x := (k : Int) + 1) (by omega) (by omega)]
      refine Sp.ifp (by trivial) (Sp.ifp (by simp; omega) ?_)
      refine lNewL1_sp s hs l hl fuel (k + 1) _ (by omega) (by omega) ⟨hix, by simp [hlen], by omega, fun j x hx => ?_, fun x hx => ?_⟩
      · simp only [List.getElem?_append] at hx
        split at hx
        · exact h.idx j x hx
        · rcases Nat.eq_zero_or_pos (j - g.entries.length) with h9 | h9
          · rw [h9] at hx
            simp only [List.getElem?_cons_zero, Option.some.injEq] at hx
            subst hx; simp only []; omega
          · rw [List.getElem?_eq_none (by simp; omega)] at hx; cases hx
      · rcases List.mem_append.mp hx with h8 | h8
        · exact h.siz x h8
        · rw [List.mem_singleton.mp h8]; exact h6
    · have h3 := of_decide_eq_false h3
      refine Sp.ret (fun g' hg => ?_)
      injection hg with hg
      subst hg
      have : k = l.length := by omega
      exact this ▸ h
theorem lNew_sp (s : Snapshot) (hs : 0 ≤ s.index ∧ s.index < 18446744073709551616) (l : List Entry) (hl : l.length ≤ big) (fuel : Nat) (hf : l.length + 30 ≤ fuel) :
    Sp (lNew fuel s l) (fun o => ∀ g', o = .inr g' → LB l.length s g') := by
  unfold lNew
  refine Sp.bind (qSound_sp _) (fun b _ => Sp.ite (fun _ => ?_) (fun _ => Sp.ret fun g' h => (by cases h)))
  refine Sp.bind (lNewL1_sp s hs.1 l hl fuel 0 _ (by omega) (by omega) ⟨rfl, rfl, by omega, fun j e he => by simp at he, fun e he => by cases he⟩) (fun o ho => ?_)
  refine Sp.sum (fun _ _ => Sp.ret fun g' h => (by cases h)) (fun g' hg => Sp.ret fun g'' h => ?_)
  injection h with h
  subst h
  exact ho g' hg

/-! ### A configuration as bytes -/
theorem wrNumNL1_sp (x : Int) : ∀ (m fuel : Nat) (a v : Int), 0 ≤ v → v < 256 ^ m → 0 ≤ a → a < 1000 - m → m < fuel → Sp (wrNumNL1 x fuel a v) (fun r => a ≤ r ∧ r ≤ a + m)
  | m, 0, a, v, _, _, _, _, h => by omega
  | m, fuel + 1, a, v, h0, hv, ha, hb, h => by
    rw [wrNumNL1]
    refine Sp.ite (fun h1 => ?_) (fun _ => Sp.ret ⟨Int.le_refl _, by omega⟩)
    have h1 := of_decide_eq_true h1
    rcases Nat.eq_zero_or_pos m with hm | hm
    · subst hm
      have hz : (256 : Int) ^ 0 = 1 := rfl
      rw [hz] at hv; omega
    · obtain ⟨m, rfl⟩ : ∃ m', m = m' + 1 := ⟨m - 1, by omega⟩
      rw [wi (x := a + 1) (by omega) (by omega)]
      have hf : Int.fdiv v (2 ^ 8) = v / 256 := by rw [Int.fdiv_eq_ediv_of_nonneg _ (by decide)]; rfl
      rw [hf]
      have hp : (256 : Int) ^ (m + 1) = 256 ^ m * 256 := Int.pow_succ 256 m
      have hv2 : v / 256 < 256 ^ m := by
        rw [hp] at hv
        exact Int.ediv_lt_of_lt_mul (by decide) hv
      refine Sp.mono (wrNumNL1_sp x m fuel (a + 1) (v / 256) (by omega) hv2 (by omega) (by omega) (by omega)) (fun r hr => ?_)
      exact ⟨by omega, by omega⟩
theorem wrNumNL2_sp (x o : Int) : ∀ (fuel k : Nat) (w : Writer), k ≤ 8 → w.b.length + k ≤ 20 → k < fuel → Sp (wrNumNL2 x o fuel ((k : Int) - 1) w) (fun r => r.b.length ≤ w.b.length + k)
  | 0, k, w, _, _, h => by omega
  | fuel + 1, k, w, h1, h2, h => by
    rw [wrNumNL2]
    refine Sp.ite (fun h3 => ?_) (fun _ => Sp.ret (by omega))
    have h3 := of_decide_eq_true h3
    obtain ⟨k', rfl⟩ : ∃ k', k = k' + 1 := ⟨k - 1, by omega⟩
    have hk : ((k' + 1 : Nat) : Int) - 1 = k' := by omega
    rw [hk, wi (x := 8 * (k' : Int)) (by omega) (by omega), wi (x := (k' : Int) - 1) (by omega) (by omega)]
    refine Sp.ifp (by omega) (Sp.ifp (by simp [cut]) (Sp.ifp (by simp [cut]; omega) ?_))
    refine Sp.mono (wrNumNL2_sp x o fuel k' _ (by omega) (by simp [cut]; omega) (by omega)) (fun r hr => ?_)
    simp [cut] at hr
    omega
theorem lConfig_sp (fuel : Nat) (hf : 20 ≤ fuel) (c : Int) (hc : 0 ≤ c ∧ c < 18446744073709551616) : Sp (lConfig fuel c) (fun _ => True) := by
  unfold lConfig wrNumN
  refine Sp.bind (R := fun _ => True) ?_ (fun w _ => ?_)
  · refine Sp.bind (wrNumNL1_sp c 8 fuel 0 c hc.1 (by have : (256 : Int) ^ 8 = 18446744073709551616 := by decide
                                                      omega) (by omega) (by omega) (by omega)) (fun o ho => ?_)
    refine Sp.ifp (by simp [cut]) (Sp.ifp (by simp [cut]) ?_)
    obtain ⟨k, hk⟩ : ∃ k : Nat, o = k := ⟨o.toNat, by omega⟩
    subst hk
    rw [wi (x := (k : Int) - 1) (by omega) (by omega)]
    exact Sp.bind (wrNumNL2_sp c _ fuel k _ (by omega) (by simp [cut]; omega) (by omega)) (fun _ _ => Sp.ret trivial)
  · unfold wrBytes
    exact Sp.bind (R := fun _ => True) (Sp.ret trivial) (fun _ _ => Sp.ret trivial)

/-! ### Light -/
theorem lightL1_sp (l : List Entry) (cs : List Call) (hl : l.length ≤ big) : ∀ (fuel k : Nat) (a : Int), k ≤ l.length → l.length < fuel + k →
    Sp (lawLightL1 l cs fuel a k) (fun _ => True)
  | 0, k, a, h1, h2 => by omega
  | fuel + 1, k, a, h1, h2 => by
    have hl' := hl; unfold big at hl'
    rw [lawLightL1]
    simp only [List.length_map]
    refine Sp.ite (fun h3 => ?_) (fun _ => Sp.ret trivial)
    have h3 := of_decide_eq_true h3
    refine Sp.ifp (by omega) ?_
    rw [Int.toNat_natCast]
    refine Sp.bind (Sp.get (by omega)) (fun e _ => ?_)
    rw [wi (x := (k : Int) + 1) (by omega) (by omega)]
    exact lightL1_sp l cs hl fuel (k + 1) _ (by omega) (by omega)
theorem lightL6_sp (cs : List Call) (i : Int) (c : Call) (hl : c.letter_entries.length ≤ big) : ∀ (fuel k : Nat) (a : Int), k ≤ c.letter_entries.length → c.letter_entries.length < fuel + k →
    Sp (lawLightL6 cs i c fuel a k) (fun _ => True)
  | 0, k, a, h1, h2 => by omega
  | fuel + 1, k, a, h1, h2 => by
    have hl' := hl; unfold big at hl'
    rw [lawLightL6]
    simp only [List.length_map]
    refine Sp.ite (fun h3 => ?_) (fun _ => Sp.ret trivial)
    have h3 := of_decide_eq_true h3
    refine Sp.ifp (by omega) ?_
    rw [Int.toNat_natCast]
    refine Sp.bind (Sp.get (by omega)) (fun e _ => ?_)
    rw [wi (x := (k : Int) + 1) (by omega) (by omega)]
    exact lightL6_sp cs i c hl fuel (k + 1) _ (by omega) (by omega)
theorem lightL2_sp (cs : List Call) (hl : cs.length ≤ big) (he : ∀ c ∈ cs, c.letter_entries.length ≤ big) : ∀ (fuel k : Nat) (a : Int), k ≤ cs.length → cs.length + big < fuel + k →
    Sp (lawLightL2 cs fuel a k) (fun _ => True)
  | 0, k, a, h1, h2 => by omega
  | fuel + 1, k, a, h1, h2 => by
    have hl' := hl; unfold big at hl'
    rw [lawLightL2]
    simp only [List.length_map]
    refine Sp.ite (fun h3 => ?_) (fun _ => Sp.ret trivial)
    have h3 := of_decide_eq_true h3
    refine Sp.ifp (by omega) ?_
    rw [Int.toNat_natCast]
    refine Sp.bind (Sp.get (by omega)) (fun c hc => ?_)
    have hce := he c (List.mem_of_getElem? hc)
    have hs6 := lightL6_sp cs (k : Int) c hce fuel 0
    refine Sp.bind (hs6 _ (Nat.zero_le _) (by omega)) (fun b _ => ?_)
    rw [wi (x := (k : Int) + 1) (by omega) (by omega)]
    exact lightL2_sp cs hl he fuel (k + 1) _ (by omega) (by omega)
theorem light_sp (l : List Entry) (cs : List Call) (hl : l.length ≤ big) (hc : cs.length ≤ big) (he : ∀ c ∈ cs, c.letter_entries.length ≤ big) (fuel : Nat) (hf : 2 * big < fuel) :
    Sp (lawLight fuel l cs) (fun _ => True) := by
  unfold lawLight
  refine Sp.bind (lightL1_sp l cs hl fuel 0 _ (Nat.zero_le _) (by omega)) (fun a _ => ?_)
  exact Sp.bind (lightL2_sp cs hc he fuel 0 _ (Nat.zero_le _) (by omega)) (fun _ _ => Sp.ret trivial)
end Sx
