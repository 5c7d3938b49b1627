/- The log: its functions answer on every sound log, and what holds of their answers. -/
import Derived.Test.YthimhmocgnnaiaaDoorRi
namespace Sx
open Go Go.Proofs

/-- A log of at most n entries, one behind the other. -/
structure LI (n : Nat) (g : Log) : Prop where
  i0 : 0 ≤ g.index
  len : g.entries.length ≤ n
  top : g.index + g.entries.length ≤ 9223372036854775808 + n
  idx : ∀ (j : Nat) (e : Entry), g.entries[j]? = some e → e.index = g.index + 1 + j
  siz : ∀ e ∈ g.entries, e.data.size ≤ 32768
theorem LI.mono {n m : Nat} {g : Log} (h : LI n g) (hm : n ≤ m) : LI m g := ⟨h.i0, Nat.le_trans h.len hm, by have := h.top; omega, h.idx, h.siz⟩
/-- g' is g and perhaps more behind it. -/
def LE (g g' : Log) : Prop := ∃ more, g' = ⟨g.index, g.term, g.config, g.data, g.entries ++ more⟩
theorem LE.rfl' (g : Log) : LE g g := ⟨[], by simp⟩
theorem LE.trans {a b c : Log} (h : LE a b) (h1 : LE b c) : LE a c := by
  obtain ⟨m, rfl⟩ := h
  obtain ⟨k, rfl⟩ := h1
  exact ⟨m ++ k, by simp⟩
def big : Nat := 100000000

theorem lSound_sp (fuel : Nat) (hf : 12 ≤ fuel) (e : Entry) (i t : Int) : Sp (lSound fuel e i t) (fun b => b = true → e.index = i ∧ e.data.size ≤ 32768 ∧ i ≠ 0) := by
  unfold lSound
  refine Sp.ite (fun _ => Sp.ret (fun h => by cases h)) (fun h0 => ?_)
  refine Sp.ite (fun _ => Sp.ret (fun h => by cases h)) (fun h1 => ?_)
  refine Sp.ite (fun _ => Sp.ret (fun h => by cases h)) (fun _ => ?_)
  refine Sp.ite (fun _ => Sp.ret (fun h => by cases h)) (fun _ => ?_)
  refine Sp.ite (fun _ => Sp.ret (fun h => by cases h)) (fun _ => ?_)
  refine Sp.ite (fun _ => Sp.ret (fun h => by cases h)) (fun h2 => ?_)
  have h2 := of_decide_eq_false h2
  have h3 : e.index = i ∧ e.data.size ≤ 32768 ∧ i ≠ 0 := ⟨by simpa using h1, by omega, by simpa using h0⟩
  refine Sp.bind (configOf_tot e.data (Nat.le_trans h3.2.1 (by decide)) fuel hf) (fun a _ => ?_)
  obtain ⟨x, y⟩ := a
  exact Sp.ite (fun _ => Sp.ret fun _ => h3) (fun _ => Sp.ret fun _ => h3)

theorem lLast_sp' {g : Log} (hl : g.entries.length ≤ big) (hi : ∀ (j : Nat) (e : Entry), g.entries[j]? = some e → e.index = g.index + 1 + j) : Sp (lLast g) (fun o => o.1 = g.index + g.entries.length) := by
  unfold big at hl
  unfold lLast
  simp only [List.length_map]
  refine Sp.ite (fun h1 => ?_) (fun h1 => ?_)
  · have h1 := of_decide_eq_true h1
    rw [wi (by omega) (by omega)]
    refine Sp.ifp (by omega) (Sp.bind (Sp.get (by omega)) (fun e he => Sp.ret ?_))
    have := hi _ _ he
    simp only []; omega
  · have h1 := of_decide_eq_false h1
    exact Sp.ret (by simp only []; omega)
theorem lLast_sp {n : Nat} {g : Log} (h : LI n g) (hn : n ≤ big) : Sp (lLast g) (fun o => o.1 = g.index + g.entries.length) := lLast_sp' (Nat.le_trans h.len hn) h.idx

theorem lAt_sp {n : Nat} {g : Log} (h : LI n g) (hn : n ≤ big) (i : Int) :
    Sp (lAt g i) (fun o => -1 ≤ o ∧ o < g.entries.length ∧ (0 ≤ o → i < 18446744073709551616 → i = g.index + 1 + o) ∧ (i < 18446744073709551616 → g.index < i → i ≤ g.index + g.entries.length → o = i - g.index - 1)
      ∧ (o < 0 → i < 18446744073709551616 → g.index < i → g.index + g.entries.length < i)) := by
  have hl := h.len; have h0 := h.i0; unfold big at hn
  unfold lAt
  simp only [List.length_map]
  refine Sp.ite (fun h1 => ?_) (fun h1 => ?_)
  · have h1 := of_decide_eq_true h1
    exact Sp.ret ⟨by omega, by omega, fun h _ => by omega, fun _ h _ => by omega, fun _ _ h => by omega⟩
  have h1 := of_decide_eq_false h1
  rw [wu (x := ((g.entries.length : Nat) : Int)) (by omega) (by omega)]
  have hr := wuRange (i - g.index)
  have he : i < 18446744073709551616 → IntKind.wrap .u64 (i - g.index) = i - g.index := fun h => wu (by omega) (by omega)
  generalize IntKind.wrap .u64 (i - g.index) = d at hr he ⊢
  refine Sp.ite (fun h2 => ?_) (fun h2 => ?_)
  · have h2 := of_decide_eq_true h2
    exact Sp.ret ⟨by omega, by omega, fun h _ => by omega, fun h3 _ _ => by have := he h3; omega, fun _ h3 _ => by have := he h3; omega⟩
  · have h2 := of_decide_eq_false h2
    refine Sp.ret ?_
    rcases Int.lt_or_le 0 d with hd | hd
    · rw [wu (x := d - 1) (by omega) (by omega), wi (by omega) (by omega)]
      exact ⟨by omega, by omega, fun _ h3 => by have := he h3; omega, fun h3 _ _ => by have := he h3; omega, fun h _ => by omega⟩
    · have : d = 0 := by omega
      subst this
      have hw : IntKind.wrap .i64 (IntKind.wrap .u64 (0 - 1)) = -1 := by decide
      rw [hw]
      exact ⟨by omega, by omega, fun h _ => by omega, fun h3 _ _ => by have := he h3; omega, fun _ h3 _ => by have := he h3; omega⟩

theorem lTerm_sp {n : Nat} {g : Log} (h : LI n g) (hn : n ≤ big) (i : Int) :
    Sp (lTerm g i) (fun o => (o.2 = 0 → i < 18446744073709551616 → g.index < i → i ≤ g.index + g.entries.length) ∧
      (i < 18446744073709551616 → ∀ (j : Nat) (e : Entry), g.entries[j]? = some e → i = g.index + 1 + j → o.2 = 0 ∧ o.1 = e.term)) := by
  unfold lTerm
  refine Sp.bind (lAt_sp h hn i) (fun o ho => ?_)
  obtain ⟨ha, hb, hc, hd, _⟩ := ho
  simp only [List.length_map]
  refine Sp.ite (fun h1 => ?_) (fun h1 => ?_)
  · have h1 := of_decide_eq_true h1
    refine Sp.ifp (by omega) (Sp.bind (Sp.get (by omega)) (fun e he => Sp.ret ⟨fun _ h2 h3 => ?_, fun h2 j e' he' hj => ⟨rfl, ?_⟩⟩))
    · have := hc h1 h2; omega
    · have := hc h1 h2
      have hj' : 0 + o.toNat = j := by omega
      rw [hj', he'] at he
      injection he with he
      rw [he]
  · have h1 := of_decide_eq_false h1
    have hno : i < 18446744073709551616 → ∀ (j : Nat) (e : Entry), g.entries[j]? = some e → i = g.index + 1 + j → False := fun h2 j e' he' hj => by
      have hjl : j < g.entries.length := by
        rcases Nat.lt_or_ge j g.entries.length with h3 | h3
        · exact h3
        · rw [List.getElem?_eq_none h3] at he'; cases he'
      have := hd h2 (by omega) (by omega); omega
    refine Sp.ite (fun h2 => ?_) (fun _ => ?_)
    · have h2 := eq_of_beq h2
      exact Sp.ret ⟨fun _ _ h3 => by omega, fun h2 j e' he' hj => (hno h2 j e' he' hj).elim⟩
    · exact Sp.ret ⟨fun h3 => (by cases h3), fun h2 j e' he' hj => (hno h2 j e' he' hj).elim⟩

theorem mem_cut {α : Type} {l : List α} {i n : Nat} {x : α} (h : x ∈ cut l i n) : x ∈ l := List.mem_of_mem_drop (List.mem_of_mem_take h)
theorem len_cut {α : Type} (l : List α) (i n : Nat) : (cut l i n).length = min n (l.length - i) := by simp [cut]

theorem lGet_sp {n : Nat} {g : Log} (h : LI n g) (hn : n ≤ big) (i m : Int) : Sp (lGet g i m) (fun l => l.length ≤ n ∧ ∀ e ∈ l, e ∈ g.entries) := by
  have hl := h.len
  unfold lGet
  refine Sp.bind (lAt_sp h hn i) (fun o ho => ?_)
  obtain ⟨ha, hb, _⟩ := ho
  unfold big at hn
  simp only [List.length_map]
  refine Sp.ite (fun _ => Sp.ret ⟨Nat.zero_le _, fun e he => by cases he⟩) (fun h1 => ?_)
  have h1 := of_decide_eq_false h1
  refine Sp.ite (fun _ => Sp.ret ⟨Nat.zero_le _, fun e he => by cases he⟩) (fun h2 => ?_)
  have h2 := of_decide_eq_false h2
  have hk : ∃ k : Nat, (if (g.entries.length : Int) < m then (g.entries.length : Int) else m) = (k : Int) ∧ k ≤ g.entries.length := by
    split
    · exact ⟨_, rfl, Nat.le_refl _⟩
    · exact ⟨m.toNat, by omega, by omega⟩
  obtain ⟨k, hk, hkl⟩ := hk
  rw [hk, wi (x := o + (k : Int)) (by omega) (by omega)]
  have hq : ∃ q : Nat, (if o + (k : Int) < (g.entries.length : Int) then o + (k : Int) else (g.entries.length : Int)) = (q : Int) ∧ o ≤ (q : Int) ∧ q ≤ g.entries.length := by
    split
    · exact ⟨(o + k).toNat, by omega, by omega, by omega⟩
    · exact ⟨g.entries.length, rfl, by omega, Nat.le_refl _⟩
  obtain ⟨q, hq, hq1, hq2⟩ := hq
  rw [hq]
  refine Sp.ifp (by omega) (Sp.ifp (by rw [len_cut]; omega) (Sp.ifp (by rw [len_cut]; omega) (Sp.ret ⟨by rw [len_cut]; omega, fun e he => mem_cut he⟩)))

theorem LI.add {n : Nat} {g : Log} (h : LI n g) (e : Entry) (he : e.index = g.index + g.entries.length + 1) (hs : e.data.size ≤ 32768) : LI (n + 1) ⟨g.index, g.term, g.config, g.data, g.entries ++ [e]⟩ := by
  have hl := h.len; have ht := h.top
  refine ⟨h.i0, by simp; omega, by simp; omega, fun j x hx => ?_, fun x hx => ?_⟩
  · simp only [List.getElem?_append] at hx
    split at hx
    · exact h.idx j x hx
    · rename_i h1
      rcases Nat.eq_zero_or_pos (j - g.entries.length) with h2 | h2
      · rw [h2] at hx
        simp only [List.getElem?_cons_zero, Option.some.injEq] at hx
        subst hx; simp only []; omega
      · rw [List.getElem?_eq_none (by simp; omega)] at hx; cases hx
  · rcases List.mem_append.mp hx with h1 | h1
    · exact h.siz x h1
    · rw [List.mem_singleton.mp h1]; exact hs

theorem lAdd_sp {n : Nat} {g : Log} (h : LI n g) (hn : n ≤ big) (fuel : Nat) (hf : 12 ≤ fuel) (t k : Int) (d : ByteArray) :
    Sp (lAdd fuel g t k d) (fun o => LI (n + 1) o.2.2 ∧ LE g o.2.2 ∧ (o.2.1 = 0 → o.1.data.size ≤ 32768)) := by
  have hl := h.len; have ht := h.top; have h0 := h.i0
  unfold lAdd
  refine Sp.bind (lLast_sp h hn) (fun o ho => ?_)
  obtain ⟨a, b⟩ := o
  simp only [] at ho
  subst ho
  unfold big at hn
  dsimp only
  rw [wu (x := g.index + (g.entries.length : Int) + 1) (by omega) (by omega)]
  refine Sp.bind (lSound_sp fuel hf _ _ _) (fun s hs => ?_)
  refine Sp.ite (fun h1 => ?_) (fun _ => Sp.ret ⟨h.mono (by omega), LE.rfl' g, fun h => by cases h⟩)
  obtain ⟨_, h3, _⟩ := hs h1
  have hc : cut [(Entry.mk t (g.index + (g.entries.length : Int) + 1) k d)] 0 1 = [Entry.mk t (g.index + (g.entries.length : Int) + 1) k d] := rfl
  rw [hc]
  refine Sp.ifp (by trivial) (Sp.ifp (by simp; omega) (Sp.ret ⟨h.add _ rfl h3, ⟨_, rfl⟩, fun _ => h3⟩))

theorem lMembersAt_sp {n : Nat} {g : Log} (h : LI n g) (hn : n ≤ big) (i : Int) (fuel : Nat) (hf : n + 20 ≤ fuel) : Sp (lMembersAt fuel g i) (fun _ => True) := by
  have hl := h.len; unfold big at hn
  have key : ∀ (f k : Nat), k ≤ g.entries.length → k + 13 < f → Sp (lMembersAtL1 g i f ((k : Int) - 1)) (fun _ => True) := by
    intro f
    induction f with
    | zero => intro k h1 h2; omega
    | succ f ih =>
      intro k h1 h2
      rw [lMembersAtL1]
      simp only [List.length_map]
      refine Sp.ite (fun h3 => ?_) (fun _ => Sp.ret trivial)
      have h3 := of_decide_eq_true h3
      refine Sp.ifp (by omega) (Sp.bind (Sp.get (by omega)) (fun e he => ?_))
      have hs := h.siz e (List.mem_of_getElem? he)
      obtain ⟨k', rfl⟩ : ∃ k', k = k' + 1 := ⟨k - 1, by omega⟩
      have hw : IntKind.wrap .i64 (((k' + 1 : Nat) : Int) - 1 - 1) = (k' : Int) - 1 := by rw [wi (by omega) (by omega)]; omega
      rw [hw]
      have hr := ih k' (by omega) (by omega)
      refine Sp.ite (fun _ => Sp.ite (fun _ => ?_) (fun _ => hr)) (fun _ => hr)
      exact Sp.bind (configOf_tot e.data (Nat.le_trans hs (by decide)) f (by omega)) (fun a _ => Sp.ret trivial)
  unfold lMembersAt
  simp only [List.length_map]
  rw [wi (by omega) (by omega)]
  exact Sp.bind (key fuel g.entries.length (Nat.le_refl _) (by omega)) (fun o _ => Sp.sum (fun _ _ => Sp.ret trivial) (fun _ _ => Sp.ret trivial))
theorem lMembers_sp {n : Nat} {g : Log} (h : LI n g) (hn : n ≤ big) (fuel : Nat) (hf : n + 20 ≤ fuel) : Sp (lMembers fuel g) (fun _ => True) := by
  unfold lMembers
  exact Sp.bind (lMembersAt_sp h hn _ fuel hf) (fun _ _ => Sp.ret trivial)
end Sx
