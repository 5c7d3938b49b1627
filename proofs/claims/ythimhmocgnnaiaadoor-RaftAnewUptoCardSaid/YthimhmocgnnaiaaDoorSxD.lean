/- Cells of an object by their offsets; reading a run of them, writing a run of them. -/
import Derived.Test.YthimhmocgnnaiaaDoorSxC
namespace Sx
open Go

def getC : List Slot → Nat → Option C
  | [], _ => none
  | .one c :: _, 0 => some c
  | .one _ :: r, o + 1 => getC r o
  | .row n esz _ :: r, o => if n * esz ≤ o then getC r (o - n * esz) else none
  | .hole n :: r, o => if n ≤ o then getC r (o - n) else none

def setC : List Slot → Nat → C → Option (List Slot)
  | [], _, _ => none
  | .one _ :: r, 0, c => some (.one c :: r)
  | .one d :: r, o + 1, c => (setC r o c).map (.one d :: ·)
  | .row n esz xs :: r, o, c => if n * esz ≤ o then (setC r (o - n * esz) c).map (.row n esz xs :: ·) else none
  | .hole n :: r, o, c => if n ≤ o then (setC r (o - n) c).map (.hole n :: ·) else none

def getR (ss : List Slot) (off : Nat) : Nat → Option (List C)
  | 0 => some []
  | n + 1 => match getC ss off, getR ss (off + 1) n with | some c, some r => some (c :: r) | _, _ => none

def setR (ss : List Slot) (off : Nat) : List C → Option (List Slot)
  | [] => some ss
  | c :: r => match setC ss off c with | some ss' => setR ss' (off + 1) r | none => none

def rowAt : List Slot → Nat → Option (Nat × Nat × List (List C))
  | [], _ => none
  | .row n esz xs :: r, o => if o = 0 then some (n, esz, xs) else if n * esz ≤ o then rowAt r (o - n * esz) else none
  | .one _ :: _, 0 => none
  | .one _ :: r, o + 1 => rowAt r o
  | .hole n :: r, o => if n ≤ o then rowAt r (o - n) else none

def setRow : List Slot → Nat → List (List C) → Option (List Slot)
  | [], _, _ => none
  | .row n esz xs :: r, o, ys => if o = 0 then some (.row n esz ys :: r) else if n * esz ≤ o then (setRow r (o - n * esz) ys).map (.row n esz xs :: ·) else none
  | .one _ :: _, 0, _ => none
  | .one c :: r, o + 1, ys => (setRow r o ys).map (.one c :: ·)
  | .hole n :: r, o, ys => if n ≤ o then (setRow r (o - n) ys).map (.hole n :: ·) else none

theorem SHas_ge (ss : List Slot) : ∀ s o v, SHas ss s o v → s ≤ o := by
  induction ss with
  | nil => intro s o v h; exact h.elim
  | cons a r ih =>
    intro s o v h
    cases a with
    | one c =>
      rcases h with ⟨h, _⟩ | h
      · omega
      · have := ih _ _ _ h; omega
    | row n esz xs =>
      rcases h with ⟨i, j, cs, _, _, h3⟩ | h
      · rw [h3, Nat.add_assoc]; exact Nat.le_add_right _ _
      · have := ih _ _ _ h
        exact Nat.le_trans (Nat.le_add_right _ _) this
    | hole n => have := ih _ _ _ h; omega

theorem getC_has (ss : List Slot) : ∀ (o : Nat) (c : C) (s : Nat), getC ss o = some c → SHas ss s (s + o) c := by
  induction ss with
  | nil => intro o c s h; cases h
  | cons a r ih =>
    intro o c s h
    cases a with
    | one d =>
      cases o with
      | zero => cases h; exact .inl ⟨rfl, rfl⟩
      | succ o => right; have := ih o c (s + 1) h; rwa [show s + (o + 1) = s + 1 + o by omega]
    | row n esz xs =>
      simp only [getC] at h
      split at h
      · right; have := ih _ c (s + n * esz) h; rwa [show s + n * esz + (o - n * esz) = s + o by omega] at this
      · cases h
    | hole n =>
      simp only [getC] at h
      split at h
      · have := ih _ c (s + n) h; rw [show s + n + (o - n) = s + o by omega] at this; exact this
      · cases h

theorem setC_spec (ss : List Slot) : ∀ (o : Nat) (c : C) (ss' : List Slot), setC ss o c = some ss' →
    ∀ s, (∀ p, SCov ss' s p ↔ SCov ss s p) ∧ (∀ κ, SWf κ ss s → SWf κ ss' s) ∧ SCov ss s (s + o) ∧
      ∀ κ p v, SWf κ ss s → SHas ss' s p v → (p = s + o ∧ v = c) ∨ (p ≠ s + o ∧ SHas ss s p v) := by
  induction ss with
  | nil => intro o c ss' h; cases h
  | cons a r ih =>
    intro o c ss' h s
    cases a with
    | one d =>
      cases o with
      | zero =>
        cases h
        refine ⟨fun p => Iff.rfl, fun κ h => h, .inl rfl, fun κ p v _ hh => ?_⟩
        rcases hh with ⟨h1, h2⟩ | hh
        · exact .inl ⟨h1, h2⟩
        · right; have := SHas_ge _ _ _ _ hh; exact ⟨by omega, .inr hh⟩
      | succ o =>
        simp only [setC, Option.map_eq_some_iff] at h
        obtain ⟨r', hr, rfl⟩ := h
        obtain ⟨i1, i2, i3, i4⟩ := ih o c r' hr (s + 1)
        rw [show s + 1 + o = s + (o + 1) by omega] at i3 i4
        refine ⟨fun p => by simp only [SCov, i1], fun κ h => i2 κ h, .inr i3, fun κ p v hw hh => ?_⟩
        rcases hh with ⟨h1, h2⟩ | hh
        · right; exact ⟨by omega, .inl ⟨h1, h2⟩⟩
        · rcases i4 κ p v hw hh with h | ⟨h1, h2⟩
          · exact .inl h
          · exact .inr ⟨h1, .inr h2⟩
    | row n esz xs =>
      simp only [setC] at h
      split at h
      · simp only [Option.map_eq_some_iff] at h
        obtain ⟨r', hr, rfl⟩ := h
        obtain ⟨i1, i2, i3, i4⟩ := ih _ c r' hr (s + n * esz)
        rw [show s + n * esz + (o - n * esz) = s + o by omega] at i3 i4
        refine ⟨fun p => by simp only [SCov, i1], fun κ h => ⟨h.1, i2 κ h.2⟩, .inr i3, fun κ p v hw hh => ?_⟩
        rcases hh with ⟨i, j, cs, h1, h2, h3⟩ | hh
        · right
          have := elem_lt hw.1.2.2 (Nat.le_of_eq hw.1.1) h1 h2 h3
          exact ⟨by omega, .inl ⟨i, j, cs, h1, h2, h3⟩⟩
        · rcases i4 κ p v hw.2 hh with h | ⟨h1, h2⟩
          · exact .inl h
          · exact .inr ⟨h1, .inr h2⟩
      · cases h
    | hole n =>
      simp only [setC] at h
      split at h
      · simp only [Option.map_eq_some_iff] at h
        obtain ⟨r', hr, rfl⟩ := h
        obtain ⟨i1, i2, i3, i4⟩ := ih _ c r' hr (s + n)
        rw [show s + n + (o - n) = s + o by omega] at i3 i4
        exact ⟨fun p => by simp only [SCov, i1], fun κ h => i2 κ h, i3, fun κ p v hw hh => i4 κ p v hw hh⟩
      · cases h

theorem getR_spec (ss : List Slot) : ∀ (n off : Nat) (cs : List C), getR ss off n = some cs → cs.length = n ∧ ∀ j c, cs[j]? = some c → SHas ss 0 (off + j) c := by
  intro n
  induction n with
  | zero => intro off cs h; cases h; exact ⟨rfl, fun j c h => by simp at h⟩
  | succ n ih =>
    intro off cs h
    simp only [getR] at h
    split at h
    · rename_i c r h1 h2
      cases h
      obtain ⟨i1, i2⟩ := ih _ _ h2
      refine ⟨by simp [i1], fun j d hj => ?_⟩
      cases j with
      | zero => simp at hj; subst hj; have := getC_has ss off c 0 h1; simpa using this
      | succ j => have := i2 j d (by simpa using hj); rwa [show off + 1 + j = off + (j + 1) by omega] at this
    · cases h

theorem setR_spec : ∀ (cs : List C) (ss : List Slot) (off : Nat) (ss' : List Slot), setR ss off cs = some ss' →
    (∀ p, SCov ss' 0 p ↔ SCov ss 0 p) ∧ (∀ κ, SWf κ ss 0 → SWf κ ss' 0) ∧ (∀ j, j < cs.length → SCov ss 0 (off + j)) ∧
      ∀ κ p v, SWf κ ss 0 → SHas ss' 0 p v → (∃ j, p = off + j ∧ cs[j]? = some v) ∨ ((∀ j, j < cs.length → p ≠ off + j) ∧ SHas ss 0 p v) := by
  intro cs
  induction cs with
  | nil => intro ss off ss' h; cases h; exact ⟨fun p => Iff.rfl, fun κ h => h, fun j h => by simp at h, fun κ p v _ h => .inr ⟨fun j h => by simp at h, h⟩⟩
  | cons c r ih =>
    intro ss off ss' h
    simp only [setR] at h
    split at h
    · rename_i s1 h1
      obtain ⟨a1, a2, a3, a4⟩ := setC_spec ss off c s1 h1 0
      obtain ⟨b1, b2, b3, b4⟩ := ih s1 (off + 1) ss' h
      simp only [Nat.zero_add] at a3 a4
      refine ⟨fun p => (b1 p).trans (a1 p), fun κ h => b2 κ (a2 κ h), ?_, fun κ p v hw hh => ?_⟩
      · intro j hj
        cases j with
        | zero => exact a3
        | succ j => have := (a1 _).1 (b3 j (by simpa using hj)); rwa [show off + 1 + j = off + (j + 1) by omega] at this
      · rcases b4 κ p v (a2 κ hw) hh with ⟨j, h1, h2⟩ | ⟨h1, h2⟩
        · exact .inl ⟨j + 1, by omega, by simpa using h2⟩
        · rcases a4 κ p v hw h2 with ⟨h3, h4⟩ | ⟨h3, h4⟩
          · exact .inl ⟨0, by omega, by simp [h4]⟩
          · right
            refine ⟨fun j hj => ?_, h4⟩
            cases j with
            | zero => simpa using h3
            | succ j => have := h1 j (by simpa using hj); omega
    · cases h

theorem rowAt_spec (ss : List Slot) : ∀ (o n esz : Nat) (xs : List (List C)) (s : Nat), rowAt ss o = some (n, esz, xs) →
    (∀ i j cs v, xs[i]? = some cs → cs[j]? = some v → SHas ss s (s + o + i * esz + j) v) ∧
    (∀ κ, SWf κ ss s → xs.length = n ∧ κ (s + o) = n ∧ RWf esz xs) ∧ (∀ p, s + o ≤ p → p < s + o + n * esz → SCov ss s p) := by
  induction ss with
  | nil => intro o n esz xs s h; cases h
  | cons a r ih =>
    intro o n esz xs s h
    cases a with
    | one d =>
      cases o with
      | zero => cases h
      | succ o =>
        obtain ⟨i1, i2, i3⟩ := ih o n esz xs (s + 1) h
        rw [show s + 1 + o = s + (o + 1) by omega] at i1 i2 i3
        exact ⟨fun i j cs v h1 h2 => .inr (i1 i j cs v h1 h2), fun κ hw => i2 κ hw, fun p h1 h2 => .inr (i3 p h1 h2)⟩
    | row m ez ys =>
      simp only [rowAt] at h
      split at h
      · rename_i h0
        cases h
        subst h0
        exact ⟨fun i j cs v h1 h2 => .inl ⟨i, j, cs, h1, h2, rfl⟩, fun κ hw => hw.1, fun p h1 h2 => .inl ⟨h1, h2⟩⟩
      · split at h
        · obtain ⟨i1, i2, i3⟩ := ih _ n esz xs (s + m * ez) h
          rw [show s + m * ez + (o - m * ez) = s + o by omega] at i1 i2 i3
          exact ⟨fun i j cs v h1 h2 => .inr (i1 i j cs v h1 h2), fun κ hw => i2 κ hw.2, fun p h1 h2 => .inr (i3 p h1 h2)⟩
        · cases h
    | hole m =>
      simp only [rowAt] at h
      split at h
      · obtain ⟨i1, i2, i3⟩ := ih _ n esz xs (s + m) h
        rw [show s + m + (o - m) = s + o by omega] at i1 i2 i3
        exact ⟨i1, i2, i3⟩
      · cases h

theorem setRow_spec (ss : List Slot) : ∀ (o n esz : Nat) (xs ys : List (List C)) (ss' : List Slot) (s : Nat), rowAt ss o = some (n, esz, xs) → setRow ss o ys = some ss' →
    (∀ p, SCov ss' s p ↔ SCov ss s p) ∧ (∀ κ, SWf κ ss s → ys.length = n → RWf esz ys → SWf κ ss' s) ∧
    ∀ κ p v, SWf κ ss s → SHas ss' s p v → (∃ i j cs, ys[i]? = some cs ∧ cs[j]? = some v ∧ p = s + o + i * esz + j) ∨ ((p < s + o ∨ s + o + n * esz ≤ p) ∧ SHas ss s p v) := by
  induction ss with
  | nil => intro o n esz xs ys ss' s h; cases h
  | cons a r ih =>
    intro o n esz xs ys ss' s h h'
    cases a with
    | one d =>
      cases o with
      | zero => cases h
      | succ o =>
        simp only [setRow, Option.map_eq_some_iff] at h'
        obtain ⟨r', hr, rfl⟩ := h'
        obtain ⟨i1, i2, i3⟩ := ih o n esz xs ys r' (s + 1) h hr
        rw [show s + 1 + o = s + (o + 1) by omega] at i3
        refine ⟨fun p => by simp only [SCov, i1], fun κ hw a b => i2 κ hw a b, fun κ p v hw hh => ?_⟩
        rcases hh with ⟨h1, h2⟩ | hh
        · exact .inr ⟨.inl (by omega), .inl ⟨h1, h2⟩⟩
        · rcases i3 κ p v hw hh with h | ⟨h1, h2⟩
          · exact .inl h
          · exact .inr ⟨h1, .inr h2⟩
    | row m ez zs =>
      simp only [rowAt] at h
      simp only [setRow] at h'
      split at h
      · rename_i h0
        cases h
        subst h0
        simp only [if_true, Option.some.injEq] at h'
        subst h'
        refine ⟨fun p => Iff.rfl, fun κ hw a b => ⟨⟨a, hw.1.2.1, b⟩, hw.2⟩, fun κ p v hw hh => ?_⟩
        rcases hh with ⟨i, j, cs, h1, h2, h3⟩ | hh
        · exact .inl ⟨i, j, cs, h1, h2, h3⟩
        · have := SHas_ge _ _ _ _ hh
          exact .inr ⟨.inr this, .inr hh⟩
      · rename_i h0
        rw [if_neg h0] at h'
        split at h
        · rename_i hle
          rw [if_pos hle] at h'
          simp only [Option.map_eq_some_iff] at h'
          obtain ⟨r', hr, rfl⟩ := h'
          obtain ⟨i1, i2, i3⟩ := ih _ n esz xs ys r' (s + m * ez) h hr
          rw [show s + m * ez + (o - m * ez) = s + o by omega] at i3
          refine ⟨fun p => by simp only [SCov, i1], fun κ hw a b => ⟨hw.1, i2 κ hw.2 a b⟩, fun κ p v hw hh => ?_⟩
          rcases hh with ⟨i, j, cs, h1, h2, h3⟩ | hh
          · have := elem_lt hw.1.2.2 (Nat.le_of_eq hw.1.1) h1 h2 h3
            exact .inr ⟨.inl (by omega), .inl ⟨i, j, cs, h1, h2, h3⟩⟩
          · rcases i3 κ p v hw.2 hh with h | ⟨h1, h2⟩
            · exact .inl h
            · exact .inr ⟨h1, .inr h2⟩
        · cases h
    | hole m =>
      simp only [rowAt] at h
      simp only [setRow] at h'
      split at h
      · rename_i hle
        rw [if_pos hle] at h'
        simp only [Option.map_eq_some_iff] at h'
        obtain ⟨r', hr, rfl⟩ := h'
        obtain ⟨i1, i2, i3⟩ := ih _ n esz xs ys r' (s + m) h hr
        rw [show s + m + (o - m) = s + o by omega] at i3
        exact ⟨fun p => by simp only [SCov, i1], fun κ hw a b => i2 κ hw a b, fun κ p v hw hh => i3 κ p v hw hh⟩
      · cases h

theorem setCells_heap_other (b : Nat) : ∀ (vs : List Value) (o : Nat) (w : World) (k : Nat), k ≠ b → (w.setCells b o vs).heap[k]? = w.heap[k]?
  | [], _, _, _, _ => rfl
  | v :: r, o, w, k, h => by rw [World.setCells, setCells_heap_other b r (o + 1) _ k h, heap_setCell_other _ _ _ _ h]

theorem setCells_size (b : Nat) : ∀ (vs : List Value) (o : Nat) (w : World), (w.setCells b o vs).heap.size = w.heap.size
  | [], _, _ => rfl
  | v :: r, o, w => by rw [World.setCells, setCells_size b r]; simp

theorem setCells_os (b : Nat) : ∀ (vs : List Value) (o : Nat) (w : World), (w.setCells b o vs).os = w.os ∧ (w.setCells b o vs).output = w.output
  | [], _, _ => ⟨rfl, rfl⟩
  | v :: r, o, w => by rw [World.setCells]; exact setCells_os b r (o + 1) _

theorem setCell_isSome (w : World) (p : Addr) (v : Value) (a : Addr) (h : (w.cell? a).isSome = true) : ((w.setCell p v).cell? a).isSome = true := by
  obtain ⟨u, hu⟩ := Option.isSome_iff_exists.1 h
  by_cases hp : p = a
  · subst hp; rw [World.cell?_setCell_same w p v hu]; rfl
  · rw [World.cell?_setCell_other w p a v hp]; exact h

theorem setCells_isSome (b : Nat) : ∀ (vs : List Value) (o : Nat) (w : World) (a : Addr), (w.cell? a).isSome = true → ((w.setCells b o vs).cell? a).isSome = true
  | [], _, _, _, h => h
  | v :: r, o, w, a, h => by rw [World.setCells]; exact setCells_isSome b r (o + 1) _ a (setCell_isSome w _ v a h)

/-- A run of cells is written inside object k. -/
theorem Sat.writes {g : Gl} {w : World} {e : Env} {R : Pl} {H : List O} (s : Sat g w e R H) {k : Nat} {obj : O} (hk : H[k]? = some obj)
    (off : Nat) (cs : List C) (us : List Value) (hlen : us.length = cs.length) (hone : ∀ u ∈ us, u.oneCell' = true)
    (hrel : ∀ (j : Nat) (c : C), cs[j]? = some c → ∃ u, us[j]? = some u ∧ Rel w e (Mut e R H) c u)
    (hin : ∀ j, j < cs.length → Cov (e.κ k) obj (off + j)) (obj' : O)
    (hcov : ∀ o, Cov (e.κ k) obj' o ↔ Cov (e.κ k) obj o) (hwf : Wf (e.κ k) obj')
    (hhas : ∀ o v, Has obj' o v → (∃ j : Nat, o = off + j ∧ cs[j]? = some v) ∨ ((∀ j, j < cs.length → o ≠ off + j) ∧ Has obj o v)) :
    ∃ w', (∀ P, (storeCells ⟨(e.β k).1, (e.β k).2 + off, none⟩ us).run P w = .ok () w') ∧ Sat g w' e R (H.set k obj') ∧ Ext w e H w' e (H.set k obj') [] := by
  have hc : ∀ j, j < us.length → (w.cell? ⟨(e.β k).1, (e.β k).2 + off + j, none⟩).isSome = true := fun j hj => by
    obtain ⟨⟨u, hu⟩, _⟩ := s.cov k obj (off + j) hk (hin j (hlen ▸ hj))
    rw [Nat.add_assoc, hu]; rfl
  have hf : ∀ j, j < us.length → w.frozen? ⟨(e.β k).1, (e.β k).2 + off + j, none⟩ = false := fun j hj => by
    rw [Nat.add_assoc]; exact (s.cov k obj (off + j) hk (hin j (hlen ▸ hj))).2
  refine ⟨w.setCells (e.β k).1 ((e.β k).2 + off) us, fun P => ?_, ?_⟩
  · have := run_storeCells_cells (P := P) (e.β k).1 ((e.β k).2 + off) us 0 w (by simpa using hc) (by simpa using hf) hone
    simpa using this
  · refine s.write hk hcov hwf (setCells_size _ _ _ _) (fun b hb => setCells_heap_other _ _ _ _ _ hb) (setCells_os _ _ _ _) ?_
      (fun a h => setCells_isSome _ _ _ _ a h) (fun a => World.frozen?_setCells _ _ _ _ a) ?_ ?_
    · intro b o hn
      refine World.cell?_setCells_out _ _ _ _ _ (fun h1 _ => ?_)
      simp only at h1 ⊢
      by_cases hlt : o < (e.β k).2 + off
      · exact .inl hlt
      · right
        rcases Nat.lt_or_ge o ((e.β k).2 + off + us.length) with h | h
        · exfalso
          apply hn
          refine ⟨h1, off + (o - ((e.β k).2 + off)), hin _ (by omega), by omega⟩
        · exact h
    · intro hno
      cases us with
      | nil => rfl
      | cons u r => exact absurd (hin 0 (by rw [← hlen]; simp)) (hno _)
    · intro o v hh
      rcases hhas o v hh with ⟨j, rfl, hj⟩ | ⟨hne, hh⟩
      · obtain ⟨u, hu, hr⟩ := hrel j v hj
        have hjl : j < us.length := (List.getElem?_eq_some_iff.1 hu).1
        refine ⟨u, ?_, hr⟩
        have := World.cell?_setCells_in (e.β k).1 us ((e.β k).2 + off) w hc j hjl
        rw [← Nat.add_assoc, this]
        exact congrArg some (List.getElem?_eq_some_iff.1 hu).2
      · obtain ⟨u, hu, hr⟩ := s.has k obj o v hk hh
        refine ⟨u, ?_, hr⟩
        rw [World.cell?_setCells_out _ _ _ _ _ (fun _ _ => ?_)]
        · exact hu
        · simp only
          rcases Nat.lt_or_ge o off with h | h
          · left; omega
          · right
            rcases Nat.lt_or_ge o (off + cs.length) with h' | h'
            · exact absurd (by omega : o = off + (o - off)) (hne (o - off) (by omega))
            · omega
end Sx
