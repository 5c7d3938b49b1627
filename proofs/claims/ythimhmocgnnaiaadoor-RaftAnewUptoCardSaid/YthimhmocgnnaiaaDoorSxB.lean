/- Steps on the symbolic store: writing inside an object, forgetting, making an object anew, moving one. -/
import Derived.Test.YthimhmocgnnaiaaDoorSxA
namespace Sx
open Go

def killC (ks : List Nat) (c : C) : C := match c.key with | some k => if ks.contains k then .x else c | none => c
def killS (ks : List Nat) : List Slot → List Slot
  | [] => []
  | .one c :: r => .one (killC ks c) :: killS ks r
  | .row n esz xs :: r => .row n esz xs :: killS ks r
  | .hole n :: r => .hole n :: killS ks r
def killO (ks : List Nat) : O → O
  | .dead => .dead
  | .cells ss => .cells (killS ks ss)
  | .arr esz xs => .arr esz xs
def killH (ks : List Nat) : List O → List O
  | [] => []
  | o :: r => killO ks o :: killH ks r

theorem elem_lt {xs : List (List C)} {esz n s i j o : Nat} {cs : List C} {v : C} (hw : RWf esz xs) (hn : xs.length ≤ n) (h1 : xs[i]? = some cs) (h2 : cs[j]? = some v) (h3 : o = s + i * esz + j) :
    s ≤ o ∧ o < s + n * esz := by
  have hi := (List.getElem?_eq_some_iff.1 h1).1
  have hj := (List.getElem?_eq_some_iff.1 h2).1
  rw [hw.1 i cs h1] at hj
  have : i * esz + esz ≤ n * esz := by
    have := Nat.mul_le_mul_right esz (Nat.succ_le_of_lt (Nat.lt_of_lt_of_le hi hn)); rw [Nat.succ_mul] at this; exact this
  omega

theorem SCov_of_has {κ : Nat → Nat} (ss : List Slot) : ∀ s o v, SWf κ ss s → SHas ss s o v → SCov ss s o := by
  induction ss with
  | nil => intro s o v _ h; exact h.elim
  | cons a r ih =>
    intro s o v hw h
    cases a with
    | one c => rcases h with ⟨h, _⟩ | h; exact .inl h; exact .inr (ih _ _ _ hw h)
    | row n esz xs =>
      rcases h with ⟨i, j, cs, h1, h2, h3⟩ | h
      · exact .inl (elem_lt hw.1.2.2 (Nat.le_of_eq hw.1.1) h1 h2 h3)
      · exact .inr (ih _ _ _ hw.2 h)
    | hole n => exact ih _ _ _ hw h

theorem Cov_of_has {κ : Nat → Nat} {obj : O} {o : Nat} {v : C} (hw : Wf κ obj) (h : Has obj o v) : Cov κ obj o := by
  cases obj with
  | dead => exact h.elim
  | cells ss => exact SCov_of_has ss 0 o v hw h
  | arr esz xs =>
    obtain ⟨i, j, cs, h1, h2, h3⟩ := h
    have := elem_lt hw.2 hw.1 h1 h2 h3
    show o < κ 0 * esz
    omega

theorem killC_cases (ks : List Nat) (c : C) : killC ks c = .x ∨ (killC ks c = c ∧ ∀ k, c.key = some k → k ∉ ks) := by
  unfold killC
  cases h : c.key with
  | none => exact .inr ⟨rfl, fun k hk => by cases hk⟩
  | some k =>
    simp only
    by_cases hc : ks.contains k = true
    · left; rw [if_pos hc]
    · right; rw [if_neg hc]; exact ⟨rfl, fun k' hk' hm => by cases hk'; exact hc (by simpa using hm)⟩

theorem SCov_kill (ks : List Nat) (ss : List Slot) : ∀ s o, SCov (killS ks ss) s o ↔ SCov ss s o := by
  induction ss with
  | nil => intro s o; exact Iff.rfl
  | cons a r ih => intro s o; cases a <;> simp [killS, SCov, ih]

theorem SHas_kill (κ : Nat → Nat) (ks : List Nat) (ss : List Slot) : ∀ s o v, SWf κ ss s → SHas (killS ks ss) s o v → v = .x ∨ (SHas ss s o v ∧ ∀ k, v.key = some k → k ∉ ks) := by
  induction ss with
  | nil => intro s o v _ h; exact h.elim
  | cons a r ih =>
    intro s o v hw h
    cases a with
    | one c =>
      rcases h with ⟨ho, hv⟩ | h
      · rcases killC_cases ks c with hc | ⟨hc, hk⟩
        · left; rw [hv, hc]
        · right; rw [hv, hc]; exact ⟨.inl ⟨ho, rfl⟩, hk⟩
      · rcases ih _ _ _ hw h with h | ⟨h, hk⟩
        · exact .inl h
        · exact .inr ⟨.inr h, hk⟩
    | row n esz xs =>
      rcases h with h | h
      · obtain ⟨i, j, cs, h1, h2, h3⟩ := h
        right
        refine ⟨.inl ⟨i, j, cs, h1, h2, h3⟩, fun k hk => ?_⟩
        rw [C.key_of_free (hw.1.2.2.2 i cs j v h1 h2)] at hk; cases hk
      · rcases ih _ _ _ hw.2 h with h | ⟨h, hk⟩
        · exact .inl h
        · exact .inr ⟨.inr h, hk⟩
    | hole n =>
      rcases ih _ _ _ hw h with h | ⟨h, hk⟩
      · exact .inl h
      · exact .inr ⟨h, hk⟩

theorem SWf_kill (κ : Nat → Nat) (ks : List Nat) (ss : List Slot) : ∀ s, SWf κ ss s → SWf κ (killS ks ss) s := by
  induction ss with
  | nil => intro s h; exact h
  | cons a r ih =>
    intro s h
    cases a with
    | one c => exact ih _ h
    | row n esz xs => exact ⟨h.1, ih _ h.2⟩
    | hole n => exact ih _ h

theorem Cov_kill (κ : Nat → Nat) (ks : List Nat) (obj : O) (o : Nat) : Cov κ (killO ks obj) o ↔ Cov κ obj o := by
  cases obj <;> simp [killO, Cov, SCov_kill]

theorem Has_kill (κ : Nat → Nat) (ks : List Nat) (obj : O) (o : Nat) (v : C) (hw : Wf κ obj) (h : Has (killO ks obj) o v) :
    v = .x ∨ (Has obj o v ∧ ∀ k, v.key = some k → k ∉ ks) := by
  cases obj with
  | dead => exact h.elim
  | cells ss => exact SHas_kill κ ks ss 0 o v hw h
  | arr esz xs =>
    obtain ⟨i, j, cs, h1, h2, h3⟩ := h
    right
    refine ⟨⟨i, j, cs, h1, h2, h3⟩, fun k hk => ?_⟩
    rw [C.key_of_free (hw.2.2 i cs j v h1 h2)] at hk; cases hk

theorem Wf_kill (κ : Nat → Nat) (ks : List Nat) (obj : O) (hw : Wf κ obj) : Wf κ (killO ks obj) := by
  cases obj with
  | dead => exact hw
  | cells ss => exact SWf_kill κ ks ss 0 hw
  | arr esz xs => exact hw

theorem killH_get (ks : List Nat) (H : List O) : ∀ (k : Nat), (killH ks H)[k]? = (H[k]?).map (killO ks) := by
  induction H with
  | nil => intro k; simp [killH]
  | cons a r ih => intro k; cases k <;> simp [killH, ih]

theorem killH_length (ks : List Nat) (H : List O) : (killH ks H).length = H.length := by
  induction H with
  | nil => rfl
  | cons a r ih => simp [killH, ih]

/-- Less is said of each object, or nothing any more. -/
theorem Sat.forget {g : Gl} {w : World} {e : Env} {R : Pl} {H H' : List O} (s : Sat g w e R H)
    (h : ∀ (k : Nat) (obj' : O), H'[k]? = some obj' → obj' = .dead ∨ ∃ obj, H[k]? = some obj ∧ (∀ o, Cov (e.κ k) obj' o ↔ Cov (e.κ k) obj o) ∧ (Wf (e.κ k) obj') ∧ ∀ o v, Has obj' o v → v = .x ∨ Has obj o v) :
    Sat g w e R H' ∧ Ext w e H w e H' [] := by
  have hfp : ∀ b o, FP e H' b o → FP e H b o := by
    rintro b o ⟨k, obj', i, hk, h1, h2, h3⟩
    rcases h k obj' hk with rfl | ⟨obj, h4, h5, _⟩
    · exact h3.elim
    · exact ⟨k, obj, i, h4, h1, h2, (h5 i).1 h3⟩
  have hmut : ∀ b o, Mut e R H' b o → Mut e R H b o := fun b o h => h.imp id (hfp b o)
  refine ⟨⟨?_, ?_, ?_, ?_, ?_, ?_, s.glob⟩, ⟨Nat.le_refl _, fun _ _ _ => rfl, fun _ _ _ _ => ⟨rfl, rfl⟩, fun b o h => .inl (hfp b o h), fun _ _ _ => ⟨rfl, rfl⟩, ⟨rfl, rfl⟩⟩⟩
  · intro k obj' hk
    rcases h k obj' hk with rfl | ⟨obj, h4, h5, h6, h7⟩
    · trivial
    · exact h6
  · intro k obj' o v hk hh
    rcases h k obj' hk with rfl | ⟨obj, h4, h5, h6, h7⟩
    · exact hh.elim
    · rcases h7 o v hh with rfl | hh'
      · obtain ⟨u, hu⟩ := (s.cov k obj o h4 ((h5 o).1 (Cov_of_has h6 hh))).1
        exact ⟨u, hu, .x u⟩
      · obtain ⟨u, hu, hr⟩ := s.has k obj o v h4 hh'
        exact ⟨u, hu, hr.step (fun _ _ => ⟨rfl, rfl⟩) (fun b o v hc hn => ⟨hc, fun hm => hn (hmut b o hm)⟩)⟩
  · intro k obj' o hk hc
    rcases h k obj' hk with rfl | ⟨obj, h4, h5, h6, h7⟩
    · exact hc.elim
    · exact s.cov k obj o h4 ((h5 o).1 hc)
  · intro k k' obj1 obj2 o o' hk hk' hc hc' hb ho
    rcases h k obj1 hk with rfl | ⟨obj, h4, h5, _⟩
    · exact hc.elim
    · rcases h k' obj2 hk' with rfl | ⟨objb, h4b, h5b, _⟩
      · exact hc'.elim
      · exact s.dis k k' obj objb o o' h4 h4b ((h5 o).1 hc) ((h5b o').1 hc') hb ho
  · exact fun b o hr => ⟨fun hf => (s.rest b o hr).1 (hfp b o hf), (s.rest b o hr).2⟩
  · exact fun b o hm => s.low b o (hmut b o hm)

theorem Sat.kill {g : Gl} {w : World} {e : Env} {R : Pl} {H : List O} (s : Sat g w e R H) (ks : List Nat) :
    Sat g w e R (killH ks H) ∧ Ext w e H w e (killH ks H) [] :=
  s.forget fun k obj' hk => by
    rw [killH_get] at hk
    cases hH : H[k]? with
    | none => rw [hH] at hk; cases hk
    | some obj =>
      rw [hH] at hk
      simp only [Option.map_some, Option.some.injEq] at hk
      subst hk
      exact .inr ⟨obj, rfl, Cov_kill _ ks obj, Wf_kill _ ks obj (s.wf k obj hH), fun o v hv => (Has_kill _ ks obj o v (s.wf k obj hH) hv).imp id (·.1)⟩

/-- Objects are dropped. -/
def dropH (k : Nat) (H : List O) : List O := H.set k .dead

theorem Sat.drop {g : Gl} {w : World} {e : Env} {R : Pl} {H : List O} (s : Sat g w e R H) (k : Nat) :
    Sat g w e R (dropH k H) ∧ Ext w e H w e (dropH k H) [] :=
  s.forget fun k' obj' hk => by
    unfold dropH at hk
    by_cases hkk : k = k'
    · subst hkk
      rw [List.getElem?_set] at hk
      split at hk
      · split at hk
        · left; cases hk; rfl
        · cases hk
      · exact absurd rfl ‹_›
    · rw [List.getElem?_set_ne hkk] at hk
      exact .inr ⟨obj', hk, fun _ => Iff.rfl, s.wf k' obj' hk, fun o v h => .inr h⟩

theorem set_get {α : Type} (H : List α) (k k' : Nat) (a b : α) (h : (H.set k a)[k']? = some b) : (k' = k ∧ b = a) ∨ (k' ≠ k ∧ H[k']? = some b) := by
  by_cases hk : k' = k
  · subst hk
    rw [List.getElem?_set] at h
    simp only [if_true] at h
    split at h
    · left; cases h; exact ⟨rfl, rfl⟩
    · cases h
  · right; rw [List.getElem?_set_ne (Ne.symm hk)] at h; exact ⟨hk, h⟩

theorem set_get_same {α : Type} (H : List α) (k : Nat) (a b : α) (h : H[k]? = some b) : (H.set k a)[k]? = some a := by
  rw [List.getElem?_set]; simp [(List.getElem?_eq_some_iff.1 h).1]

/-- A write inside object k. -/
theorem Sat.write {g : Gl} {w w' : World} {e : Env} {R : Pl} {H : List O} (s : Sat g w e R H) {k : Nat} {obj obj' : O} (hk : H[k]? = some obj)
    (hcov : ∀ o, Cov (e.κ k) obj' o ↔ Cov (e.κ k) obj o) (hwf : Wf (e.κ k) obj')
    (hsize : w'.heap.size = w.heap.size) (hblock : ∀ b, b ≠ (e.β k).1 → w'.heap[b]? = w.heap[b]?) (hos : w'.os = w.os ∧ w'.output = w.output)
    (hcell : ∀ b o, ¬ (b = (e.β k).1 ∧ ∃ i, Cov (e.κ k) obj i ∧ o = (e.β k).2 + i) → w'.cell? ⟨b, o, none⟩ = w.cell? ⟨b, o, none⟩)
    (hsome : ∀ a, (w.cell? a).isSome = true → (w'.cell? a).isSome = true) (hfro : ∀ a, w'.frozen? a = w.frozen? a) (hnone : (∀ o, ¬ Cov (e.κ k) obj o) → w' = w)
    (hhas : ∀ o v, Has obj' o v → ∃ u, w'.cell? ⟨(e.β k).1, (e.β k).2 + o, none⟩ = some u ∧ Rel w e (Mut e R H) v u) :
    Sat g w' e R (H.set k obj') ∧ Ext w e H w' e (H.set k obj') [] := by
  have hfp : ∀ b o, FP e (H.set k obj') b o ↔ FP e H b o := by
    intro b o
    constructor
    · rintro ⟨k', o', i, h1, h2, h3, h4⟩
      rcases set_get H k k' obj' o' h1 with ⟨rfl, rfl⟩ | ⟨_, h1⟩
      · exact ⟨k', obj, i, hk, h2, h3, (hcov i).1 h4⟩
      · exact ⟨k', o', i, h1, h2, h3, h4⟩
    · rintro ⟨k', o', i, h1, h2, h3, h4⟩
      by_cases hkk : k' = k
      · subst hkk
        rw [hk] at h1; cases h1
        exact ⟨k', obj', i, set_get_same H k' obj' obj hk, h2, h3, (hcov i).2 h4⟩
      · exact ⟨k', o', i, by rw [List.getElem?_set_ne (Ne.symm hkk)]; exact h1, h2, h3, h4⟩
  have hmut : ∀ b o, Mut e R (H.set k obj') b o ↔ Mut e R H b o := fun b o => by simp only [Mut, hfp]
  have hin : ∀ b o, (b = (e.β k).1 ∧ ∃ i, Cov (e.κ k) obj i ∧ o = (e.β k).2 + i) → FP e H b o := by
    rintro b o ⟨h1, i, h2, h3⟩
    exact ⟨k, obj, i, hk, h1, h3, h2⟩
  have hmem : ∀ b o v, w.cell? ⟨b, o, none⟩ = some v → ¬ Mut e R H b o → w'.cell? ⟨b, o, none⟩ = some v ∧ ¬ Mut e R (H.set k obj') b o := by
    intro b o v hc hn
    exact ⟨by rw [hcell b o (fun h => hn (.inr (hin b o h)))]; exact hc, fun h => hn ((hmut b o).1 h)⟩
  refine ⟨⟨?_, ?_, ?_, ?_, ?_, ?_, ?_⟩, ⟨Nat.le_of_eq hsize.symm, ?_, ?_, fun b o h => .inl ((hfp b o).1 h), fun _ _ _ => ⟨rfl, rfl⟩, hos⟩⟩
  · intro k' o' h
    rcases set_get H k k' obj' o' h with ⟨rfl, rfl⟩ | ⟨_, h⟩
    · exact hwf
    · exact s.wf k' o' h
  · intro k' o' o v h hh
    rcases set_get H k k' obj' o' h with ⟨rfl, rfl⟩ | ⟨hne, h⟩
    · obtain ⟨u, h1, h2⟩ := hhas o v hh
      exact ⟨u, h1, h2.step (fun _ _ => ⟨rfl, rfl⟩) hmem⟩
    · obtain ⟨u, h1, h2⟩ := s.has k' o' o v h hh
      have hcv := Cov_of_has (s.wf k' o' h) hh
      refine ⟨u, ?_, h2.step (fun _ _ => ⟨rfl, rfl⟩) hmem⟩
      rw [hcell _ _ ?_]; exact h1
      rintro ⟨hb, i, hc, ho⟩
      exact hne (s.dis k' k o' obj o i h hk hcv hc hb ho)
  · intro k' o' o h hc
    have : (∃ u, w.cell? ⟨(e.β k').1, (e.β k').2 + o, none⟩ = some u) ∧ w.frozen? ⟨(e.β k').1, (e.β k').2 + o, none⟩ = false := by
      rcases set_get H k k' obj' o' h with ⟨rfl, rfl⟩ | ⟨_, h⟩
      · exact s.cov k' obj o hk ((hcov o).1 hc)
      · exact s.cov k' o' o h hc
    obtain ⟨⟨u, hu⟩, hf⟩ := this
    exact ⟨by have := hsome _ (by rw [hu]; rfl); exact Option.isSome_iff_exists.1 this, by rw [hfro]; exact hf⟩
  · intro k1 k2 o1 o2 i1 i2 h1 h2 c1 c2 hb ho
    have t1 : ∃ q, H[k1]? = some q ∧ Cov (e.κ k1) q i1 := by
      rcases set_get H k k1 obj' o1 h1 with ⟨rfl, rfl⟩ | ⟨_, h⟩
      · exact ⟨obj, hk, (hcov _).1 c1⟩
      · exact ⟨o1, h, c1⟩
    have t2 : ∃ q, H[k2]? = some q ∧ Cov (e.κ k2) q i2 := by
      rcases set_get H k k2 obj' o2 h2 with ⟨rfl, rfl⟩ | ⟨_, h⟩
      · exact ⟨obj, hk, (hcov _).1 c2⟩
      · exact ⟨o2, h, c2⟩
    obtain ⟨q1, a1, b1⟩ := t1
    obtain ⟨q2, a2, b2⟩ := t2
    exact s.dis k1 k2 q1 q2 i1 i2 a1 a2 b1 b2 hb ho
  · intro b o hr
    exact ⟨fun hf => (s.rest b o hr).1 ((hfp b o).1 hf), by rw [hsize]; exact (s.rest b o hr).2⟩
  · intro b o hm
    exact s.low b o ((hmut b o).1 hm)
  · refine ⟨by rw [hsize]; exact s.glob.1, fun b hb => ?_⟩
    by_cases hne : ∃ o, Cov (e.κ k) obj o
    · obtain ⟨o, ho⟩ := hne
      have := s.low (e.β k).1 ((e.β k).2 + o) (.inr ⟨k, obj, o, hk, rfl, rfl, ho⟩)
      rw [hblock b (by omega)]; exact s.glob.2 b hb
    · rw [hnone (fun o ho => hne ⟨o, ho⟩)]; exact s.glob.2 b hb
  · intro b hb hn
    by_cases hbb : b = (e.β k).1
    · have : w' = w := hnone (fun o ho => hn ((e.β k).2 + o) ⟨k, obj, o, hk, hbb, rfl, ho⟩)
      rw [this]
    · exact hblock b hbb
  · intro b o hb hn
    exact ⟨hcell b o (fun h => hn (hin b o h)), hfro _⟩
end Sx
