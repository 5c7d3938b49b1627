/- Steps on the symbolic store: a new object; an object that moves; reading and writing one cell by its offset. -/
import Derived.Test.YthimhmocgnnaiaaDoorSxB
namespace Sx
open Go

def Env.put (e : Env) (k : Nat) (p : Nat × Nat) (c : Nat → Nat) : Env :=
  { β := fun j => if j = k then p else e.β j, κ := fun j => if j = k then c else e.κ j }

theorem Env.put_same (e : Env) (k : Nat) (p : Nat × Nat) (c : Nat → Nat) : (e.put k p c).β k = p ∧ (e.put k p c).κ k = c := by simp [Env.put]
theorem Env.put_other (e : Env) (k j : Nat) (p : Nat × Nat) (c : Nat → Nat) (h : j ≠ k) : (e.put k p c).β j = e.β j ∧ (e.put k p c).κ j = e.κ j := by simp [Env.put, h]

/-- Object k lies in a new block from here on: nobody leans on where it lay. -/
theorem Sat.move {g : Gl} {w : World} {e : Env} {R : Pl} {H : List O} (s : Sat g w e R H) {k : Nat} (hk : k < H.length)
    (arr : Array Value) (t : TypeId) (c : Nat → Nat) {obj : O} (hwf : Wf c obj) (hcov : ∀ o, Cov c obj o → o < arr.size)
    (hfree : ∀ (k' : Nat) (obj' : O) (o : Nat) (v : C), k' ≠ k → H[k']? = some obj' → Has obj' o v → v.key ≠ some k)
    (hfree' : ∀ o v, Has obj o v → v.key ≠ some k)
    (hhas : ∀ o v, Has obj o v → ∃ u, arr[o]? = some u ∧ Rel w e (Mut e R H) v u) :
    let w' := w.alloc (.cells arr t)
    let e' := e.put k (w.heap.size, 0) c
    Sat g w' e' R (H.set k obj) ∧ Ext w e H w' e' (H.set k obj) [k] := by
  intro w' e'
  have hsz : w'.heap.size = w.heap.size + 1 := by simp [w']
  have hold : ∀ b, b < w.heap.size → w'.heap[b]? = w.heap[b]? := fun b hb => by
    show (w.heap.push (.cells arr t))[b]? = _
    rw [Array.getElem?_push]; simp [Nat.ne_of_lt hb]
  have hoc : ∀ b o, b < w.heap.size → w'.cell? ⟨b, o, none⟩ = w.cell? ⟨b, o, none⟩ := fun b o hb => World.cell?_of_block (hold b hb)
  have hof : ∀ b o, b < w.heap.size → w'.frozen? ⟨b, o, none⟩ = w.frozen? ⟨b, o, none⟩ := fun b o hb => World.frozen?_of_block (hold b hb)
  have hnc : ∀ o, w'.cell? ⟨w.heap.size, o, none⟩ = arr[o]? := fun o => World.cell?_alloc_new w arr t o
  have hnf : ∀ o, w'.frozen? ⟨w.heap.size, o, none⟩ = false := fun o => World.frozen?_alloc_new w arr t o
  have hfplt : ∀ b o, FP e H b o → b < w.heap.size := by
    rintro b o ⟨k', o', i, h1, rfl, rfl, h4⟩
    obtain ⟨⟨u, hu⟩, _⟩ := s.cov k' o' i h1 h4
    exact lt_of_cell hu
  have hfp : ∀ b o, FP e' (H.set k obj) b o → (b = w.heap.size ∧ Cov c obj o) ∨ (∃ k' obj' i, k' ≠ k ∧ H[k']? = some obj' ∧ b = (e.β k').1 ∧ o = (e.β k').2 + i ∧ Cov (e.κ k') obj' i) := by
    rintro b o ⟨k', o', i, h1, h2, h3, h4⟩
    rcases set_get H k k' obj o' h1 with ⟨rfl, rfl⟩ | ⟨hne, h1⟩
    · left
      have := Env.put_same e k' (w.heap.size, 0) c
      simp only [e', this.1, this.2] at h2 h3 h4
      simp only [Nat.zero_add] at h3
      subst h3; exact ⟨h2, h4⟩
    · right
      have := Env.put_other e k k' (w.heap.size, 0) c hne
      simp only [e', this.1, this.2] at h2 h3 h4
      exact ⟨k', o', i, hne, h1, h2, h3, h4⟩
  have hfp' : ∀ b o, FP e' (H.set k obj) b o → FP e H b o ∨ w.heap.size ≤ b := by
    intro b o h
    rcases hfp b o h with ⟨h1, _⟩ | ⟨k', o', i, _, h1, h2, h3, h4⟩
    · right; omega
    · exact .inl ⟨k', o', i, h1, h2, h3, h4⟩
  have hmem : ∀ b o v, w.cell? ⟨b, o, none⟩ = some v → ¬ Mut e R H b o → w'.cell? ⟨b, o, none⟩ = some v ∧ ¬ Mut e' R (H.set k obj) b o := by
    intro b o v hc hn
    have hb := lt_of_cell hc
    refine ⟨by rw [hoc b o hb]; exact hc, ?_⟩
    rintro (h | h)
    · exact hn (.inl h)
    · rcases hfp' b o h with h | h
      · exact hn (.inr h)
      · omega
  have hrel : ∀ v u, v.key ≠ some k → Rel w e (Mut e R H) v u → Rel w' e' (Mut e' R (H.set k obj)) v u := fun v u hv h =>
    h.step (fun j hj => Env.put_other e k j _ c (fun hjk => hv (hjk ▸ hj))) hmem
  refine ⟨⟨?_, ?_, ?_, ?_, ?_, ?_, ?_⟩, ⟨by omega, fun b hb _ => hold b hb, fun b o hb _ => ⟨hoc b o hb, hof b o hb⟩, hfp', ?_, ⟨rfl, rfl⟩⟩⟩
  · intro k' o' h
    rcases set_get H k k' obj o' h with ⟨rfl, rfl⟩ | ⟨hne, h⟩
    · rw [(Env.put_same e k' (w.heap.size, 0) c).2]; exact hwf
    · rw [(Env.put_other e k k' (w.heap.size, 0) c hne).2]; exact s.wf k' o' h
  · intro k' o' o v h hh
    rcases set_get H k k' obj o' h with ⟨rfl, rfl⟩ | ⟨hne, h⟩
    · rw [(Env.put_same e k' (w.heap.size, 0) c).1]
      obtain ⟨u, hu, hr⟩ := hhas o v hh
      exact ⟨u, by simp only [Nat.zero_add]; rw [hnc]; exact hu, hrel v u (hfree' o v hh) hr⟩
    · rw [(Env.put_other e k k' (w.heap.size, 0) c hne).1]
      obtain ⟨u, hu, hr⟩ := s.has k' o' o v h hh
      exact ⟨u, by rw [hoc _ _ (lt_of_cell hu)]; exact hu, hrel v u (hfree k' o' o v hne h hh) hr⟩
  · intro k' o' o h hc
    rcases set_get H k k' obj o' h with ⟨rfl, rfl⟩ | ⟨hne, h⟩
    · rw [(Env.put_same e k' (w.heap.size, 0) c).2] at hc
      rw [(Env.put_same e k' (w.heap.size, 0) c).1]
      have hlt := hcov o hc
      refine ⟨⟨arr[o], ?_⟩, ?_⟩
      · simp only [Nat.zero_add]; rw [hnc]; exact Array.getElem?_eq_getElem hlt
      · simp only [Nat.zero_add]; exact hnf o
    · rw [(Env.put_other e k k' (w.heap.size, 0) c hne).2] at hc
      rw [(Env.put_other e k k' (w.heap.size, 0) c hne).1]
      obtain ⟨⟨u, hu⟩, hf⟩ := s.cov k' o' o h hc
      have hb := lt_of_cell hu
      exact ⟨⟨u, by rw [hoc _ _ hb]; exact hu⟩, by rw [hof _ _ hb]; exact hf⟩
  · intro k1 k2 o1 o2 i1 i2 h1 h2 c1 c2 hb ho
    rcases set_get H k k1 obj o1 h1 with ⟨rfl, rfl⟩ | ⟨hne1, q1⟩
    · rcases set_get H k1 k2 o1 o2 h2 with ⟨rfl, rfl⟩ | ⟨hne2, q2⟩
      · rfl
      · rw [(Env.put_other e k1 k2 (w.heap.size, 0) c hne2).2] at c2
        rw [(Env.put_same e k1 (w.heap.size, 0) c).1, (Env.put_other e k1 k2 (w.heap.size, 0) c hne2).1] at hb
        obtain ⟨⟨u, hu⟩, _⟩ := s.cov k2 o2 i2 q2 c2
        have := lt_of_cell hu
        simp only at hb; omega
    · rw [(Env.put_other e k k1 (w.heap.size, 0) c hne1).2] at c1
      rcases set_get H k k2 obj o2 h2 with ⟨rfl, rfl⟩ | ⟨hne2, q2⟩
      · rw [(Env.put_same e k2 (w.heap.size, 0) c).1, (Env.put_other e k2 k1 (w.heap.size, 0) c hne1).1] at hb
        obtain ⟨⟨u, hu⟩, _⟩ := s.cov k1 o1 i1 q1 c1
        have := lt_of_cell hu
        simp only at hb; omega
      · rw [(Env.put_other e k k2 (w.heap.size, 0) c hne2).2] at c2
        rw [(Env.put_other e k k1 (w.heap.size, 0) c hne1).1, (Env.put_other e k k2 (w.heap.size, 0) c hne2).1] at hb ho
        exact s.dis k1 k2 o1 o2 i1 i2 q1 q2 c1 c2 hb ho
  · intro b o hr
    have h0 := s.rest b o hr
    refine ⟨fun hf => ?_, by omega⟩
    rcases hfp' b o hf with h | h
    · exact h0.1 h
    · omega
  · intro b o hm
    rcases hm with h | h
    · exact s.low b o (.inl h)
    · rcases hfp' b o h with h | h
      · exact s.low b o (.inr h)
      · exact Nat.le_trans s.glob.1 h
  · exact ⟨by have := s.glob.1; omega, fun b hb => by rw [hold b (Nat.lt_of_lt_of_le hb s.glob.1)]; exact s.glob.2 b hb⟩
  · intro k' _ hn
    exact Env.put_other e k k' (w.heap.size, 0) c (fun h => hn (by simp [h]))

theorem append_get {α : Type} (H : List α) (a b : α) (k : Nat) (h : (H ++ [a])[k]? = some b) : (k = H.length ∧ b = a) ∨ (k < H.length ∧ H[k]? = some b) := by
  rcases Nat.lt_trichotomy k H.length with h' | h' | h'
  · right; rw [List.getElem?_append_left h'] at h; exact ⟨h', h⟩
  · left; subst h'; rw [List.getElem?_append_right (Nat.le_refl _)] at h; simp at h; exact ⟨rfl, h.symm⟩
  · rw [List.getElem?_append_right (by omega)] at h
    have : k - H.length ≠ 0 := by omega
    cases hk : k - H.length with
    | zero => omega
    | succ n => rw [hk] at h; simp at h

/-- A dead place at the end. -/
theorem Sat.grow {g : Gl} {w : World} {e : Env} {R : Pl} {H : List O} (s : Sat g w e R H) : Sat g w e R (H ++ [.dead]) ∧ Ext w e H w e (H ++ [.dead]) [] := by
  have hfp : ∀ b o, FP e (H ++ [.dead]) b o ↔ FP e H b o := by
    intro b o
    constructor
    · rintro ⟨k, o', i, h1, h2, h3, h4⟩
      rcases append_get H .dead o' k h1 with ⟨_, rfl⟩ | ⟨_, h1⟩
      · exact h4.elim
      · exact ⟨k, o', i, h1, h2, h3, h4⟩
    · rintro ⟨k, o', i, h1, h2, h3, h4⟩
      exact ⟨k, o', i, by rw [List.getElem?_append_left (List.getElem?_eq_some_iff.1 h1).1]; exact h1, h2, h3, h4⟩
  have hmut : ∀ b o, Mut e R (H ++ [.dead]) b o ↔ Mut e R H b o := fun b o => by simp only [Mut, hfp]
  refine ⟨⟨?_, ?_, ?_, ?_, fun b o hr => ⟨fun h => (s.rest b o hr).1 ((hfp b o).1 h), (s.rest b o hr).2⟩, fun b o hm => s.low b o ((hmut b o).1 hm), s.glob⟩,
    ⟨Nat.le_refl _, fun _ _ _ => rfl, fun _ _ _ _ => ⟨rfl, rfl⟩, fun b o h => .inl ((hfp b o).1 h), fun _ _ _ => ⟨rfl, rfl⟩, ⟨rfl, rfl⟩⟩⟩
  · intro k o' h
    rcases append_get H .dead o' k h with ⟨_, rfl⟩ | ⟨_, h⟩
    · trivial
    · exact s.wf k o' h
  · intro k o' o v h hh
    rcases append_get H .dead o' k h with ⟨_, rfl⟩ | ⟨_, h⟩
    · exact hh.elim
    · obtain ⟨u, hu, hr⟩ := s.has k o' o v h hh
      exact ⟨u, hu, hr.step (fun _ _ => ⟨rfl, rfl⟩) (fun b o v hc hn => ⟨hc, fun hm => hn ((hmut b o).1 hm)⟩)⟩
  · intro k o' o h hc
    rcases append_get H .dead o' k h with ⟨_, rfl⟩ | ⟨_, h⟩
    · exact hc.elim
    · exact s.cov k o' o h hc
  · intro k1 k2 o1 o2 i1 i2 h1 h2 c1 c2 hb ho
    rcases append_get H .dead o1 k1 h1 with ⟨_, rfl⟩ | ⟨_, h1⟩
    · exact c1.elim
    · rcases append_get H .dead o2 k2 h2 with ⟨_, rfl⟩ | ⟨_, h2⟩
      · exact c2.elim
      · exact s.dis k1 k2 o1 o2 i1 i2 h1 h2 c1 c2 hb ho

/-- A new object. -/
theorem Sat.make {g : Gl} {w : World} {e : Env} {R : Pl} {H : List O} (s : Sat g w e R H)
    (arr : Array Value) (t : TypeId) (c : Nat → Nat) {obj : O} (hwf : Wf c obj) (hcov : ∀ o, Cov c obj o → o < arr.size)
    (hold : ∀ (k' : Nat) (obj' : O) (o : Nat) (v : C), H[k']? = some obj' → Has obj' o v → ∀ k, v.key = some k → k < H.length)
    (hnew : ∀ o v, Has obj o v → ∀ k, v.key = some k → k < H.length)
    (hhas : ∀ o v, Has obj o v → ∃ u, arr[o]? = some u ∧ Rel w e (Mut e R H) v u) :
    let w' := w.alloc (.cells arr t)
    let e' := e.put H.length (w.heap.size, 0) c
    Sat g w' e' R (H ++ [obj]) ∧ Ext w e H w' e' (H ++ [obj]) [] := by
  obtain ⟨s1, x1⟩ := s.grow
  have hm : ∀ b o, Mut e R (H ++ [.dead]) b o → Mut e R H b o := by
    rintro b o (h | ⟨k, o', i, h1, h2, h3, h4⟩)
    · exact .inl h
    · rcases append_get H .dead o' k h1 with ⟨_, rfl⟩ | ⟨_, h1⟩
      · exact h4.elim
      · exact .inr ⟨k, o', i, h1, h2, h3, h4⟩
  have key := s1.move (k := H.length) (by simp) arr t c hwf hcov
    (by
      intro k' obj' o v hne h hh hkey
      rcases append_get H .dead obj' k' h with ⟨h1, _⟩ | ⟨_, h⟩
      · exact hne h1
      · exact absurd (hold k' obj' o v h hh _ hkey) (Nat.lt_irrefl _))
    (fun o v hh hkey => absurd (hnew o v hh _ hkey) (Nat.lt_irrefl _))
    (fun o v hh => by
      obtain ⟨u, hu, hr⟩ := hhas o v hh
      exact ⟨u, hu, hr.step (fun _ _ => ⟨rfl, rfl⟩) (fun b o v hc hn => ⟨hc, fun h => hn (hm b o h)⟩)⟩)
  have hset : (H ++ [O.dead]).set H.length obj = H ++ [obj] := by simp
  rw [hset] at key
  obtain ⟨s2, x2⟩ := key
  refine ⟨s2, { (x1.trans x2 (by simp) (by simp)) with pins := ?_ }⟩
  intro k hk _
  exact Env.put_other e H.length k _ c (Nat.ne_of_lt hk)
end Sx
