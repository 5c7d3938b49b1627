/- The log: merging, installing, beginning; a configuration as bytes. -/
import Derived.Test.YthimhmocgnnaiaaDoorRj
namespace Sx
open Go Go.Proofs

def Seq (i : Int) (l : List Entry) : Prop := ∀ (j : Nat) (e : Entry), l[j]? = some e → e.index = i + 1 + j ∧ e.data.size ≤ 32768
theorem get_cut {α : Type} {l : List α} {i n j : Nat} {x : α} (h : (cut l i n)[j]? = some x) : l[i + j]? = some x := by
  unfold cut at h
  rw [List.getElem?_take] at h
  split at h
  · rwa [List.getElem?_drop] at h
  · cases h
theorem Seq.cut {i : Int} {l : List Entry} (h : Seq i l) (k n : Nat) : Seq (i + k) (Sx.cut l k n) := fun j e he => by
  obtain ⟨h1, h2⟩ := h _ _ (get_cut he)
  exact ⟨by rw [h1]; omega, h2⟩
theorem LI.app {n : Nat} {g : Log} (h : LI n g) (a : Nat) (ha : a ≤ g.entries.length) (l : List Entry) (hl : Seq (g.index + a) l) :
    LI (n + l.length) ⟨g.index, g.term, g.config, g.data, cut g.entries 0 a ++ l⟩ := by
  have h1 := h.len; have h2 := h.top
  have hc : (cut g.entries 0 a).length = a := by rw [len_cut]; omega
  refine ⟨h.i0, by simp [hc]; omega, by simp [hc]; omega, fun j x hx => ?_, fun x hx => ?_⟩
  · simp only [List.getElem?_append, hc] at hx
    split at hx
    · have := h.idx _ _ (get_cut hx)
      simp only []; omega
    · have := (hl _ _ hx).1
      simp only []; omega
  · rcases List.mem_append.mp hx with h3 | h3
    · exact h.siz x (mem_cut h3)
    · obtain ⟨j, hj⟩ := List.getElem?_of_mem h3
      exact (hl j x hj).2

theorem mergeL1_sp (g : Log) (index term : Int) (l : List Entry) (hi : 0 ≤ index ∧ index ≤ 4611686018427387904) (hl : l.length ≤ big) :
    ∀ (fuel k : Nat), k ≤ l.length → l.length + 20 < fuel + k → Sp (lMergeL1 g index term l fuel k) (fun o => o = .inr () → ∀ (j : Nat) (e : Entry), k ≤ j → l[j]? = some e → e.index = index + 1 + j ∧ e.data.size ≤ 32768)
  | 0, k, h1, h2 => by omega
  | fuel + 1, k, h1, h2 => by
    have hl' := hl; unfold big at hl'
    rw [lMergeL1]
    simp only [List.length_map]
    refine Sp.ite (fun h3 => ?_) (fun h3 => ?_)
    · have h3 := of_decide_eq_true h3
      refine Sp.ifp (by omega) ?_
      rw [Int.toNat_natCast]
      refine Sp.bind (Sp.get (by omega)) (fun e he => ?_)
      have hw : IntKind.wrap .u64 ((IntKind.wrap .u64 (index + 1)) + (IntKind.wrap .u64 (k : Int))) = index + 1 + k := by
        rw [wu (x := index + 1) (by omega) (by omega), wu (x := (k : Int)) (by omega) (by omega), wu (by omega) (by omega)]
      rw [hw, wi (x := (k : Int) + 1) (by omega) (by omega)]
      have hgo : ∀ t, Sp (Option.bind (lSound fuel e (index + 1 + k) t) fun o => iteB o (lMergeL1 g index term l fuel ((k : Int) + 1)) (some (Sum.inl ())))
          (fun o => o = .inr () → ∀ (j : Nat) (e : Entry), k ≤ j → l[j]? = some e → e.index = index + 1 + j ∧ e.data.size ≤ 32768) := fun t => by
        refine Sp.bind (lSound_sp fuel (by omega) _ _ _) (fun b hb => ?_)
        refine Sp.ite (fun h4 => ?_) (fun _ => Sp.ret fun h => by cases h)
        obtain ⟨h5, h6, _⟩ := hb h4
        refine Sp.mono (mergeL1_sp g index term l hi hl fuel (k + 1) (by omega) (by omega)) (fun o ho h7 j e' hj he' => ?_)
        rcases Nat.eq_or_lt_of_le hj with rfl | hlt
        · rw [he] at he'; injection he' with he'; subst he'; exact ⟨h5, h6⟩
        · exact ho h7 j e' hlt he'
      refine Sp.ite (fun h4 => ?_) (fun _ => hgo _)
      have h4 := of_decide_eq_true h4
      rw [wi (x := (k : Int) - 1) (by omega) (by omega)]
      refine Sp.ifp (by omega) (Sp.bind (Sp.get (by omega)) (fun e6 _ => hgo _))
    · have h3 := of_decide_eq_false h3
      refine Sp.ret (fun _ j e hj he => ?_)
      rw [List.getElem?_eq_none (by omega)] at he; cases he

theorem mergeL4_sp (g : Log) : ∀ (fuel : Nat) (i t : Int) (l : List Entry), Seq i l → l.length < fuel →
    Sp (lMergeL4 g fuel i t l) (fun o => Seq o.1 o.2.2 ∧ o.2.2.length ≤ l.length ∧ i ≤ o.1 ∧ o.1 ≤ i + l.length)
  | 0, i, t, l, hs, h2 => by omega
  | fuel + 1, i, t, l, hs, h2 => by
    rw [lMergeL4]
    simp only [List.length_map]
    refine Sp.ite (fun h3 => ?_) (fun h3 => Sp.ret ⟨hs, Nat.le_refl _, Int.le_refl _, by simp only []; omega⟩)
    have h3 := of_decide_eq_true h3
    refine Sp.bind (Sp.get (by omega)) (fun e he => ?_)
    have hi := (hs 0 e he).1
    refine Sp.ite (fun _ => ?_) (fun _ => Sp.ret ⟨hs, Nat.le_refl _, Int.le_refl _, by simp only []; omega⟩)
    refine Sp.ifp (by omega) ?_
    have hs' : Seq e.index (cut l 1 ((l.length : Int) - 1).toNat) := by
      have := hs.cut 1 ((l.length : Int) - 1).toNat
      rw [hi]; simpa using this
    have hlen : (cut l 1 ((l.length : Int) - 1).toNat).length = l.length - 1 := by rw [len_cut]; omega
    refine Sp.mono (mergeL4_sp g fuel e.index e.term _ hs' (by omega)) (fun o ho => ?_)
    obtain ⟨ha, hb, hc, hd⟩ := ho
    exact ⟨ha, by omega, by omega, by omega⟩

theorem mergeL5_sp {n : Nat} {g : Log} (h : LI n g) (hn : n ≤ big) (l : List Entry) (hl : l.length ≤ big) (i : Int) (hs : Seq i l) (hi : g.index ≤ i) :
    ∀ (fuel k : Nat), k ≤ l.length → l.length < fuel + k → i + k ≤ g.index + g.entries.length → Sp (lMergeL5 g l fuel k) (fun o =>
      (∀ a, o = .inl a → LI (n + l.length) ⟨g.index, g.term, g.config, g.data, a.2.2.2.2.1⟩ ∧ a.2.2.2.2.2.length ≤ l.length) ∧
      (∀ a, o = .inr (.inl a) → LI (n + l.length) a.2.2.2.2.2 ∧ a.2.2.2.2.1.length ≤ l.length ∧ a.2.2.2.2.2.index = g.index))
  | 0, k, h1, h2, h3 => by omega
  | fuel + 1, k, h1, h2, h3 => by
    have hn' := hn; have hl' := hl; unfold big at hn' hl'
    have hle := h.len; have htop := h.top; have hi0 := h.i0
    rw [lMergeL5]
    simp only [List.length_map]
    refine Sp.ite (fun h4 => ?_) (fun h4 => Sp.ret ⟨fun a h => (by cases h), fun a h => (by cases h)⟩)
    have h4 := of_decide_eq_true h4
    refine Sp.ifp (by omega) ?_
    rw [Int.toNat_natCast]
    refine Sp.bind (Sp.get (by omega)) (fun e he => ?_)
    have hix := (hs k e he).1
    refine Sp.bind (lAt_sp h hn e.index) (fun o ho => ?_)
    obtain ⟨oa, ob, oc, _, oe⟩ := ho
    have hcl : (cut l k ((l.length : Int) - (k : Int)).toNat).length = l.length - k := by rw [len_cut]; omega
    have hk2 := hs.cut k ((l.length : Int) - (k : Int)).toNat
    refine Sp.ite (fun h5 => ?_) (fun h5 => ?_)
    · have h5 := of_decide_eq_true h5
      have hoc := oc h5 (by omega)
      refine Sp.ifp (by omega) (Sp.bind (Sp.get (by omega)) (fun e7 _ => ?_))
      refine Sp.ite (fun _ => ?_) (fun _ => ?_)
      · rw [wi (x := (k : Int) + 1) (by omega) (by omega)]
        exact mergeL5_sp h hn l hl i hs hi fuel (k + 1) (by omega) (by omega) (by omega)
      · have ho2 : (o - 0).toNat ≤ g.entries.length := by omega
        have hc2 : (cut g.entries 0 (o - 0).toNat).length = (o - 0).toNat := by rw [len_cut]; omega
        refine Sp.ifp (by omega) (Sp.ifp (by rw [hc2]) (Sp.ifp (by rw [hc2]; omega) (Sp.ifp (by omega) (Sp.ifp (by rw [hc2, hcl]; omega) (Sp.ifp (by rw [hcl]; omega) (Sp.ret ⟨fun a ha => ?_, fun a h => (by cases h)⟩))))))
        injection ha with ha
        subst ha
        have hap := h.app (o - 0).toNat ho2 (cut l k ((l.length : Int) - (k : Int)).toNat) (by
          have e1 : g.index + ((o - 0).toNat : Int) = i + k := by omega
          rw [e1]; exact hk2)
        exact ⟨hap.mono (by rw [hcl]; omega), by simp only [hcl]; omega⟩
    · have h5 := of_decide_eq_false h5
      have hoe := oe (by omega) (by omega) (by omega)
      refine Sp.ifp (by omega) (Sp.ifp (by rw [hcl]; omega) (Sp.ifp (by rw [hcl]; omega) (Sp.ret ⟨fun a h => (by cases h), fun a ha => ?_⟩)))
      injection ha with ha
      injection ha with ha
      subst ha
      have hap := h.app g.entries.length (Nat.le_refl _) (cut l k ((l.length : Int) - (k : Int)).toNat) (by
          have e1 : g.index + (g.entries.length : Int) = i + k := by omega
          rw [e1]; exact hk2)
      have e2 : cut g.entries 0 g.entries.length = g.entries := by simp [cut]
      rw [e2] at hap
      exact ⟨hap.mono (by rw [hcl]; omega), by simp only [hcl]; omega, rfl⟩

def MergeQ (n m : Nat) (g : Log) (o : List Entry × Bool × Log) : Prop := LI (n + m) o.2.2 ∧ o.1.length ≤ m ∧ o.2.2.index = g.index
theorem lMerge_sp {n : Nat} {g : Log} (h : LI n g) (hn : n ≤ big) (l : List Entry) (hl : l.length ≤ big) (index term : Int) (hi : 0 ≤ index ∧ index ≤ 4611686018427387904) (fuel : Nat) (hf : l.length + 30 ≤ fuel) :
    Sp (lMerge fuel g index term l) (MergeQ n l.length g) := by
  have hl' := hl; unfold big at hl'
  have hd : ∀ b, MergeQ n l.length g ([], b, g) := fun b => ⟨h.mono (by omega), Nat.zero_le _, rfl⟩
  unfold lMerge
  have h1 := mergeL1_sp g index term l hi hl fuel 0 (by omega) (by omega)
  refine Sp.bind h1 (fun o ho => ?_)
  refine Sp.sum (fun _ _ => Sp.ret (hd _)) (fun b hb => ?_)
  have hs : Seq index l := fun j e he => ho hb j e (Nat.zero_le _) he
  refine Sp.bind (mergeL4_sp g fuel index term l hs (by omega)) (fun o ho => ?_)
  obtain ⟨i', t', l'⟩ := o
  obtain ⟨hs', hle, hi1, hi2⟩ := ho
  dsimp only at hs' hle hi1 hi2 ⊢
  refine Sp.ite (fun _ => Sp.ret (hd _)) (fun h2 => ?_)
  have h2 := of_decide_eq_false h2
  refine Sp.bind (lTerm_sp h hn i') (fun o ho => ?_)
  obtain ⟨tt, er⟩ := o
  obtain ⟨ho, _⟩ := ho
  dsimp only at ho ⊢
  have hgo : i' ≤ g.index + g.entries.length → Sp (Option.bind (lMergeL5 g l' fuel (0 : Int)) fun o10 => sumC o10 (fun (_, _, _, _, o10_4, o10_5) =>
                    (some (o10_5, true, (Log.mk g.index g.term g.config g.data o10_4))))
                    (fun r10_0 => sumC r10_0 (fun (_, _, _, _, o10_4, o10_5) =>
                    (some (o10_4, true, o10_5)))
                    (fun _ =>
                    (some ([], true, g))))) (MergeQ n l.length g) := fun h3 => by
    refine Sp.bind (mergeL5_sp h hn l' (Nat.le_trans hle hl) i' hs' (by omega) fuel 0 (by omega) (by omega) (by omega)) (fun o ho => ?_)
    obtain ⟨h4, h5⟩ := ho
    refine Sp.sum (fun a ha => ?_) (fun b hb => Sp.sum (fun a ha => ?_) (fun _ _ => Sp.ret (hd _)))
    · obtain ⟨h6, h7⟩ := h4 a ha
      exact Sp.ret ⟨h6.mono (by omega), Nat.le_trans h7 hle, rfl⟩
    · obtain ⟨h6, h7, h8⟩ := h5 a (by rw [hb, ha])
      exact Sp.ret ⟨h6.mono (by omega), Nat.le_trans h7 hle, h8⟩
  refine Sp.ite (fun h3 => ?_) (fun h3 => ?_)
  · have h3 := of_decide_eq_true h3
    refine Sp.ite (fun _ => Sp.ret (hd _)) (fun h4 => ?_)
    have h4 : er = 0 := by simpa using h4
    have hb := ho h4 (by omega) (by omega)
    refine Sp.ite (fun _ => Sp.ret (hd _)) (fun _ => ?_)
    exact Sp.ite (fun _ => Sp.ite (fun _ => Sp.ret (hd _)) (fun _ => hgo hb)) (fun _ => hgo hb)
  · have h3 := of_decide_eq_false h3
    have hb : i' ≤ g.index + g.entries.length := by omega
    exact Sp.ite (fun _ => Sp.ite (fun _ => Sp.ret (hd _)) (fun _ => hgo hb)) (fun _ => hgo hb)

theorem lInstall_sp {n : Nat} {g : Log} (h : LI n g) (hn : n ≤ big) (s : Snapshot) (hs : 0 ≤ s.index ∧ s.index ≤ 4611686018427387904) :
    Sp (lInstall g s) (fun o => (o.1 ≠ 0 ∧ o.2 = g) ∨ (o.1 = 0 ∧ LI n o.2 ∧ o.2.index = s.index)) := by
  have hle := h.len; have htop := h.top; have hn' := hn; unfold big at hn'
  have he : LI n ⟨s.index, s.term, s.config, s.data, []⟩ := ⟨hs.1, Nat.zero_le _, by simp only [List.length_nil]; omega, fun j e he => by simp at he, fun e he => by cases he⟩
  have hnew : Sp (some ((0 : Int), (⟨s.index, s.term, s.config, s.data, []⟩ : Log))) (fun o => (o.1 ≠ 0 ∧ o.2 = g) ∨ (o.1 = 0 ∧ LI n o.2 ∧ o.2.index = s.index)) := Sp.ret (Or.inr ⟨rfl, he, rfl⟩)
  unfold lInstall
  refine Sp.bind (qSound_sp _) (fun b _ => Sp.ite (fun _ => ?_) (fun _ => Sp.ret (Or.inl ⟨(by simp), rfl⟩)))
  refine Sp.ite (fun _ => Sp.ret (Or.inl ⟨(by simp), rfl⟩)) (fun h1 => ?_)
  have h1 := of_decide_eq_false h1
  refine Sp.bind (lTerm_sp h hn s.index) (fun o ho => ?_)
  obtain ⟨t, er⟩ := o
  obtain ⟨ho, _⟩ := ho
  dsimp only at ho ⊢
  refine Sp.ite (fun h2 => Sp.ite (fun _ => ?_) (fun _ => hnew)) (fun _ => hnew)
  have hb := ho (eq_of_beq h2) (by omega) (by omega)
  refine Sp.bind (lAt_sp h hn s.index) (fun o ho => ?_)
  obtain ⟨oa, ob, oc, od, _⟩ := ho
  have hod := od (by omega) (by omega) hb
  simp only [List.length_map]
  rw [wi (x := o + 1) (by omega) (by omega)]
  have hcl : (cut g.entries (0 + (o + 1).toNat) ((g.entries.length : Int) - (o + 1)).toNat).length = g.entries.length - (o + 1).toNat := by rw [len_cut]; omega
  refine Sp.ifp (by omega) (Sp.ifp (by rw [hcl]; omega) (Sp.ifp (by rw [hcl]; omega) (Sp.ret (Or.inr ⟨rfl, ⟨hs.1, ?_, ?_, fun j e he => ?_, fun e he => h.siz e (mem_cut he)⟩, rfl⟩))))
  · simp only [hcl]; omega
  · simp only [hcl]; omega
  · have := h.idx _ _ (get_cut he)
    simp only []; omega
end Sx
