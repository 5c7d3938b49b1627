/- Merging keeps a log's chain; a beginning tells its chain. -/
import Derived.Test.YthimhmocgnnaiaaDoorRw
namespace Sx
open Go Go.Proofs

theorem mergeL1_ch (g : Log) (index term : Int) (l : List Entry) (hi : 0 ≤ index ∧ index ≤ 4611686018427387904) (hl : l.length ≤ big) :
    ∀ (fuel k : Nat), k ≤ l.length → l.length + 20 < fuel + k → Wq (lMergeL1 g index term l fuel k) (fun o => o = .inr () → ∀ (j : Nat) (e : Entry), k ≤ j → l[j]? = some e → Snd e (index + 1 + j) (prevT term l j))
  | 0, k, h1, h2 => by omega
  | fuel + 1, k, h1, h2 => by
    have hl' := hl; unfold big at hl'
    rw [lMergeL1]
    simp only [List.length_map]
    refine Wq.ite (fun h3 => ?_) (fun h3 => ?_)
    · have h3 := of_decide_eq_true h3
      refine Wq.ifp (fun _ => ?_)
      rw [Int.toNat_natCast]
      refine Wq.bind Wq.any (fun e he => ?_)
      have hw : IntKind.wrap .u64 ((IntKind.wrap .u64 (index + 1)) + (IntKind.wrap .u64 (k : Int))) = index + 1 + k := by
        rw [wu (x := index + 1) (by omega) (by omega), wu (x := (k : Int)) (by omega) (by omega), wu (by omega) (by omega)]
      rw [hw, wi (x := (k : Int) + 1) (by omega) (by omega)]
      have hgo : ∀ t, t = prevT term l k → Wq (Option.bind (lSound fuel e (index + 1 + k) t) fun o => iteB o (lMergeL1 g index term l fuel ((k : Int) + 1)) (some (Sum.inl ())))
          (fun o => o = .inr () → ∀ (j : Nat) (e : Entry), k ≤ j → l[j]? = some e → Snd e (index + 1 + j) (prevT term l j)) := fun t ht => by
        rw [lSound_ind fuel (by omega)]
        refine Wq.bind Wq.any (fun b hb => ?_)
        refine Wq.ite (fun h4 => ?_) (fun _ => Wq.ret fun h => by cases h)
        refine Wq.mono (mergeL1_ch g index term l hi hl fuel (k + 1) (by omega) (by omega)) (fun o ho h7 j e' hj he' => ?_)
        rcases Nat.eq_or_lt_of_le hj with rfl | hlt
        · rw [he] at he'; injection he' with he'; subst he'; subst h4; subst ht; exact hb
        · exact ho h7 j e' hlt he'
      refine Wq.ite (fun h4 => ?_) (fun h4 => ?_)
      · have h4 := of_decide_eq_true h4
        rw [wi (x := (k : Int) - 1) (by omega) (by omega)]
        refine Wq.ifp (fun _ => Wq.bind Wq.any (fun e6 he6 => hgo _ ?_))
        obtain ⟨m, rfl⟩ : ∃ m, k = m + 1 := ⟨k - 1, by omega⟩
        have h5 : (((m + 1 : Nat) : Int) - 1).toNat = m := by omega
        rw [h5] at he6
        exact (prevT_get he6).symm
      · have h4 := of_decide_eq_false h4
        have h5 : k = 0 := by omega
        exact hgo _ (by rw [h5]; rfl)
    · have h3 := of_decide_eq_false h3
      refine Wq.ret (fun _ j e hj he => ?_)
      rw [List.getElem?_eq_none (by omega)] at he; cases he

theorem mergeL4_ch (g : Log) : ∀ (fuel : Nat) (i t : Int) (l : List Entry), Chn i t l → Wq (lMergeL4 g fuel i t l) (fun o => Chn o.1 o.2.1 o.2.2 ∧ ∀ e ∈ o.2.2, e ∈ l)
  | 0, i, t, l, _ => fun _ h => by cases h
  | fuel + 1, i, t, l, hs => by
    rw [lMergeL4]
    refine Wq.ite (fun _ => ?_) (fun _ => Wq.ret ⟨hs, fun _ h => h⟩)
    refine Wq.bind Wq.any (fun e he => ?_)
    have hi := (hs 0 e he).facts.1
    refine Wq.ite (fun _ => ?_) (fun _ => Wq.ret ⟨hs, fun _ h => h⟩)
    refine Wq.ifp (fun _ => ?_)
    have hs' : Chn e.index e.term (cut l 1 ((((List.map Entry.row l).length : Nat) : Int) - 1).toNat) := by
      have := hs.cutk 1 ((((List.map Entry.row l).length : Nat) : Int) - 1).toNat
      rw [prevT_get he] at this
      rw [hi]; simpa using this
    exact Wq.mono (mergeL4_ch g fuel e.index e.term _ hs') (fun o ho => ⟨ho.1, fun x hx => mem_cut (ho.2 x hx)⟩)

def MQ (g : Log) (l : List Entry) (es : List Entry) : Prop := Chn g.index g.term es ∧ ∀ e ∈ es, e ∈ g.entries ∨ e ∈ l
theorem mergeL5_ch {n : Nat} {g : Log} (h : LI n g) (hn : n ≤ big) (hc : Chn g.index g.term g.entries) (l : List Entry) (hl : l.length ≤ big) (p : Nat) (t : Int) (hs : Chn (g.index + p) t l) :
    ∀ (fuel k : Nat), k ≤ l.length → p + k ≤ g.entries.length → prevT g.term g.entries (p + k) = prevT t l k → Wq (lMergeL5 g l fuel k) (fun o =>
      (∀ a, o = .inl a → MQ g l a.2.2.2.2.1) ∧
      (∀ a, o = .inr (.inl a) → MQ g l a.2.2.2.2.2.entries ∧ a.2.2.2.2.2 = ⟨g.index, g.term, g.config, g.data, a.2.2.2.2.2.entries⟩))
  | 0, k, _, _, _ => fun _ h => by cases h
  | fuel + 1, k, h1, h2, h3 => by
    have hn' := hn; have hl' := hl; unfold big at hn' hl'
    have hle := h.len; have htop := h.top; have hi0 := h.i0
    rw [lMergeL5]
    simp only [List.length_map]
    refine Wq.ite (fun h4 => ?_) (fun h4 => Wq.ret ⟨fun a h => (by cases h), fun a h => (by cases h)⟩)
    have h4 := of_decide_eq_true h4
    refine Wq.ifp (fun _ => ?_)
    rw [Int.toNat_natCast]
    refine Wq.bind Wq.any (fun e he => ?_)
    have hix := (hs k e he).facts.1
    refine Wq.bind (lAt_sp h hn e.index).wq (fun o ho => ?_)
    obtain ⟨oa, ob, oc, _, oe⟩ := ho
    have hk2 := hs.cutk k ((l.length : Int) - (k : Int)).toNat
    refine Wq.ite (fun h5 => ?_) (fun h5 => ?_)
    · have h5 := of_decide_eq_true h5
      have hoc := oc h5 (by omega)
      have hop : o = ((p + k : Nat) : Int) := by omega
      refine Wq.ifp (fun _ => Wq.bind Wq.any (fun e7 he7 => ?_))
      have h6 : 0 + o.toNat = p + k := by omega
      rw [h6] at he7
      refine Wq.ite (fun h7 => ?_) (fun _ => ?_)
      · have h7 : e7.term = e.term := eq_of_beq h7
        rw [wi (x := (k : Int) + 1) (by omega) (by omega)]
        have h8 := prevT_get (t := g.term) he7
        have h9 := prevT_get (t := t) he
        exact mergeL5_ch h hn hc l hl p t hs fuel (k + 1) (by omega) (by omega) (by rw [← Nat.add_assoc, h8, h9, h7])
      · refine Wq.ifp (fun _ => Wq.ifp (fun _ => Wq.ifp (fun _ => Wq.ifp (fun _ => Wq.ifp (fun _ => Wq.ifp (fun _ => Wq.ret ⟨fun a ha => ?_, fun a h => (by cases h)⟩))))))
        injection ha with ha
        subst ha
        have h10 : (o - 0).toNat = p + k := by omega
        have hcl : (cut g.entries 0 (p + k)).length = p + k := by rw [len_cut]; omega
        refine ⟨?_, fun x hx => ?_⟩
        · simp only [h10]
          refine (hc.cut0 (p + k)).app ?_
          rw [hcl, prevT_cut0 (Nat.le_refl _), h3]
          have h11 : g.index + p + k = g.index + ((p + k : Nat) : Int) := by omega
          rw [← h11]; exact hk2
        · rcases List.mem_append.mp hx with hx | hx
          · exact Or.inl (mem_cut hx)
          · exact Or.inr (mem_cut hx)
    · have h5 := of_decide_eq_false h5
      have hoe := oe (by omega) (by omega) (by omega)
      refine Wq.ifp (fun _ => Wq.ifp (fun _ => Wq.ifp (fun _ => Wq.ret ⟨fun a h => (by cases h), fun a ha => ?_⟩)))
      injection ha with ha
      injection ha with ha
      subst ha
      have hpk : p + k = g.entries.length := by omega
      refine ⟨⟨?_, fun x hx => ?_⟩, rfl⟩
      · refine hc.app ?_
        rw [← hpk, h3]
        have h11 : g.index + p + k = g.index + ((p + k : Nat) : Int) := by omega
        rw [← h11]; exact hk2
      · rcases List.mem_append.mp hx with hx | hx
        · exact Or.inl hx
        · exact Or.inr (mem_cut hx)

def SameLog (g g' : Log) (l : List Entry) : Prop := g' = ⟨g.index, g.term, g.config, g.data, g'.entries⟩ ∧ MQ g l g'.entries
theorem lMerge_ch {n : Nat} {g : Log} (h : LI n g) (hn : n ≤ big) (hc : Chn g.index g.term g.entries) (l : List Entry) (hl : l.length ≤ big) (index term : Int) (hi : 0 ≤ index ∧ index ≤ 4611686018427387904) (fuel : Nat) (hf : l.length + 30 ≤ fuel) :
    Wq (lMerge fuel g index term l) (fun o => SameLog g o.2.2 l ∧ (o.2.2 = g ∨ ∀ e ∈ l, e.index ≤ 4611686018427387904 + l.length)) := by
  have hl' := hl; unfold big at hl'
  have hd : ∀ b, (fun o : List Entry × Bool × Log => SameLog g o.2.2 l ∧ (o.2.2 = g ∨ ∀ e ∈ l, e.index ≤ 4611686018427387904 + l.length)) ([], b, g) := fun b => ⟨⟨rfl, hc, fun _ h => Or.inl h⟩, Or.inl rfl⟩
  unfold lMerge
  refine Wq.bind (mergeL1_ch g index term l hi hl fuel 0 (by omega) (by omega)) (fun o ho => ?_)
  refine Wq.sum (fun _ _ => Wq.ret (hd _)) (fun b hb => ?_)
  have hs : Chn index term l := fun j e he => ho hb j e (Nat.zero_le _) he
  have hix : ∀ e ∈ l, e.index ≤ 4611686018427387904 + l.length := fun e he => by
    obtain ⟨j, hj⟩ := List.getElem?_of_mem he
    have h1 := (hs j e hj).facts.1
    have h2 : j < l.length := by
      rcases Nat.lt_or_ge j l.length with h3 | h3
      · exact h3
      · rw [List.getElem?_eq_none h3] at hj; cases hj
    omega
  have hseq : Seq index l := fun j e he => ⟨(hs j e he).facts.1, (hs j e he).facts.2.1⟩
  refine Wq.bind ((mergeL4_ch g fuel index term l hs).and (mergeL4_sp g fuel index term l hseq (by omega)).wq) (fun o ho => ?_)
  obtain ⟨i', t', l'⟩ := o
  obtain ⟨⟨hs', hmem⟩, _, hle, hi1, hi2⟩ := ho
  dsimp only at hs' hmem hle hi1 hi2 ⊢
  refine Wq.ite (fun _ => Wq.ret (hd _)) (fun h2 => ?_)
  have h2 := of_decide_eq_false h2
  refine Wq.bind (lTerm_sp h hn i').wq (fun o ho => ?_)
  obtain ⟨tt, er⟩ := o
  obtain ⟨ho, ho2⟩ := ho
  dsimp only at ho ho2 ⊢
  have hgo : ∀ p : Nat, i' = g.index + p → p ≤ g.entries.length → prevT g.term g.entries p = t' → Wq (Option.bind (lMergeL5 g l' fuel (0 : Int)) fun o10 => sumC o10 (fun (_, _, _, _, o10_4, o10_5) =>
                    (some (o10_5, true, (Log.mk g.index g.term g.config g.data o10_4))))
                    (fun r10_0 => sumC r10_0 (fun (_, _, _, _, o10_4, o10_5) =>
                    (some (o10_4, true, o10_5)))
                    (fun _ =>
                    (some ([], true, g))))) (fun o => SameLog g o.2.2 l ∧ (o.2.2 = g ∨ ∀ e ∈ l, e.index ≤ 4611686018427387904 + l.length)) := fun p hp hpl ht => by
    subst hp
    refine Wq.bind (mergeL5_ch h hn hc l' (Nat.le_trans hle hl) p t' hs' fuel 0 (by omega) (by omega) (by rw [Nat.add_zero]; exact ht)) (fun o ho => ?_)
    obtain ⟨h4, h5⟩ := ho
    have hup : ∀ es, MQ g l' es → MQ g l es := fun es hq => ⟨hq.1, fun e he => by
      rcases hq.2 e he with h | h
      · exact Or.inl h
      · exact Or.inr (hmem e h)⟩
    refine Wq.sum (fun a ha => Wq.ret ⟨⟨rfl, hup _ (h4 a ha)⟩, Or.inr hix⟩) (fun b hb => Wq.sum (fun a ha => ?_) (fun _ _ => Wq.ret (hd _)))
    obtain ⟨h6, h7⟩ := h5 a (by rw [hb, ha])
    exact Wq.ret ⟨⟨h7, hup _ h6⟩, Or.inr hix⟩
  have hp : i' = g.index + ((i' - g.index).toNat : Int) := by omega
  refine Wq.ite (fun h3 => ?_) (fun h3 => ?_)
  · have h3 := of_decide_eq_true h3
    refine Wq.ite (fun _ => Wq.ret (hd _)) (fun h4 => ?_)
    have h4 : er = 0 := by simpa using h4
    have hb := ho h4 (by omega) (by omega)
    refine Wq.ite (fun _ => Wq.ret (hd _)) (fun h5 => ?_)
    have h5 : tt = t' := by simpa using h5
    have hpt : prevT g.term g.entries (i' - g.index).toNat = t' := by
      obtain ⟨q, hq⟩ : ∃ q, (i' - g.index).toNat = q + 1 := ⟨(i' - g.index).toNat - 1, by omega⟩
      have he : g.entries[q]? = some g.entries[q] := List.getElem?_eq_getElem (by omega)
      have h6 := (ho2 (by omega) q _ he (by omega)).2
      rw [hq, prevT_get he, ← h6, h5]
    exact Wq.ite (fun _ => Wq.ite (fun _ => Wq.ret (hd _)) (fun _ => hgo _ hp (by omega) hpt)) (fun _ => hgo _ hp (by omega) hpt)
  · have h3 := of_decide_eq_false h3
    have h6 : i' = g.index := by omega
    refine Wq.ite (fun _ => Wq.ite (fun _ => Wq.ret (hd _)) (fun h7 => ?_)) (fun h7 => ?_)
    · have h7 : t' = g.term := by simpa using h7
      exact hgo 0 (by omega) (Nat.zero_le _) h7.symm
    · rw [h6] at h7; simp at h7

/-! ### Beginnings -/
theorem newL1_ch (s : Snapshot) (hs : 0 ≤ s.index) (l : List Entry) (hl : l.length ≤ big) : ∀ (fuel k : Nat), k ≤ l.length → l.length + 20 < fuel + k → Chn s.index s.term (cut l 0 k) → s.index + k < 18446744073709551616 →
    Wq (lNewL1 s l fuel k ⟨s.index, s.term, s.config, s.data, cut l 0 k⟩) (fun o => ∀ g', o = .inr g' → g' = ⟨s.index, s.term, s.config, s.data, l⟩ ∧ Chn s.index s.term l)
  | 0, k, h1, h2, _, _ => by omega
  | fuel + 1, k, h1, h2, h, htop => by
    have hl' := hl; unfold big at hl'
    have hcl : (cut l 0 k).length = k := by rw [len_cut]; omega
    rw [lNewL1]
    simp only [List.length_map]
    refine Wq.ite (fun h3 => ?_) (fun h3 => ?_)
    · have h3 := of_decide_eq_true h3
      refine Wq.ifp (fun _ => ?_)
      rw [Int.toNat_natCast]
      refine Wq.bind Wq.any (fun e he => ?_)
      refine Wq.bind (lLast_ch (g := ⟨s.index, s.term, s.config, s.data, cut l 0 k⟩) (by show (cut l 0 k).length ≤ big; omega) h).wq (fun o ho => ?_)
      subst ho
      dsimp only
      rw [hcl, lSound_ind fuel (by omega)]
      refine Wq.bind Wq.any (fun b hb => Wq.ite (fun h4 => ?_) (fun _ => Wq.ret fun g' h => (by cases h)))
      subst h4
      have hb : Snd e _ _ := hb
      have hne := hb.facts.2.2.1
      have hlt : s.index + k + 1 < 18446744073709551616 := by
        rcases Int.lt_or_le (s.index + k + 1) 18446744073709551616 with h8 | h8
        · exact h8
        · exfalso
          apply hne
          have : s.index + (k : Int) + 1 = 18446744073709551616 := by omega
          rw [this]; decide
      have hc : cut [e] 0 1 = [e] := rfl
      have hcut : cut l 0 k ++ [e] = cut l 0 (k + 1) := by
        simp only [cut, List.drop_zero]
        rw [List.take_add_one, he]; rfl
      rw [hc, wi (x := (k : Int) + 1) (by omega) (by omega), hcut]
      refine Wq.ifp (fun _ => Wq.ifp (fun _ => ?_))
      refine newL1_ch s hs l hl fuel (k + 1) (by omega) (by omega) ?_ (by omega)
      rw [← hcut]
      refine h.app ?_
      rw [hcl]
      intro j x hx
      match j, hx with
      | 0, hx =>
        simp only [List.getElem?_cons_zero, Option.some.injEq] at hx
        subst hx
        rw [wu (by omega) (by omega)] at hb
        have e1 : s.index + (k : Int) + 1 + ((0 : Nat) : Int) = s.index + k + 1 := by omega
        rw [e1]
        have e2 : prevT (prevT s.term (cut l 0 k) k) [e] 0 = prevT s.term (cut l 0 k) k := rfl
        rw [e2]; exact hb
      | j + 1, hx => simp at hx
    · have h3 := of_decide_eq_false h3
      have hk : k = l.length := by omega
      have hcut : cut l 0 k = l := by simp [cut, hk]
      rw [hcut] at h ⊢
      exact Wq.ret (fun g' hg => by injection hg with hg; exact ⟨hg.symm, h⟩)
theorem lNew_ch (s : Snapshot) (hs : 0 ≤ s.index ∧ s.index < 18446744073709551616) (l : List Entry) (hl : l.length ≤ big) (fuel : Nat) (hf : l.length + 30 ≤ fuel) :
    Wq (lNew fuel s l) (fun o => ∀ g', o = .inr g' → g' = ⟨s.index, s.term, s.config, s.data, l⟩ ∧ Chn s.index s.term l ∧ qSound s.config = some true) := by
  unfold lNew
  refine Wq.bind Wq.any (fun b hb => Wq.ite (fun h1 => ?_) (fun _ => Wq.ret fun g' h => (by cases h)))
  subst h1
  refine Wq.bind (newL1_ch s hs.1 l hl fuel 0 (Nat.zero_le _) (by omega) (fun j e he => by simp [cut] at he) (by omega)) (fun o ho => ?_)
  refine Wq.sum (fun _ _ => Wq.ret fun g' h => (by cases h)) (fun g' hg => Wq.ret fun g'' h => ?_)
  injection h with h
  subst h
  exact ⟨(ho g' hg).1, (ho g' hg).2, hb⟩

/-- What is sound begins. -/
theorem newL1_goes (s : Snapshot) (hs : 0 ≤ s.index) (l : List Entry) (hl : l.length ≤ big) (h : Chn s.index s.term l) (htop : s.index + l.length < 18446744073709551616) : ∀ (fuel k : Nat), k ≤ l.length → l.length + 20 < fuel + k →
    Sp (lNewL1 s l fuel k ⟨s.index, s.term, s.config, s.data, cut l 0 k⟩) (fun o => o = .inr ⟨s.index, s.term, s.config, s.data, l⟩)
  | 0, k, h1, h2 => by omega
  | fuel + 1, k, h1, h2 => by
    have hl' := hl; unfold big at hl'
    have hcl : (cut l 0 k).length = k := by rw [len_cut]; omega
    rw [lNewL1]
    simp only [List.length_map]
    refine Sp.ite (fun h3 => ?_) (fun h3 => ?_)
    · have h3 := of_decide_eq_true h3
      refine Sp.ifp (by omega) ?_
      rw [Int.toNat_natCast]
      refine Sp.bind (Sp.get (by omega)) (fun e he => ?_)
      refine Sp.bind (lLast_ch (g := ⟨s.index, s.term, s.config, s.data, cut l 0 k⟩) (by show (cut l 0 k).length ≤ big; omega) (h.cut0 k)) (fun o ho => ?_)
      subst ho
      dsimp only
      have hsn := h k e he
      rw [hcl, lSound_ind fuel (by omega), prevT_cut0 (Nat.le_refl _), wu (by omega) (by omega)]
      have e1 : s.index + 1 + (k : Int) = s.index + k + 1 := by omega
      rw [e1] at hsn
      refine Sp.bind (R := fun b => b = true) ⟨true, hsn, rfl⟩ (fun b hb => ?_)
      subst hb
      rw [iteB_t]
      have hc : cut [e] 0 1 = [e] := rfl
      have hcut : cut l 0 k ++ [e] = cut l 0 (k + 1) := by
        simp only [cut, List.drop_zero]
        rw [List.take_add_one, he]; rfl
      rw [hc, wi (x := (k : Int) + 1) (by omega) (by omega), hcut]
      refine Sp.ifp (by trivial) (Sp.ifp (by simp; omega) ?_)
      exact newL1_goes s hs l hl h htop fuel (k + 1) (by omega) (by omega)
    · have h3 := of_decide_eq_false h3
      have hk : k = l.length := by omega
      have hcut : cut l 0 k = l := by simp [cut, hk]
      rw [hcut]
      exact Sp.ret rfl
theorem lNew_goes (s : Snapshot) (hs : 0 ≤ s.index) (l : List Entry) (hl : l.length ≤ big) (h : Chn s.index s.term l) (htop : s.index + l.length < 18446744073709551616) (hq : qSound s.config = some true) (fuel : Nat) (hf : l.length + 30 ≤ fuel) :
    Sp (lNew fuel s l) (fun o => o = .inr ⟨s.index, s.term, s.config, s.data, l⟩) := by
  unfold lNew
  rw [hq]
  simp only [Option.bind_some, iteB_t]
  refine Sp.bind (newL1_goes s hs l hl h htop fuel 0 (Nat.zero_le _) (by omega)) (fun o ho => ?_)
  subst ho
  exact Sp.ret rfl
end Sx
