/- RaftAnew: a node made anew answers who asks; the law answers true. -/
import Derived.Test.YthimhmocgnnaiaaDoorRy
namespace Sx
open Go Go.Proofs

theorem rSend_goes (r : Raft) (x : Letter) (h : r.out.length ≤ 1000) : Sp (rSend r x) (fun r' => r' = { r with out := r.out ++ [⟨x.kind, r.id, x.to, r.hterm, x.index, x.prev, x.commit, x.ok, x.entries, x.data⟩] }) := by
  have hc : ∀ y : Letter, cut [y] 0 1 = [y] := fun _ => rfl
  unfold rSend
  rw [hc]
  exact Sp.ifp (by trivial) (Sp.ifp (by simp; omega) (Sp.ret rfl))
def Told (b : Bool) (t : Int) (r : Raft) : Prop := ∃ x, r.out = [x] ∧ x.ok = b ∧ r.hterm = t
theorem send_told (r : Raft) (x : Letter) (h : r.out = []) : Sp (Option.bind (rSend r x) fun o => some o) (Told x.ok r.hterm) :=
  Sp.bind (rSend_goes r x (by rw [h]; decide)) (fun r' hr => by
    subst hr
    exact Sp.ret ⟨⟨x.kind, r.id, x.to, r.hterm, x.index, x.prev, x.commit, x.ok, x.entries, x.data⟩, by rw [h]; rfl, rfl, rfl⟩)
theorem ask_goes (id : Int) (hd : Hard) (g : Log) (hl : g.entries.length ≤ big) (h : Chn g.index g.term g.entries) (from_ : Int) (hf : 0 ≤ from_ ∧ from_ < 7) (hne : from_ ≠ id)
    (htop : g.index + g.entries.length ≤ 4611686018427387904) (fuel : Nat) :
    Sp (rReceive fuel (Begun id hd g) ⟨1, from_, id, hd.term, g.index + g.entries.length, prevT g.term g.entries g.entries.length, 0, false, [], ByteArray.mk #[]⟩) (Told ((hd.vote == -1) || (hd.vote == from_)) hd.term) := by
  unfold rReceive
  refine Sp.ite (fun h => absurd (of_decide_eq_true h) (by show ¬ from_ < 0; omega)) (fun _ => ?_)
  refine Sp.ite (fun h => absurd (of_decide_eq_true h) (by show ¬ from_ ≥ 7; omega)) (fun _ => ?_)
  refine Sp.ite (fun h => absurd (eq_of_beq h) hne) (fun _ => ?_)
  refine Sp.ite (fun h => by simp [Begun] at h) (fun _ => ?_)
  refine Sp.ite (fun h => absurd (of_decide_eq_true h) (by show ¬ (1 : Int) < 1; decide)) (fun _ => ?_)
  refine Sp.ite (fun h => absurd (of_decide_eq_true h) (by show ¬ (1 : Int) > 5; decide)) (fun _ => ?_)
  refine Sp.ite (fun h => absurd (of_decide_eq_true h) (by show ¬ g.index + g.entries.length > 4611686018427387904; omega)) (fun _ => ?_)
  refine Sp.ite (fun h => absurd (of_decide_eq_true h) (by show ¬ hd.term > hd.term; omega)) (fun _ => ?_)
  refine Sp.ite (fun _ => ?_) (fun h => by cases h)
  refine Sp.bind (R := Told ((hd.vote == -1) || (hd.vote == from_)) hd.term) ?_ (fun r hr => Sp.ret hr)
  unfold rAsked
  refine Sp.bind (lLast_ch (g := (Begun id hd g).log) hl h) (fun o ho => ?_)
  subst ho
  dsimp only [Begun]
  refine Sp.ite (fun h => absurd (of_decide_eq_true h) (by omega)) (fun _ => ?_)
  refine Sp.ite (fun _ => ?_) (fun h => by simp at h)
  refine Sp.ite (fun _ => ?_) (fun h => by simp at h)
  refine Sp.ite (fun _ => ?_) (fun h => by cases h)
  refine Sp.ite (fun h1 => ?_) (fun h1 => ?_)
  · refine Sp.ite (fun h2 => ?_) (fun h2 => absurd (of_decide_eq_false h2) (by omega))
    have h3 := send_told (Raft.mk id hd.term from_ g 0 (-1) g.index 0 [0, 0, 0, 0, 0, 0, 0] [0, 0, 0, 0, 0, 0, 0] [] false [] true) (Letter.mk 2 0 from_ 0 0 0 0 (decide (g.index + (g.entries.length : Int) ≥ g.index + (g.entries.length : Int))) [] (ByteArray.mk #[])) rfl
    rw [h1, Bool.true_or]
    have h4 : (decide (g.index + (g.entries.length : Int) ≥ g.index + (g.entries.length : Int))) = true := h2
    exact Sp.mono h3 (fun r hr => by
      obtain ⟨x, a, b, c⟩ := hr
      exact ⟨x, a, b.trans h4, c⟩)
  · refine Sp.ite (fun h5 => Sp.ite (fun h2 => ?_) (fun h2 => absurd (of_decide_eq_false h2) (by omega))) (fun h5 => ?_)
    · have h3 := send_told (Raft.mk id hd.term from_ g 0 (-1) g.index 0 [0, 0, 0, 0, 0, 0, 0] [0, 0, 0, 0, 0, 0, 0] [] false [] true) (Letter.mk 2 0 from_ 0 0 0 0 (decide (g.index + (g.entries.length : Int) ≥ g.index + (g.entries.length : Int))) [] (ByteArray.mk #[])) rfl
      rw [h5, Bool.or_true]
      have h4 : (decide (g.index + (g.entries.length : Int) ≥ g.index + (g.entries.length : Int))) = true := h2
      exact Sp.mono h3 (fun r hr => by
        obtain ⟨x, a, b, c⟩ := hr
        exact ⟨x, a, b.trans h4, c⟩)
    · have h3 := send_told (Raft.mk id hd.term hd.vote g 0 (-1) g.index 0 [0, 0, 0, 0, 0, 0, 0] [0, 0, 0, 0, 0, 0, 0] [] false [] false) (Letter.mk 2 0 from_ 0 0 0 0 false [] (ByteArray.mk #[])) rfl
      rw [h1, h5]
      exact h3

theorem anew_true (z : Start) (cs : List Call) (from_ : Int) (hz : 0 ≤ z.snap_index ∧ z.snap_index < 18446744073709551616) (ht : 0 ≤ z.hard_term ∧ z.hard_term < 18446744073709551616)
    (hok : ∀ c ∈ cs, CallOk c) (hl : z.l.length ≤ 10000000) (hc : cs.length ≤ 10000000) (hw : cw cs ≤ 60000000) : lawAnew (4 * big + 70) z cs from_ = some true := by
  have hb : big = 100000000 := rfl
  have hce : ∀ c ∈ cs, c.letter_entries.length ≤ big := fun c h => by
    have h1 := cw_mem cs c h
    omega
  have hr : 0 ≤ Int.tmod (IntKind.wrap .i64 ((Int.tmod from_ 7) + 7)) 7 ∧ Int.tmod (IntKind.wrap .i64 ((Int.tmod from_ 7) + 7)) 7 < 7 := by
    have h1 := Int.tmod_lt_of_pos from_ (show (0 : Int) < 7 by decide)
    have h2 : -7 < Int.tmod from_ 7 := by
      have := Int.tmod_lt_of_pos (-from_) (show (0 : Int) < 7 by decide)
      rw [Int.neg_tmod] at this; omega
    rw [wi (by omega) (by omega)]
    exact ⟨Int.tmod_nonneg _ (by omega), Int.tmod_lt_of_pos _ (by decide)⟩
  refine Sp.to ?_
  unfold lawAnew
  generalize Int.tmod (IntKind.wrap .i64 ((Int.tmod from_ 7) + 7)) 7 = fr at hr ⊢
  rw [begun_any']
  simp only [Option.bind_some, iteB_t]
  refine Sp.bind (light_sp z.l cs (by omega) (by omega) hce _ (by omega)) (fun b _ => Sp.ite (fun _ => ?_) (fun _ => Sp.ret rfl))
  refine Sp.bind ((lNew_sp (Snapshot.mk z.snap_index z.snap_term z.snap_config z.snap_data) hz z.l (by omega) _ (by omega)).and (lNew_ch (Snapshot.mk z.snap_index z.snap_term z.snap_config z.snap_data) hz z.l (by omega) _ (by omega))) (fun o ho => Sp.sum (fun _ _ => Sp.ret rfl) (fun g hg => ?_))
  obtain ⟨ho1, ho2⟩ := ho
  have hLB := ho1 g hg
  obtain ⟨rfl, hch, hq⟩ := ho2 g hg
  refine Sp.bind ((rNew_sp (by omega) hz.1 hLB z.id (Hard.mk z.hard_term z.hard_vote) ht).and (rNew_ch z.id (Hard.mk z.hard_term z.hard_vote) (g := ⟨z.snap_index, z.snap_term, z.snap_config, z.snap_data, z.l⟩) (by show z.l.length ≤ big; omega) hch)) (fun o ho => Sp.sum (fun _ _ => Sp.ret rfl) (fun r hr0 => ?_))
  obtain ⟨ho1, ho2⟩ := ho
  have hRI := (ho1 r hr0).1
  obtain ⟨rfl, hid, hvt, htm, htop⟩ := ho2 r hr0
  dsimp only at hid hvt htm htop
  have hAI : AI (Snapshot.mk z.snap_index z.snap_term z.snap_config z.snap_data) z.id (Begun z.id (Hard.mk z.hard_term z.hard_vote) ⟨z.snap_index, z.snap_term, z.snap_config, z.snap_data, z.l⟩) := by
    refine ⟨rfl, rfl, hvt, rfl, hch, ⟨fun e he => ?_, ?_⟩, fun e he => ?_⟩
    · have he : e ∈ z.l := he
      obtain ⟨j, hj⟩ := List.getElem?_of_mem he
      have hjl : j < z.l.length := (List.getElem?_eq_some_iff.mp hj).1
      have h1 := hch.up z.l.length (Nat.le_refl _) (j + 1) (by omega)
      rw [prevT_get hj] at h1
      show e.term ≤ z.hard_term
      dsimp only at h1; omega
    · have h1 := hch.up z.l.length (Nat.le_refl _) 0 (Nat.zero_le _)
      show z.snap_term ≤ z.hard_term
      have h2 : prevT z.snap_term z.l 0 = z.snap_term := rfl
      dsimp only at h1; omega
    · have he : e ∈ z.l := he
      obtain ⟨j, hj⟩ := List.getElem?_of_mem he
      have hjl : j < z.l.length := (List.getElem?_eq_some_iff.mp hj).1
      have h1 := (hch j e hj).facts.1
      dsimp only at h1; omega
  refine Sp.bind (anL1_sp z cs from_ hok _ 0 z.l.length _ (by omega) (by omega) (by simp only [List.drop_zero]; omega) (by omega) hRI hAI) (fun r' hr' => ?_)
  obtain ⟨⟨n, hn, hri⟩, hai⟩ := hr'
  unfold rTake
  simp only [Option.bind_some, rLog]
  have hlg := hai.lg
  have hix : r'.log.index = z.snap_index := by rw [hlg]
  have hget := lGet_ch hri.lg hn 2000 (by omega)
  rw [hix] at hget
  refine Sp.bind hget (fun l hl2 => ?_)
  obtain ⟨q, rfl⟩ := hl2
  have hle := hri.lg.len
  have hcl : (cut r'.log.entries 0 q).length ≤ n := by rw [len_cut]; omega
  have hch2 : Chn z.snap_index z.snap_term (cut r'.log.entries 0 q) := hai.ch.cut0 q
  have hsi : z.snap_index ≤ 9223372036854775808 := by omega
  have htop2 : z.snap_index + ((cut r'.log.entries 0 q).length : Int) ≤ 9223372036854775808 := by
    rcases Nat.eq_zero_or_pos (cut r'.log.entries 0 q).length with h0 | h0
    · rw [h0]; omega
    · have hge : (cut r'.log.entries 0 q)[(cut r'.log.entries 0 q).length - 1]? = some (cut r'.log.entries 0 q)[(cut r'.log.entries 0 q).length - 1] := List.getElem?_eq_getElem (by omega)
      have h1 := (hch2 _ _ hge).facts.1
      have h2 := hai.top _ (mem_cut (List.mem_of_getElem? hge))
      omega
  refine Sp.bind (lNew_goes (Snapshot.mk z.snap_index z.snap_term z.snap_config z.snap_data) hz.1 _ (by omega) hch2 (by show z.snap_index + _ < _; omega) hq _ (by omega)) (fun o ho => ?_)
  subst ho
  refine Sp.sum (fun a h => by cases h) (fun g hg => ?_)
  injection hg with hg
  subst hg
  have htm2 : prevT z.snap_term (cut r'.log.entries 0 q) (cut r'.log.entries 0 q).length ≤ r'.hterm := by
    rcases Nat.eq_zero_or_pos (cut r'.log.entries 0 q).length with h0 | h0
    · rw [h0]; exact hai.tm.2
    · obtain ⟨m, hm⟩ : ∃ m, (cut r'.log.entries 0 q).length = m + 1 := ⟨(cut r'.log.entries 0 q).length - 1, by omega⟩
      have hge : (cut r'.log.entries 0 q)[m]? = some (cut r'.log.entries 0 q)[m] := List.getElem?_eq_getElem (by omega)
      rw [hm, prevT_get hge]
      exact hai.tm.1 _ (mem_cut (List.mem_of_getElem? hge))
  refine Sp.bind (rNew_goes z.id (Hard.mk r'.hterm r'.vote) (g := ⟨z.snap_index, z.snap_term, z.snap_config, z.snap_data, cut r'.log.entries 0 q⟩) (by show (cut r'.log.entries 0 q).length ≤ big; omega) hch2 hid hai.vt htm2 htop2) (fun o ho => ?_)
  subst ho
  refine Sp.sum (fun a h => by cases h) (fun g hg => ?_)
  injection hg with hg
  subst hg
  refine Sp.ite (fun _ => Sp.ret rfl) (fun hne => ?_)
  have hne : fr ≠ z.id := by simpa using hne
  refine Sp.bind (lLast_ch (g := ⟨z.snap_index, z.snap_term, z.snap_config, z.snap_data, cut r'.log.entries 0 q⟩) (by show (cut r'.log.entries 0 q).length ≤ big; omega) hch2) (fun o ho => ?_)
  subst ho
  dsimp only
  refine Sp.ite (fun _ => Sp.ret rfl) (fun h62 => ?_)
  have h62 := of_decide_eq_false h62
  refine Sp.bind (ask_goes z.id (Hard.mk r'.hterm r'.vote) ⟨z.snap_index, z.snap_term, z.snap_config, z.snap_data, cut r'.log.entries 0 q⟩ (by show (cut r'.log.entries 0 q).length ≤ big; omega) hch2 fr hr hne (by dsimp only; omega) _) (fun r2 hr2 => ?_)
  obtain ⟨x, hout, hxok, hht⟩ := hr2
  dsimp only at hxok hht
  rw [hout, hht]
  refine Sp.ite (fun _ => ?_) (fun h => by cases h)
  refine Sp.bind (R := fun y => y = x) ⟨x, rfl, rfl⟩ (fun y hy => ?_)
  subst hy
  rw [hxok]
  refine Sp.ite (fun h1 => ?_) (fun h1 => ?_)
  · rw [h1, Bool.true_or]
    exact Sp.ite (fun _ => Sp.ret (by simp)) (fun h => by cases h)
  · rw [h1, Bool.false_or]
    exact Sp.ite (fun _ => Sp.ret (by simp)) (fun h => by simp at h)
end Sx
