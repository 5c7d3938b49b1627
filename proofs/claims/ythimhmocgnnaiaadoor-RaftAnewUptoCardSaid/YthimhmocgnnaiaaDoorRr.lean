/- The node: every function answers on every sound node, and what holds of the node behind it. -/
import Derived.Test.YthimhmocgnnaiaaDoorRm
namespace Sx
open Go Go.Proofs

/-- A sound node, n: what its lists hold at most. -/
structure RI (n : Nat) (r : Raft) : Prop where
  id0 : 0 ≤ r.id
  id7 : r.id < 7
  ht0 : 0 ≤ r.hterm
  ht1 : r.hterm < 18446744073709551616
  nx : r.next.length = 7
  mt : r.match_.length = 7
  lg : LI n r.log
  lc : r.log.index ≤ r.commit
  es : r.entries.length ≤ n
  os : r.out.length ≤ n
  ol : ∀ x ∈ r.out, x.from_ = r.id ∧ x.term ≤ r.hterm ∧ (x.kind = 2 → x.ok = true → x.term = r.hterm → x.to = r.vote ∧ x.to ≠ -1)
theorem RI.of {n m : Nat} {r r' : Raft} (h : RI n r) (hm : n ≤ m) (e1 : r'.id = r.id) (e2 : r'.hterm = r.hterm) (e3 : r'.vote = r.vote) (e4 : r'.out = r.out)
    (nx : r'.next.length = 7) (mt : r'.match_.length = 7) (lg : LI m r'.log) (lc : r'.log.index ≤ r'.commit) (es : r'.entries.length ≤ m) : RI m r' := by
  refine ⟨by rw [e1]; exact h.id0, by rw [e1]; exact h.id7, by rw [e2]; exact h.ht0, by rw [e2]; exact h.ht1, nx, mt, lg, lc, es, by rw [e4]; exact Nat.le_trans h.os hm, ?_⟩
  rw [e1, e2, e3, e4]; exact h.ol
theorem RI.mono {n m : Nat} {r : Raft} (h : RI n r) (hm : n ≤ m) : RI m r := h.of hm rfl rfl rfl rfl h.nx h.mt (h.lg.mono hm) h.lc (Nat.le_trans h.es hm)

/-- What a step in one term does. -/
structure Exr (r r' : Raft) : Prop where
  id : r'.id = r.id
  ht : r'.hterm = r.hterm
  vt : r.vote ≠ -1 → r'.vote = r.vote
  cm : r.commit ≤ r'.commit
  lg : LE r.log r'.log
theorem Exr.rfl' (r : Raft) : Exr r r := ⟨rfl, rfl, fun _ => rfl, Int.le_refl _, LE.rfl' _⟩
theorem Exr.trans {a b c : Raft} (h : Exr a b) (k : Exr b c) : Exr a c :=
  ⟨k.id.trans h.id, k.ht.trans h.ht, fun hv => by have := h.vt hv; rw [← this]; exact k.vt (by rw [this]; exact hv), Int.le_trans h.cm k.cm, h.lg.trans k.lg⟩
/-- What a step in one term does where the log may be another. -/
structure Flw (r r' : Raft) : Prop where
  id : r'.id = r.id
  ht : r'.hterm = r.hterm
  vt : r.vote ≠ -1 → r'.vote = r.vote
  cm : r.commit ≤ r'.commit
theorem Exr.flw {a b : Raft} (h : Exr a b) : Flw a b := ⟨h.id, h.ht, h.vt, h.cm⟩
/-- What any step does. -/
structure Ste (r r' : Raft) : Prop where
  id : r'.id = r.id
  ht : r.hterm ≤ r'.hterm
  vt : r'.hterm = r.hterm → r.vote ≠ -1 → r'.vote = r.vote
  cm : r.commit ≤ r'.commit
  ld : r.role = 2 → r'.hterm = r.hterm → LE r.log r'.log
theorem Exr.ste {a b : Raft} (h : Exr a b) : Ste a b := ⟨h.id, by rw [h.ht]; exact Int.le_refl _, fun _ => h.vt, h.cm, fun _ _ => h.lg⟩

theorem rSend_sp {n : Nat} {r : Raft} (h : RI n r) (hn : n ≤ big) (x : Letter) (hx : x.kind = 2 → x.ok = true → x.to = r.vote ∧ x.to ≠ -1) : Sp (rSend r x) (fun r' => RI (n + 1) r' ∧ Exr r r') := by
  have ho := h.os; unfold big at hn
  have hc : ∀ y : Letter, cut [y] 0 1 = [y] := fun _ => rfl
  unfold rSend
  rw [hc]
  refine Sp.ifp (by trivial) (Sp.ifp (by simp; omega) (Sp.ret ⟨⟨h.id0, h.id7, h.ht0, h.ht1, h.nx, h.mt, h.lg.mono (by omega), h.lc, Nat.le_trans h.es (by omega), by simp; omega, fun y hy => ?_⟩, ⟨rfl, rfl, fun _ => rfl, Int.le_refl _, LE.rfl' _⟩⟩))
  rcases List.mem_append.mp hy with h1 | h1
  · exact h.ol y h1
  · rw [List.mem_singleton.mp h1]
    exact ⟨rfl, Int.le_refl _, fun h2 h3 _ => hx h2 h3⟩

theorem rWrite_sp {n : Nat} {r : Raft} (h : RI n r) (hn : n ≤ big) (to : Int) (ht : 0 ≤ to ∧ to < 7) : Sp (rWrite r to) (fun r' => RI (n + 1) r' ∧ Exr r r') := by
  unfold rWrite lFirst
  refine Sp.bind (R := fun _ => True) ⟨_, rfl, trivial⟩ (fun s _ => ?_)
  refine Sp.ifp (by omega) (Sp.bind (Sp.get (by rw [h.nx]; omega)) (fun e _ => ?_))
  refine Sp.ite (fun _ => ?_) (fun _ => ?_)
  · exact Sp.bind (rSend_sp h hn _ (fun h => by cases h)) (fun r' hr => Sp.ret hr)
  · refine Sp.bind (lTerm_sp h.lg hn _) (fun o _ => ?_)
    refine Sp.bind (lGet_sp h.lg hn _ _) (fun l _ => ?_)
    exact Sp.bind (rSend_sp h hn _ (fun h => by cases h)) (fun r' hr => Sp.ret hr)

theorem rMembers_sp {n : Nat} {r : Raft} (h : RI n r) (hn : n ≤ big) (fuel : Nat) (hf : n + 20 ≤ fuel) : Sp (rMembers fuel r) (fun _ => True) := by
  unfold rMembers
  exact Sp.bind (lMembers_sp h.lg hn fuel hf) (fun _ _ => Sp.ret trivial)

theorem rBeatL1_sp (l : List Int) (hl : l.length ≤ 7) (hm : ∀ x ∈ l, 0 ≤ x ∧ x < 7) : ∀ (fuel k n : Nat) (r : Raft), k ≤ l.length → l.length < fuel + k → n + 7 ≤ big + k → RI n r →
    Sp (rBeatL1 l fuel k r) (fun r' => RI (n + (l.length - k)) r' ∧ Exr r r')
  | 0, k, n, r, h1, h2, _, _ => by omega
  | fuel + 1, k, n, r, h1, h2, hn, h => by
    rw [rBeatL1]
    simp only [List.length_map]
    refine Sp.ite (fun h3 => ?_) (fun _ => Sp.ret ⟨h.mono (by omega), Exr.rfl' r⟩)
    have h3 := of_decide_eq_true h3
    refine Sp.ifp (by omega) ?_
    rw [Int.toNat_natCast]
    refine Sp.bind (Sp.get (by omega)) (fun x hx => ?_)
    rw [wi (x := (k : Int) + 1) (by omega) (by omega)]
    refine Sp.ite (fun _ => ?_) (fun _ => ?_)
    · refine Sp.bind (rWrite_sp h (by omega) x (hm x (List.mem_of_getElem? hx))) (fun r' hr => ?_)
      refine Sp.mono (rBeatL1_sp l hl hm fuel (k + 1) (n + 1) r' (by omega) (by omega) (by omega) hr.1) (fun r'' hr' => ?_)
      exact ⟨hr'.1.mono (by omega), hr.2.trans hr'.2⟩
    · refine Sp.mono (rBeatL1_sp l hl hm fuel (k + 1) n r (by omega) (by omega) (by omega) h) (fun r'' hr' => ?_)
      exact ⟨hr'.1.mono (by omega), hr'.2⟩
theorem rBeat_sp {n : Nat} {r : Raft} (h : RI n r) (hn : n + 7 ≤ big) (fuel : Nat) (hf : n + 20 ≤ fuel) : Sp (rBeat fuel r) (fun r' => RI (n + 7) r' ∧ Exr r r') := by
  unfold rBeat
  refine Sp.ite (fun _ => Sp.ret ⟨h.mono (by omega), Exr.rfl' r⟩) (fun _ => ?_)
  refine Sp.bind (rMembers_sp h (by omega) fuel hf) (fun c _ => ?_)
  refine Sp.bind (qMembers_sp c fuel (by omega)) (fun l hl => ?_)
  refine Sp.bind (rBeatL1_sp l hl.1 hl.2.1 fuel 0 n r (by omega) (by omega) (by omega) h) (fun r' hr => Sp.ret ⟨hr.1.mono (by omega), hr.2⟩)

theorem rAdvance_sp {n : Nat} {r : Raft} (h : RI n r) (hn : n + 7 ≤ big) (fuel : Nat) (hf : n + 20 ≤ fuel) : Sp (rAdvance fuel r) (fun r' => RI (n + 7) r' ∧ Exr r r') := by
  have hsame : Sp (some r) (fun r' => RI (n + 7) r' ∧ Exr r r') := Sp.ret ⟨h.mono (by omega), Exr.rfl' r⟩
  have hcut : (cut r.match_ 0 7).length = 7 := by rw [len_cut, h.mt]; rfl
  unfold rAdvance
  refine Sp.bind (rMembers_sp h (by omega) fuel hf) (fun c _ => ?_)
  refine Sp.ifp (by rw [List.length_map, hcut]) ?_
  refine Sp.bind (qReached_sp c _ hcut fuel (by omega)) (fun k _ => ?_)
  refine Sp.bind (lTerm_sp h.lg (by omega) k) (fun o _ => ?_)
  refine Sp.ite (fun _ => hsame) (fun _ => Sp.ite (fun _ => hsame) (fun _ => Sp.ite (fun _ => hsame) (fun hk => ?_)))
  have hk := of_decide_eq_false hk
  have hc := h.lc
  have hnew : ∀ (rl ld : Int), RI n (Raft.mk r.id r.hterm r.vote r.log rl ld k r.votes r.next r.match_ r.entries r.install r.out r.reset) :=
    fun rl ld => h.of (Nat.le_refl _) rfl rfl rfl rfl h.nx h.mt h.lg (by show r.log.index ≤ k; omega) h.es
  have hext : ∀ (rl ld : Int), Exr r (Raft.mk r.id r.hterm r.vote r.log rl ld k r.votes r.next r.match_ r.entries r.install r.out r.reset) :=
    fun rl ld => ⟨rfl, rfl, fun _ => rfl, by show r.commit ≤ k; omega, LE.rfl' _⟩
  have hdone : Sp (some (Raft.mk r.id r.hterm r.vote r.log r.role r.leader k r.votes r.next r.match_ r.entries r.install r.out r.reset)) (fun r' => RI (n + 7) r' ∧ Exr r r') :=
    Sp.ret ⟨(hnew _ _).mono (by omega), hext _ _⟩
  refine Sp.bind (lMembers_sp h.lg (by omega) fuel hf) (fun o _ => ?_)
  refine Sp.ite (fun _ => ?_) (fun _ => hdone)
  refine Sp.bind (qHas_sp _ _) (fun b _ => Sp.ite (fun _ => hdone) (fun _ => ?_))
  refine Sp.bind (rBeat_sp (hnew _ _) hn fuel hf) (fun r' hr => Sp.ret ⟨?_, ?_⟩)
  · exact hr.1.of (Nat.le_refl _) rfl rfl rfl rfl hr.1.nx hr.1.mt hr.1.lg hr.1.lc hr.1.es
  · exact (hext _ _).trans ⟨hr.2.id, hr.2.ht, hr.2.vt, hr.2.cm, hr.2.lg⟩

theorem rKeepL1_sp (l : List Entry) (hl : 0 < l.length) : ∀ (fuel : Nat) (r : Raft), r.entries.length < fuel → r.entries.length ≤ big →
    Sp (rKeepL1 l fuel r) (fun r' => ∃ es, r' = { r with entries := es } ∧ es.length ≤ r.entries.length)
  | 0, r, h, _ => by omega
  | fuel + 1, r, h, hb => by
    have hb' := hb; unfold big at hb'
    rw [rKeepL1]
    simp only [List.length_map]
    refine Sp.ite (fun h3 => ?_) (fun _ => Sp.ret ⟨r.entries, rfl, Nat.le_refl _⟩)
    have h3 := of_decide_eq_true h3
    rw [wi (by omega) (by omega)]
    refine Sp.ifp (by omega) (Sp.bind (Sp.get (by omega)) (fun e _ => Sp.bind (Sp.get hl) (fun e0 _ => ?_)))
    refine Sp.ite (fun _ => ?_) (fun _ => Sp.ret ⟨r.entries, rfl, Nat.le_refl _⟩)
    have hc : (cut r.entries 0 ((r.entries.length : Int) - 1 - 0).toNat).length = r.entries.length - 1 := by rw [len_cut]; omega
    refine Sp.ifp (by omega) (Sp.ifp (by rw [hc]; omega) ?_)
    refine Sp.mono (rKeepL1_sp l hl fuel _ (by show (cut _ _ _).length < fuel; rw [hc]; omega) (by show (cut _ _ _).length ≤ big; rw [hc]; omega)) (fun r' hr => ?_)
    obtain ⟨es, rfl, he⟩ := hr
    refine ⟨es, rfl, ?_⟩
    have he' : es.length ≤ (cut r.entries 0 ((r.entries.length : Int) - 1 - 0).toNat).length := he
    rw [hc] at he'; omega
theorem rKeep_sp (l : List Entry) (r : Raft) (fuel : Nat) (hf : r.entries.length < fuel) (hb : r.entries.length ≤ big) (hl : l.length ≤ big) :
    Sp (rKeep fuel r l) (fun r' => ∃ es, r' = { r with entries := es } ∧ es.length ≤ r.entries.length + l.length) := by
  have hb' := hb; have hl' := hl; unfold big at hb' hl'
  unfold rKeep
  simp only [List.length_map]
  refine Sp.ite (fun _ => Sp.ret ⟨r.entries, rfl, by omega⟩) (fun h => ?_)
  have h0 : l.length ≠ 0 := fun h1 => by rw [h1] at h; cases h
  refine Sp.bind (rKeepL1_sp l (by omega) fuel r hf hb) (fun r' hr => ?_)
  obtain ⟨es, rfl, he⟩ := hr
  refine Sp.ifp (by show (es.length + l.length) * 41 ≤ _; omega) (Sp.ret ⟨es ++ l, rfl, by simp; omega⟩)

theorem rAdd_sp {n : Nat} {r : Raft} (h : RI n r) (hn : n + 20 ≤ big) (fuel : Nat) (hf : n + 40 ≤ fuel) (kind : Int) (data : ByteArray) :
    Sp (rAdd fuel r kind data) (fun o => RI (n + 20) o.2.2 ∧ Exr r o.2.2) := by
  have hes := h.es; have hlc := h.lc
  unfold rAdd
  refine Sp.bind (lAdd_sp h.lg (by omega) fuel (by omega) _ _ _) (fun o ho => ?_)
  obtain ⟨e, er, g'⟩ := o
  obtain ⟨hg, hle, _⟩ := ho
  dsimp only at hg hle ⊢
  have hix : g'.index = r.log.index := by obtain ⟨m, rfl⟩ := hle; rfl
  refine Sp.ite (fun _ => Sp.ret ⟨?_, ?_⟩) (fun _ => ?_)
  · exact h.of (by omega) rfl rfl rfl rfl h.nx h.mt (hg.mono (by omega)) (by show g'.index ≤ r.commit; omega) (Nat.le_trans h.es (by omega))
  · exact ⟨rfl, rfl, fun _ => rfl, Int.le_refl _, hle⟩
  have hc : cut [e] 0 1 = [e] := rfl
  rw [hc]
  refine Sp.ifp (by trivial) ?_
  refine Sp.bind (rKeep_sp [e] _ fuel (by show r.entries.length < fuel; omega) (by show r.entries.length ≤ big; omega) (by unfold big; simp)) (fun r2 hr2 => ?_)
  obtain ⟨es, rfl, he⟩ := hr2
  have he' : es.length ≤ r.entries.length + 1 := he
  have h0 := h.id0; have h7 := h.id7; have hmt := h.mt
  refine Sp.ifp (by show 0 ≤ r.id ∧ r.id < ((7 : Nat) : Int); omega) ?_
  refine Sp.bind (R := fun _ => True) ⟨_, List.getElem?_eq_getElem (show r.id.toNat < r.match_.length by omega), trivial⟩ (fun _ _ => ?_)
  have h2 : RI (n + 1) (Raft.mk r.id r.hterm r.vote g' r.role r.leader r.commit r.votes r.next (r.match_.set r.id.toNat e.index) es r.install r.out r.reset) :=
    h.of (by omega) rfl rfl rfl rfl h.nx (by show (r.match_.set _ _).length = 7; rw [List.length_set]; exact h.mt) hg (by show g'.index ≤ r.commit; omega) (by show es.length ≤ n + 1; omega)
  have e2 : Exr r (Raft.mk r.id r.hterm r.vote g' r.role r.leader r.commit r.votes r.next (r.match_.set r.id.toNat e.index) es r.install r.out r.reset) := ⟨rfl, rfl, fun _ => rfl, Int.le_refl _, hle⟩
  refine Sp.bind (rBeat_sp h2 (by omega) fuel (by omega)) (fun r3 hr3 => ?_)
  refine Sp.bind (rAdvance_sp hr3.1 (by omega) fuel (by omega)) (fun r4 hr4 => Sp.ret ⟨hr4.1.mono (by omega), e2.trans (hr3.2.trans hr4.2)⟩)

theorem rElectedL1_sp (o : Int) : ∀ (fuel k n : Nat) (r : Raft), k ≤ 7 → 7 < fuel + k → RI n r → Sp (rElectedL1 o fuel k r) (fun r' => RI n r' ∧ Exr r r')
  | 0, k, n, r, h1, h2, _ => by omega
  | fuel + 1, k, n, r, h1, h2, h => by
    have hnx := h.nx
    rw [rElectedL1]
    refine Sp.ite (fun h3 => ?_) (fun _ => Sp.ret ⟨h, Exr.rfl' r⟩)
    have h3 := of_decide_eq_true h3
    refine Sp.ifp (by omega) ?_
    rw [Int.toNat_natCast]
    refine Sp.bind (Sp.get (by omega)) (fun x _ => ?_)
    rw [wi (x := (k : Int) + 1) (by omega) (by omega)]
    refine Sp.mono (rElectedL1_sp o fuel (k + 1) n _ (by omega) (by omega) (h.of (Nat.le_refl _) rfl rfl rfl rfl (by show (r.next.set _ _).length = 7; rw [List.length_set]; exact h.nx) h.mt h.lg h.lc h.es)) (fun r' hr => ?_)
    exact ⟨hr.1, ⟨hr.2.id, hr.2.ht, hr.2.vt, hr.2.cm, hr.2.lg⟩⟩
theorem rElected_sp {n : Nat} {r : Raft} (h : RI n r) (hn : n + 20 ≤ big) (fuel : Nat) (hf : n + 40 ≤ fuel) : Sp (rElected fuel r) (fun r' => RI (n + 20) r' ∧ Exr r r') := by
  have hsame : Sp (some r) (fun r' => RI (n + 20) r' ∧ Exr r r') := Sp.ret ⟨h.mono (by omega), Exr.rfl' r⟩
  unfold rElected
  refine Sp.ite (fun _ => hsame) (fun _ => ?_)
  refine Sp.bind (rMembers_sp h (by omega) fuel (by omega)) (fun c _ => Sp.bind (qMajority_sp _ _) (fun b _ => Sp.ite (fun _ => ?_) (fun _ => hsame)))
  refine Sp.bind (lLast_sp h.lg (by omega)) (fun o _ => ?_)
  refine Sp.bind (rElectedL1_sp o.1 fuel 0 n _ (by omega) (by omega) (h.of (Nat.le_refl _) rfl rfl rfl rfl h.nx h.mt h.lg h.lc h.es)) (fun r2 hr2 => ?_)
  refine Sp.ifp (by rw [List.length_map, hr2.1.mt]) ?_
  have h3 : RI n (Raft.mk r2.id r2.hterm r2.vote r2.log r2.role r2.leader r2.commit r2.votes r2.next [0, 0, 0, 0, 0, 0, 0] r2.entries r2.install r2.out r2.reset) :=
    hr2.1.of (Nat.le_refl _) rfl rfl rfl rfl hr2.1.nx rfl hr2.1.lg hr2.1.lc hr2.1.es
  refine Sp.bind (rAdd_sp h3 hn fuel hf 0 _) (fun o ho => Sp.ret ⟨ho.1, ?_⟩)
  have a : Exr r r2 := ⟨hr2.2.id, hr2.2.ht, hr2.2.vt, hr2.2.cm, hr2.2.lg⟩
  exact a.trans ⟨ho.2.id, ho.2.ht, ho.2.vt, ho.2.cm, ho.2.lg⟩
end Sx
