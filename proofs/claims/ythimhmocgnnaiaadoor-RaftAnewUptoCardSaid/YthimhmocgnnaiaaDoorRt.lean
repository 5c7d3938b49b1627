/- The node, on: what it is asked and told. -/
import Derived.Test.YthimhmocgnnaiaaDoorRr
namespace Sx
open Go Go.Proofs

theorem rTimeoutL1_sp (a b : Int) (l : List Int) (hl : l.length ≤ 7) : ∀ (fuel k n : Nat) (r : Raft), k ≤ l.length → l.length < fuel + k → n + 7 ≤ big + k → RI n r →
    Sp (rTimeoutL1 a b l fuel k r) (fun r' => RI (n + (l.length - k)) r' ∧ Exr r r')
  | 0, k, n, r, h1, h2, _, _ => by omega
  | fuel + 1, k, n, r, h1, h2, hn, h => by
    rw [rTimeoutL1]
    simp only [List.length_map]
    refine Sp.ite (fun h3 => ?_) (fun _ => Sp.ret ⟨h.mono (by omega), Exr.rfl' r⟩)
    have h3 := of_decide_eq_true h3
    refine Sp.ifp (by omega) ?_
    rw [Int.toNat_natCast]
    refine Sp.bind (Sp.get (by omega)) (fun x hx => ?_)
    rw [wi (x := (k : Int) + 1) (by omega) (by omega)]
    refine Sp.ite (fun _ => ?_) (fun _ => ?_)
    · refine Sp.bind (rSend_sp h (by omega) _ (fun h => by cases h)) (fun r' hr => ?_)
      refine Sp.mono (rTimeoutL1_sp a b l hl fuel (k + 1) (n + 1) r' (by omega) (by omega) (by omega) hr.1) (fun r'' hr' => ?_)
      exact ⟨hr'.1.mono (by omega), hr.2.trans hr'.2⟩
    · refine Sp.mono (rTimeoutL1_sp a b l hl fuel (k + 1) n r (by omega) (by omega) (by omega) h) (fun r'' hr' => ?_)
      exact ⟨hr'.1.mono (by omega), hr'.2⟩
theorem rStands_sp {n : Nat} {r : Raft} (h : RI n r) (hn : n ≤ big) (fuel : Nat) (hf : n + 20 ≤ fuel) : Sp (rStands fuel r) (fun _ => True) := by
  unfold rStands
  refine Sp.bind (lMembers_sp h.lg hn fuel hf) (fun o _ => Sp.ite (fun _ => ?_) (fun _ => ?_))
  · refine Sp.bind (lMembersAt_sp h.lg hn _ fuel hf) (fun o _ => Sp.bind (qHas_sp _ _) (fun b _ => Sp.ite (fun _ => Sp.ret trivial) (fun _ => ?_)))
    exact Sp.bind (qHas_sp _ _) (fun b _ => Sp.ret trivial)
  · exact Sp.bind (qHas_sp _ _) (fun b _ => Sp.ite (fun _ => Sp.ret trivial) (fun _ => Sp.ret trivial))
theorem rTimeout_sp {n : Nat} {r : Raft} (h : RI n r) (hn : n + 30 ≤ big) (fuel : Nat) (hf : n + 60 ≤ fuel) : Sp (rTimeout fuel r) (fun r' => RI (n + 30) r' ∧ Ste r r') := by
  have hsame : Sp (some r) (fun r' => RI (n + 30) r' ∧ Ste r r') := Sp.ret ⟨h.mono (by omega), (Exr.rfl' r).ste⟩
  have h0 := h.ht0; have h1 := h.ht1
  unfold rTimeout
  refine Sp.ite (fun _ => hsame) (fun _ => Sp.bind (rStands_sp h (by omega) fuel (by omega)) (fun b _ => Sp.ite (fun _ => Sp.ite (fun _ => hsame) (fun hne => ?_)) (fun _ => hsame)))
  have hne : r.hterm ≠ 18446744073709551615 := fun h => by rw [h] at hne; cases hne
  refine Sp.ifp h.id0 (Sp.bind (lLast_sp h.lg (by omega)) (fun o _ => ?_))
  rw [wu (x := r.hterm + 1) (by omega) (by omega)]
  have hb : ∀ v, RI n (Raft.mk r.id (r.hterm + 1) r.id r.log 1 (-1) r.commit v r.next r.match_ r.entries r.install r.out true) := fun v =>
    ⟨h.id0, h.id7, by show 0 ≤ r.hterm + 1; omega, by show r.hterm + 1 < _; omega, h.nx, h.mt, h.lg, h.lc, h.es, h.os, fun x hx => by
      obtain ⟨a, b, _⟩ := h.ol x hx
      exact ⟨a, by show x.term ≤ r.hterm + 1; omega, fun _ _ h3 => by
        have h3 : x.term = r.hterm + 1 := h3
        omega⟩⟩
  refine Sp.bind (rMembers_sp (hb _) (by omega) fuel (by omega)) (fun c _ => Sp.bind (qMembers_sp c fuel (by omega)) (fun l hl => ?_))
  refine Sp.bind (rTimeoutL1_sp _ _ l hl.1 fuel 0 n _ (by omega) (by omega) (by omega) (hb _)) (fun r2 hr2 => ?_)
  refine Sp.bind (rElected_sp (hr2.1.mono (show n + (l.length - 0) ≤ n + 7 by omega)) (by omega) fuel (by omega)) (fun r3 hr3 => Sp.ret ⟨hr3.1.mono (by omega), ?_⟩)
  have e := hr2.2.trans hr3.2
  have eht : r3.hterm = r.hterm + 1 := e.ht
  exact ⟨e.id, by omega, fun h => by omega, e.cm, fun _ h => by omega⟩

theorem rPropose_sp {n : Nat} {r : Raft} (h : RI n r) (hn : n + 20 ≤ big) (fuel : Nat) (hf : n + 40 ≤ fuel) (d : ByteArray) : Sp (rPropose fuel r d) (fun o => RI (n + 20) o.2.2 ∧ Exr r o.2.2) := by
  unfold rPropose
  refine Sp.ite (fun _ => Sp.ret ⟨h.mono (by omega), Exr.rfl' r⟩) (fun _ => ?_)
  exact Sp.bind (rAdd_sp h hn fuel hf _ _) (fun o ho => Sp.ret ho)
theorem rChange_sp {n : Nat} {r : Raft} (h : RI n r) (hn : n + 20 ≤ big) (fuel : Nat) (hf : n + 40 ≤ fuel) (add : Bool) (id : Int) : Sp (rChange fuel r add id) (fun o => RI (n + 20) o.2.2 ∧ Exr r o.2.2) := by
  have hsame : ∀ a b : Int, Sp (some (a, b, r)) (fun o => RI (n + 20) o.2.2 ∧ Exr r o.2.2) := fun a b => Sp.ret ⟨h.mono (by omega), Exr.rfl' r⟩
  unfold rChange
  refine Sp.ite (fun _ => hsame _ _) (fun _ => ?_)
  refine Sp.bind (lMembers_sp h.lg (by omega) fuel (by omega)) (fun o _ => Sp.bind (lTerm_sp h.lg (by omega) _) (fun o3 _ => ?_))
  refine Sp.ite (fun _ => hsame _ _) (fun _ => Sp.ite (fun _ => hsame _ _) (fun _ => ?_))
  unfold qChange
  refine Sp.bind (R := fun q => (0 ≤ q.1 ∧ q.1 < 18446744073709551616) ∧ (q.2 = 0 → 0 ≤ id ∧ id < 7)) ?_ (fun q hq => ?_)
  · have hz : (0 : Int) ≤ 0 ∧ (0 : Int) < 18446744073709551616 := by decide
    refine Sp.bind (qSound_sp _) fun _ _ => Sp.ite (fun _ => ?_) (fun _ => Sp.ret ⟨hz, fun h => by cases h⟩)
    refine Sp.ite (fun _ => Sp.ret ⟨hz, fun h => by cases h⟩) (fun h0 => Sp.ite (fun _ => Sp.ret ⟨hz, fun h => by cases h⟩) (fun h7 => ?_))
    have h0 := of_decide_eq_false h0
    have h7 := of_decide_eq_false h7
    refine Sp.ifp (by omega) (Sp.ite (fun _ => ?_) (fun _ => ?_)) <;>
      exact Sp.ite (fun _ => Sp.ret ⟨hz, fun h => by cases h⟩) (fun _ => Sp.ite (fun _ => Sp.ret ⟨hz, fun h => by cases h⟩) (fun _ => Sp.ret ⟨wuRange _, fun _ => by omega⟩))
  obtain ⟨c, er⟩ := q
  dsimp only at hq ⊢
  refine Sp.ite (fun _ => hsame _ _) (fun he => ?_)
  have he : er = 0 := by simpa using he
  obtain ⟨hc, hid⟩ := hq
  have hid := hid he
  refine Sp.ite (fun _ => ?_) (fun _ => ?_)
  · refine Sp.bind (lLast_sp h.lg (by omega)) (fun o9 _ => ?_)
    have hnx := h.nx; have hmt := h.mt
    refine Sp.ifp (by omega) (Sp.bind (Sp.get (by omega)) (fun _ _ => Sp.bind (Sp.get (by omega)) (fun _ _ => ?_)))
    refine Sp.bind (lConfig_sp fuel (by omega) c hc) (fun d _ => ?_)
    have h3 : RI n (Raft.mk r.id r.hterm r.vote r.log r.role r.leader r.commit r.votes (r.next.set id.toNat (IntKind.wrap .u64 (o9.1 + 1))) (r.match_.set id.toNat 0) r.entries r.install r.out r.reset) :=
      h.of (Nat.le_refl _) rfl rfl rfl rfl (by show (r.next.set _ _).length = 7; rw [List.length_set]; exact hnx) (by show (r.match_.set _ _).length = 7; rw [List.length_set]; exact hmt) h.lg h.lc h.es
    exact Sp.bind (rAdd_sp h3 hn fuel hf 2 d) (fun o ho => Sp.ret ⟨ho.1, ⟨ho.2.id, ho.2.ht, ho.2.vt, ho.2.cm, ho.2.lg⟩⟩)
  · refine Sp.bind (lConfig_sp fuel (by omega) c hc) (fun d _ => ?_)
    exact Sp.bind (rAdd_sp h hn fuel hf 2 d) (fun o ho => Sp.ret ho)

theorem rAppended_sp {n : Nat} {r : Raft} (h : RI n r) (hn : n + 20 ≤ big) (fuel : Nat) (hf : n + 40 ≤ fuel) (x : Letter) (hx : 0 ≤ x.from_ ∧ x.from_ < 7) : Sp (rAppended fuel r x) (fun r' => RI (n + 20) r' ∧ Exr r r') := by
  have hsame : Sp (some r) (fun r' => RI (n + 20) r' ∧ Exr r r') := Sp.ret ⟨h.mono (by omega), Exr.rfl' r⟩
  have hnx := h.nx; have hmt := h.mt
  have hset : ∀ (a b : List Int), a.length = 7 → b.length = 7 → RI n (Raft.mk r.id r.hterm r.vote r.log r.role r.leader r.commit r.votes a b r.entries r.install r.out r.reset) := fun a b ha hb =>
    h.of (Nat.le_refl _) rfl rfl rfl rfl ha hb h.lg h.lc h.es
  unfold rAppended
  refine Sp.ite (fun _ => hsame) (fun _ => Sp.ite (fun _ => hsame) (fun _ => ?_))
  refine Sp.bind (lLast_sp h.lg (by omega)) (fun o _ => Sp.ite (fun _ => Sp.ite (fun _ => hsame) (fun _ => ?_)) (fun _ => ?_))
  · refine Sp.ifp (by omega) (Sp.bind (Sp.get (by omega)) (fun e7 _ => Sp.bind (Sp.get (by omega)) (fun e8 _ => Sp.bind (Sp.get (by rw [List.length_set]; omega)) (fun e9 _ => ?_))))
    refine Sp.bind (rAdvance_sp (hset _ _ (by rw [List.length_set]; exact hnx) (by rw [List.length_set]; exact hmt)) (by omega) fuel (by omega)) (fun r2 hr2 => ?_)
    have e2 : Exr r r2 := ⟨hr2.2.id, hr2.2.ht, hr2.2.vt, hr2.2.cm, hr2.2.lg⟩
    have hs2 : Sp (some r2) (fun r' => RI (n + 20) r' ∧ Exr r r') := Sp.ret ⟨hr2.1.mono (by omega), e2⟩
    have hnx2 := hr2.1.nx; have hmt2 := hr2.1.mt
    refine Sp.ite (fun _ => ?_) (fun _ => hs2)
    refine Sp.bind (Sp.get (by omega)) (fun e12 _ => Sp.ite (fun _ => ?_) (fun _ => hs2))
    refine Sp.bind (rMembers_sp hr2.1 (by omega) fuel (by omega)) (fun c _ => Sp.bind (qHas_sp _ _) (fun b _ => Sp.ite (fun _ => ?_) (fun _ => hs2)))
    refine Sp.bind (Sp.get (by omega)) (fun e17 _ => ?_)
    have h3 : RI (n + 7) (Raft.mk r2.id r2.hterm r2.vote r2.log r2.role r2.leader r2.commit r2.votes (r2.next.set x.from_.toNat (IntKind.wrap .u64 (e17 + 1))) r2.match_ r2.entries r2.install r2.out r2.reset) :=
      hr2.1.of (Nat.le_refl _) rfl rfl rfl rfl (by show (r2.next.set _ _).length = 7; rw [List.length_set]; exact hnx2) hmt2 hr2.1.lg hr2.1.lc hr2.1.es
    refine Sp.bind (rWrite_sp h3 (by omega) _ hx) (fun r4 hr4 => Sp.ret ⟨hr4.1.mono (by omega), e2.trans ⟨hr4.2.id, hr4.2.ht, hr4.2.vt, hr4.2.cm, hr4.2.lg⟩⟩)
  · refine Sp.ifp (by omega) (Sp.bind (Sp.get (by omega)) (fun e6 _ => Sp.bind (Sp.get (by omega)) (fun _ _ => ?_)))
    refine Sp.bind (rWrite_sp (hset _ _ (by rw [List.length_set]; exact hnx) hmt) (by omega) _ hx) (fun r4 hr4 => Sp.ret ⟨hr4.1.mono (by omega), ⟨hr4.2.id, hr4.2.ht, hr4.2.vt, hr4.2.cm, hr4.2.lg⟩⟩)

theorem RI.vote {n : Nat} {r : Raft} (h : RI n r) (v : Int) (hv : r.vote = -1 ∨ r.vote = v) : RI n (Raft.mk r.id r.hterm v r.log r.role r.leader r.commit r.votes r.next r.match_ r.entries r.install r.out true) := by
  refine ⟨h.id0, h.id7, h.ht0, h.ht1, h.nx, h.mt, h.lg, h.lc, h.es, h.os, fun x hx => ?_⟩
  obtain ⟨a, b, c⟩ := h.ol x hx
  refine ⟨a, b, fun h1 h2 h3 => ?_⟩
  obtain ⟨c1, c2⟩ := c h1 h2 h3
  rcases hv with hv | hv
  · exact absurd (c1.trans hv) c2
  · exact ⟨by rw [c1, hv], c2⟩
theorem rAsked_sp {n : Nat} {r : Raft} (h : RI n r) (hn : n ≤ big) (x : Letter) (hx : 0 ≤ x.from_) : Sp (rAsked r x) (fun r' => RI (n + 1) r' ∧ Exr r r') := by
  have hno : ∀ (b : Bool), b = false → Sp (Option.bind (rSend r (Letter.mk 2 0 x.from_ 0 0 0 0 b [] (ByteArray.mk #[]))) fun o => some o) (fun r' => RI (n + 1) r' ∧ Exr r r') := fun b hb =>
    Sp.bind (rSend_sp h hn _ (fun _ h2 => by have h2 : b = true := h2; rw [hb] at h2; cases h2)) (fun r' hr => Sp.ret hr)
  have hyes : ∀ (b : Bool), (r.vote = -1 ∨ r.vote = x.from_) → Sp (Option.bind (rSend (Raft.mk r.id r.hterm x.from_ r.log r.role r.leader r.commit r.votes r.next r.match_ r.entries r.install r.out true) (Letter.mk 2 0 x.from_ 0 0 0 0 b [] (ByteArray.mk #[]))) fun o => some o) (fun r' => RI (n + 1) r' ∧ Exr r r') := fun b hv =>
    Sp.bind (rSend_sp (h.vote x.from_ hv) hn _ (fun _ _ => ⟨rfl, by show x.from_ ≠ -1; omega⟩)) (fun r' hr => Sp.ret ⟨hr.1, ⟨hr.2.id, hr.2.ht, fun h1 => by
      rcases hv with hv | hv
      · exact absurd hv h1
      · rw [hv]; exact hr.2.vt (by show x.from_ ≠ -1; omega), hr.2.cm, hr.2.lg⟩⟩)
  unfold rAsked
  refine Sp.bind (lLast_sp h.lg hn) (fun o _ => ?_)
  obtain ⟨a, b⟩ := o
  dsimp only
  refine Sp.ite (fun _ => ?_) (fun _ => Sp.ite (fun _ => ?_) (fun _ => ?_))
  · refine Sp.ite (fun _ => Sp.ite (fun _ => Sp.ite (fun h1 => hyes _ (Or.inl (eq_of_beq h1))) (fun _ => Sp.ite (fun h1 => hyes _ (Or.inr (eq_of_beq h1))) (fun _ => hno _ rfl))) (fun _ => hno _ rfl)) (fun _ => hno _ rfl)
  · refine Sp.ite (fun _ => Sp.ite (fun _ => Sp.ite (fun h1 => Sp.ite (fun _ => hyes _ (Or.inl (eq_of_beq h1))) (fun h2 => hno _ h2)) (fun _ => Sp.ite (fun h1 => Sp.ite (fun _ => hyes _ (Or.inr (eq_of_beq h1))) (fun h2 => hno _ h2)) (fun _ => hno _ rfl))) (fun _ => hno _ rfl)) (fun _ => hno _ rfl)
  · refine Sp.ite (fun _ => Sp.ite (fun _ => Sp.ite (fun _ => hno _ rfl) (fun _ => Sp.ite (fun _ => hno _ rfl) (fun _ => hno _ rfl))) (fun _ => hno _ rfl)) (fun _ => hno _ rfl)
end Sx
