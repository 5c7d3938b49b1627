/- The node, on: what it receives. -/
import Derived.Test.YthimhmocgnnaiaaDoorRt
namespace Sx
open Go Go.Proofs

theorem rAppendsL1_sp (r : Raft) (x : Letter) (hl : x.entries.length ≤ big) : ∀ (fuel k : Nat), k ≤ x.entries.length → x.entries.length < fuel + k → Sp (rAppendsL1 r x fuel k) (fun _ => True)
  | 0, k, h1, h2 => by omega
  | fuel + 1, k, h1, h2 => by
    have hl' := hl; unfold big at hl'
    rw [rAppendsL1]
    simp only [List.length_map]
    refine Sp.ite (fun h3 => ?_) (fun _ => Sp.ret trivial)
    have h3 := of_decide_eq_true h3
    refine Sp.ifp (by omega) ?_
    rw [Int.toNat_natCast]
    refine Sp.bind (Sp.get (by omega)) (fun e _ => Sp.ite (fun _ => Sp.ret trivial) (fun _ => ?_))
    rw [wi (x := (k : Int) + 1) (by omega) (by omega)]
    exact rAppendsL1_sp r x hl fuel (k + 1) (by omega) (by omega)
theorem rAppends_sp {n : Nat} {r : Raft} (h : RI n r) (x : Letter) (hn : n + x.entries.length + 10 ≤ big) (hx : 0 ≤ x.index ∧ x.index ≤ 4611686018427387904) (fuel : Nat) (hf : n + x.entries.length + 40 ≤ fuel) :
    Sp (rAppends fuel r x) (fun r' => RI (n + x.entries.length + 1) r' ∧ Flw r r') := by
  have hes := h.es; have hlc := h.lc
  unfold rAppends
  refine Sp.bind (rAppendsL1_sp r x (by omega) fuel 0 (by omega) (by omega)) (fun o _ => ?_)
  refine Sp.sum (fun _ _ => Sp.ret ⟨h.mono (by omega), (Exr.rfl' r).flw⟩) (fun _ _ => ?_)
  refine Sp.bind (lMerge_sp h.lg (by omega) x.entries (by omega) x.index x.prev hx fuel (by omega)) (fun o ho => ?_)
  obtain ⟨ks, ok, g'⟩ := o
  obtain ⟨hg, hk, hix⟩ := ho
  dsimp only at hg hk hix ⊢
  have h1 : RI (n + x.entries.length) (Raft.mk r.id r.hterm r.vote g' r.role r.leader r.commit r.votes r.next r.match_ r.entries r.install r.out r.reset) :=
    h.of (by omega) rfl rfl rfl rfl h.nx h.mt hg (by show g'.index ≤ r.commit; omega) (by show r.entries.length ≤ _; omega)
  refine Sp.ite (fun _ => ?_) (fun _ => ?_)
  · refine Sp.bind (rKeep_sp ks _ fuel (by show r.entries.length < fuel; omega) (by show r.entries.length ≤ big; omega) (by omega)) (fun r2 hr2 => ?_)
    obtain ⟨es, rfl, he⟩ := hr2
    have he' : es.length ≤ r.entries.length + ks.length := he
    have hc : ∀ a : Int, r.commit ≤ (if a > r.commit then a else r.commit) := fun a => by split <;> omega
    have h2 : ∀ a : Int, RI (n + x.entries.length) (Raft.mk r.id r.hterm r.vote g' r.role r.leader (if a > r.commit then a else r.commit) r.votes r.next r.match_ es r.install r.out r.reset) := fun a =>
      h.of (by omega) rfl rfl rfl rfl h.nx h.mt hg (by have := hc a; show g'.index ≤ (if a > r.commit then a else r.commit); omega) (by show es.length ≤ _; omega)
    exact Sp.bind (rSend_sp (h2 _) (by omega) _ (fun h => by cases h)) (fun r3 hr3 => Sp.ret ⟨hr3.1, ⟨hr3.2.id, hr3.2.ht, hr3.2.vt, Int.le_trans (hc _) hr3.2.cm⟩⟩)
  · have hlast : Sp (lLast g') (fun o => o.1 = g'.index + g'.entries.length) := lLast_sp hg (by omega)
    have hdone : ∀ y : Letter, y.kind = 4 → Sp (Option.bind (rSend (Raft.mk r.id r.hterm r.vote g' r.role r.leader r.commit r.votes r.next r.match_ r.entries r.install r.out r.reset) y) fun o => some o) (fun r' => RI (n + x.entries.length + 1) r' ∧ Flw r r') := fun y hy =>
      Sp.bind (rSend_sp h1 (by omega) _ (fun h => by rw [hy] at h; cases h)) (fun r3 hr3 => Sp.ret ⟨hr3.1, ⟨hr3.2.id, hr3.2.ht, hr3.2.vt, hr3.2.cm⟩⟩)
    refine Sp.bind hlast (fun o _ => Sp.ite (fun _ => Sp.ite (fun _ => hdone _ rfl) (fun _ => hdone _ rfl)) (fun _ => hdone _ rfl))

theorem rInstalls_sp {n : Nat} {r : Raft} (h : RI n r) (hn : n + 10 ≤ big) (x : Letter) (hx : 0 ≤ x.index ∧ x.index ≤ 4611686018427387904) :
    Sp (rInstalls r x) (fun r' => RI (n + 1) r' ∧ Flw r r') := by
  unfold rInstalls
  refine Sp.ite (fun hc => Sp.ite (fun _ => Sp.ret ⟨h.mono (by omega), (Exr.rfl' r).flw⟩) (fun _ => ?_)) (fun _ => ?_)
  · have hc := of_decide_eq_true hc
    refine Sp.bind (lInstall_sp h.lg (by omega) _ hx) (fun o ho => ?_)
    obtain ⟨er, g'⟩ := o
    dsimp only at ho ⊢
    refine Sp.ite (fun he => ?_) (fun he => ?_)
    · have he : er ≠ 0 := by simpa using he
      rcases ho with ⟨_, rfl⟩ | ⟨h0, _⟩
      · exact Sp.ret ⟨h.mono (by omega), (Exr.rfl' r).flw⟩
      · exact absurd h0 he
    · have he : er = 0 := by simpa using he
      rcases ho with ⟨h0, _⟩ | ⟨_, hg, hi⟩
      · exact absurd he h0
      · have h2 : RI n (Raft.mk r.id r.hterm r.vote g' r.role r.leader x.index r.votes r.next r.match_ [] true r.out r.reset) :=
          h.of (Nat.le_refl _) rfl rfl rfl rfl h.nx h.mt hg (by show g'.index ≤ x.index; rw [hi]; exact Int.le_refl _) (Nat.zero_le _)
        exact Sp.bind (rSend_sp h2 (by omega) _ (fun h => by cases h)) (fun r3 hr3 => Sp.ret ⟨hr3.1, ⟨hr3.2.id, hr3.2.ht, hr3.2.vt, Int.le_trans (show r.commit ≤ x.index by omega) hr3.2.cm⟩⟩)
  · exact Sp.bind (rSend_sp h (by omega) _ (fun h => by cases h)) (fun r3 hr3 => Sp.ret ⟨hr3.1, hr3.2.flw⟩)

theorem rFollow_sp {n : Nat} {r : Raft} (h : RI n r) (t : Int) (ht : t < 18446744073709551616) :
    Sp (rFollow r t) (fun r' => RI n r' ∧ r'.role = 0 ∧ r'.id = r.id ∧ r'.commit = r.commit ∧ ((r.hterm < t ∧ r'.hterm = t) ∨ (t ≤ r.hterm ∧ r'.hterm = r.hterm ∧ r'.vote = r.vote))) := by
  have h0 := h.ht0
  unfold rFollow
  refine Sp.ite (fun h1 => ?_) (fun h1 => ?_)
  · have h1 := of_decide_eq_true h1
    refine Sp.ret ⟨⟨h.id0, h.id7, by show 0 ≤ t; omega, ht, h.nx, h.mt, h.lg, h.lc, h.es, h.os, fun x hx => ?_⟩, rfl, rfl, rfl, Or.inl ⟨by omega, rfl⟩⟩
    obtain ⟨a, b, _⟩ := h.ol x hx
    exact ⟨a, by show x.term ≤ t; omega, fun _ _ h3 => by
      have h3 : x.term = t := h3
      omega⟩
  · have h1 := of_decide_eq_false h1
    exact Sp.ret ⟨h.of (Nat.le_refl _) rfl rfl rfl rfl h.nx h.mt h.lg h.lc h.es, rfl, rfl, rfl, Or.inr ⟨by omega, rfl, rfl⟩⟩

/-- What a letter of no later term does. -/
def tail (fuel : Nat) (r : Raft) (x : Letter) : Option Raft :=
                (iteB (x.kind == 1)
                  (Option.bind (rAsked r x) fun o10_0 =>
                    (some o10_0))
                  (iteB (x.kind == 2)
                    (iteB (r.role == 1)
                      (iteB (x.term == r.hterm)
                        (iteB x.ok
                          (ifP (0 ≤ x.from_)
                            (Option.bind (rElected fuel (Raft.mk r.id r.hterm r.vote r.log r.role r.leader r.commit (IntKind.wrap .u64 ((BitVec.ofInt (IntKind.bits .u64) r.votes ||| BitVec.ofInt (IntKind.bits .u64) (IntKind.wrap .u64 ((1 : Int) * 2 ^ (min (x.from_).toNat (IntKind.bits .u64))))).toNat : Int)) r.next r.match_ r.entries r.install r.out r.reset)) fun o15_0 =>
                            (some o15_0)))
                          (some r))
                        (some r))
                      (some r))
                    (iteB (x.kind == 3)
                      (iteB (decide (x.term < r.hterm))
                        (Option.bind (rSend r (Letter.mk 4 0 x.from_ 0 0 0 0 false [] (ByteArray.mk #[]))) fun o13_0 =>
                          (some o13_0))
                        (iteB (r.role == 2)
                          (some r)
                          (Option.bind (rFollow r x.term) fun o14_0 =>
                            (Option.bind (rAppends fuel (Raft.mk o14_0.id o14_0.hterm o14_0.vote o14_0.log o14_0.role x.from_ o14_0.commit o14_0.votes o14_0.next o14_0.match_ o14_0.entries o14_0.install o14_0.out true) x) fun o15_0 =>
                              (some o15_0)))))
                      (iteB (x.kind == 5)
                        (iteB (decide (x.term < r.hterm))
                          (Option.bind (rSend r (Letter.mk 4 0 x.from_ 0 0 0 0 false [] (ByteArray.mk #[]))) fun o14_0 =>
                            (some o14_0))
                          (iteB (r.role == 2)
                            (some r)
                            (Option.bind (rFollow r x.term) fun o15_0 =>
                              (Option.bind (rInstalls (Raft.mk o15_0.id o15_0.hterm o15_0.vote o15_0.log o15_0.role x.from_ o15_0.commit o15_0.votes o15_0.next o15_0.match_ o15_0.entries o15_0.install o15_0.out true) x) fun o16_0 =>
                                (some o16_0)))))
                        (iteB (x.kind == 4)
                          (Option.bind (rAppended fuel r x) fun o14_0 =>
                            (some o14_0))
                          (some r))))))
def TailQ (n : Nat) (r r' : Raft) : Prop := RI n r' ∧ Flw r r' ∧ (r.role = 2 → LE r.log r'.log)
theorem tail_sp {n : Nat} {r : Raft} (h : RI n r) (x : Letter) (hn : n + x.entries.length + 60 ≤ big) (hx : 0 ≤ x.index ∧ x.index ≤ 4611686018427387904) (hf : 0 ≤ x.from_ ∧ x.from_ < 7)
    (ht : x.term ≤ r.hterm) (fuel : Nat) (hfu : n + x.entries.length + 100 ≤ fuel) : Sp (tail fuel r x) (TailQ (n + x.entries.length + 30) r) := by
  have hsame : Sp (some r) (TailQ (n + x.entries.length + 30) r) := Sp.ret ⟨h.mono (by omega), (Exr.rfl' r).flw, fun _ => LE.rfl' _⟩
  have hex : ∀ {m : Nat} {r' : Raft}, m ≤ 30 → RI (n + m) r' ∧ Exr r r' → TailQ (n + x.entries.length + 30) r r' := fun hm ⟨a, b⟩ => ⟨a.mono (by omega), b.flw, fun _ => b.lg⟩
  have h1t := h.ht1
  unfold tail
  refine Sp.ite (fun _ => ?_) (fun _ => Sp.ite (fun _ => ?_) (fun _ => Sp.ite (fun _ => ?_) (fun _ => Sp.ite (fun _ => ?_) (fun _ => Sp.ite (fun _ => ?_) (fun _ => hsame)))))
  · exact Sp.bind (rAsked_sp h (by omega) x hf.1) (fun r' hr => Sp.ret (hex (by omega) hr))
  · refine Sp.ite (fun _ => Sp.ite (fun _ => Sp.ite (fun _ => Sp.ifp hf.1 ?_) (fun _ => hsame)) (fun _ => hsame)) (fun _ => hsame)
    have h2 : ∀ v, RI n (Raft.mk r.id r.hterm r.vote r.log r.role r.leader r.commit v r.next r.match_ r.entries r.install r.out r.reset) := fun v => h.of (Nat.le_refl _) rfl rfl rfl rfl h.nx h.mt h.lg h.lc h.es
    exact Sp.bind (rElected_sp (h2 _) (by omega) fuel (by omega)) (fun r' hr => Sp.ret (hex (m := 20) (by omega) ⟨hr.1, ⟨hr.2.id, hr.2.ht, hr.2.vt, hr.2.cm, hr.2.lg⟩⟩))
  · refine Sp.ite (fun _ => Sp.bind (rSend_sp h (by omega) _ (fun h => by cases h)) (fun r' hr => Sp.ret (hex (by omega) hr))) (fun _ => Sp.ite (fun _ => hsame) (fun hrole => ?_))
    refine Sp.bind (rFollow_sp h x.term (by omega)) (fun r2 hr2 => ?_)
    obtain ⟨h2, _, e1, e2, e3⟩ := hr2
    have h3 : RI n (Raft.mk r2.id r2.hterm r2.vote r2.log r2.role x.from_ r2.commit r2.votes r2.next r2.match_ r2.entries r2.install r2.out true) := h2.of (Nat.le_refl _) rfl rfl rfl rfl h2.nx h2.mt h2.lg h2.lc h2.es
    refine Sp.bind (rAppends_sp h3 x (by omega) hx fuel (by omega)) (fun r' hr => Sp.ret ⟨hr.1.mono (by omega), ?_, fun h => by rw [h] at hrole; cases hrole⟩)
    rcases e3 with ⟨e4, _⟩ | ⟨_, e5, e6⟩
    · omega
    · exact ⟨hr.2.id.trans e1, hr.2.ht.trans e5, fun hv => (hr.2.vt (by show r2.vote ≠ -1; rw [e6]; exact hv)).trans e6, by have := hr.2.cm; rw [← e2]; exact this⟩
  · refine Sp.ite (fun _ => Sp.bind (rSend_sp h (by omega) _ (fun h => by cases h)) (fun r' hr => Sp.ret (hex (by omega) hr))) (fun _ => Sp.ite (fun _ => hsame) (fun hrole => ?_))
    refine Sp.bind (rFollow_sp h x.term (by omega)) (fun r2 hr2 => ?_)
    obtain ⟨h2, _, e1, e2, e3⟩ := hr2
    have h3 : RI n (Raft.mk r2.id r2.hterm r2.vote r2.log r2.role x.from_ r2.commit r2.votes r2.next r2.match_ r2.entries r2.install r2.out true) := h2.of (Nat.le_refl _) rfl rfl rfl rfl h2.nx h2.mt h2.lg h2.lc h2.es
    refine Sp.bind (rInstalls_sp h3 (by omega) x hx) (fun r' hr => Sp.ret ⟨hr.1.mono (by omega), ?_, fun h => by rw [h] at hrole; cases hrole⟩)
    rcases e3 with ⟨e4, _⟩ | ⟨_, e5, e6⟩
    · omega
    · exact ⟨hr.2.id.trans e1, hr.2.ht.trans e5, fun hv => (hr.2.vt (by show r2.vote ≠ -1; rw [e6]; exact hv)).trans e6, by have := hr.2.cm; rw [← e2]; exact this⟩
  · exact Sp.bind (rAppended_sp h (by omega) fuel (by omega) x hf) (fun r' hr => Sp.ret (hex (by omega) hr))

theorem rReceive_sp {n : Nat} {r : Raft} (h : RI n r) (x : Letter) (hn : n + x.entries.length + 60 ≤ big) (hx : 0 ≤ x.index) (ht : x.term < 18446744073709551616) (fuel : Nat) (hfu : n + x.entries.length + 100 ≤ fuel) :
    Sp (rReceive fuel r x) (fun r' => RI (n + x.entries.length + 30) r' ∧ Ste r r') := by
  have hsame : Sp (some r) (fun r' => RI (n + x.entries.length + 30) r' ∧ Ste r r') := Sp.ret ⟨h.mono (by omega), (Exr.rfl' r).ste⟩
  unfold rReceive
  refine Sp.ite (fun _ => hsame) (fun h0 => Sp.ite (fun _ => hsame) (fun h7 => Sp.ite (fun _ => hsame) (fun _ => Sp.ite (fun _ => hsame) (fun _ => Sp.ite (fun _ => hsame) (fun _ => Sp.ite (fun _ => hsame) (fun _ => Sp.ite (fun _ => hsame) (fun hi => ?_)))))))
  have h0 := of_decide_eq_false h0
  have h7 := of_decide_eq_false h7
  have hi := of_decide_eq_false hi
  have hf : 0 ≤ x.from_ ∧ x.from_ < 7 := by omega
  refine Sp.ite (fun hgt => ?_) (fun hle => ?_)
  · have hgt := of_decide_eq_true hgt
    refine Sp.bind (rFollow_sp h x.term ht) (fun r2 hr2 => ?_)
    obtain ⟨h2, _, e1, e2, e3⟩ := hr2
    have e4 : r2.hterm = x.term := by
      rcases e3 with ⟨_, e⟩ | ⟨e, _⟩
      · exact e
      · omega
    refine Sp.mono (tail_sp h2 x hn ⟨hx, by omega⟩ hf (by omega) fuel hfu : Sp (tail fuel r2 x) _) (fun r' hr => ⟨hr.1, ?_⟩)
    have e5 : r'.hterm = r2.hterm := hr.2.1.ht
    exact ⟨hr.2.1.id.trans e1, by omega, fun h => by omega, by rw [← e2]; exact hr.2.1.cm, fun _ h => by omega⟩
  · have hle := of_decide_eq_false hle
    refine Sp.mono (tail_sp h x hn ⟨hx, by omega⟩ hf (by omega) fuel hfu : Sp (tail fuel r x) _) (fun r' hr => ⟨hr.1, ?_⟩)
    exact ⟨hr.2.1.id, by rw [hr.2.1.ht]; exact Int.le_refl _, fun _ => hr.2.1.vt, hr.2.1.cm, fun h _ => hr.2.2 h⟩
end Sx
