/- RaftAnew, in plain words: lawAnew answers true. -/
import Derived.Test.YthimhmocgnnaiaaDoorRx
import Derived.Test.YthimhmocgnnaiaaDoorRp
import Derived.Test.YthimhmocgnnaiaaDoorRlAnew
namespace Sx
open Go Go.Proofs

/-- A node that follows, begun with id and s. -/
structure AI (s : Snapshot) (id : Int) (r : Raft) : Prop where
  role : r.role = 0
  id : r.id = id
  vt : -1 ≤ r.vote ∧ r.vote < 7
  lg : r.log = ⟨s.index, s.term, s.config, s.data, r.log.entries⟩
  ch : Chn s.index s.term r.log.entries
  tm : (∀ e ∈ r.log.entries, e.term ≤ r.hterm) ∧ s.term ≤ r.hterm
  top : ∀ e ∈ r.log.entries, e.index ≤ 9223372036854775808

theorem rSend_ch (r : Raft) (x : Letter) : Wq (rSend r x) (fun r' => ∃ o, r' = { r with out := o }) := by
  unfold rSend
  exact Wq.ifp (fun _ => Wq.ifp (fun _ => Wq.ret ⟨_, rfl⟩))
theorem AI.send {s : Snapshot} {id : Int} {r : Raft} (h : AI s id r) (x : Letter) : Wq (Option.bind (rSend r x) fun o => some o) (AI s id) :=
  Wq.bind (rSend_ch r x) (fun r' hr => by
    obtain ⟨o, rfl⟩ := hr
    exact Wq.ret ⟨h.role, h.id, h.vt, h.lg, h.ch, h.tm, h.top⟩)
theorem rAsked_ch {s : Snapshot} {id : Int} {r : Raft} (h : AI s id r) (x : Letter) (hx : 0 ≤ x.from_ ∧ x.from_ < 7) : Wq (rAsked r x) (AI s id) := by
  have hv : AI s id (Raft.mk r.id r.hterm x.from_ r.log r.role r.leader r.commit r.votes r.next r.match_ r.entries r.install r.out true) := ⟨h.role, h.id, by show -1 ≤ x.from_ ∧ x.from_ < 7; omega, h.lg, h.ch, h.tm, h.top⟩
  unfold rAsked
  refine Wq.bind Wq.triv (fun o _ => ?_)
  obtain ⟨a, b⟩ := o
  dsimp only
  refine Wq.ite (fun _ => ?_) (fun _ => Wq.ite (fun _ => ?_) (fun _ => ?_))
  · exact Wq.ite (fun _ => Wq.ite (fun _ => Wq.ite (fun _ => hv.send _) (fun _ => Wq.ite (fun _ => hv.send _) (fun _ => h.send _))) (fun _ => h.send _)) (fun _ => h.send _)
  · exact Wq.ite (fun _ => Wq.ite (fun _ => Wq.ite (fun _ => Wq.ite (fun _ => hv.send _) (fun _ => h.send _)) (fun _ => Wq.ite (fun _ => Wq.ite (fun _ => hv.send _) (fun _ => h.send _)) (fun _ => h.send _))) (fun _ => h.send _)) (fun _ => h.send _)
  · exact Wq.ite (fun _ => Wq.ite (fun _ => Wq.ite (fun _ => h.send _) (fun _ => Wq.ite (fun _ => h.send _) (fun _ => h.send _))) (fun _ => h.send _)) (fun _ => h.send _)
theorem rFollow_ch {s : Snapshot} {id : Int} {r : Raft} (h : AI s id r) (t : Int) : Wq (rFollow r t) (fun r' => AI s id r' ∧ t ≤ r'.hterm) := by
  unfold rFollow
  refine Wq.ite (fun h1 => ?_) (fun h1 => ?_)
  · have h1 := of_decide_eq_true h1
    refine Wq.ret ⟨⟨rfl, h.id, by show (-1 : Int) ≤ -1 ∧ (-1 : Int) < 7; decide, h.lg, h.ch, ⟨fun e he => ?_, ?_⟩, h.top⟩, Int.le_refl _⟩
    · have := h.tm.1 e he; show e.term ≤ t; omega
    · have := h.tm.2; show s.term ≤ t; omega
  · have h1 := of_decide_eq_false h1
    exact Wq.ret ⟨⟨rfl, h.id, h.vt, h.lg, h.ch, h.tm, h.top⟩, by show t ≤ r.hterm; omega⟩
theorem rAppendsL1_ch (r : Raft) (x : Letter) (hl : x.entries.length ≤ big) : ∀ (fuel k : Nat), k ≤ x.entries.length → Wq (rAppendsL1 r x fuel k) (fun o => o = .inr () → ∀ (j : Nat) (e : Entry), k ≤ j → x.entries[j]? = some e → e.term ≤ x.term)
  | 0, k, _ => fun _ h => by cases h
  | fuel + 1, k, h1 => by
    have hl' := hl; unfold big at hl'
    rw [rAppendsL1]
    simp only [List.length_map]
    refine Wq.ite (fun h3 => ?_) (fun h3 => ?_)
    · have h3 := of_decide_eq_true h3
      refine Wq.ifp (fun _ => ?_)
      rw [Int.toNat_natCast]
      refine Wq.bind Wq.any (fun e he => Wq.ite (fun _ => Wq.ret fun h => (by cases h)) (fun h4 => ?_))
      have h4 := of_decide_eq_false h4
      rw [wi (x := (k : Int) + 1) (by omega) (by omega)]
      refine Wq.mono (rAppendsL1_ch r x hl fuel (k + 1) (by omega)) (fun o ho h5 j e' hj he' => ?_)
      rcases Nat.eq_or_lt_of_le hj with rfl | hlt
      · rw [he] at he'; injection he' with he'; subst he'; omega
      · exact ho h5 j e' hlt he'
    · have h3 := of_decide_eq_false h3
      refine Wq.ret (fun _ j e hj he => ?_)
      rw [List.getElem?_eq_none (by omega)] at he; cases he
theorem rAppends_ch {n : Nat} {s : Snapshot} {id : Int} {r : Raft} (hr : RI n r) (h : AI s id r) (x : Letter) (hn : n + x.entries.length + 10 ≤ big) (hx : 0 ≤ x.index ∧ x.index ≤ 4611686018427387904) (ht : x.term ≤ r.hterm) (fuel : Nat) (hf : n + x.entries.length + 40 ≤ fuel) :
    Wq (rAppends fuel r x) (AI s id) := by
  have hes := hr.es
  have hbig : big = 100000000 := rfl
  have hlg := h.lg
  have hix : r.log.index = s.index := by rw [hlg]
  have htm : r.log.term = s.term := by rw [hlg]
  unfold rAppends
  refine Wq.bind (rAppendsL1_ch r x (by omega) fuel 0 (Nat.zero_le _)) (fun o ho => ?_)
  refine Wq.sum (fun _ _ => Wq.ret h) (fun _ hb => ?_)
  have hterm : ∀ e ∈ x.entries, e.term ≤ x.term := fun e he => by
    obtain ⟨j, hj⟩ := List.getElem?_of_mem he
    exact ho hb j e (Nat.zero_le _) hj
  refine Wq.bind ((lMerge_ch hr.lg (by omega) (by rw [hix, htm]; exact h.ch) x.entries (by omega) x.index x.prev hx fuel (by omega)).and (lMerge_sp hr.lg (by omega) x.entries (by omega) x.index x.prev hx fuel (by omega)).wq) (fun o ho => ?_)
  obtain ⟨ks, ok, g'⟩ := o
  obtain ⟨⟨⟨hsame, hmq1, hmq2⟩, htop⟩, _, hk, _⟩ := ho
  dsimp only at hsame hmq1 hmq2 htop hk ⊢
  rw [hix, htm] at hmq1
  have hg' : g' = ⟨s.index, s.term, s.config, s.data, g'.entries⟩ := by rw [hsame, hlg]
  have hall : (∀ e ∈ g'.entries, e.term ≤ r.hterm) := fun e he => by
    rcases hmq2 e he with h1 | h1
    · exact h.tm.1 e h1
    · have := hterm e h1; omega
  have htop' : ∀ e ∈ g'.entries, e.index ≤ 9223372036854775808 := fun e he => by
    rcases htop with htop | htop
    · rw [htop] at he; exact h.top e he
    · rcases hmq2 e he with h1 | h1
      · exact h.top e h1
      · have := htop e h1; omega
  have h1 : ∀ (es : List Entry) (c : Int), AI s id (Raft.mk r.id r.hterm r.vote g' r.role r.leader c r.votes r.next r.match_ es r.install r.out r.reset) := fun es c =>
    ⟨h.role, h.id, h.vt, hg', hmq1, ⟨hall, h.tm.2⟩, htop'⟩
  refine Wq.ite (fun _ => ?_) (fun _ => ?_)
  · refine Wq.bind (rKeep_sp ks _ fuel (by show r.entries.length < fuel; omega) (by show r.entries.length ≤ big; omega) (by omega)).wq (fun r2 hr2 => ?_)
    obtain ⟨es, rfl, _⟩ := hr2
    exact (h1 es _).send _
  · refine Wq.bind Wq.triv (fun o _ => ?_)
    exact Wq.ite (fun _ => Wq.ite (fun _ => (h1 _ _).send _) (fun _ => (h1 _ _).send _)) (fun _ => (h1 _ _).send _)
theorem tail_ch {n : Nat} {s : Snapshot} {id : Int} {r : Raft} (hr : RI n r) (h : AI s id r) (x : Letter) (hk : x.kind ≠ 5) (hn : n + x.entries.length + 60 ≤ big) (hx : 0 ≤ x.index ∧ x.index ≤ 4611686018427387904) (hf : 0 ≤ x.from_ ∧ x.from_ < 7)
    (ht : x.term ≤ r.hterm) (fuel : Nat) (hfu : n + x.entries.length + 100 ≤ fuel) : Wq (tail fuel r x) (AI s id) := by
  have hrole := h.role; have h1t := hr.ht1
  unfold tail
  refine Wq.ite (fun _ => ?_) (fun _ => Wq.ite (fun _ => ?_) (fun _ => Wq.ite (fun _ => ?_) (fun _ => Wq.ite (fun h5 => absurd (eq_of_beq h5) hk) (fun _ => Wq.ite (fun _ => ?_) (fun _ => Wq.ret h)))))
  · exact Wq.bind (rAsked_ch h x hf) (fun r' hr => Wq.ret hr)
  · exact Wq.ite (fun h1 => by rw [hrole] at h1; cases h1) (fun _ => Wq.ret h)
  · refine Wq.ite (fun _ => h.send _) (fun _ => Wq.ite (fun _ => Wq.ret h) (fun _ => ?_))
    refine Wq.bind ((rFollow_ch h x.term).and (rFollow_sp hr x.term (by omega)).wq) (fun r2 hr2 => ?_)
    obtain ⟨⟨h2, hle⟩, h3, _⟩ := hr2
    have h4 : RI n (Raft.mk r2.id r2.hterm r2.vote r2.log r2.role x.from_ r2.commit r2.votes r2.next r2.match_ r2.entries r2.install r2.out true) := h3.of (Nat.le_refl _) rfl rfl rfl rfl h3.nx h3.mt h3.lg h3.lc h3.es
    have h5 : AI s id (Raft.mk r2.id r2.hterm r2.vote r2.log r2.role x.from_ r2.commit r2.votes r2.next r2.match_ r2.entries r2.install r2.out true) := ⟨h2.role, h2.id, h2.vt, h2.lg, h2.ch, h2.tm, h2.top⟩
    exact Wq.bind (rAppends_ch h4 h5 x (by omega) hx hle fuel (by omega)) (fun r' hr => Wq.ret hr)
  · refine Wq.bind (R := AI s id) ?_ (fun r' hr => Wq.ret hr)
    unfold rAppended
    exact Wq.ite (fun _ => Wq.ret h) (fun h1 => by rw [hrole] at h1; cases h1)
theorem rReceive_ch {n : Nat} {s : Snapshot} {id : Int} {r : Raft} (hr : RI n r) (h : AI s id r) (x : Letter) (hk : x.kind ≠ 5) (hn : n + x.entries.length + 60 ≤ big) (hx : 0 ≤ x.index) (ht : x.term < 18446744073709551616) (fuel : Nat) (hfu : n + x.entries.length + 100 ≤ fuel) :
    Wq (rReceive fuel r x) (AI s id) := by
  unfold rReceive
  refine Wq.ite (fun _ => Wq.ret h) (fun h0 => Wq.ite (fun _ => Wq.ret h) (fun h7 => Wq.ite (fun _ => Wq.ret h) (fun _ => Wq.ite (fun _ => Wq.ret h) (fun _ => Wq.ite (fun _ => Wq.ret h) (fun _ => Wq.ite (fun _ => Wq.ret h) (fun _ => Wq.ite (fun _ => Wq.ret h) (fun hi => ?_)))))))
  have h0 := of_decide_eq_false h0
  have h7 := of_decide_eq_false h7
  have hi := of_decide_eq_false hi
  have hf : 0 ≤ x.from_ ∧ x.from_ < 7 := by omega
  refine Wq.ite (fun _ => ?_) (fun hle => ?_)
  · refine Wq.bind ((rFollow_ch h x.term).and (rFollow_sp hr x.term ht).wq) (fun r2 hr2 => ?_)
    obtain ⟨⟨h2, hle⟩, h3, _⟩ := hr2
    exact (tail_ch h3 h2 x hk hn ⟨hx, by omega⟩ hf hle fuel hfu : Wq (tail fuel r2 x) _)
  · have hle := of_decide_eq_false hle
    exact (tail_ch hr h x hk hn ⟨hx, by omega⟩ hf (by omega) fuel hfu : Wq (tail fuel r x) _)

def Begun (id : Int) (h : Hard) (g : Log) : Raft := ⟨id, h.term, h.vote, g, 0, -1, g.index, 0, [0, 0, 0, 0, 0, 0, 0], [0, 0, 0, 0, 0, 0, 0], [], false, [], false⟩
theorem rNew_ch (id : Int) (hd : Hard) {g : Log} (hl : g.entries.length ≤ big) (h : Chn g.index g.term g.entries) :
    Wq (rNew id hd g) (fun o => ∀ r, o = .inr r → r = Begun id hd g ∧ (0 ≤ id ∧ id < 7) ∧ (-1 ≤ hd.vote ∧ hd.vote < 7) ∧ prevT g.term g.entries g.entries.length ≤ hd.term ∧ g.index + g.entries.length ≤ 9223372036854775808) := by
  unfold rNew
  refine Wq.ite (fun _ => Wq.ret fun r h => (by cases h)) (fun h0 => Wq.ite (fun _ => Wq.ret fun r h => (by cases h)) (fun h7 => Wq.ite (fun _ => Wq.ret fun r h => (by cases h)) (fun hv => Wq.ite (fun _ => Wq.ret fun r h => (by cases h)) (fun hv7 => ?_))))
  have h0 := of_decide_eq_false h0
  have h7 := of_decide_eq_false h7
  have hv := of_decide_eq_false hv
  have hv7 := of_decide_eq_false hv7
  refine Wq.bind (lLast_ch hl h).wq (fun o ho => ?_)
  subst ho
  dsimp only
  refine Wq.ite (fun _ => Wq.ret fun r h => (by cases h)) (fun h1 => Wq.ite (fun _ => Wq.ret fun r h => (by cases h)) (fun h2 => ?_))
  have h1 := of_decide_eq_false h1
  have h2 := of_decide_eq_false h2
  exact Wq.ret fun r hr => by
    injection hr with hr
    exact ⟨hr.symm, by omega, by omega, by omega, by omega⟩
theorem rNew_goes (id : Int) (hd : Hard) {g : Log} (hl : g.entries.length ≤ big) (h : Chn g.index g.term g.entries) (hi : 0 ≤ id ∧ id < 7) (hv : -1 ≤ hd.vote ∧ hd.vote < 7)
    (ht : prevT g.term g.entries g.entries.length ≤ hd.term) (htop : g.index + g.entries.length ≤ 9223372036854775808) : Sp (rNew id hd g) (fun o => o = .inr (Begun id hd g)) := by
  unfold rNew
  refine Sp.ite (fun h => absurd (of_decide_eq_true h) (by omega)) (fun _ => Sp.ite (fun h => absurd (of_decide_eq_true h) (by omega)) (fun _ => Sp.ite (fun h => absurd (of_decide_eq_true h) (by omega)) (fun _ => Sp.ite (fun h => absurd (of_decide_eq_true h) (by omega)) (fun _ => ?_))))
  refine Sp.bind (lLast_ch hl h) (fun o ho => ?_)
  subst ho
  dsimp only
  exact Sp.ite (fun h => absurd (of_decide_eq_true h) (by omega)) (fun _ => Sp.ite (fun h => absurd (of_decide_eq_true h) (by omega)) (fun _ => Sp.ret rfl))

theorem anL1_sp {s : Snapshot} {id : Int} (z : Start) (cs : List Call) (from_ : Int) (hok : ∀ c ∈ cs, CallOk c) : ∀ (fuel k n : Nat) (r : Raft), k ≤ cs.length → cs.length + 2 * big < fuel + k → n + cw (cs.drop k) + 100 ≤ big → cs.length ≤ big → RI n r → AI s id r →
    Sp (lawAnewL1 z cs from_ fuel k r) (fun r' => (∃ n', n' ≤ big ∧ RI n' r') ∧ AI s id r')
  | 0, k, n, r, h1, h2, _, _, _, _ => by omega
  | fuel + 1, k, n, r, h1, h2, hn, hcl, h, ha => by
    have hcl' := hcl; unfold big at hcl'
    rw [lawAnewL1]
    simp only [List.length_map]
    refine Sp.ite (fun h3 => ?_) (fun _ => Sp.ret ⟨⟨n, by omega, h⟩, ha⟩)
    have h3 := of_decide_eq_true h3
    refine Sp.ifp (by omega) ?_
    rw [Int.toNat_natCast]
    refine Sp.bind (Sp.get (by omega)) (fun c hc => ?_)
    have hcw := cw_drop cs k c hc
    have hcok := hok c (List.mem_of_getElem? hc)
    rw [wi (x := (k : Int) + 1) (by omega) (by omega)]
    have hskip := anL1_sp (s := s) (id := id) z cs from_ hok fuel (k + 1) n r (by omega) (by omega) (by omega) hcl h ha
    refine Sp.ite (fun _ => Sp.ite (fun h5 => ?_) (fun _ => hskip)) (fun _ => hskip)
    have h5 : c.letter_kind ≠ 5 := by simpa using h5
    refine Sp.bind ((rReceive_sp h _ (by show n + c.letter_entries.length + 60 ≤ big; omega) hcok.1 hcok.2 fuel (by show n + c.letter_entries.length + 100 ≤ fuel; omega)).and
      (rReceive_ch h ha _ h5 (by show n + c.letter_entries.length + 60 ≤ big; omega) hcok.1 hcok.2 fuel (by show n + c.letter_entries.length + 100 ≤ fuel; omega))) (fun r' hr => ?_)
    exact anL1_sp z cs from_ hok fuel (k + 1) (n + c.letter_entries.length + 30) r' (by omega) (by omega) (by omega) hcl hr.1.1 hr.2
end Sx
