/- RaftAppends, in plain words: lawAppends answers true. -/
import Derived.Test.YthimhmocgnnaiaaDoorRv
import Derived.Test.YthimhmocgnnaiaaDoorRlAppends
namespace Sx
open Go Go.Proofs

theorem rNew_sp {m : Nat} {s : Snapshot} {g : Log} (hm : m ≤ big) (hs : 0 ≤ s.index) (h : LB m s g) (id : Int) (hd : Hard) (ht : 0 ≤ hd.term ∧ hd.term < 18446744073709551616) :
    Sp (rNew id hd g) (fun o => ∀ r, o = .inr r → RI m r ∧ r.out = [] ∧ r.id = id ∧ r.hterm = hd.term ∧ r.vote = hd.vote ∧ r.commit = s.index ∧ r.role = 0 ∧ r.log = g ∧ r.entries = []) := by
  have hno : Sp (some (Sum.inl () : Unit ⊕ Raft)) (fun o => ∀ r, o = .inr r → RI m r ∧ r.out = [] ∧ r.id = id ∧ r.hterm = hd.term ∧ r.vote = hd.vote ∧ r.commit = s.index ∧ r.role = 0 ∧ r.log = g ∧ r.entries = []) := Sp.ret fun r h => (by cases h)
  have hlen := h.len; have hix := h.ix
  unfold rNew
  refine Sp.ite (fun _ => hno) (fun h0 => Sp.ite (fun _ => hno) (fun h7 => Sp.ite (fun _ => hno) (fun _ => Sp.ite (fun _ => hno) (fun _ => ?_))))
  have h0 := of_decide_eq_false h0
  have h7 := of_decide_eq_false h7
  refine Sp.bind (lLast_sp' (by omega) h.idx) (fun o ho => ?_)
  obtain ⟨a, b⟩ := o
  dsimp only at ho ⊢
  refine Sp.ite (fun _ => hno) (fun _ => Sp.ite (fun _ => hno) (fun h2 => ?_))
  have h2 := of_decide_eq_false h2
  unfold lFirst
  refine Sp.bind (R := fun f => f.index = g.index) (Sp.ret rfl) (fun f hf => Sp.ret fun r hr => ?_)
  injection hr with hr
  subst hr
  refine ⟨⟨by show 0 ≤ id; omega, by show id < 7; omega, ht.1, ht.2, rfl, rfl, ⟨by show 0 ≤ g.index; omega, by show g.entries.length ≤ m; omega, by show g.index + g.entries.length ≤ _; omega, h.idx, h.siz⟩, by show g.index ≤ f.index; omega, Nat.zero_le _, Nat.zero_le _, fun x hx => by cases hx⟩,
    rfl, rfl, rfl, rfl, by show f.index = s.index; omega, rfl, rfl, rfl⟩

/-- How much the calls may add. -/
def cw (cs : List Call) : Nat := (cs.map fun c => c.letter_entries.length + 31).sum
theorem cw_drop (cs : List Call) (k : Nat) (c : Call) (h : cs[k]? = some c) : cw (cs.drop k) = c.letter_entries.length + 31 + cw (cs.drop (k + 1)) := by
  obtain ⟨hk, rfl⟩ := List.getElem?_eq_some_iff.mp h
  unfold cw
  rw [List.drop_eq_getElem_cons hk, List.map_cons, List.sum_cons]
theorem cw_mem : ∀ (cs : List Call) (c : Call), c ∈ cs → c.letter_entries.length ≤ cw cs
  | [], c, h => by cases h
  | d :: r, c, h => by
    have e : cw (d :: r) = d.letter_entries.length + 31 + cw r := by unfold cw; rw [List.map_cons, List.sum_cons]
    rcases List.mem_cons.mp h with rfl | h
    · omega
    · have := cw_mem r c h; omega
def CallOk (c : Call) : Prop := 0 ≤ c.letter_index ∧ c.letter_term < 18446744073709551616

theorem apB_sp {n : Nat} {r : Raft} (h : RI n r) (c : Call) (hc : CallOk c) (hn : n + c.letter_entries.length + 60 ≤ big) (fuel : Nat) (hf : n + c.letter_entries.length + 100 ≤ fuel)
    (z : Start) (cs : List Call) (k a b : Int) (hd : Hard) (m : Int) (s : Snapshot) (l : List Entry) :
    Sp (lawAppendsB10 fuel z cs k r c a b hd m s l) (fun r' => RI (n + c.letter_entries.length + 30) r' ∧ Ste r r') := by
  unfold lawAppendsB10
  refine Sp.ite (fun _ => ?_) (fun _ => Sp.ite (fun _ => ?_) (fun _ => Sp.ite (fun _ => ?_) (fun _ => Sp.ite (fun _ => ?_) (fun _ => ?_))))
  · exact Sp.bind (rReceive_sp h _ hn hc.1 hc.2 fuel hf) (fun r' hr => Sp.ret hr)
  · exact Sp.bind (rTimeout_sp h (by omega) fuel (by omega)) (fun r' hr => Sp.ret ⟨hr.1.mono (by omega), hr.2⟩)
  · exact Sp.bind (rPropose_sp h (by omega) fuel (by omega) _) (fun o ho => Sp.ret ⟨ho.1.mono (by omega), ho.2.ste⟩)
  · exact Sp.bind (rChange_sp h (by omega) fuel (by omega) _ _) (fun o ho => Sp.ret ⟨ho.1.mono (by omega), ho.2.ste⟩)
  · exact Sp.ret ⟨h.mono (by omega), (Exr.rfl' r).ste⟩

theorem apL11_sp {n : Nat} {r r' : Raft} (h : RI n r) (h' : RI n r') (hn : n ≤ big) (hlead : r'.hterm = r.hterm → LE r.log r'.log) (l : List Entry) (hl : l.length ≤ big) (hm : ∀ e ∈ l, e ∈ r.log.entries)
    (z : Start) (cs : List Call) (a : Int) (c : Call) (s : Snapshot) (hs : s.index = r.log.index) (v v' : Int) : ∀ (fuel k : Nat), k ≤ l.length → l.length < fuel + k →
    Sp (lawAppendsL11 z cs a c ⟨r.hterm, v⟩ r.commit s l r' ⟨r'.hterm, v'⟩ fuel k) (fun o => o = .inr ())
  | 0, k, h1, h2 => by omega
  | fuel + 1, k, h1, h2 => by
    have hl' := hl; have hn' := hn; unfold big at hl' hn'
    have hlc := h.lc; have htop := h.lg.top; have hlen := h.lg.len
    rw [lawAppendsL11]
    simp only [List.length_map]
    refine Sp.ite (fun h3 => ?_) (fun _ => Sp.ret rfl)
    have h3 := of_decide_eq_true h3
    refine Sp.ifp (by omega) ?_
    rw [Int.toNat_natCast]
    refine Sp.bind (Sp.get (by omega)) (fun e he => ?_)
    refine Sp.bind (R := fun _ => True) ⟨_, rfl, trivial⟩ (fun _ _ => ?_)
    obtain ⟨j, hj⟩ := List.getElem?_of_mem (hm e (List.mem_of_getElem? he))
    have hix := h.lg.idx j e hj
    have hjl : j < r.log.entries.length := by
      rcases Nat.lt_or_ge j r.log.entries.length with h4 | h4
      · exact h4
      · rw [List.getElem?_eq_none h4] at hj; cases hj
    rw [wi (x := (k : Int) + 1) (by omega) (by omega)]
    have hrec := apL11_sp h h' hn hlead l hl hm z cs a c s hs v v' fuel (k + 1) (by omega) (by omega)
    have hnot : (decide (r.commit < s.index)) = true → False := fun h4 => by have := of_decide_eq_true h4; omega
    refine Sp.bind (lTerm_sp h'.lg hn e.index) (fun o ho => ?_)
    obtain ⟨t, er⟩ := o
    obtain ⟨_, ho⟩ := ho
    dsimp only at ho ⊢
    refine Sp.ite (fun h4 => ?_) (fun _ => Sp.ite (fun h4 => (hnot h4).elim) (fun _ => hrec))
    have h4 : r.hterm = r'.hterm := eq_of_beq h4
    obtain ⟨more, hmore⟩ := hlead h4.symm
    have hj' : r'.log.entries[j]? = some e := by
      rw [hmore]; show (r.log.entries ++ more)[j]? = some e
      rw [List.getElem?_append_left hjl]; exact hj
    have hi' : r'.log.index = r.log.index := by rw [hmore]
    obtain ⟨h5, h6⟩ := ho (by omega) j e hj' (by omega)
    refine Sp.ite (fun h7 => by rw [h5] at h7; cases h7) (fun _ => Sp.ite (fun h7 => by rw [h6] at h7; simp at h7) (fun _ => ?_))
    exact Sp.ite (fun h4 => (hnot h4).elim) (fun _ => hrec)
theorem apL12_sp {n : Nat} {r r' : Raft} (h : RI n r) (h' : RI n r') (hn : n ≤ big) (l : List Entry) (hl : l.length ≤ big)
    (z : Start) (cs : List Call) (a : Int) (c : Call) (hd hd' : Hard) (s : Snapshot) (hs : s.index = r.log.index) : ∀ (fuel k : Nat), k ≤ l.length → l.length < fuel + k →
    Sp (lawAppendsL12 z cs a c hd r.commit s l r' hd' fuel k) (fun o => o = .inr ())
  | 0, k, h1, h2 => by omega
  | fuel + 1, k, h1, h2 => by
    have hl' := hl; unfold big at hl'
    have hlc := h.lc
    rw [lawAppendsL12]
    simp only [List.length_map]
    refine Sp.ite (fun h3 => ?_) (fun _ => Sp.ret rfl)
    have h3 := of_decide_eq_true h3
    refine Sp.ifp (by omega) ?_
    rw [Int.toNat_natCast]
    refine Sp.bind (Sp.get (by omega)) (fun e he => ?_)
    refine Sp.bind (R := fun _ => True) ⟨_, rfl, trivial⟩ (fun _ _ => ?_)
    rw [wi (x := (k : Int) + 1) (by omega) (by omega)]
    refine Sp.bind (lTerm_sp h'.lg hn e.index) (fun o ho => ?_)
    exact Sp.ite (fun h4 => by have := of_decide_eq_true h4; omega) (fun _ => apL12_sp h h' hn l hl z cs a c hd hd' s hs fuel (k + 1) (by omega) (by omega))

theorem apL1_sp (z : Start) (cs : List Call) (hok : ∀ c ∈ cs, CallOk c) : ∀ (fuel k n : Nat) (r : Raft), k ≤ cs.length → cs.length + 2 * big < fuel + k → n + cw (cs.drop k) + 100 ≤ big → cs.length ≤ big → RI n r →
    Sp (lawAppendsL1 z cs fuel k r) (fun o => ∃ r', o = .inr r')
  | 0, k, n, r, h1, h2, _, _, _ => by omega
  | fuel + 1, k, n, r, h1, h2, hn, hcl, h => by
    have hcl' := hcl; unfold big at hcl'
    rw [lawAppendsL1]
    simp only [List.length_map]
    refine Sp.ite (fun h3 => ?_) (fun _ => Sp.ret ⟨r, rfl⟩)
    have h3 := of_decide_eq_true h3
    refine Sp.ifp (by omega) ?_
    rw [Int.toNat_natCast]
    refine Sp.bind (Sp.get (by omega)) (fun c hc => ?_)
    have hcw := cw_drop cs k c hc
    rw [wi (x := (k : Int) + 1) (by omega) (by omega)]
    unfold rStatus
    refine Sp.bind (R := fun o => o = (r.role, r.leader, ⟨r.hterm, r.vote⟩, r.commit)) (Sp.ret rfl) (fun o ho => ?_)
    subst ho
    refine Sp.bind (R := fun _ => True) ⟨_, rfl, trivial⟩ (fun _ _ => ?_)
    unfold lFirst
    refine Sp.bind (R := fun o => o.index = r.log.index) (Sp.ret rfl) (fun s hs => ?_)
    refine Sp.bind (lGet_sp h.lg (by omega) _ _) (fun l hl => ?_)
    obtain ⟨hll, hlm⟩ := hl
    refine Sp.bind (apB_sp h c (hok c (List.mem_of_getElem? hc)) (by omega) fuel (by omega) _ _ _ _ _ _ _ _ _) (fun r' hr => ?_)
    obtain ⟨h', hst⟩ := hr
    refine Sp.bind (R := fun o => o = (r'.role, r'.leader, ⟨r'.hterm, r'.vote⟩, r'.commit)) (Sp.ret rfl) (fun o ho => ?_)
    subst ho
    dsimp only
    have hm : n ≤ n + c.letter_entries.length + 30 := by omega
    have hrec := apL1_sp z cs hok fuel (k + 1) (n + c.letter_entries.length + 30) r' (by omega) (by omega) (by omega) hcl h'
    have go : ∀ o : Unit ⊕ Unit, o = .inr () → Sp (sumC o (fun _ => (some (Sum.inl r'))) (fun _ => (lawAppendsL1 z cs fuel ((k : Int) + 1) r'))) (fun o => ∃ r', o = .inr r') := fun o ho => by
      subst ho; exact hrec
    have h12 := apL12_sp (h.mono hm) h' (by omega) l (by omega) z cs (k : Int) c ⟨r.hterm, r.vote⟩ ⟨r'.hterm, r'.vote⟩ s hs fuel 0 (by omega) (by omega)
    refine Sp.ite (fun h4 => ?_) (fun _ => Sp.bind h12 go)
    have h4 : r.role = 2 := eq_of_beq h4
    refine Sp.ite (fun _ => ?_) (fun _ => Sp.bind h12 go)
    exact Sp.bind (apL11_sp (h.mono hm) h' (by omega) (fun e => hst.ld h4 e) l (by omega) hlm z cs (k : Int) c s hs _ _ fuel 0 (by omega) (by omega)) go

set_option maxRecDepth 100000 in
theorem begun_any' (f : Nat) : lawBegun (f + 70) = some true := by kernel_rfl
theorem appends_true (z : Start) (cs : List Call) (hz : 0 ≤ z.snap_index ∧ z.snap_index < 18446744073709551616) (ht : 0 ≤ z.hard_term ∧ z.hard_term < 18446744073709551616)
    (hok : ∀ c ∈ cs, CallOk c) (hl : z.l.length ≤ 10000000) (hc : cs.length ≤ 10000000) (hw : cw cs ≤ 60000000) : lawAppends (4 * big + 70) z cs = some true := by
  have hce : ∀ c ∈ cs, c.letter_entries.length ≤ big := fun c h => by
    have h1 := cw_mem cs c h
    unfold big; omega
  have hb : big = 100000000 := rfl
  refine Sp.to ?_
  unfold lawAppends
  rw [begun_any']
  simp only [Option.bind_some, iteB_t]
  refine Sp.bind (light_sp z.l cs (by omega) (by omega) hce _ (by omega)) (fun b _ => Sp.ite (fun _ => ?_) (fun _ => Sp.ret rfl))
  refine Sp.bind (lNew_sp _ hz z.l (by omega) _ (by omega)) (fun o ho => Sp.sum (fun _ _ => Sp.ret rfl) (fun g hg => ?_))
  refine Sp.bind (rNew_sp (by omega) hz.1 (ho g hg) z.id _ ht) (fun o ho => Sp.sum (fun _ _ => Sp.ret rfl) (fun r hr => ?_))
  refine Sp.bind (apL1_sp z cs hok _ 0 z.l.length r (by omega) (by omega) (by simp only [List.drop_zero]; omega) (by omega) (ho r hr).1) (fun o ho => ?_)
  obtain ⟨r', rfl⟩ := ho
  exact Sp.ret rfl
end Sx
