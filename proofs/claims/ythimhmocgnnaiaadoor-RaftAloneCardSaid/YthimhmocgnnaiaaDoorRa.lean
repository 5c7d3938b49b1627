/- RaftAlone, in plain words: lawAlone answers true. -/
import Derived.Test.YthimhmocgnnaiaaDoorPw
import Derived.Test.YthimhmocgnnaiaaDoorRlAlone
namespace Sx
open Go Go.Proofs

def pw (i : Nat) : Int := (2 ^ i : Nat)
def mt (i : Nat) (n : Int) : List Int := ([0, 0, 0, 0, 0, 0, 0] : List Int).set i n
/-- The node that is alone, leading, with its entries. -/
def mkR (i : Nat) (es : List Entry) : Raft :=
  ⟨i, 1, i, ⟨0, 0, pw i, ByteArray.mk #[], es⟩, 2, i, (es.length : Nat), pw i, [1, 1, 1, 1, 1, 1, 1], mt i (es.length : Nat), es, false, [], true⟩
structure Good (es : List Entry) : Prop where
  pos : 0 < es.length
  idx : ∀ (j : Nat) (e : Entry), es[j]? = some e → e.index = (j : Int) + 1 ∧ e.term = 1 ∧ (e.kind == 2) = false

theorem aLast (g : Log) (es : List Entry) (hg : g.entries = es) (h : Good es) (hl : es.length < 1000000) : lLast g = some ((es.length : Int), 1) := by
  subst hg
  have h0 := h.pos
  obtain ⟨e, he⟩ : ∃ e, g.entries[g.entries.length - 1]? = some e := ⟨_, List.getElem?_eq_getElem (by omega)⟩
  obtain ⟨h1, h2, _⟩ := h.idx _ _ he
  refine Sp.to ?_
  unfold lLast
  simp only [List.length_map]
  rw [wi (x := ((g.entries.length : Nat) : Int) - 1) (by omega) (by omega)]
  refine Sp.ite (fun _ => ?_) (fun h3 => absurd (of_decide_eq_false h3) (by omega))
  refine Sp.ifp (by omega) ?_
  have hi : 0 + (((g.entries.length : Nat) : Int) - 1).toNat = g.entries.length - 1 := by omega
  rw [hi, he]
  refine Sp.ret ?_
  rw [h1, h2]
  congr 1; omega

theorem aSound (fuel : Nat) (hf : 12 ≤ fuel) (n k : Int) (h0 : 0 < n) (hk : k = 0 ∨ k = 1) (s : ByteArray) (hs : s.size ≤ 32768) :
    lSound fuel ⟨1, n, k, s⟩ n 1 = some true := by
  refine Sp.to ?_
  unfold lSound
  refine Sp.ite (fun h => absurd (eq_of_beq h) (by omega)) (fun _ => ?_)
  refine Sp.ite (fun h => by simp at h) (fun _ => ?_)
  refine Sp.ite (fun h => absurd (of_decide_eq_true h) (by simp)) (fun _ => ?_)
  refine Sp.ite (fun h => absurd (of_decide_eq_true h) (by simp only []; omega)) (fun _ => ?_)
  refine Sp.ite (fun h => absurd (of_decide_eq_true h) (by simp only []; omega)) (fun _ => ?_)
  refine Sp.ite (fun h => absurd (of_decide_eq_true h) (by simp only []; omega)) (fun _ => ?_)
  refine Sp.bind (configOf_tot s (Nat.le_trans hs (by decide)) fuel hf) (fun a _ => ?_)
  obtain ⟨x, y⟩ := a
  refine Sp.ite (fun _ => Sp.ret rfl) (fun h => ?_)
  rcases hk with rfl | rfl <;> cases h

theorem cut01 {α : Type} (x : α) : cut [x] 0 1 = [x] := rfl

theorem aAdd (fuel : Nat) (hf : 12 ≤ fuel) (g : Log) (es : List Entry) (hg : g.entries = es) (h : Good es) (hl : es.length < 1000) (k : Int) (hk : k = 0 ∨ k = 1) (s : ByteArray) (hs : s.size ≤ 32768) :
    lAdd fuel g 1 k s = some (⟨1, (es.length : Int) + 1, k, s⟩, 0, ⟨g.index, g.term, g.config, g.data, es ++ [⟨1, (es.length : Int) + 1, k, s⟩]⟩) := by
  unfold lAdd
  rw [aLast g es hg h (by omega)]
  simp only [Option.bind_some, wu (x := ((es.length : Nat) : Int) + 1) (by omega) (by omega)]
  rw [aSound fuel hf _ k (by omega) hk s hs]
  simp only [Option.bind_some, iteB_t, cut01, List.length_map, List.length_cons, List.length_nil, hg]
  refine Sp.to (Sp.ifp (by trivial) (Sp.ifp (by omega) (Sp.ret rfl)))

theorem aMembersAt (g : Log) (es : List Entry) (hg : g.entries = es) (h : Good es) (hl : es.length < 1000) (i : Int) :
    ∀ (fuel : Nat) (k : Nat), k ≤ es.length → k < fuel → lMembersAtL1 g i fuel ((k : Int) - 1) = some (.inr ())
  | 0, k, h1, h2 => by omega
  | fuel + 1, k, h1, h2 => by
    rw [lMembersAtL1]
    refine Sp.to (Sp.ite (fun h3 => ?_) (fun _ => Sp.ret rfl))
    have h3 := of_decide_eq_true h3
    obtain ⟨e, he⟩ : ∃ e, es[k - 1]? = some e := ⟨_, List.getElem?_eq_getElem (by omega)⟩
    refine Sp.ifp (by simp only [List.length_map, hg]; omega) ?_
    rw [show 0 + ((k : Int) - 1).toNat = k - 1 by omega, hg, he]
    simp only [Option.bind_some]
    rw [(h.idx _ _ he).2.2, iteB_f, wi (by omega) (by omega)]
    obtain ⟨k', rfl⟩ : ∃ k', k = k' + 1 := ⟨k - 1, by omega⟩
    have := aMembersAt g es hg h hl i fuel k' (by omega) (by omega)
    rw [show (((k' + 1 : Nat) : Int) - 1 - 1) = (k' : Int) - 1 by omega]
    exact ⟨_, this, rfl⟩

theorem aMembers (fuel : Nat) (g : Log) (es : List Entry) (hg : g.entries = es) (h : Good es) (hl : es.length < 1000) (hf : es.length < fuel) :
    lMembers fuel g = some (g.config, g.index) := by
  unfold lMembers lMembersAt
  simp only [List.length_map, hg]
  rw [wi (by omega) (by omega), aMembersAt g es hg h hl _ fuel es.length (Nat.le_refl _) hf]
  rfl

theorem good_add {es : List Entry} (h : Good es) (s : ByteArray) (k : Int) (hk : (k == 2) = false) : Good (es ++ [⟨1, (es.length : Int) + 1, k, s⟩]) := by
  refine ⟨by simp, fun j e he => ?_⟩
  rw [List.getElem?_append] at he
  split at he
  · exact h.idx j e he
  · rename_i h1
    have hj : j - es.length = 0 := by
      rcases Nat.eq_zero_or_pos (j - es.length) with h2 | h2
      · exact h2
      · rw [List.getElem?_eq_none (by simp; omega)] at he; cases he
    rw [hj] at he
    simp only [List.getElem?_cons_zero, Option.some.injEq] at he
    subst he
    exact ⟨by simp only []; omega, rfl, hk⟩

set_option maxRecDepth 100000 in
theorem qMembers_pw (i : Nat) (hi : i < 7) (fuel : Nat) : qMembers (fuel + 20) (pw i) = some [(i : Int)] :=
  match i, hi with
  | 0, _ => (by kernel_rfl : qMembers (fuel + 20) (pw 0) = some [((0 : Nat) : Int)])
  | 1, _ => (by kernel_rfl : qMembers (fuel + 20) (pw 1) = some [((1 : Nat) : Int)])
  | 2, _ => (by kernel_rfl : qMembers (fuel + 20) (pw 2) = some [((2 : Nat) : Int)])
  | 3, _ => (by kernel_rfl : qMembers (fuel + 20) (pw 3) = some [((3 : Nat) : Int)])
  | 4, _ => (by kernel_rfl : qMembers (fuel + 20) (pw 4) = some [((4 : Nat) : Int)])
  | 5, _ => (by kernel_rfl : qMembers (fuel + 20) (pw 5) = some [((5 : Nat) : Int)])
  | 6, _ => (by kernel_rfl : qMembers (fuel + 20) (pw 6) = some [((6 : Nat) : Int)])
set_option maxRecDepth 100000 in
theorem qHas_pw (i : Nat) (hi : i < 7) : qHas (pw i) i = some true :=
  match i, hi with
  | 0, _ => (by kernel_rfl : qHas (pw 0) ((0 : Nat) : Int) = some true)
  | 1, _ => (by kernel_rfl : qHas (pw 1) ((1 : Nat) : Int) = some true)
  | 2, _ => (by kernel_rfl : qHas (pw 2) ((2 : Nat) : Int) = some true)
  | 3, _ => (by kernel_rfl : qHas (pw 3) ((3 : Nat) : Int) = some true)
  | 4, _ => (by kernel_rfl : qHas (pw 4) ((4 : Nat) : Int) = some true)
  | 5, _ => (by kernel_rfl : qHas (pw 5) ((5 : Nat) : Int) = some true)
  | 6, _ => (by kernel_rfl : qHas (pw 6) ((6 : Nat) : Int) = some true)
set_option maxRecDepth 100000 in
theorem qReached_pw (i : Nat) (hi : i < 7) (fuel : Nat) (n : Int) : qReached (fuel + 20) (pw i) (cut (mt i n) 0 7) = some n :=
  match i, hi with
  | 0, _ => (by kernel_rfl : qReached (fuel + 20) (pw 0) (cut (mt 0 n) 0 7) = some n)
  | 1, _ => (by kernel_rfl : qReached (fuel + 20) (pw 1) (cut (mt 1 n) 0 7) = some n)
  | 2, _ => (by kernel_rfl : qReached (fuel + 20) (pw 2) (cut (mt 2 n) 0 7) = some n)
  | 3, _ => (by kernel_rfl : qReached (fuel + 20) (pw 3) (cut (mt 3 n) 0 7) = some n)
  | 4, _ => (by kernel_rfl : qReached (fuel + 20) (pw 4) (cut (mt 4 n) 0 7) = some n)
  | 5, _ => (by kernel_rfl : qReached (fuel + 20) (pw 5) (cut (mt 5 n) 0 7) = some n)
  | 6, _ => (by kernel_rfl : qReached (fuel + 20) (pw 6) (cut (mt 6 n) 0 7) = some n)
theorem mt_len (i : Nat) (n : Int) : (mt i n).length = 7 := by simp [mt]
theorem mt_set (i : Nat) (n m : Int) : (mt i n).set i m = mt i m := by simp [mt]

theorem aBeat (fuel : Nat) (hf : 20 ≤ fuel) (i : Nat) (hi : i < 7) (r : Raft) (hid : r.id = i) (hc : r.log.config = pw i) (hrole : r.role = 2) (es : List Entry) (hg : r.log.entries = es) (h : Good es) (hl : es.length < 1000) (hf2 : es.length < fuel) :
    rBeat fuel r = some r := by
  obtain ⟨f, rfl⟩ : ∃ f, fuel = f + 20 := ⟨fuel - 20, by omega⟩
  unfold rBeat rMembers
  rw [hrole, aMembers _ r.log es hg h hl hf2, hc]
  simp only [Option.bind_some]
  rw [qMembers_pw i hi]
  simp only [Option.bind_some]
  have h2 : rBeatL1 [(i : Int)] (f + 20) 0 r = some r := by
    rw [show f + 20 = (f + 18) + 1 + 1 by omega, rBeatL1]
    have h3 : (decide ((0 : Int) < (((List.map (rI .i64) [(i : Int)]).length : Nat) : Int))) = true := rfl
    rw [h3, iteB_t]
    refine Sp.to (Sp.ifp (Int.le_refl _) ?_)
    show Sp (iteB ((i : Int) != r.id) _ _) _
    rw [hid, bne_self_eq_false, iteB_f, rBeatL1]
    exact ⟨_, rfl, rfl⟩
  rw [h2]; rfl

theorem aTerm (g : Log) (es : List Entry) (hg : g.entries = es) (h : Good es) (hi : g.index = 0) (hl : es.length < 1000) : lTerm g (es.length : Nat) = some (1, 0) := by
  have h0 := h.pos
  obtain ⟨e, he⟩ : ∃ e, es[es.length - 1]? = some e := ⟨_, List.getElem?_eq_getElem (by omega)⟩
  have h1 : lAt g (es.length : Nat) = some ((es.length : Int) - 1) := by
    unfold lAt
    simp only [List.length_map, hg, hi]
    rw [wu (x := ((es.length : Nat) : Int) - 0) (by omega) (by omega), wu (x := ((es.length : Nat) : Int)) (by omega) (by omega), wu (by omega) (by omega), wi (by omega) (by omega)]
    refine Sp.to (Sp.ite (fun h2 => absurd (of_decide_eq_true h2) (by omega)) (fun _ => ?_))
    refine Sp.ite (fun h2 => absurd (of_decide_eq_true h2) (by omega)) (fun _ => Sp.ret (by omega))
  unfold lTerm
  rw [h1]
  simp only [Option.bind_some, List.length_map, hg]
  refine Sp.to (Sp.ite (fun _ => ?_) (fun h2 => absurd (of_decide_eq_false h2) (by omega)))
  refine Sp.ifp (by omega) ?_
  rw [show 0 + ((es.length : Int) - 1).toNat = es.length - 1 by omega, he]
  refine Sp.ret ?_
  rw [(h.idx _ _ he).2.1]

theorem aKeep (fuel : Nat) (hf : 0 < fuel) (r : Raft) (es : List Entry) (he : r.entries = es) (h : Good es) (hl : es.length < 1000) (e : Entry) (hi : e.index = (es.length : Int) + 1) :
    rKeep fuel r [e] = some { r with entries := es ++ [e] } := by
  obtain ⟨f, rfl⟩ : ∃ f, fuel = f + 1 := ⟨fuel - 1, by omega⟩
  have h0 := h.pos
  obtain ⟨x, hx⟩ : ∃ e, es[es.length - 1]? = some e := ⟨_, List.getElem?_eq_getElem (by omega)⟩
  have h1 : rKeepL1 [e] (f + 1) r = some r := by
    rw [rKeepL1]
    simp only [List.length_map, he]
    rw [wi (by omega) (by omega)]
    refine Sp.to (Sp.ite (fun _ => ?_) (fun h2 => absurd (of_decide_eq_false h2) (by omega)))
    refine Sp.ifp (by omega) ?_
    rw [show 0 + ((es.length : Int) - 1).toNat = es.length - 1 by omega, hx]
    show Sp (iteB (decide (x.index ≥ e.index)) _ _) _
    have hxi := (h.idx _ _ hx).1
    refine Sp.ite (fun h2 => absurd (of_decide_eq_true h2) (by omega)) (fun _ => Sp.ret rfl)
  unfold rKeep
  rw [h1]
  simp only [Option.bind_some, List.length_map, List.length_cons, List.length_nil, he]
  refine Sp.to (Sp.ite (fun h2 => by cases h2) (fun _ => ?_))
  exact Sp.ifp (by omega) (Sp.ret rfl)

theorem aAdvance (fuel : Nat) (hf : 20 ≤ fuel) (i : Nat) (hi : i < 7) (es : List Entry) (h : Good es) (hl : es.length < 1000) (hf2 : es.length < fuel) (c v : Int) (nx : List Int) (ks : List Entry) (b : Bool) (hc : c < (es.length : Int)) :
    rAdvance fuel ⟨i, 1, i, ⟨0, 0, pw i, ByteArray.mk #[], es⟩, 2, i, c, v, nx, mt i (es.length : Nat), ks, false, [], b⟩
      = some ⟨i, 1, i, ⟨0, 0, pw i, ByteArray.mk #[], es⟩, 2, i, (es.length : Nat), v, nx, mt i (es.length : Nat), ks, false, [], b⟩ := by
  obtain ⟨f, rfl⟩ : ∃ f, fuel = f + 20 := ⟨fuel - 20, by omega⟩
  unfold rAdvance rMembers
  rw [aMembers _ _ es rfl h hl hf2]
  simp only [Option.bind_some]
  refine Sp.to (Sp.ifp (by simp [cut, mt_len]) ?_)
  rw [qReached_pw i hi]
  simp only [Option.bind_some]
  rw [aTerm _ es rfl h rfl hl]
  simp only [Option.bind_some]
  refine Sp.ite (fun h => by cases h) (fun _ => ?_)
  refine Sp.ite (fun h => by cases h) (fun _ => ?_)
  refine Sp.ite (fun h => absurd (of_decide_eq_true h) (by omega)) (fun _ => ?_)
  refine Sp.ite (fun _ => ?_) (fun h2 => absurd (of_decide_eq_false h2) (by omega))
  rw [qHas_pw i hi]
  exact Sp.ret rfl

theorem aPropose (fuel : Nat) (hf : 20 ≤ fuel) (i : Nat) (hi : i < 7) (es : List Entry) (h : Good es) (hl : es.length < 998) (hf2 : es.length + 1 < fuel) (s : ByteArray) (hs : s.size ≤ 32768) :
    rPropose fuel (mkR i es) s = some ((es.length : Int) + 1, 0, mkR i (es ++ [⟨1, (es.length : Int) + 1, 1, s⟩])) := by
  have hg := good_add h s 1 rfl
  unfold rPropose rAdd
  rw [show (mkR i es).role = 2 from rfl, show (mkR i es).hterm = 1 from rfl, aAdd fuel (by omega) (mkR i es).log es rfl h (by omega) 1 (Or.inr rfl) s hs]
  simp only [Option.bind_some, cut01, List.length_map, List.length_cons, List.length_nil]
  refine Sp.to (Sp.ite (fun h => by cases h) (fun _ => ?_))
  refine Sp.bind (R := fun x => x = ((es.length : Int) + 1, 0, mkR i (es ++ [⟨1, (es.length : Int) + 1, 1, s⟩]))) ?_ (fun a ha => by subst ha; exact Sp.ret rfl)
  refine Sp.ite (fun h => by cases h) (fun _ => ?_)
  refine Sp.ifp (by trivial) ?_
  rw [aKeep fuel (by omega) _ es rfl h (by omega) _ rfl]
  simp only [Option.bind_some]
  refine Sp.ifp (by simp only [mkR]; omega) ?_
  have hm : (mkR i es).match_ = mt i (es.length : Nat) := rfl
  have hid : (mkR i es).id = i := rfl
  simp only [hm, hid, Int.toNat_natCast]
  refine Sp.bind (R := fun _ => True) ⟨_, List.getElem?_eq_getElem (by rw [mt_len]; exact hi), trivial⟩ (fun _ _ => ?_)
  rw [mt_set]
  have hlen : ((es ++ [(⟨1, (es.length : Int) + 1, 1, s⟩ : Entry)]).length : Int) = (es.length : Int) + 1 := by simp
  rw [aBeat fuel hf i hi _ rfl rfl rfl (es ++ [⟨1, (es.length : Int) + 1, 1, s⟩]) rfl hg (by simp; omega) (by simp; omega)]
  simp only [Option.bind_some, mkR]
  have := aAdvance fuel hf i hi _ hg (by simp; omega) (by simp; omega) (es.length : Nat) (pw i) [1, 1, 1, 1, 1, 1, 1] (es ++ [⟨1, (es.length : Int) + 1, 1, s⟩]) true (by rw [hlen]; omega)
  rw [hlen] at this
  rw [this]
  exact Sp.ret (by simp)
end Sx
