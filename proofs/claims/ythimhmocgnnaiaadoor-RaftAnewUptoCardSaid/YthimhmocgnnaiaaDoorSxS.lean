/- Regions whose order is open, fourth part: every order. -/
import Derived.Test.YthimhmocgnnaiaaDoorSxR
import Derived.Orders
namespace Sx
open Go

structure En where
  i : Nat
  o : Oper
  r : Rec

def Chain (P : Program) (g : Gl) (ops : Array Oper) (hs : List (Nat × Hn)) : List En → St → Prop
  | [], _ => True
  | x :: l, s => At P g ops hs x.i x.o x.r s ∧ Chain P g ops hs l (x.r.d.app x.o.dst s)

def endOf : List En → St → St
  | [], s => s
  | x :: l, s => endOf l (x.r.d.app x.o.dst s)

theorem bubble {P : Program} {g : Gl} {ops : Array Oper} {hs : List (Nat × Hn)} {y : En} {post : List En} : ∀ (pre : List En) (s : St), Chain P g ops hs (pre ++ y :: post) s →
    (∀ x ∈ pre, ncB ops hs x.i y.i x.o y.o x.r y.r = true) →
    At P g ops hs y.i y.o y.r s ∧ Chain P g ops hs (pre ++ post) (y.r.d.app y.o.dst s) ∧ endOf (pre ++ post) (y.r.d.app y.o.dst s) = endOf (pre ++ y :: post) s := by
  intro pre
  induction pre with
  | nil => intro s h _; exact ⟨h.1, h.2, rfl⟩
  | cons x l ih =>
    intro s h hn
    obtain ⟨h1, h2, h3⟩ := ih _ h.2 (fun z hz => hn z (List.mem_cons_of_mem _ hz))
    obtain ⟨k1, k2, k3⟩ := swap h.1 h1 (hn x List.mem_cons_self)
    refine ⟨k1, ⟨k2, ?_⟩, ?_⟩
    · show Chain P g ops hs (l ++ post) _
      rw [k3]; exact h2
    · show endOf (l ++ post) _ = _
      rw [k3]; exact h3

/-- Which operations come before one, as the bits of a number. -/
def preOf (acc : List Nat) : List Edge → Nat
  | [] => 0
  | e :: r => (if Region.binds .any e && decide (e.on < acc.length) then (1 <<< e.on) ||| acc.getD e.on 0 else 0) ||| preOf acc r

def preAll : List Oper → List Nat → List Nat
  | [], acc => acc
  | o :: r, acc => preAll r (acc ++ [preOf acc o.after.toList])

def PreOk (ops : Array Oper) (pm : List Nat) : Prop :=
  ∀ j i, (pm.getD j 0).testBit i = true → ∃ o e, ops[j]? = some o ∧ e ∈ o.after ∧ Region.binds .any e = true ∧ (e.on = i ∨ (e.on < j ∧ (pm.getD e.on 0).testBit i = true))

theorem preOf_ok {acc : List Nat} {i : Nat} : ∀ (l : List Edge), (preOf acc l).testBit i = true → ∃ e ∈ l, Region.binds .any e = true ∧ (e.on = i ∨ (e.on < acc.length ∧ (acc.getD e.on 0).testBit i = true)) := by
  intro l
  induction l with
  | nil => intro h; simp [preOf] at h
  | cons e r ih =>
    intro h
    simp only [preOf, Nat.testBit_or, Bool.or_eq_true] at h
    rcases h with h | h
    · split at h
      · rename_i hc
        simp only [Bool.and_eq_true, decide_eq_true_eq] at hc
        rw [Nat.testBit_or, Bool.or_eq_true] at h
        refine ⟨e, List.mem_cons_self, hc.1, ?_⟩
        rcases h with h | h
        · left
          rw [Nat.one_shiftLeft, Nat.testBit_two_pow] at h
          simpa using h
        · exact .inr ⟨hc.2, h⟩
      · simp at h
    · obtain ⟨e', h1, h2⟩ := ih h
      exact ⟨e', List.mem_cons_of_mem _ h1, h2⟩

theorem preAll_ok (ops : Array Oper) : ∀ (l : List Oper) (acc : List Nat), (∃ p, ops.toList = p ++ l ∧ p.length = acc.length) → PreOk ops acc → PreOk ops (preAll l acc) := by
  intro l
  induction l with
  | nil => intro acc _ h; exact h
  | cons o r ih =>
    rintro acc ⟨p, hp, hlen⟩ h
    refine ih _ ⟨p ++ [o], by rw [hp]; simp, by simp [hlen]⟩ ?_
    intro j i hb
    have hget : ∀ k, k < acc.length → (acc ++ [preOf acc o.after.toList]).getD k 0 = acc.getD k 0 := fun k hk => by
      simp [List.getElem?_append_left hk]
    rcases Nat.lt_trichotomy j acc.length with hlt | heq | hgt
    · rw [hget j hlt] at hb
      obtain ⟨o', e, h1, h2, h3, h4⟩ := h j i hb
      refine ⟨o', e, h1, h2, h3, h4.imp id fun h4 => ⟨h4.1, ?_⟩⟩
      rw [hget _ (by omega)]; exact h4.2
    · subst heq
      have : (acc ++ [preOf acc o.after.toList]).getD acc.length 0 = preOf acc o.after.toList := by simp
      rw [this] at hb
      obtain ⟨e, h1, h2, h3⟩ := preOf_ok _ hb
      refine ⟨o, e, ?_, by simpa using h1, h2, h3.imp id fun h3 => ⟨h3.1, by rw [hget _ h3.1]; exact h3.2⟩⟩
      rw [← Array.getElem?_toList, hp, ← hlen]; simp
    · have : (acc ++ [preOf acc o.after.toList]).getD j 0 = 0 := by
        simp only [List.getD_eq_getElem?_getD]
        rw [List.getElem?_eq_none (by simp; omega)]; rfl
      rw [this] at hb; simp at hb

/-- Everything ahead of a ready one has run. -/
theorem pre_listed {ops : Array Oper} {pm : List Nat} (hpm : PreOk ops pm) {listed : Array Bool}
    (hd : ∀ j o, listed.getD j false = true → ops[j]? = some o → ∀ e ∈ o.after, Region.binds .any e = true → listed.getD e.on false = true) :
    ∀ (j i : Nat), (∀ o, ops[j]? = some o → ∀ e ∈ o.after, Region.binds .any e = true → listed.getD e.on false = true) → (pm.getD j 0).testBit i = true → listed.getD i false = true := by
  intro j
  induction j using Nat.strongRecOn with
  | ind j ih =>
    intro i hj hb
    obtain ⟨o, e, h1, h2, h3, h4⟩ := hpm j i hb
    have hl := hj o h1 e h2 h3
    rcases h4 with rfl | ⟨hlt, h4⟩
    · exact hl
    · exact ih e.on hlt i (fun o' ho' => hd e.on o' hl ho') h4

def TopoL (L : Nat → Prop) : List En → Prop
  | [] => True
  | x :: l => (∀ e ∈ x.o.after, Region.binds .any e = true → L e.on) ∧ TopoL (fun k => L k ∨ k = x.i) l

theorem TopoL.mono : ∀ (l : List En) {L L' : Nat → Prop}, (∀ k, L k → L' k) → TopoL L l → TopoL L' l := by
  intro l
  induction l with
  | nil => intro _ _ _ _; trivial
  | cons x r ih => intro L L' h ht; exact ⟨fun e he hb => h _ (ht.1 e he hb), ih (fun k hk => hk.imp (h k) id) ht.2⟩

theorem TopoL.drop {y : En} {post : List En} : ∀ (pre : List En) {L : Nat → Prop}, TopoL L (pre ++ y :: post) → TopoL (fun k => L k ∨ k = y.i) (pre ++ post) := by
  intro pre
  induction pre with
  | nil => intro L h; exact h.2
  | cons x r ih =>
    intro L h
    refine ⟨fun e he hb => .inl (h.1 e he hb), ?_⟩
    exact TopoL.mono _ (fun k hk => by rcases hk with (h | h) | h; exact .inl (.inl h); exact .inr h; exact .inl (.inr h)) (ih h.2)

structure Left (P : Program) (g : Gl) (ops : Array Oper) (hs : List (Nat × Hn)) (pm : List Nat) (listed : Array Bool) (rest : List En) (s : St) : Prop where
  chain : Chain P g ops hs rest s
  pair : rest.Pairwise fun x y => ncB ops hs x.i y.i x.o y.o x.r y.r = true ∨ (pm.getD y.i 0).testBit x.i = true
  topo : TopoL (fun k => listed.getD k false = true) rest
  mem : ∀ j, listed.getD j true = false ↔ ∃ x ∈ rest, x.i = j
  nodup : (rest.map (·.i)).Nodup
  down : ∀ j o, listed.getD j false = true → ops[j]? = some o → ∀ e ∈ o.after, Region.binds .any e = true → listed.getD e.on false = true
  all : ∀ x ∈ rest, x.r.p

theorem Chain.at {P : Program} {g : Gl} {ops : Array Oper} {hs : List (Nat × Hn)} : ∀ (l : List En) (s : St), Chain P g ops hs l s → ∀ x ∈ l, ops[x.i]? = some x.o := by
  intro l
  induction l with
  | nil => intro _ _ x hx; cases hx
  | cons y r ih =>
    intro s h x hx
    rcases List.mem_cons.1 hx with rfl | hx
    · exact h.1.op
    · exact ih _ h.2 x hx

theorem getD_two {l : Array Bool} {j : Nat} : l.getD j false = true → l.getD j true = true := by
  intro h
  simp only [Array.getD_eq_getD_getElem?] at h ⊢
  cases hq : l[j]? with
  | none => rfl
  | some b => rw [hq] at h; exact h

theorem any_ok {P : Program} {g : Gl} {ops : Array Oper} {hs : List (Nat × Hn)} {pm : List Nat} (hpm : PreOk ops pm) {R : Pl} {w0 : World} {e0 : Env} {H0 : List O} {Q : Exit → Act → World → Prop} {s' : St}
    (hQ : ∀ a' w' e', StOk g R w0 e0 H0 w' a' e' s' → Q .normal a' w') : ∀ (n : Nat) (rest : List En) (s : St) (listed : Array Bool), rest.length = n → Left P g ops hs pm listed rest s → endOf rest s = s' →
    ∀ (w : World) (a : Act) (e : Env), StOk g R w0 e0 H0 w a e s → wpAny P .any ops Q n listed a w := by
  intro n
  induction n with
  | zero =>
    intro rest s listed hl h he w a e ho
    cases rest with
    | cons _ _ => cases hl
    | nil =>
      refine ⟨?_, hQ a w e (he ▸ ho)⟩
      rw [List.eq_nil_iff_forall_not_mem]
      intro j hj
      obtain ⟨hj, _⟩ := mem_ready.1 hj
      obtain ⟨x, hx, _⟩ := (h.mem j).1 hj
      cases hx
  | succ n ih =>
    intro rest s listed hl h he w a e ho
    refine ⟨fun hr => ?_, fun j hj => ?_⟩
    · exfalso
      cases rest with
      | nil => cases hl
      | cons x r =>
        have : x.i ∈ Region.ready .any ops listed := mem_ready.2 ⟨(h.mem x.i).2 ⟨x, List.mem_cons_self, rfl⟩, x.o, h.chain.1.op, h.topo.1⟩
        rw [hr] at this; cases this
    · obtain ⟨hun, oj, hoj, hall⟩ := mem_ready.1 hj
      obtain ⟨y, hy, rfl⟩ := (h.mem j).1 hun
      obtain ⟨pre, post, rfl⟩ := List.append_of_mem hy
      have hyo := Chain.at _ _ h.chain y hy
      have hlisted : ∀ i, (pm.getD y.i 0).testBit i = true → listed.getD i false = true := fun i hi =>
        pre_listed hpm h.down y.i i (fun o ho' => by rw [hoj] at ho'; cases ho'; exact hall) hi
      have hnc : ∀ x ∈ pre, ncB ops hs x.i y.i x.o y.o x.r y.r = true := fun x hx => by
        rcases (List.pairwise_append.1 h.pair).2.2 x hx y List.mem_cons_self with h1 | h1
        · exact h1
        · have h2 := getD_two (hlisted _ h1)
          have h3 := (h.mem x.i).2 ⟨x, List.mem_append_left _ hx, rfl⟩
          rw [h2] at h3; cases h3
      obtain ⟨hat, hch, hend⟩ := bubble pre s h.chain hnc
      refine stepAt_ok hat.step (h.all y hy) ho (fun a' w' e' ho' => ?_)
      have hdst : dstOf ops y.i = y.o.dst := by simp [dstOf, hyo]
      rw [hdst] at ho'
      have hnd : ∀ x ∈ pre ++ post, x.i ≠ y.i := fun x hx heq => by
        have hn := h.nodup
        rw [List.map_append, List.map_cons, List.nodup_append] at hn
        rcases List.mem_append.1 hx with hx | hx
        · exact hn.2.2 x.i (List.mem_map_of_mem hx) y.i List.mem_cons_self heq
        · exact (List.nodup_cons.1 hn.2.1).1 (heq ▸ List.mem_map_of_mem hx)
      have hy' : y.i < listed.size := by
        rcases Nat.lt_or_ge y.i listed.size with h' | h'
        · exact h'
        · rw [Array.getD_eq_getD_getElem?, Array.getElem?_eq_none h'] at hun; cases hun
      refine ih (pre ++ post) _ _ (by simp at hl ⊢; omega) ⟨hch, ?_, ?_, ?_, ?_, ?_, ?_⟩ (hend.trans he) w' a' e' ho'
      · exact h.pair.sublist (List.Sublist.append_left (List.sublist_cons_self _ _) _)
      · refine TopoL.mono _ (fun k hk => ?_) (TopoL.drop pre h.topo)
        rcases hk with hk | rfl
        · exact getD_set_true hk
        · simp [hy']
      · intro k
        by_cases hk : k = y.i
        · subst hk
          constructor
          · intro h1; simp [hy'] at h1
          · rintro ⟨x, hx, hxe⟩; exact absurd hxe (hnd x hx)
        · rw [getD_set_ne true (Ne.symm hk), h.mem k]
          constructor
          · rintro ⟨x, hx, rfl⟩
            refine ⟨x, ?_, rfl⟩
            rcases List.mem_append.1 hx with hx | hx
            · exact List.mem_append_left _ hx
            · rcases List.mem_cons.1 hx with rfl | hx
              · exact absurd rfl hk
              · exact List.mem_append_right _ hx
          · rintro ⟨x, hx, rfl⟩
            refine ⟨x, ?_, rfl⟩
            rcases List.mem_append.1 hx with hx | hx
            · exact List.mem_append_left _ hx
            · exact List.mem_append_right _ (List.mem_cons_of_mem _ hx)
      · exact h.nodup.sublist (List.Sublist.map _ (List.Sublist.append_left (List.sublist_cons_self _ _) _))
      · intro k o hk hok e he' hb
        by_cases hky : k = y.i
        · subst hky
          rw [hoj] at hok; cases hok
          exact getD_set_true (hall e he' hb)
        · rw [getD_set_ne false (Ne.symm hky)] at hk
          exact getD_set_true (h.down k o hk hok e he' hb)
      · intro x hx
        refine h.all x ?_
        rcases List.mem_append.1 hx with hx | hx
        · exact List.mem_append_left _ hx
        · exact List.mem_append_right _ (List.mem_cons_of_mem _ hx)

/-- The canonical run, with what each step looked at. -/
def runR (P : Program) (g : Gl) (ops : Array Oper) (hs : List (Nat × Hn)) (L0 : Nat) : List Nat → St → Option (List En × St × Prop)
  | [], s => some ([], s, True)
  | i :: r, s => match ops[i]? with
    | none => none
    | some o => match stepAt P g ops hs i s with
      | some (d, p) => match runR P g ops hs L0 r (d.app o.dst s) with
        | some (l, s', q) => some (⟨i, o, { d := d, p := p, τ := eva s.tm, len := if tight (lookH hs i).it then L0 else s.hp.length }⟩ :: l, s', p ∧ q)
        | none => none
      | none => none

theorem runR_ok {P : Program} {g : Gl} {ops : Array Oper} {hs : List (Nat × Hn)} {L0 : Nat} : ∀ (is : List Nat) (s : St) (l : List En) (s' : St) (p : Prop), L0 ≤ s.hp.length → runR P g ops hs L0 is s = some (l, s', p) →
    Chain P g ops hs l s ∧ endOf l s = s' ∧ l.map (·.i) = is ∧ (p → ∀ x ∈ l, x.r.p) := by
  intro is
  induction is with
  | nil => intro s l s' p _ h; simp only [runR, Option.some.injEq, Prod.mk.injEq] at h; obtain ⟨rfl, rfl, rfl⟩ := h; exact ⟨trivial, rfl, rfl, fun _ x hx => by cases hx⟩
  | cons i r ih =>
    intro s l s' p hL h
    simp only [runR] at h
    split at h
    · cases h
    · rename_i o ho
      split at h
      · rename_i d p1 hst
        split at h
        · rename_i l1 s1 q1 hr
          simp only [Option.some.injEq, Prod.mk.injEq] at h
          obtain ⟨rfl, rfl, rfl⟩ := h
          obtain ⟨h1, h2, h3, h4⟩ := ih _ _ _ _ (by simp only [Del.app, hp_length]; omega) hr
          refine ⟨⟨⟨ho, hst, fun _ _ => rfl, fun _ => ⟨fun ht => by rw [ht]; exact hL, fun ht => by rw [ht]; rfl⟩⟩, h1⟩, h2, by simp [h3], fun hp x hx => ?_⟩
          rcases List.mem_cons.1 hx with rfl | hx
          · exact hp.1
          · exact h4 hp.2 x hx
        · cases h
      · cases h

def pairB (ops : Array Oper) (hs : List (Nat × Hn)) (pm : List Nat) : List En → Bool
  | [] => true
  | x :: l => l.all (fun y => (pm.getD y.i 0).testBit x.i || ncB ops hs x.i y.i x.o y.o x.r y.r) && pairB ops hs pm l

theorem pairB_ok {ops : Array Oper} {hs : List (Nat × Hn)} {pm : List Nat} : ∀ (l : List En), pairB ops hs pm l = true → l.Pairwise fun x y => ncB ops hs x.i y.i x.o y.o x.r y.r = true ∨ (pm.getD y.i 0).testBit x.i = true := by
  intro l
  induction l with
  | nil => intro _; exact .nil
  | cons x l ih =>
    intro h
    simp only [pairB, Bool.and_eq_true, List.all_eq_true, Bool.or_eq_true] at h
    exact .cons (fun y hy => (h.1 y hy).symm) (ih h.2)

def topoB : List En → List Nat → Bool
  | [], _ => true
  | x :: l, seen => x.o.after.toList.all (fun e => !Region.binds .any e || seen.contains e.on) && !seen.contains x.i && topoB l (x.i :: seen)

theorem topoB_ok : ∀ (l : List En) (seen : List Nat) (L : Nat → Prop), (∀ k ∈ seen, L k) → topoB l seen = true → TopoL L l ∧ (l.map (·.i)).Nodup ∧ ∀ x ∈ l, x.i ∉ seen := by
  intro l
  induction l with
  | nil => intro _ _ _ _; exact ⟨trivial, List.nodup_nil, fun _ h => by cases h⟩
  | cons x l ih =>
    intro seen L hL h
    simp only [topoB, Bool.and_eq_true, Bool.not_eq_true', List.all_eq_true, Bool.or_eq_true, Bool.not_eq_true'] at h
    obtain ⟨⟨h1, h2⟩, h3⟩ := h
    obtain ⟨k1, k2, k3⟩ := ih (x.i :: seen) (fun k => L k ∨ k = x.i) (fun k hk => by rcases List.mem_cons.1 hk with rfl | hk; exact .inr rfl; exact .inl (hL k hk)) h3
    have hx : x.i ∉ seen := fun hm => by rw [List.contains_iff_mem.2 hm] at h2; cases h2
    refine ⟨⟨fun e he hb => ?_, k1⟩, ?_, fun y hy => ?_⟩
    · rcases h1 e (by simpa using he) with h | h
      · rw [hb] at h; cases h
      · exact hL _ (List.contains_iff_mem.1 h)
    · rw [List.map_cons, List.nodup_cons]
      refine ⟨fun hm => ?_, k2⟩
      obtain ⟨y, hy, he⟩ := List.mem_map.1 hm
      exact k3 y hy (he ▸ List.mem_cons_self)
    · rcases List.mem_cons.1 hy with rfl | hy
      · exact hx
      · exact fun hm => k3 y hy (List.mem_cons_of_mem _ hm)

/-- A region whose order is open: the run in the told order, checked to be every order's. -/
def runAny (P : Program) (g : Gl) (ops : Array Oper) (hs : List (Nat × Hn)) (is : List Nat) (s : St) : Option (St × Prop) :=
  match runR P g ops hs s.hp.length is s with
  | none => none
  | some (l, s', p) =>
    if l.length == ops.size && (List.range ops.size).all (is.contains ·) && topoB l [] && pairB ops hs (preAll ops.toList []) l then some (s', p) else none

theorem runAny_ok {P : Program} {g : Gl} {ops : Array Oper} {hs : List (Nat × Hn)} {is : List Nat} {s s' : St} {p : Prop} (h : runAny P g ops hs is s = some (s', p)) (hp : p)
    {R : Pl} {w0 : World} {e0 : Env} {H0 : List O} {Q : Exit → Act → World → Prop} {w : World} {a : Act} {e : Env} (ho : StOk g R w0 e0 H0 w a e s)
    (hQ : ∀ a' w' e', StOk g R w0 e0 H0 w' a' e' s' → Q .normal a' w') : wpAny P .any ops Q ops.size (Array.replicate ops.size false) a w := by
  unfold runAny at h
  split at h
  · cases h
  · rename_i l s1 p1 hr
    split at h
    · rename_i hc
      simp only [Option.some.injEq, Prod.mk.injEq] at h
      obtain ⟨rfl, rfl⟩ := h
      simp only [Bool.and_eq_true, beq_iff_eq] at hc
      obtain ⟨⟨⟨c1, c2⟩, c3⟩, c4⟩ := hc
      obtain ⟨k1, k2, k3, k4⟩ := runR_ok _ _ _ _ _ (Nat.le_refl _) hr
      obtain ⟨t1, t2, _⟩ := topoB_ok l [] (fun _ => False) (fun _ h => by cases h) c3
      have hpm : PreOk ops (preAll ops.toList []) := preAll_ok ops ops.toList [] ⟨[], by simp, rfl⟩ (fun j i hb => by simp at hb)
      refine any_ok hpm hQ ops.size l s _ c1 ⟨k1, pairB_ok l c4, TopoL.mono _ (fun _ h => h.elim) t1, ?_, t2, ?_, k4 hp⟩ k2 w a e ho
      · intro j
        constructor
        · intro hj
          have hlt : j < ops.size := by
            rcases Nat.lt_or_ge j ops.size with h | h
            · exact h
            · simp [h] at hj
          have := List.all_eq_true.1 c2 j (List.mem_range.2 hlt)
          rw [List.contains_iff_mem, ← k3] at this
          obtain ⟨x, hx, he⟩ := List.mem_map.1 this
          exact ⟨x, hx, he⟩
        · rintro ⟨x, hx, rfl⟩
          have hlt := (Array.getElem?_eq_some_iff.1 (Chain.at _ _ k1 x hx)).1
          simp [hlt]
      · intro j o hj _ e _ _
        exfalso
        rcases Nat.lt_or_ge j ops.size with h | h
        · simp [h] at hj
        · simp [h] at hj
    · cases h
end Sx
