/- The executor over code; loops; a function's contract from its body. -/
import Derived.Test.YthimhmocgnnaiaaDoorSxT
namespace Sx
open Go

theorem RelT.killStepNil {w w' : World} {e e' : Env} {M M' : Pl} {t : T} {u : Value} {n : Nat} (h : RelT w e M t u) (hb : t.below n)
    (hp : ∀ k, k < n → e'.β k = e.β k ∧ e'.κ k = e.κ k)
    (hm : ∀ b o v, w.cell? ⟨b, o, none⟩ = some v → ¬ M b o → w'.cell? ⟨b, o, none⟩ = some v ∧ ¬ M' b o) : RelT w' e' M' t u := by
  have := RelT.killStep (ks := []) h hb (fun k hk _ => hp k hk) hm
  have hc : ∀ c : C, killC [] c = c := fun c => by unfold killC; cases c.key <;> rfl
  have hc' : killC [] = id := funext hc
  have hA : killA [] = id := funext fun v => by cases v <;> simp [killA, hc']
  have hid : killT [] t = t := by cases t <;> simp [killT, hA]
  rw [hid] at this
  exact this

/-- A nil slice counts as a row of ours from here on. -/
def adoptT (esz len : Nat) (v : T) : Option T :=
  match v.lit with
  | some (.slice _ 0 0) => some (.a (.s (.sl len 0 esz 0 0)))
  | _ => none

theorem adoptT_rel {w w' : World} {e e' : Env} {M M' : Pl} {esz len : Nat} {v v' : T} {u : Value} (h : adoptT esz len v = some v') (hr : RelT w e M v u) : RelT w' e' M' v' u := by
  unfold adoptT at h
  split at h
  · rename_i a hl
    cases h
    have := T.lit_rel hl hr
    subst this
    exact .sl0 _ _ _ _ _
  · cases h

/-- A cell of an object is put in another light. -/
def adoptC (esz len : Nat) (ss : List Slot) (off : Nat) : Option (List Slot) :=
  match getC ss off with
  | some c => match adoptT esz len (.a (.s c)) with
    | some (.a (.s c')) => setC ss off c'
    | _ => none
  | none => none

theorem StOk.empty {g : Gl} {R : Pl} {w0 : World} {e0 : Env} {H0 : List O} {w : World} {a : Act} {e : Env} {s : St} (h : StOk g R w0 e0 H0 w a e s) (esz : Nat) :
    ∃ e', StOk g R w0 e0 H0 w a e' { s with hp := s.hp ++ [.arr esz []] } := by
  obtain ⟨h1, h2⟩ := h.sat.empty h.closed esz
  refine ⟨_, h1, ?_, ?_, ?_, h.len, h.defers, h.ext.trans (mv' := s.mv) (h2.weaken (fun _ h => by cases h)) h.hl (fun _ hk => hk), ?_⟩
  · intro k obj o v hk hh j hj
    rw [List.length_append, List.length_singleton]
    rcases append_get s.hp _ obj k hk with ⟨rfl, rfl⟩ | ⟨hlt, hk⟩
    · exact absurd hj (nosrc (nil_wf esz) hh j)
    · exact Nat.lt_succ_of_lt (h.closed k obj o v hk hh j hj)
  · intro t v ht
    exact RelT.killStepNil (h.tms t v ht) (h.below t v ht) (fun k hk => h2.pins k hk (by simp)) (h2.mem (R := R))
  · intro t v ht c hc k hk
    rw [List.length_append]
    exact Nat.lt_of_lt_of_le (h.below t v ht c hc k hk) (Nat.le_add_right _ _)
  · simp only [List.length_append]; exact Nat.le_trans h.hl (Nat.le_add_right _ _)

theorem StOk.adoptC {g : Gl} {R : Pl} {w0 : World} {e0 : Env} {H0 : List O} {w : World} {a : Act} {e : Env} {s : St} (h : StOk g R w0 e0 H0 w a e s) {k off esz len : Nat} {ss ss' : List Slot}
    (hk : s.hp[k]? = some (.cells ss)) (hlen : len < s.hp.length) (ha : Sx.adoptC esz len ss off = some ss') : StOk g R w0 e0 H0 w a e { s with hp := s.hp.set k (.cells ss') } := by
  unfold Sx.adoptC at ha
  split at ha
  · rename_i c hc
    split at ha
    · rename_i c' hc'
      obtain ⟨h1, h2, h3, h4⟩ := setC_spec ss off c' ss' ha 0
      have hw := h.sat.wf k _ hk
      have hkey : ∀ j, c'.key = some j → j = len := fun j hj => by
        unfold adoptT at hc'
        split at hc'
        · cases hc'; exact (Option.some.inj hj).symm
        · cases hc'
      obtain ⟨s1, x1⟩ := h.sat.write (w' := w) (obj' := .cells ss') hk (fun o => h1 o) (h2 _ hw) rfl (fun _ _ => rfl) ⟨rfl, rfl⟩ (fun _ _ _ => rfl) (fun _ h => h) (fun _ => rfl) (fun _ => rfl) (fun o v hv => by
        rcases h4 (e.κ k) o v hw hv with ⟨h5, rfl⟩ | ⟨_, h5⟩
        · have h6 := getC_has ss off c 0 hc
          obtain ⟨u, h7, h8⟩ := h.sat.has k _ _ c hk h6
          rw [h5]
          exact ⟨u, h7, (adoptT_rel (v := .a (.s c)) hc' h8 : RelT w e _ (.a (.s v)) u)⟩
        · exact h.sat.has k _ o v hk h5)
      refine h.hpWeak (by simp) s1 x1 ?_
      intro k' obj o v hk' hv j hj
      rw [List.length_set]
      rcases set_get s.hp k k' _ obj hk' with ⟨rfl, rfl⟩ | ⟨_, hk'⟩
      · rcases h4 (e.κ k') o v hw hv with ⟨_, rfl⟩ | ⟨_, h5⟩
        · rw [hkey j hj]; exact hlen
        · exact h.closed k' _ o v hk h5 j hj
      · exact h.closed k' obj o v hk' hv j hj
    · cases ha
  · cases ha

inductive Sc where
  | reg (hs : List (Nat × Hn)) (is : List Nat)
  | dec (b : Bool)
  | claim (ex : Exit) (s' : St)
  | bclaim (ex : Exit) (s' : St)
  | gh (x : Gh)
  | adopt (t esz : Nat)
  | adoptC (k off esz : Nat)
  | eqT (t : Nat) (v : T)
  | eqO (k : Nat) (o : O)

/-- The commands ahead of a piece. -/
def ghosts : List Sc → St → Option (List Sc × St × List Prop)
  | .gh (.lend fr) :: r, s => match ghosts r ((Gh.lend fr).go s).1 with
    | some (r', s', p) => some (r', s', ((Gh.lend fr).go s).2 :: p)
    | none => none
  | .gh x :: r, s => ghosts r (x.go s).1
  | .adopt t esz :: r, s => match (s.tm[t]?).bind (adoptT esz s.hp.length) with
    | some v => ghosts r { s with tm := s.tm.set t v, hp := s.hp ++ [.arr esz []] }
    | none => none
  | .adoptC k off esz :: r, s => match s.hp[k]? with
    | some (.cells ss) => match adoptC esz s.hp.length ss off with
      | some ss' => ghosts r { s with hp := (s.hp ++ [O.arr esz []]).set k (.cells ss') }
      | none => none
    | _ => none
  | .eqT t v :: r, s => match s.tm[t]? with
    | some v0 => match ghosts r { s with tm := s.tm.set t v } with
      | some (r', s', p) => some (r', s', (v0 = v) :: p)
      | none => none
    | none => none
  | .eqO k o :: r, s => match s.hp[k]? with
    | some o0 => match ghosts r { s with hp := s.hp.set k o } with
      | some (r', s', p) => some (r', s', (o0 = o) :: p)
      | none => none
    | none => none
  | r, s => some (r, s, [])

/-- A run, that every state behind it is told of. -/
def Leads (g : Gl) (s s' : St) : Prop :=
  ∀ (R : Pl) (w0 : World) (e0 : Env) (H0 : List O) (w : World) (a : Act) (e : Env), StOk g R w0 e0 H0 w a e s → ∃ e', StOk g R w0 e0 H0 w a e' s'

theorem Leads.refl (g : Gl) (s : St) : Leads g s s := fun _ _ _ _ _ _ e h => ⟨e, h⟩
theorem Leads.trans {g : Gl} {s s1 s2 : St} (h : Leads g s s1) (h' : Leads g s1 s2) : Leads g s s2 := fun R w0 e0 H0 w a e ho => by
  obtain ⟨e1, h1⟩ := h R w0 e0 H0 w a e ho
  exact h' R w0 e0 H0 w a e1 h1

theorem StOk.put {g : Gl} {R : Pl} {w0 : World} {e0 : Env} {H0 : List O} {w : World} {a : Act} {e : Env} {s : St} (h : StOk g R w0 e0 H0 w a e s) {t : Nat} {v : T} (hr : RelT w e (Mut e R s.hp) v (a.tmps.getD t undef)) (hb : v.below s.hp.length) :
    StOk g R w0 e0 H0 w a e { s with tm := s.tm.set t v } where
  sat := h.sat
  closed := h.closed
  tms := fun t' v' ht => by
    rcases set_get s.tm t t' v v' ht with ⟨rfl, rfl⟩ | ⟨_, ht⟩
    · exact hr
    · exact h.tms t' v' ht
  below := fun t' v' ht => by
    rcases set_get s.tm t t' v v' ht with ⟨rfl, rfl⟩ | ⟨_, ht⟩
    · exact hb
    · exact h.below t' v' ht
  len := by simpa using h.len
  defers := h.defers
  ext := h.ext
  hl := h.hl

theorem ghosts_ok {g : Gl} : ∀ (sc : List Sc) (s : St) (sc' : List Sc) (s' : St) (p : List Prop), ghosts sc s = some (sc', s', p) → pall p → Leads g s s' := by
  intro sc
  induction sc with
  | nil => intro s sc' s' p h _; simp only [ghosts, Option.some.injEq, Prod.mk.injEq] at h; obtain ⟨_, rfl, _⟩ := h; exact Leads.refl g s
  | cons c r ih =>
    intro s sc' s' p h hp
    cases c with
    | reg hs is => simp only [ghosts, Option.some.injEq, Prod.mk.injEq] at h; obtain ⟨_, rfl, _⟩ := h; exact Leads.refl g s
    | dec b => simp only [ghosts, Option.some.injEq, Prod.mk.injEq] at h; obtain ⟨_, rfl, _⟩ := h; exact Leads.refl g s
    | claim ex s1 => simp only [ghosts, Option.some.injEq, Prod.mk.injEq] at h; obtain ⟨_, rfl, _⟩ := h; exact Leads.refl g s
    | bclaim ex s1 => simp only [ghosts, Option.some.injEq, Prod.mk.injEq] at h; obtain ⟨_, rfl, _⟩ := h; exact Leads.refl g s
    | gh x =>
      cases x with
      | lend fr =>
        simp only [ghosts] at h
        split at h
        · rename_i r1 s1 p1 hr
          simp only [Option.some.injEq, Prod.mk.injEq] at h
          obtain ⟨rfl, rfl, rfl⟩ := h
          exact Leads.trans (fun R w0 e0 H0 w a e ho => ⟨e, Gh.ok (.lend fr) hp.1 ho⟩) (ih _ _ _ _ hr hp.2)
        · cases h
      | keep ts => exact Leads.trans (fun R w0 e0 H0 w a e ho => ⟨e, Gh.ok (.keep ts) trivial ho⟩) (ih _ _ _ _ h hp)
      | forget ts => exact Leads.trans (fun R w0 e0 H0 w a e ho => ⟨e, Gh.ok (.forget ts) trivial ho⟩) (ih _ _ _ _ h hp)
      | drop ks => exact Leads.trans (fun R w0 e0 H0 w a e ho => ⟨e, Gh.ok (.drop ks) trivial ho⟩) (ih _ _ _ _ h hp)
      | mv ks => exact Leads.trans (fun R w0 e0 H0 w a e ho => ⟨e, Gh.ok (.mv ks) trivial ho⟩) (ih _ _ _ _ h hp)
      | trim k n => exact Leads.trans (fun R w0 e0 H0 w a e ho => ⟨e, Gh.ok (.trim k n) trivial ho⟩) (ih _ _ _ _ h hp)
    | adopt t esz =>
      simp only [ghosts] at h
      split at h
      · rename_i v hv
        refine Leads.trans (fun R w0 e0 H0 w a e ho => ?_) (ih _ _ _ _ h hp)
        rw [Option.bind_eq_some_iff] at hv
        obtain ⟨v0, hv0, hv⟩ := hv
        obtain ⟨e1, h1⟩ := ho.empty esz
        refine ⟨e1, h1.put (adoptT_rel hv (ho.tms t v0 hv0)) ?_⟩
        intro c hc k hk
        unfold adoptT at hv
        split at hv
        · cases hv
          simp only [T.cs, List.mem_singleton] at hc
          subst hc
          simp only [C.key, Option.some.injEq] at hk
          subst hk; simp
        · cases hv
      · cases h
    | adoptC k off esz =>
      simp only [ghosts] at h
      split at h
      · rename_i ss hss
        split at h
        · rename_i ss' hss'
          refine Leads.trans (fun R w0 e0 H0 w a e ho => ?_) (ih _ _ _ _ h hp)
          obtain ⟨e1, h1⟩ := ho.empty esz
          exact ⟨e1, h1.adoptC (k := k) (ss := ss) (by simp only; rw [List.getElem?_append_left (List.getElem?_eq_some_iff.1 hss).1]; exact hss) (by simp) hss'⟩
        · cases h
      · cases h
    | eqT t v =>
      simp only [ghosts] at h
      split at h
      · rename_i v0 hv0
        split at h
        · rename_i r1 s1 p1 hr
          simp only [Option.some.injEq, Prod.mk.injEq] at h
          obtain ⟨rfl, rfl, rfl⟩ := h
          obtain ⟨rfl, hp⟩ := hp
          have hset : s.tm.set t v0 = s.tm := by
            obtain ⟨hlt, hv⟩ := List.getElem?_eq_some_iff.1 hv0
            subst hv; exact List.set_getElem_self hlt
          rw [hset] at hr
          exact ih _ _ _ _ hr hp
        · cases h
      · cases h
    | eqO k o =>
      simp only [ghosts] at h
      split at h
      · rename_i o0 ho0
        split at h
        · rename_i r1 s1 p1 hr
          simp only [Option.some.injEq, Prod.mk.injEq] at h
          obtain ⟨rfl, rfl, rfl⟩ := h
          obtain ⟨rfl, hp⟩ := hp
          have hset : s.hp.set k o0 = s.hp := by
            obtain ⟨hlt, hv⟩ := List.getElem?_eq_some_iff.1 ho0
            subst hv; exact List.set_getElem_self hlt
          rw [hset] at hr
          exact ih _ _ _ _ hr hp
        · cases h
      · cases h

theorem Piece.pre {P : Program} {g : Gl} {c : Code} {s s1 s' : St} {ex : Exit} (h : Leads g s s1) (hp : Piece P g c s1 ex s') : Piece P g c s ex s' := fun R w0 e0 H0 Q w a e ho hQ => by
  obtain ⟨e1, h1⟩ := h R w0 e0 H0 w a e ho
  exact hp R w0 e0 H0 Q w a e1 h1 hQ
theorem Piece.post {P : Program} {g : Gl} {c : Code} {s s1 s' : St} {ex : Exit} (hp : Piece P g c s ex s1) (h : Leads g s1 s') : Piece P g c s ex s' := fun R w0 e0 H0 Q w a e ho hQ =>
  hp R w0 e0 H0 Q w a e ho (fun a' w' e' h' => by
    obtain ⟨e2, h2⟩ := h R w0 e0 H0 w' a' e' h'
    exact hQ a' w' e2 h2)

def runReg (P : Program) (g : Gl) (ops : Array Oper) (draw : Bool) (hs : List (Nat × Hn)) (is : List Nat) (s : St) : Option (St × Prop) :=
  if draw then runAny P g ops hs (if is.isEmpty then List.range ops.size else is) s else runL P g ops hs (List.range ops.size) s

/-- The executor: where the piece leads, how it leaves, what is to be shown, and what is left of the script. -/
def sx (P : Program) (g : Gl) : Code → List Sc → St → Option (Exit × St × List Prop × List Sc)
  | c, sc0, s0 => match ghosts sc0 s0 with
    | none => none
    | some (sc, s, gp) => match c with
      | .skip => some (.normal, s, gp, sc)
      | .exit id => some (.exit id, s, gp, sc)
      | .ret => some (.ret, s, gp, sc)
      | .region _ ops draw => match sc with
        | .reg hs is :: r => match runReg P g ops draw hs is s with
          | some (s', p) => some (.normal, s', p :: gp, r)
          | none => none
        | _ => none
      | .cond x a b => match sc with
        | .dec d :: r => match (eva s.tm x).lit with
          | some (.bool t) => match (if d then sx P g a r s else sx P g b r s) with
            | some (ex, s', p, r') => some (ex, s', (t = d) :: (gp ++ p), r')
            | none => none
          | _ => none
        | .claim ex s' :: r => some (ex, s', Piece P g (.cond x a b) s ex s' :: gp, r)
        | _ => none
      | .seq a b => match sx P g a sc s with
        | some (.normal, s1, p, r) => match sx P g b r s1 with
          | some (ex, s2, q, r2) => some (ex, s2, gp ++ (p ++ q), r2)
          | none => none
        | some (ex, s1, p, r) => some (ex, s1, gp ++ p, r)
        | none => none
      | .block id a => match sc with
        | .bclaim ex s' :: r => some (ex, s', Piece P g (.block id a) s ex s' :: gp, r)
        | _ => match sx P g a sc s with
          | some (.exit i, s', p, r) => some (if i = id then .normal else .exit i, s', gp ++ p, r)
          | some (ex, s', p, r) => some (ex, s', gp ++ p, r)
          | none => none
      | .loop a => match sc with
        | .claim ex s' :: r => some (ex, s', Piece P g (.loop a) s ex s' :: gp, r)
        | _ => none
      | _ => none
end Sx
