/- Trees: a function's decisions and hints, indexed by the pure function that they follow; the executor's run along a tree, and what follows of it. -/
import Derived.Test.YthimhmocgnnaiaaDoorSxY
namespace Sx
open Go

def sumC {A B γ : Type} (s : A ⊕ B) (x : A → Option γ) (y : B → Option γ) : Option γ := match s with | .inl a => x a | .inr b => y b

/-! ### What a region's steps are told, with the proofs of what they ask -/
structure Hz where
  run : Bool
  it : Itm
  gq : Prop
  gp : gq
  cq : Prop
  cp : cq

def It' (it : Itm) : Hz := ⟨true, it, True, trivial, True, trivial⟩
def J {q : Prop} (h : q) : Hz := ⟨true, .i .d, True, trivial, q, h⟩
def Ji {q : Prop} (h : q) (it : It) : Hz := ⟨true, .i it, True, trivial, q, h⟩

def Tls : List Nat → Prop
  | [] => True
  | n :: r => Tn n ∧ Tls r
theorem tls : ∀ l, Tls l
  | [] => trivial
  | n :: r => ⟨tn n, tls r⟩

def CL {P : Program} {g : Gl} {f : FuncId} {args : List T} {H : List O} {mv : List Nat} {res : T} {H' : List O} (ρ ns : List Nat) (h : FT P g f args H mv res H') : Hz :=
  ⟨true, .call { ρ := ρ, mv := mv, fr := [], res := res, H' := H' }, True, trivial, Tls ns ∧ FT P g f args H mv res H', ⟨tls ns, h⟩⟩
def LK {P : Program} {g : Gl} {f : FuncId} {args : List T} {H : List O} {mv : List Nat} {res : T} {H' : List O} (ρ ns : List Nat) (h : FT P g f args H mv res H') : Hz :=
  ⟨true, .look ρ res, True, trivial, Tls ns ∧ FT P g f args H mv res H', ⟨tls ns, h⟩⟩
def CLq {P : Program} {g : Gl} {f : FuncId} {args : List T} {H : List O} {mv : List Nat} {res : T} {H' : List O} (ρ : List Nat) (fr : List (Nat × List (List C))) {q : Prop} (hq : q) (h : FT P g f args H mv res H') : Hz :=
  ⟨true, .call { ρ := ρ, mv := mv, fr := fr, res := res, H' := H' }, True, trivial, q ∧ FT P g f args H mv res H', ⟨hq, h⟩⟩
def LDq {P : Program} {g : Gl} {f : FuncId} {args : List T} {H : List O} {mv : List Nat} {res : T} {H' : List O} (fr : List (Nat × List (List C))) {q : Prop} (hq : q) (h : FT P g f args H mv res H') : Hz :=
  ⟨true, .lend fr res, True, trivial, q ∧ FT P g f args H mv res H', ⟨hq, h⟩⟩

def pB {t d : Bool} (h : t = d) : Hz := ⟨true, .i (.b d), True, trivial, t = d, h⟩
def pS (d : Bool) : Hz := ⟨true, .i (.b d), True, trivial, d = d, rfl⟩
def eL {α : Type} (f : α → List C) {xs : List α} {i : Nat} {e : α} (h : xs[i]? = some e) : Hz := ⟨true, .i (.e (f e)), True, trivial, (List.map f xs)[i]? = some (f e), map_get h⟩
def eA {α : Type} (f : α → List C) {q : Prop} (hq : q) {xs : List α} {i : Nat} {e : α} (h : xs[i]? = some e) : Hz := ⟨true, .i (.e (f e)), True, trivial, q ∧ (List.map f xs)[i]? = some (f e), ⟨hq, map_get h⟩⟩

/-- What is told of a guard. -/
structure Gz where
  un : Bool
  d : Bool
  q : Prop
  h : q
def gB {t d : Bool} (h : t = d) : Gz := ⟨false, d, t = d, h⟩
def gS (d : Bool) : Gz := ⟨false, d, d = d, rfl⟩
def gU : Gz := ⟨true, false, True, trivial⟩
def lookG : List (Nat × Gz) → Nat → Option Gz
  | [], _ => none
  | (j, z) :: r, i => if j = i then some z else lookG r i
def lookZ : List (Nat × Hz) → Nat → Hz
  | [], _ => It' (.i .d)
  | (j, h) :: r, i => if j = i then h else lookZ r i
def guardOf (ops : Array Oper) (i : Nat) : Option (Nat × Bool) := (ops[i]?).bind (·.guard)
def zAt (ops : Array Oper) (zs : List (Nat × Hz)) (gs : List (Nat × Gz)) (i : Nat) : Hz :=
  match gs with
  | [] => lookZ zs i
  | a :: r => match guardOf ops i with
    | some (j, want) => match lookG (a :: r) j with
      | some z => { lookZ zs i with run := !z.un && (z.d == want), gq := z.q, gp := z.h }
      | none => lookZ zs i
    | none => lookZ zs i
def hnAll (ops : Array Oper) (zs : List (Nat × Hz)) (gs : List (Nat × Gz)) : List Nat → List (Nat × Hn)
  | [] => []
  | i :: r => match guardOf ops i with
    | some _ => (i, { run := (zAt ops zs gs i).run, it := (zAt ops zs gs i).it }) :: hnAll ops zs gs r
    | none => hnAll ops zs gs r
def hnL : List (Nat × Hz) → List (Nat × Hn)
  | [] => []
  | (j, h) :: r => (j, { run := h.run, it := h.it }) :: hnL r
def hnZ (ops : Array Oper) (zs : List (Nat × Hz)) (gs : List (Nat × Gz)) : List (Nat × Hn) :=
  match gs with
  | [] => hnL zs
  | a :: r => hnAll ops zs (a :: r) (List.range ops.size) ++ hnL zs
def Hz.q (z : Hz) : Prop := match z.run with | true => z.gq ∧ z.cq | false => z.gq
theorem Hz.ok (z : Hz) : z.q := by
  unfold Hz.q
  split
  · exact ⟨z.gp, z.cp⟩
  · exact z.gp
def Qz (ops : Array Oper) (zs : List (Nat × Hz)) (gs : List (Nat × Gz)) : List Nat → Prop
  | [] => True
  | i :: r => (zAt ops zs gs i).q ∧ Qz ops zs gs r
theorem Qz_ok (ops : Array Oper) (zs : List (Nat × Hz)) (gs : List (Nat × Gz)) : ∀ l, Qz ops zs gs l
  | [] => trivial
  | i :: r => ⟨(zAt ops zs gs i).ok, Qz_ok ops zs gs r⟩

/-- An operation of a region. -/
def opAt (c : Code) (i : Nat) : Oper := match c with
  | .region _ ops _ => (ops[i]?).getD default
  | _ => default

/-! ### Traces: what is compared -/
inductive Trace : Type 1
  | ok
  | bad (b : Bool)
  | eq {α : Type} (a : α) (r : Trace)
  | all {β : Type} (p : β → Prop) (f : (b : β) → p b → Trace)
  | imp (p : Prop) (f : p → Trace)
  | and (a b : Trace)

def pick {α : Type} (fl : Bool) (a b : α) : α := match fl with | true => a | false => b

theorem Trace.eq_inj {α : Type} {a b : α} {r r' : Trace} (h : Trace.eq (pick true a b) r = Trace.eq (pick false a b) r') : a = b ∧ r = r' := by
  injection h with h1 h2 h3
  exact ⟨h2, h3⟩
theorem Trace.bad_ne {A : Prop} (h : Trace.bad true = Trace.bad false) : A := by
  injection h with h; cases h
theorem Trace.all_inj {β : Type} {p : β → Prop} {f f' : (b : β) → p b → Trace} (h : Trace.all p f = Trace.all p f') : f = f' := by
  injection h with h1 h2 h3
theorem Trace.imp_inj {p : Prop} {f f' : p → Trace} (h : Trace.imp p f = Trace.imp p f') : f = f' := by
  injection h with h1 h2

/-! ### Trees -/
inductive Tr (P : Program) (g : Gl) {α V : Type} (rc : V → Option α) : Option α → Type 1
  | leaf (tr : Bool) (ρ : List Nat) (ls : List (List (Nat × Nat))) (a : α) : Tr P g rc (some a)
  | again (tr : Bool) (v : V) : Tr P g rc (rc v)
  | ite {b : Bool} {x y : Option α} (kx : b = true → Tr P g rc x) (ky : b = false → Tr P g rc y) : Tr P g rc (iteB b x y)
  | ifp {p : Prop} {inst : Decidable p} {x : Option α} (k : p → Tr P g rc x) : Tr P g rc (@ifP α p inst x)
  | bind {β : Type} {m : Option β} {f : β → Option α} (k : (b : β) → m = some b → Tr P g rc (f b)) : Tr P g rc (Option.bind m f)
  | sum {A B : Type} {s : A ⊕ B} {x : A → Option α} {y : B → Option α} (kx : (a : A) → s = .inl a → Tr P g rc (x a)) (ky : (b : B) → s = .inr b → Tr P g rc (y b)) : Tr P g rc (sumC s x y)
  | reg {x : Option α} (zs : List (Nat × Hz)) (gs : List (Nat × Gz)) (is : List Nat) (k : Tr P g rc x) : Tr P g rc x
  | cond {x : Option α} {t : Bool} (d : Bool) (h : t = d) (k : Tr P g rc x) : Tr P g rc x
  | gh {x : Option α} (y : Gh) {q : Prop} (h : q) (k : Tr P g rc x) : Tr P g rc x
  | adopt {x : Option α} (t esz : Nat) (k : Tr P g rc x) : Tr P g rc x
  | adoptC {x : Option α} (i off esz : Nat) (k : Tr P g rc x) : Tr P g rc x
  | eqT {x : Option α} {v0 : T} (t : Nat) (v : T) (h : v0 = v) (k : Tr P g rc x) : Tr P g rc x
  | eqO {x : Option α} {o0 : O} (i : Nat) (o : O) (h : o0 = o) (k : Tr P g rc x) : Tr P g rc x
  | claim {x : Option α} {c : Code} {s : St} {ex : Exit} {s' : St} (blk : Bool) (h : Piece P g c s ex s') (k : Tr P g rc x) : Tr P g rc x

def noRec {α : Type} : Empty → Option α := fun v => nomatch v

abbrev Kt (P : Program) (g : Gl) {α V : Type} (rc : V → Option α) := (x : Option α) → Tr P g rc x → St → Trace

def Tr.peel {P : Program} {g : Gl} {α V : Type} {rc : V → Option α} (fl : Bool) : {x : Option α} → Tr P g rc x → St → Kt P g rc → Trace
  | _, .ite (b := b) kx ky, s, K => .and (.imp (b = true) fun h => (kx h).peel fl s K) (.imp (b = false) fun h => (ky h).peel fl s K)
  | _, .ifp (p := p) k, s, K => .imp p fun h => (k h).peel fl s K
  | _, .bind (m := m) k, s, K => .all (fun b => m = some b) fun b h => (k b h).peel fl s K
  | _, .sum (s := t) kx ky, s, K => .and (.all (fun a => t = .inl a) fun a h => (kx a h).peel fl s K) (.all (fun b => t = .inr b) fun b h => (ky b h).peel fl s K)
  | _, .gh y (q := q) _ k, s, K => match ghosts [.gh y] s with
    | some ([], s1, p) => .eq (Sx.pick fl p (match p with | [] => [] | _ => [q])) (k.peel fl s1 K)
    | _ => .bad fl
  | _, .adopt t esz k, s, K => match ghosts [.adopt t esz] s with
    | some ([], s1, []) => k.peel fl s1 K
    | _ => .bad fl
  | _, .adoptC i off esz k, s, K => match ghosts [.adoptC i off esz] s with
    | some ([], s1, []) => k.peel fl s1 K
    | _ => .bad fl
  | _, .eqT (v0 := v0) t v _ k, s, K => match ghosts [.eqT t v] s with
    | some ([], s1, p) => .eq (Sx.pick fl p [v0 = v]) (k.peel fl s1 K)
    | _ => .bad fl
  | _, .eqO (o0 := o0) i o _ k, s, K => match ghosts [.eqO i o] s with
    | some ([], s1, p) => .eq (Sx.pick fl p [o0 = o]) (k.peel fl s1 K)
    | _ => .bad fl
  | x, t, s, K => K x t s

def ordOf (ops : Array Oper) (draw : Bool) (is : List Nat) : List Nat := if draw then (if is.isEmpty then List.range ops.size else is) else List.range ops.size

/-- The run along a tree. -/
def tx (P : Program) (g : Gl) {α V : Type} {rc : V → Option α} (fl : Bool) : Code → {x : Option α} → Tr P g rc x → St → (Exit → Kt P g rc) → Trace
  | c, _, t, s, K => t.peel fl s fun x1 t1 s1 => match c with
    | .skip => K .normal x1 t1 s1
    | .exit id => K (.exit id) x1 t1 s1
    | .ret => K .ret x1 t1 s1
    | .region id ops draw => match t1 with
      | .reg zs gs is k => match runReg P g ops draw (hnZ ops zs gs) is s1 with
        | some (s2, p) => .eq (pick fl p (Qz ops zs gs (ordOf ops draw is))) (K .normal _ k s2)
        | none => .bad fl
      | .claim (c := c0) (s := s0) (ex := ex) (s' := s2) true _ k => .eq (pick fl (Code.region id ops draw, s1) (c0, s0)) (K ex _ k s2)
      | _ => .bad fl
    | .cond y a b => match t1 with
      | .cond (t := t) d _ k => match (eva s1.tm y).lit with
        | some (.bool t') => .eq (pick fl t' t) (match d with | true => tx P g fl a k s1 K | false => tx P g fl b k s1 K)
        | _ => .bad fl
      | .claim (c := c0) (s := s0) (ex := ex) (s' := s2) true _ k => .eq (pick fl (Code.cond y a b, s1) (c0, s0)) (K ex _ k s2)
      | _ => .bad fl
    | .seq a b => tx P g fl a t1 s1 fun ex x2 t2 s2 => match ex with
      | .normal => tx P g fl b t2 s2 K
      | ex => K ex x2 t2 s2
    | .block id a => match t1 with
      | .claim (c := c0) (s := s0) (ex := ex) (s' := s2) true _ k => .eq (pick fl (Code.block id a, s1) (c0, s0)) (K ex _ k s2)
      | t1 => tx P g fl a t1 s1 fun ex x2 t2 s2 => match ex with
        | .exit i => K (if i = id then .normal else .exit i) x2 t2 s2
        | ex => K ex x2 t2 s2
    | .loop a => match t1 with
      | .claim (c := c0) (s := s0) (ex := ex) (s' := s2) _ _ k => .eq (pick fl (Code.loop a, s1) (c0, s0)) (K ex _ k s2)
      | _ => .bad fl
    | _ => .bad fl

theorem peel_ok {P : Program} {g : Gl} {α V : Type} {rc : V → Option α} {K : Bool → Kt P g rc} {a0 : α} : ∀ {x : Option α} (t : Tr P g rc x) (s : St), x = some a0 → t.peel true s (K true) = t.peel false s (K false) →
    ∃ x' t' s', x' = some a0 ∧ K true x' t' s' = K false x' t' s' ∧ Leads g s s' := by
  intro x t
  induction t with
  | ite kx ky ihx ihy =>
    intro s hx h
    simp only [Tr.peel] at h
    injection h with h1 h2
    rcases iteB_some hx with ⟨hb, hx⟩ | ⟨hb, hx⟩
    · exact ihx hb s hx (congrFun (Trace.imp_inj h1) hb)
    · exact ihy hb s hx (congrFun (Trace.imp_inj h2) hb)
  | ifp k ih =>
    intro s hx h
    simp only [Tr.peel] at h
    obtain ⟨hp, hx⟩ := ifP_some hx
    exact ih hp s hx (congrFun (Trace.imp_inj h) hp)
  | bind k ih =>
    intro s hx h
    simp only [Tr.peel] at h
    obtain ⟨b, hm, hx⟩ := bind_some hx
    exact ih b hm s hx (congrFun (congrFun (Trace.all_inj h) b) hm)
  | @sum A B t x y kx ky ihx ihy =>
    intro s hx h
    simp only [Tr.peel] at h
    injection h with h1 h2
    cases ht : t with
    | inl a => subst ht; exact ihx a rfl s hx (congrFun (congrFun (Trace.all_inj h1) a) rfl)
    | inr b => subst ht; exact ihy b rfl s hx (congrFun (congrFun (Trace.all_inj h2) b) rfl)
  | gh y hq k ih =>
    intro s hx h
    simp only [Tr.peel] at h
    split at h
    · rename_i s1 p hg
      obtain ⟨h1, h2⟩ := Trace.eq_inj h
      have hp : pall p := by
        rw [h1]
        split
        · trivial
        · exact ⟨hq, trivial⟩
      obtain ⟨x', t', s', k1, k2, k3⟩ := ih s1 hx h2
      exact ⟨x', t', s', k1, k2, (ghosts_ok _ _ _ _ _ hg hp).trans k3⟩
    · exact Trace.bad_ne h
  | adopt t esz k ih =>
    intro s hx h
    simp only [Tr.peel] at h
    split at h
    · rename_i s1 hg
      obtain ⟨x', t', s', k1, k2, k3⟩ := ih s1 hx h
      exact ⟨x', t', s', k1, k2, (ghosts_ok _ _ _ _ _ hg trivial).trans k3⟩
    · exact Trace.bad_ne h
  | adoptC i off esz k ih =>
    intro s hx h
    simp only [Tr.peel] at h
    split at h
    · rename_i s1 hg
      obtain ⟨x', t', s', k1, k2, k3⟩ := ih s1 hx h
      exact ⟨x', t', s', k1, k2, (ghosts_ok _ _ _ _ _ hg trivial).trans k3⟩
    · exact Trace.bad_ne h
  | eqT t v hv k ih =>
    intro s hx h
    simp only [Tr.peel] at h
    split at h
    · rename_i s1 p hg
      obtain ⟨h1, h2⟩ := Trace.eq_inj h
      have hp : pall p := by rw [h1]; exact ⟨hv, trivial⟩
      obtain ⟨x', t', s', k1, k2, k3⟩ := ih s1 hx h2
      exact ⟨x', t', s', k1, k2, (ghosts_ok _ _ _ _ _ hg hp).trans k3⟩
    · exact Trace.bad_ne h
  | eqO t v hv k ih =>
    intro s hx h
    simp only [Tr.peel] at h
    split at h
    · rename_i s1 p hg
      obtain ⟨h1, h2⟩ := Trace.eq_inj h
      have hp : pall p := by rw [h1]; exact ⟨hv, trivial⟩
      obtain ⟨x', t', s', k1, k2, k3⟩ := ih s1 hx h2
      exact ⟨x', t', s', k1, k2, (ghosts_ok _ _ _ _ _ hg hp).trans k3⟩
    · exact Trace.bad_ne h
  | leaf tr ρ ls a => intro s hx h; exact ⟨_, _, s, hx, h, Leads.refl g s⟩
  | again tr v => intro s hx h; exact ⟨_, _, s, hx, h, Leads.refl g s⟩
  | reg zs gs is k => intro s hx h; exact ⟨_, _, s, hx, h, Leads.refl g s⟩
  | cond d hd k => intro s hx h; exact ⟨_, _, s, hx, h, Leads.refl g s⟩
  | claim blk hp k => intro s hx h; exact ⟨_, _, s, hx, h, Leads.refl g s⟩

theorem tx_ok {P : Program} {g : Gl} (hm : P.follows .mixedOrders = true) {α V : Type} {rc : V → Option α} {a0 : α} : ∀ (c : Code) (K : Bool → Exit → Kt P g rc) {x : Option α} (t : Tr P g rc x) (s : St), x = some a0 →
    tx P g true c t s (K true) = tx P g false c t s (K false) → ∃ ex x' t' s', x' = some a0 ∧ K true ex x' t' s' = K false ex x' t' s' ∧ Piece P g c s ex s' := by
  intro c
  induction c with
  | skip =>
    intro K x t s hx h
    rw [tx, tx] at h
    obtain ⟨x', t', s', k1, k2, k3⟩ := peel_ok (K := fun fl x1 t1 s1 => K fl .normal x1 t1 s1) t s hx h
    exact ⟨_, x', t', s', k1, k2, Piece.pre k3 (fun R w0 e0 H0 Q w a e ho hQ => wp_skip (hQ a w e ho))⟩
  | exit id =>
    intro K x t s hx h
    rw [tx, tx] at h
    obtain ⟨x', t', s', k1, k2, k3⟩ := peel_ok (K := fun fl x1 t1 s1 => K fl (.exit id) x1 t1 s1) t s hx h
    exact ⟨_, x', t', s', k1, k2, Piece.pre k3 (fun R w0 e0 H0 Q w a e ho hQ => wp_exit (hQ a w e ho))⟩
  | ret =>
    intro K x t s hx h
    rw [tx, tx] at h
    obtain ⟨x', t', s', k1, k2, k3⟩ := peel_ok (K := fun fl x1 t1 s1 => K fl .ret x1 t1 s1) t s hx h
    exact ⟨_, x', t', s', k1, k2, Piece.pre k3 (fun R w0 e0 H0 Q w a e ho hQ => wp_ret (hQ a w e ho))⟩
  | region id ops draw =>
    intro K x t s hx h
    rw [tx, tx] at h
    obtain ⟨x', t', s1, k1, k2, k3⟩ := peel_ok (K := fun fl x1 t1 s1 => match t1 with
      | .reg zs gs is k => match runReg P g ops draw (hnZ ops zs gs) is s1 with
        | some (s2, p) => Trace.eq (pick fl p (Qz ops zs gs (ordOf ops draw is))) (K fl .normal _ k s2)
        | none => .bad fl
      | .claim (c := c0) (s := s0) (ex := ex) (s' := s2) true _ k => .eq (pick fl (Code.region id ops draw, s1) (c0, s0)) (K fl ex _ k s2)
      | _ => .bad fl) t s hx h
    cases t' with
    | reg zs gs is k =>
      simp only at k2
      split at k2
      · rename_i s2 p hr
        obtain ⟨hp, k2⟩ := Trace.eq_inj k2
        have hp' : p := by rw [hp]; exact Qz_ok _ _ _ _
        refine ⟨.normal, _, k, s2, k1, k2, Piece.pre k3 (sx_ok hm (.region id ops draw) [.reg (hnZ ops zs gs) is] s1 .normal s2 [p] [] ?_ ⟨hp', trivial⟩)⟩
        rw [sx]
        simp only [ghosts, hr]
      · exact Trace.bad_ne k2
    | @claim _ c0 s0 ex s2 blk hp k =>
      cases blk with
      | true =>
        obtain ⟨he, k4⟩ := Trace.eq_inj k2
        simp only [Prod.mk.injEq] at he
        obtain ⟨rfl, rfl⟩ := he
        exact ⟨ex, _, k, s2, k1, k4, Piece.pre k3 hp⟩
      | false => exact Trace.bad_ne k2
    | _ => exact Trace.bad_ne k2
  | seq a b iha ihb =>
    intro K x t s hx h
    rw [tx, tx] at h
    obtain ⟨x1, t1, s1, k1, k2, k3⟩ := peel_ok (K := fun fl x1 t1 s1 => tx P g fl a t1 s1 fun ex x2 t2 s2 => match ex with
      | .normal => tx P g fl b t2 s2 (K fl)
      | ex => K fl ex x2 t2 s2) t s hx h
    obtain ⟨ex, x2, t2, s2, j1, j2, j3⟩ := iha (fun fl ex x2 t2 s2 => match ex with
      | .normal => tx P g fl b t2 s2 (K fl)
      | ex => K fl ex x2 t2 s2) t1 s1 k1 k2
    cases ex with
    | normal =>
      obtain ⟨ex, x3, t3, s3, i1, i2, i3⟩ := ihb K t2 s2 j1 j2
      exact ⟨ex, x3, t3, s3, i1, i2, Piece.pre k3 (j3.seq i3)⟩
    | _ => exact ⟨_, x2, t2, s2, j1, j2, Piece.pre k3 (j3.seq_out (by intro h; cases h))⟩
  | cond y a b iha ihb =>
    intro K x t s hx h
    rw [tx, tx] at h
    obtain ⟨x1, t1, s1, k1, k2, k3⟩ := peel_ok (K := fun fl x1 t1 s1 => match t1 with
      | .cond (t := t) d _ k => match (eva s1.tm y).lit with
        | some (.bool t') => Trace.eq (pick fl t' t) (match d with | true => tx P g fl a k s1 (K fl) | false => tx P g fl b k s1 (K fl))
        | _ => .bad fl
      | .claim (c := c0) (s := s0) (ex := ex) (s' := s2) true _ k => .eq (pick fl (Code.cond y a b, s1) (c0, s0)) (K fl ex _ k s2)
      | _ => .bad fl) t s hx h
    cases t1 with
    | cond d hd k =>
      simp only at k2
      split at k2
      · rename_i t' ht
        obtain ⟨hp, k2⟩ := Trace.eq_inj k2
        cases d with
        | true =>
          obtain ⟨ex, x3, t3, s3, i1, i2, i3⟩ := iha K k s1 k1 k2
          exact ⟨ex, x3, t3, s3, i1, i2, Piece.pre k3 (Piece.cond (d := true) ht (hp.trans hd) i3)⟩
        | false =>
          obtain ⟨ex, x3, t3, s3, i1, i2, i3⟩ := ihb K k s1 k1 k2
          exact ⟨ex, x3, t3, s3, i1, i2, Piece.pre k3 (Piece.cond (d := false) ht (hp.trans hd) i3)⟩
      · exact Trace.bad_ne k2
    | @claim _ c0 s0 ex s2 blk hp k =>
      cases blk with
      | true =>
        obtain ⟨he, k4⟩ := Trace.eq_inj k2
        simp only [Prod.mk.injEq] at he
        obtain ⟨rfl, rfl⟩ := he
        exact ⟨ex, _, k, s2, k1, k4, Piece.pre k3 hp⟩
      | false => exact Trace.bad_ne k2
    | _ => exact Trace.bad_ne k2
  | block id a iha =>
    intro K x t s hx h
    rw [tx, tx] at h
    obtain ⟨x1, t1, s1, k1, k2, k3⟩ := peel_ok (K := fun fl x1 t1 s1 => match t1 with
      | .claim (c := c0) (s := s0) (ex := ex) (s' := s2) true _ k => .eq (pick fl (Code.block id a, s1) (c0, s0)) (K fl ex _ k s2)
      | t1 => tx P g fl a t1 s1 fun ex x2 t2 s2 => match ex with
        | .exit i => K fl (if i = id then .normal else .exit i) x2 t2 s2
        | ex => K fl ex x2 t2 s2) t s hx h
    have go : (tx P g true a t1 s1 fun ex x2 t2 s2 => match ex with
        | .exit i => K true (if i = id then .normal else .exit i) x2 t2 s2
        | ex => K true ex x2 t2 s2) = (tx P g false a t1 s1 fun ex x2 t2 s2 => match ex with
        | .exit i => K false (if i = id then .normal else .exit i) x2 t2 s2
        | ex => K false ex x2 t2 s2) → ∃ ex x' t' s', x' = some a0 ∧ K true ex x' t' s' = K false ex x' t' s' ∧ Piece P g (.block id a) s ex s' := by
      intro k2
      obtain ⟨ex, x2, t2, s2, j1, j2, j3⟩ := iha (fun fl ex x2 t2 s2 => match ex with
        | .exit i => K fl (if i = id then .normal else .exit i) x2 t2 s2
        | ex => K fl ex x2 t2 s2) t1 s1 k1 k2
      cases ex with
      | exit i => exact ⟨_, x2, t2, s2, j1, j2, Piece.pre k3 j3.block_exit⟩
      | _ => exact ⟨_, x2, t2, s2, j1, j2, Piece.pre k3 (j3.block_other (by intro i h; cases h))⟩
    cases t1 with
    | @claim _ c0 s0 ex s2 blk hp k =>
      cases blk with
      | true =>
        obtain ⟨he, k4⟩ := Trace.eq_inj k2
        simp only [Prod.mk.injEq] at he
        obtain ⟨rfl, rfl⟩ := he
        exact ⟨ex, _, k, s2, k1, k4, Piece.pre k3 hp⟩
      | false => exact go k2
    | _ => exact go k2
  | loop a _ =>
    intro K x t s hx h
    rw [tx, tx] at h
    obtain ⟨x1, t1, s1, k1, k2, k3⟩ := peel_ok (K := fun fl x1 t1 s1 => match t1 with
      | .claim (c := c0) (s := s0) (ex := ex) (s' := s2) _ _ k => Trace.eq (pick fl (Code.loop a, s1) (c0, s0)) (K fl ex _ k s2)
      | _ => .bad fl) t s hx h
    cases t1 with
    | @claim _ c0 s0 ex s2 blk hp k =>
      obtain ⟨he, k4⟩ := Trace.eq_inj k2
      simp only [Prod.mk.injEq] at he
      obtain ⟨rfl, rfl⟩ := he
      exact ⟨ex, _, k, s2, k1, k4, Piece.pre k3 hp⟩
    | _ => exact Trace.bad_ne k2
  | _ =>
    intro K x t s hx h
    rw [tx, tx] at h
    obtain ⟨x1, t1, s1, k1, k2, k3⟩ := peel_ok (K := fun fl _ _ _ => Trace.bad fl) t s hx h
    exact Trace.bad_ne k2

/-! ### Functions -/
/-- What is said of a function's answers. -/
def FTO (P : Program) (g : Gl) (f : FuncId) (args : List T) (H : List O) {α : Type} (m : Option α) (out : α → List Nat × T × List O) : Prop :=
  ∀ a, m = some a → FT P g f args H (out a).1 (out a).2.1 (out a).2.2

def fnTr (P : Program) (g : Gl) {α : Type} (fl : Bool) (fn : Func) (args : List T) (H : List O) (out : α → List Nat × T × List O) {x : Option α} (t : Tr P g (noRec (α := α)) x) : Trace :=
  match fn.body with
  | none => .bad fl
  | some c =>
    if (closedB H && argsB args H && decide (args.length ≤ fn.ntmps) && decide (fn.results.size ≤ 4)) then
      tx P g fl c t (initSt fn args H) fun ex _ t1 s1 => t1.peel fl s1 fun _ t2 s2 => match t2 with
        | .leaf _ ρ ls a =>
          if isEnd ex && (nodupB ρ && keepOk H.length (out a).1 ρ && s2.mv.all (fun k => (out a).1.contains k || !decide (k < H.length))) then
            match fnRes P fn s2, subOf ρ (fun k => s2.hp[k]?) ρ with
            | some res, some q => .eq (pick fl (shutRes ls (renT (posOf ρ) res), q) ((out a).2)) .ok
            | _, _ => .bad fl
          else .bad fl
        | _ => .bad fl
    else .bad fl

theorem Fn_go {P : Program} {g : Gl} {f : FuncId} {fn : Func} {args : List T} {H : List O} {α : Type} {m : Option α} {out : α → List Nat × T × List O} (hm : P.follows .mixedOrders = true) (hf : P.funcs[f]? = some fn)
    (t : Tr P g (noRec (α := α)) m) (h : fnTr P g true fn args H out t = fnTr P g false fn args H out t) : FTO P g f args H m out := by
  intro a0 ha
  unfold fnTr at h
  split at h
  · exact Trace.bad_ne h
  · rename_i c hb
    split at h
    · rename_i hc
      obtain ⟨ex, x1, t1, s1, k1, k2, k3⟩ := tx_ok hm c (fun fl ex _ t1 s1 => t1.peel fl s1 fun _ t2 s2 => match t2 with
        | .leaf _ ρ ls a =>
          if isEnd ex && (nodupB ρ && keepOk H.length (out a).1 ρ && s2.mv.all (fun k => (out a).1.contains k || !decide (k < H.length))) then
            match fnRes P fn s2, subOf ρ (fun k => s2.hp[k]?) ρ with
            | some res, some q => Trace.eq (pick fl (shutRes ls (renT (posOf ρ) res), q) ((out a).2)) .ok
            | _, _ => .bad fl
          else .bad fl
        | _ => .bad fl) t (initSt fn args H) ha h
      obtain ⟨x2, t2, s2, j1, j2, j3⟩ := peel_ok (K := fun fl _ t2 s2 => match t2 with
        | .leaf _ ρ ls a =>
          if isEnd ex && (nodupB ρ && keepOk H.length (out a).1 ρ && s2.mv.all (fun k => (out a).1.contains k || !decide (k < H.length))) then
            match fnRes P fn s2, subOf ρ (fun k => s2.hp[k]?) ρ with
            | some res, some q => Trace.eq (pick fl (shutRes ls (renT (posOf ρ) res), q) ((out a).2)) .ok
            | _, _ => .bad fl
          else .bad fl
        | _ => .bad fl) t1 s1 k1 k2
      cases t2 with
      | leaf tr ρ ls a =>
        cases j1
        simp only at j2
        split at j2
        · rename_i hk
          rw [Bool.and_eq_true] at hk
          obtain ⟨hex, hk⟩ := hk
          split at j2
          · rename_i res q hr hq
            obtain ⟨he, _⟩ := Trace.eq_inj j2
            have hex' : ex = .normal ∨ ex = .ret := by cases ex <;> first | exact .inl rfl | exact .inr rfl | cases hex
            have := ((FT_of hf hb hc (k3.post j3) hex' hr).keep ρ hk hq).shutRes ls
            rw [← he]; exact this
          · exact Trace.bad_ne j2
        · exact Trace.bad_ne j2
      | _ => exact Trace.bad_ne j2
    · exact Trace.bad_ne h

/-! ### Loops -/
/-- What is said of a loop's ways out. -/
def PcO (P : Program) (g : Gl) (c : Code) (s : St) {α : Type} (m : Option α) (out : α → Exit × St) : Prop :=
  ∀ a, m = some a → Piece P g c s (out a).1 (out a).2

def truncB (n : Nat) (s : St) : Bool := s.tm.all (T.lt n) && (s.hp.take n).all (fun o => o.ones.all (C.lt n)) && decide (n ≤ s.hp.length)
def isNormal : Exit → Bool
  | .normal => true
  | _ => false

def loEnd (P : Program) (g : Gl) {α V : Type} (rc : V → Option α) (S : V → St) (out : α → Exit × St) (v : V) (fl : Bool) (ex : Exit) : Kt P g rc := fun _ t2 s2 =>
  match t2 with
  | .leaf tr _ _ a => match isNormal ex, tr with
    | true, _ => .bad fl
    | false, true => if truncB (S v).hp.length s2 then .eq (pick fl (ex, { s2 with hp := s2.hp.take (S v).hp.length }) (out a)) .ok else .bad fl
    | false, false => .eq (pick fl (ex, s2) (out a)) .ok
  | .again tr v' => match isNormal ex, tr with
    | false, _ => .bad fl
    | true, true => if truncB (S v).hp.length s2 then .eq (pick fl ({ s2 with hp := s2.hp.take (S v).hp.length }) (S v')) .ok else .bad fl
    | true, false => .eq (pick fl s2 (S v')) .ok
  | _ => .bad fl

def loTr (P : Program) (g : Gl) {α V : Type} {rc : V → Option α} (fl : Bool) (c : Code) (S : V → St) (out : α → Exit × St) (v : V) {x : Option α} (t : Tr P g rc x) : Trace :=
  tx P g fl c t (S v) fun ex _ t1 s1 => t1.peel fl s1 (loEnd P g rc S out v fl ex)

theorem loEnd_ok {P : Program} {g : Gl} {α V : Type} {rc : V → Option α} {c : Code} {S : V → St} {out : α → Exit × St} {v : V} {ex : Exit} {x : Option α} {t : Tr P g rc x} {s2 : St} {a : α} (hx : x = some a)
    (h : loEnd P g rc S out v true ex x t s2 = loEnd P g rc S out v false ex x t s2) (hp : Piece P g c (S v) ex s2) :
    (ex ≠ .normal ∧ Piece P g c (S v) (out a).1 (out a).2 ∧ (out a).1 = ex) ∨ ∃ v', rc v' = some a ∧ Piece P g c (S v) .normal (S v') := by
  cases t with
  | leaf tr ρ ls b =>
    cases hx
    simp only [loEnd] at h
    cases hn : isNormal ex with
    | true => rw [hn] at h; exact Trace.bad_ne h
    | false =>
      rw [hn] at h
      have hne : ex ≠ .normal := fun hh => by rw [hh] at hn; cases hn
      cases tr with
      | true =>
        simp only at h
        split at h
        · rename_i htr
          obtain ⟨he, _⟩ := Trace.eq_inj h
          rw [← he]
          exact .inl ⟨hne, hp.trunc htr, rfl⟩
        · exact Trace.bad_ne h
      | false =>
        simp only at h
        obtain ⟨he, _⟩ := Trace.eq_inj h
        rw [← he]
        exact .inl ⟨hne, hp, rfl⟩
  | again tr v' =>
    simp only [loEnd] at h
    cases hn : isNormal ex with
    | false => rw [hn] at h; exact Trace.bad_ne h
    | true =>
      rw [hn] at h
      have hne : ex = .normal := by cases ex <;> first | rfl | cases hn
      subst hne
      cases tr with
      | true =>
        simp only at h
        split at h
        · rename_i htr
          obtain ⟨he, _⟩ := Trace.eq_inj h
          exact .inr ⟨v', hx, he ▸ hp.trunc htr⟩
        · exact Trace.bad_ne h
      | false =>
        simp only at h
        obtain ⟨he, _⟩ := Trace.eq_inj h
        exact .inr ⟨v', hx, he ▸ hp⟩
  | _ => exact Trace.bad_ne h

theorem Lo_go {P : Program} {g : Gl} {α V : Type} {c : Code} {S : V → St} {out : α → Exit × St} {rec : Nat → V → Option α} (hm : P.follows .mixedOrders = true) (h0 : ∀ v, rec 0 v = none)
    (t : ∀ n v, Tr P g (rec n) (rec (n + 1) v)) (h : ∀ n v, loTr P g true c S out v (t n v) = loTr P g false c S out v (t n v)) : ∀ n v, PcO P g (.loop c) (S v) (rec n v) out := by
  have key : ∀ n v a, rec n v = some a → Loop P g c (S v) (out a).1 (out a).2 := by
    intro n
    induction n with
    | zero => intro v a ha; rw [h0] at ha; cases ha
    | succ n ih =>
      intro v a ha
      obtain ⟨ex, x1, t1, s1, k1, k2, k3⟩ := tx_ok hm c (fun fl ex _ t1 s1 => t1.peel fl s1 (loEnd P g (rec n) S out v fl ex)) (t n v) (S v) ha (h n v)
      obtain ⟨x2, t2, s2, j1, j2, j3⟩ := peel_ok (K := fun fl => loEnd P g (rec n) S out v fl ex) t1 s1 k1 k2
      rcases loEnd_ok j1 j2 (k3.post j3) with ⟨i1, i2, i3⟩ | ⟨v', i1, i2⟩
      · exact .out i2 (i3 ▸ i1)
      · exact .next i2 (ih v' a i1)
  exact fun n v a ha => (key n v a ha).piece

/-! ### Pieces -/
def pcEnd (P : Program) (g : Gl) {α : Type} (n : Nat) (out : α → Exit × St) (fl : Bool) (ex : Exit) : Kt P g (noRec (α := α)) := fun _ t2 s2 =>
  match t2 with
  | .leaf tr _ _ a => match tr with
    | true => if truncB n s2 then .eq (pick fl (ex, { s2 with hp := s2.hp.take n }) (out a)) .ok else .bad fl
    | false => .eq (pick fl (ex, s2) (out a)) .ok
  | _ => .bad fl

def pcTr (P : Program) (g : Gl) {α : Type} (fl : Bool) (c : Code) (s : St) (out : α → Exit × St) {x : Option α} (t : Tr P g (noRec (α := α)) x) : Trace :=
  tx P g fl c t s fun ex _ t1 s1 => t1.peel fl s1 (pcEnd P g s.hp.length out fl ex)

theorem Pc_go {P : Program} {g : Gl} {α : Type} {c : Code} {s : St} {m : Option α} {out : α → Exit × St} (hm : P.follows .mixedOrders = true)
    (t : Tr P g (noRec (α := α)) m) (h : pcTr P g true c s out t = pcTr P g false c s out t) : PcO P g c s m out := by
  intro a0 ha
  obtain ⟨ex, x1, t1, s1, k1, k2, k3⟩ := tx_ok hm c (fun fl ex _ t1 s1 => t1.peel fl s1 (pcEnd P g s.hp.length out fl ex)) t s ha h
  obtain ⟨x2, t2, s2, j1, j2, j3⟩ := peel_ok (K := fun fl => pcEnd P g s.hp.length out fl ex) t1 s1 k1 k2
  have hp := k3.post j3
  cases t2 with
  | leaf tr ρ ls b =>
    cases j1
    simp only [pcEnd] at j2
    cases tr with
    | true =>
      simp only at j2
      split at j2
      · rename_i htr
        obtain ⟨he, _⟩ := Trace.eq_inj j2
        rw [← he]
        exact hp.trunc htr
      · exact Trace.bad_ne j2
    | false =>
      simp only at j2
      obtain ⟨he, _⟩ := Trace.eq_inj j2
      rw [← he]
      exact hp
  | _ => exact Trace.bad_ne j2
end Sx
