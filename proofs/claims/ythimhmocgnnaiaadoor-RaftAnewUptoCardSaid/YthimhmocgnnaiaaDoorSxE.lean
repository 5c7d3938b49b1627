/- Temporaries, what an operation leaves, and the operations that only compute. -/
import Derived.Test.YthimhmocgnnaiaaDoorSxD
import Derived.Laws.Pointers
import Derived.Laws.Entries
namespace Sx
open Go

inductive A where
  | s (c : C)
  | g (cs : List C)
  deriving Inhabited

inductive T where
  | a (v : A)
  | t (vs : List A)
  deriving Inhabited

def T.x : T := .a (.s .x)
def T.c (v : Value) : T := .a (.s (.c v))

def A.cells : A → List C
  | .s (.c (.agg cs)) => cs.toList.map .c
  | .s c => [c]
  | .g cs => cs

def C.known : C → Bool
  | .x => false
  | _ => true

/-- May it be stored? -/
def C.st : C → Bool
  | .x => false
  | .c (.agg _) => false
  | .c (.tuple _) => false
  | _ => true

def RelL (w : World) (e : Env) (M : Pl) (cs : List C) (us : List Value) : Prop :=
  us.length = cs.length ∧ ∀ (j : Nat) (c : C), cs[j]? = some c → ∃ u, us[j]? = some u ∧ Rel w e M c u

def RelA (w : World) (e : Env) (M : Pl) : A → Value → Prop
  | .s c, u => Rel w e M c u
  | .g cs, u => ∃ us : List Value, u = .agg us.toArray ∧ RelL w e M cs us

def RelT (w : World) (e : Env) (M : Pl) : T → Value → Prop
  | .a v, u => RelA w e M v u
  | .t vs, u => ∃ us : List Value, u = .tuple us.toArray ∧ us.length = vs.length ∧ ∀ (j : Nat) (v : A), vs[j]? = some v → ∃ x, us[j]? = some x ∧ RelA w e M v x

theorem Rel.c_eq {w : World} {e : Env} {M : Pl} {v u : Value} (h : Rel w e M (.c v) u) : u = v := by cases h; rfl

theorem Rel.one {w : World} {e : Env} {M : Pl} {c : C} {u : Value} (h : Rel w e M c u) (hs : c.st = true) : u.oneCell' = true := by
  cases h with
  | x v => cases hs
  | c => cases u <;> first | rfl | cases hs
  | _ => rfl

theorem RelL.one {w : World} {e : Env} {M : Pl} {cs : List C} {us : List Value} (h : RelL w e M cs us) (hs : cs.all C.st = true) : ∀ u ∈ us, u.oneCell' = true := by
  intro u hu
  obtain ⟨j, hj, rfl⟩ := List.mem_iff_getElem.1 hu
  have hjc : j < cs.length := h.1 ▸ hj
  obtain ⟨u', h1, h2⟩ := h.2 j cs[j] (List.getElem?_eq_getElem hjc)
  rw [List.getElem?_eq_getElem hj] at h1
  cases h1
  exact h2.one (List.all_eq_true.1 hs _ (List.getElem_mem hjc))

theorem RelL.single {w : World} {e : Env} {M : Pl} {c : C} {u : Value} (h : Rel w e M c u) : RelL w e M [c] [u] := by
  refine ⟨rfl, fun j d hj => ?_⟩
  cases j with
  | zero => simp at hj; subst hj; exact ⟨u, rfl, h⟩
  | succ j => simp at hj

theorem RelL.ofC {w : World} {e : Env} {M : Pl} (vs : List Value) : RelL w e M (vs.map .c) vs := by
  refine ⟨by simp, fun j c hj => ?_⟩
  simp only [List.getElem?_map, Option.map_eq_some_iff] at hj
  obtain ⟨v, hv, rfl⟩ := hj
  exact ⟨v, hv, .c v⟩

theorem RelA.cells {w : World} {e : Env} {M : Pl} {v : A} {u : Value} (h : RelA w e M v u) (hk : v.cells.all C.known = true) : RelL w e M v.cells u.cells.toList := by
  cases v with
  | g cs => obtain ⟨us, rfl, h⟩ := h; simpa [A.cells, Value.cells] using h
  | s c =>
    cases h with
    | x v => simp [A.cells, C.known] at hk
    | c =>
      cases u with
      | agg cs => simp only [A.cells, Value.cells]; exact RelL.ofC _
      | _ => exact RelL.single (.c _)
    | ref k off => exact RelL.single (.ref k off)
    | el k off esz i sub => exact RelL.single (.el k off esz i sub)
    | sl0 k off esz i a => exact RelL.single (.sl0 k off esz i a)
    | sl k off esz i n cap hn hc => exact RelL.single (.sl k off esz i n cap hn hc)
    | ssl0 esz a cap => exact RelL.single (.ssl0 esz a cap)
    | ssl esz xs b o cap u hn hl hk' hm hr => exact RelL.single (.ssl esz xs b o cap u hn hl hk' hm hr)
    | spt cs sub b o u hk' hm hr => exact RelL.single (.spt cs sub b o u hk' hm hr)
    | mp k => exact RelL.single (.mp k)

theorem RelL.step {w w' : World} {e e' : Env} {M M' : Pl} {cs : List C} {us : List Value} (h : RelL w e M cs us)
    (hk : ∀ c ∈ cs, ∀ k, c.key = some k → e'.β k = e.β k ∧ e'.κ k = e.κ k)
    (hm : ∀ b o v, w.cell? ⟨b, o, none⟩ = some v → ¬ M b o → w'.cell? ⟨b, o, none⟩ = some v ∧ ¬ M' b o) : RelL w' e' M' cs us := by
  refine ⟨h.1, fun j c hj => ?_⟩
  obtain ⟨u, h1, h2⟩ := h.2 j c hj
  exact ⟨u, h1, h2.step (hk c (List.mem_of_getElem? hj)) hm⟩

/-- What an operation leaves. -/
structure Del where
  val : T
  sets : List (Nat × O) := []
  new : List O := []
  kill : List Nat := []

def setAll : List (Nat × O) → List O → List O
  | [], H => H
  | (k, o) :: r, H => setAll r (H.set k o)

def killN (ks : List Nat) (H : List O) : List O := match ks with | [] => H | k :: r => killH (k :: r) H

def Del.hp (d : Del) (H : List O) : List O := setAll d.sets (killN d.kill H) ++ d.new

theorem Del.hp_val (v : T) (H : List O) : ({ val := v } : Del).hp H = H := by simp [Del.hp, setAll, killN]
theorem Del.hp_set (v : T) (k : Nat) (o : O) (H : List O) : ({ val := v, sets := [(k, o)] } : Del).hp H = H.set k o := by simp [Del.hp, setAll, killN]
theorem Del.hp_new (v : T) (o : O) (H : List O) : ({ val := v, new := [o] } : Del).hp H = H ++ [o] := by simp [Del.hp, setAll, killN]

/-- The operation's weakest precondition, from what it leaves. -/
def OpOk (P : Program) (o : Oper) (ρ : Operand → Value) (w : World) (K : Value → World → Prop) : Prop :=
  ∀ (a : Act) (next : Act → World → Prop) (Q : Exit → Act → World → Prop), execOp a.eval o = execOp ρ o → (∀ u w', K u w' → next (a.put o.dst u) w') → o.wp P a w next Q

def Post (g : Gl) (w : World) (e : Env) (R : Pl) (H : List O) (d : Del) (u : Value) (w' : World) : Prop :=
  ∃ e', Sat g w' e' R (d.hp H) ∧ Ext w e H w' e' (d.hp H) d.kill ∧ RelT w' e' (Mut e' R (d.hp H)) d.val u

def Does (P : Program) (g : Gl) (o : Oper) (ρ : Operand → Value) (w : World) (e : Env) (R : Pl) (H : List O) (d : Del) : Prop :=
  OpOk P o ρ w (Post g w e R H d)

theorem OpOk.value {P : Program} {o : Oper} {ρ : Operand → Value} {w w' : World} {K : Value → World → Prop} {u : Value}
    (h : (execOp ρ o).run P w = .ok (.value u) w') (hk : K u w') : OpOk P o ρ w K := by
  intro a next Q he hn
  unfold Oper.wp
  rw [he, h]
  exact hn u w' hk

theorem OpOk.skip {P : Program} {o : Oper} {ρ : Operand → Value} {w w' : World} {K : Value → World → Prop}
    (h : (execOp ρ o).run P w = .ok .skip w') (hk : K undef w') : OpOk P o ρ w K := by
  intro a next Q he hn
  unfold Oper.wp
  rw [he, h]
  exact hn undef w' hk

theorem OpOk.call {P : Program} {o : Oper} {ρ : Operand → Value} {w w' : World} {K : Value → World → Prop} {f : FuncId} {args : Array Value}
    (h : (execOp ρ o).run P w = .ok (.enter f args) w') (hk : Calls P f args w' fun e w'' => ∃ u, e = .returned u ∧ K u w'') : OpOk P o ρ w K := by
  intro a next Q he hn
  unfold Oper.wp
  rw [he, h]
  refine hk.mono ?_
  rintro e w'' ⟨u, rfl, hu⟩
  exact hn u w'' hu

/-- Nothing but a value. -/
theorem Does.val {P : Program} {g : Gl} {o : Oper} {ρ : Operand → Value} {w : World} {e : Env} {R : Pl} {H : List O} {v : T} {u : Value} (s : Sat g w e R H)
    (h : (execOp ρ o).run P w = .ok (.value u) w) (hr : RelT w e (Mut e R H) v u) : Does P g o ρ w e R H { val := v } :=
  OpOk.value h ⟨e, by rw [Del.hp_val]; exact s, by rw [Del.hp_val]; exact Ext.refl _ _ _ _, by rw [Del.hp_val]; exact hr⟩

/-- What an operation is told beside its operands. -/
inductive It where
  | d
  | b (x : Bool)
  | e (cs : List C)
  | sh (s : List (Nat × Nat × Nat))
  | ap (xs ys qs : List (List C))
  | es (cs : List C) (qs : List (List C))
  | st (ns : List Int)
  | ar
  deriving Inhabited

/-! ### Computation alone -/
def pureRun {α : Type} (P : Program) : Sem α → Option α
  | .pure a => some a
  | .program k => pureRun P (k P)
  | _ => none

theorem pureRun_run {α : Type} {P : Program} {s : Sem α} {a : α} (h : pureRun P s = some a) (w : World) : s.run P w = .ok a w := by
  induction s with
  | pure b => simp only [pureRun, Option.some.injEq] at h; subst h; rfl
  | program k ih => exact ih P h
  | _ => cases h

def T.lit : T → Option Value
  | .a (.s (.c v)) => some v
  | _ => none

theorem T.lit_rel {w : World} {e : Env} {M : Pl} {t : T} {v u : Value} (h : t.lit = some v) (hr : RelT w e M t u) : u = v := by
  unfold T.lit at h
  split at h
  · cases h; exact Rel.c_eq hr
  · cases h

def litOf (ρ : Operand → T) (x : Operand) : Value := (ρ x).lit.getD undef

def noSelect (o : Op) : Bool := match o with | .select _ _ => false | _ => true

def coPure (P : Program) (o : Oper) (ρ : Operand → T) : Option Del :=
  if noSelect o.op && o.op.operands.all fun x => (ρ x).lit.isSome then
    match pureRun P (execOp (litOf ρ) o) with
    | some (.value v) => some { val := .c v }
    | _ => none
  else none

theorem coPure_ok {P : Program} {g : Gl} {o : Oper} {τ : Operand → T} {ρ : Operand → Value} {w : World} {e : Env} {R : Pl} {H : List O} {d : Del} (s : Sat g w e R H)
    (hρ : ∀ x, RelT w e (Mut e R H) (τ x) (ρ x)) (h : coPure P o τ = some d) : Does P g o ρ w e R H d := by
  unfold coPure at h
  split at h
  · rename_i hc
    simp only [Bool.and_eq_true, Array.all_eq_true_iff_forall_mem] at hc
    obtain ⟨hc1, hc2⟩ := hc
    have heq : execOp ρ o = execOp (litOf τ) o := by
      refine execOp_congr o (fun cs b h => ?_) (fun x hx => ?_)
      · rw [h] at hc1; cases hc1
      · obtain ⟨v, hv⟩ := Option.isSome_iff_exists.1 (hc2 x hx)
        rw [T.lit_rel hv (hρ x)]
        simp [litOf, hv]
    split at h
    · rename_i v hv
      cases h
      exact Does.val s (u := v) (by rw [heq]; exact pureRun_run hv w) (.c v)
    · cases h
  · cases h

/-- The operands' values are told of by what stands for them. -/
def eva (tm : List T) : Operand → T
  | .tmp t => (tm[t]?).getD T.x
  | .const v => .c v
  | .global g => .c (.pointer (some ⟨g, 0, none⟩))
  | .func f => .c (.func (.func f) #[] #[])

theorem eva_rel {w : World} {e : Env} {M : Pl} {tm : List T} {a : Act} (h : ∀ (t : Nat) (v : T), tm[t]? = some v → RelT w e M v (a.tmps.getD t undef)) (x : Operand) :
    RelT w e M (eva tm x) (a.eval x) := by
  cases x with
  | tmp t =>
    simp only [eva, Act.eval]
    cases ht : tm[t]? with
    | none => exact .x _
    | some v => exact h t v ht
  | const v => exact .c v
  | global g => exact .c _
  | func f => exact .c _

def coMove (o : Oper) (ρ : Operand → T) : Option Del :=
  match o.op with
  | .move x | .assign x => some { val := ρ x }
  | _ => none

theorem coMove_ok {P : Program} {g : Gl} {o : Oper} {τ : Operand → T} {ρ : Operand → Value} {w : World} {e : Env} {R : Pl} {H : List O} {d : Del} (s : Sat g w e R H)
    (hρ : ∀ x, RelT w e (Mut e R H) (τ x) (ρ x)) (h : coMove o τ = some d) : Does P g o ρ w e R H d := by
  unfold coMove at h
  split at h
  · rename_i x hx
    cases h
    exact Does.val s (u := ρ x) (by simp [execOp, hx]) (hρ x)
  · rename_i x hx
    cases h
    exact Does.val s (u := ρ x) (by simp [execOp, hx]) (hρ x)
  · cases h

def coPick (o : Oper) (ρ : Operand → T) (it : It) : Option (Del × Prop) :=
  match o.op with
  | .pick c x y => match (ρ c).lit, it with
    | some (.bool b), .b d => some ({ val := if d then ρ x else ρ y }, b = d)
    | _, _ => none
  | _ => none

theorem coPick_ok {P : Program} {g : Gl} {o : Oper} {τ : Operand → T} {ρ : Operand → Value} {w : World} {e : Env} {R : Pl} {H : List O} {d : Del} {p : Prop} {it : It} (s : Sat g w e R H)
    (hρ : ∀ x, RelT w e (Mut e R H) (τ x) (ρ x)) (h : coPick o τ it = some (d, p)) (hp : p) : Does P g o ρ w e R H d := by
  unfold coPick at h
  split at h
  · rename_i c x y hx
    split at h
    · rename_i b dd hb
      cases h
      subst hp
      have hc := T.lit_rel hb (hρ c)
      cases b
      · exact Does.val s (u := ρ y) (by simp [execOp, hx, hc, asBool]) (hρ y)
      · exact Does.val s (u := ρ x) (by simp [execOp, hx, hc, asBool]) (hρ x)
    · cases h
  · cases h

def coExtract (o : Oper) (ρ : Operand → T) : Option Del :=
  match o.op with
  | .extract x i => match ρ x with
    | .t vs => (vs[i]?).map fun v => { val := .a v }
    | _ => none
  | _ => none

theorem coExtract_ok {P : Program} {g : Gl} {o : Oper} {τ : Operand → T} {ρ : Operand → Value} {w : World} {e : Env} {R : Pl} {H : List O} {d : Del} (s : Sat g w e R H)
    (hρ : ∀ x, RelT w e (Mut e R H) (τ x) (ρ x)) (h : coExtract o τ = some d) : Does P g o ρ w e R H d := by
  unfold coExtract at h
  split at h
  · rename_i x i hx
    split at h
    · rename_i vs hv
      simp only [Option.map_eq_some_iff] at h
      obtain ⟨v, hi, rfl⟩ := h
      have := hρ x
      rw [hv] at this
      obtain ⟨us, h1, h2, h3⟩ := this
      obtain ⟨u, h4, h5⟩ := h3 i v hi
      exact Does.val s (u := u) (by simp [execOp, hx, h1, Instr.extract, h4]) h5
    · cases h
  · cases h

def coNil (o : Oper) (ρ : Operand → T) : Option Del :=
  match o.op with
  | .nilCheck x => match ρ x with
    | .a (.s (.ref k off)) => some { val := .a (.s (.ref k off)) }
    | .a (.s (.el k off esz i sub)) => some { val := .a (.s (.el k off esz i sub)) }
    | .a (.s (.spt cs sub)) => some { val := .a (.s (.spt cs sub)) }
    | _ => none
  | .binOp .eql _ x y _ => match ρ x, (ρ y).lit with
    | .a (.s (.ref _ _)), some (.pointer none) => some { val := .c (.bool false) }
    | _, _ => none
  | .binOp .neq _ x y _ => match ρ x, (ρ y).lit with
    | .a (.s (.ref _ _)), some (.pointer none) => some { val := .c (.bool true) }
    | _, _ => none
  | _ => none

/-- A pointer's type, at a comparison. -/
def ptrType (P : Program) (o : Op) : Bool :=
  match o with
  | .nilCheck _ => true
  | .binOp _ t _ _ _ => (match P.underlying t with | some (.pointer _) => true | _ => false)
  | _ => false

theorem eql_ptr {P : Program} {t el : TypeId} (hu : P.underlying t = some (.pointer el)) (p : Option Addr) (w : World) : (Op.equal t (.pointer p) (.pointer none)).run P w = .ok p.isNone w := by
  have he : Op.equal t (.pointer p) (.pointer none) = Op.equalIn (9999 + 1) t (.pointer p) (.pointer none) := rfl
  rw [he, Op.equalIn, Sem.run_bind, run_underlying hu, Result.andThen_ok]
  cases p <;> rfl

theorem coNil_ok {P : Program} {g : Gl} {o : Oper} {τ : Operand → T} {ρ : Operand → Value} {w : World} {e : Env} {R : Pl} {H : List O} {d : Del} (s : Sat g w e R H)
    (hρ : ∀ x, RelT w e (Mut e R H) (τ x) (ρ x)) (h : coNil o τ = some d) (ht : ptrType P o.op = true) : Does P g o ρ w e R H d := by
  unfold coNil at h
  split at h
  · rename_i x hx
    have hr := hρ x
    split at h
    · rename_i k off hv
      rw [hv] at hr; cases h
      cases hr' : ρ x <;> (rw [hr'] at hr; cases hr)
      exact Does.val s (u := ρ x) (by simp [execOp, hx, hr']) (by rw [hr']; exact .ref k off)
    · rename_i k off esz i sub hv
      rw [hv] at hr; cases h
      cases hr' : ρ x <;> (rw [hr'] at hr; cases hr)
      exact Does.val s (u := ρ x) (by simp [execOp, hx, hr']) (by rw [hr']; exact .el k off esz i sub)
    · rename_i cs sub hv
      rw [hv] at hr; cases h
      have hr0 := hr
      cases hr' : ρ x <;> (rw [hr'] at hr; cases hr)
      exact Does.val s (u := ρ x) (by simp [execOp, hx, hr']) hr0
    · cases h
  · rename_i t x y yt hx
    split at h
    · rename_i k off hv hl
      cases h
      have h1 := T.lit_rel hl (hρ y)
      have hr := hρ x
      rw [hv] at hr
      rw [hx] at ht
      simp only [ptrType] at ht
      cases hu : P.underlying t with
      | none => rw [hu] at ht; cases ht
      | some td =>
        cases td <;> rw [hu] at ht <;> try cases ht
        cases hr' : ρ x <;> (rw [hr'] at hr; cases hr)
        exact Does.val s (u := .bool false) (by simp [execOp, hx, hr', h1, eqGuard, binOp, eql_ptr hu]) (.c _)
    · cases h
  · rename_i t x y yt hx
    split at h
    · rename_i k off hv hl
      cases h
      have h1 := T.lit_rel hl (hρ y)
      have hr := hρ x
      rw [hv] at hr
      rw [hx] at ht
      simp only [ptrType] at ht
      cases hu : P.underlying t with
      | none => rw [hu] at ht; cases ht
      | some td =>
        cases td <;> rw [hu] at ht <;> try cases ht
        cases hr' : ρ x <;> (rw [hr'] at hr; cases hr)
        exact Does.val s (u := .bool true) (by simp [execOp, hx, hr', h1, eqGuard, binOp, eql_ptr hu]) (.c _)
    · cases h
  · cases h
end Sx
