/- The executor is right; loops; a function's contract from its body. -/
import Derived.Test.YthimhmocgnnaiaaDoorSxU
namespace Sx
open Go

theorem Piece.seq_out {P : Program} {g : Gl} {a b : Code} {s s' : St} {ex : Exit} (h : Piece P g a s ex s') (hn : ex ≠ .normal) : Piece P g (.seq a b) s ex s' := fun R w0 e0 H0 Q w ac e ho hQ =>
  wp_seq (h R w0 e0 H0 _ w ac e ho fun a' w' e' h' => by
    have := hQ a' w' e' h'
    cases ex <;> first | exact this | exact absurd rfl hn)

theorem Piece.seq {P : Program} {g : Gl} {a b : Code} {s s1 s' : St} {ex : Exit} (h : Piece P g a s .normal s1) (h' : Piece P g b s1 ex s') : Piece P g (.seq a b) s ex s' := fun R w0 e0 H0 Q w ac e ho hQ =>
  wp_seq (h R w0 e0 H0 _ w ac e ho fun a' w' e' h1 => h' R w0 e0 H0 Q w' a' e' h1 hQ)

theorem Piece.block_exit {P : Program} {g : Gl} {a : Code} {id i : Nat} {s s' : St} (h : Piece P g a s (.exit i) s') : Piece P g (.block id a) s (if i = id then .normal else .exit i) s' := fun R w0 e0 H0 Q w ac e ho hQ =>
  wp_block (h R w0 e0 H0 _ w ac e ho fun a' w' e' h1 => by
    have := hQ a' w' e' h1
    simp only [Exit.inBlock]
    split
    · rename_i hi; rw [if_pos hi] at this; exact this
    · rename_i hi; rw [if_neg hi] at this; exact this)

theorem Piece.block_other {P : Program} {g : Gl} {a : Code} {id : Nat} {s s' : St} {ex : Exit} (h : Piece P g a s ex s') (hn : ∀ i, ex ≠ .exit i) : Piece P g (.block id a) s ex s' := fun R w0 e0 H0 Q w ac e ho hQ =>
  wp_block (h R w0 e0 H0 _ w ac e ho fun a' w' e' h1 => by
    have := hQ a' w' e' h1
    cases ex <;> first | exact this | exact absurd rfl (hn _))

theorem Piece.cond {P : Program} {g : Gl} {x : Operand} {a b : Code} {s s' : St} {ex : Exit} {t d : Bool} (hx : (eva s.tm x).lit = some (.bool t)) (ht : t = d)
    (h : Piece P g (if d then a else b) s ex s') : Piece P g (.cond x a b) s ex s' := fun R w0 e0 H0 Q w ac e ho hQ => by
  have h1 := T.lit_rel hx (eva_rel ho.tms x)
  subst ht
  exact wp_cond h1 (h R w0 e0 H0 Q w ac e ho hQ)

theorem sx_ok {P : Program} {g : Gl} (hm : P.follows .mixedOrders = true) : ∀ (c : Code) (sc : List Sc) (s : St) (ex : Exit) (s' : St) (p : List Prop) (r : List Sc), sx P g c sc s = some (ex, s', p, r) → pall p → Piece P g c s ex s' := by
  have split2 : ∀ {a b : List Prop}, pall (a ++ b) → pall a ∧ pall b := fun h => pall_append h
  intro c
  induction c with
  | skip =>
    intro sc s ex s' p r h hp
    rw [sx] at h
    split at h
    · cases h
    · rename_i sc1 s1 gp hg
      simp only [Option.some.injEq, Prod.mk.injEq] at h
      obtain ⟨rfl, rfl, rfl, _⟩ := h
      exact Piece.pre (ghosts_ok _ _ _ _ _ hg hp) (fun R w0 e0 H0 Q w a e ho hQ => wp_skip (hQ a w e ho))
  | exit id =>
    intro sc s ex s' p r h hp
    rw [sx] at h
    split at h
    · cases h
    · rename_i sc1 s1 gp hg
      simp only [Option.some.injEq, Prod.mk.injEq] at h
      obtain ⟨rfl, rfl, rfl, _⟩ := h
      exact Piece.pre (ghosts_ok _ _ _ _ _ hg hp) (fun R w0 e0 H0 Q w a e ho hQ => wp_exit (hQ a w e ho))
  | ret =>
    intro sc s ex s' p r h hp
    rw [sx] at h
    split at h
    · cases h
    · rename_i sc1 s1 gp hg
      simp only [Option.some.injEq, Prod.mk.injEq] at h
      obtain ⟨rfl, rfl, rfl, _⟩ := h
      exact Piece.pre (ghosts_ok _ _ _ _ _ hg hp) (fun R w0 e0 H0 Q w a e ho hQ => wp_ret (hQ a w e ho))
  | region id ops draw =>
    intro sc s ex s' p r h hp
    rw [sx] at h
    split at h
    · cases h
    · rename_i sc1 s1 gp hg
      simp only at h
      split at h
      · rename_i hs is r1
        split at h
        · rename_i s2 q hr
          simp only [Option.some.injEq, Prod.mk.injEq] at h
          obtain ⟨rfl, rfl, rfl, _⟩ := h
          refine Piece.pre (ghosts_ok _ _ _ _ _ hg hp.2) (fun R w0 e0 H0 Q w a e ho hQ => ?_)
          unfold runReg at hr
          cases draw with
          | true =>
            simp only [if_true] at hr
            exact wp_region_any hm (runAny_ok hr hp.1 (ho.of_heap rfl ⟨rfl, rfl⟩) hQ)
          | false => exact wp_region (runL_ok _ _ _ _ hr hp.1 w a e ho hQ)
        · cases h
      · cases h
  | seq a b iha ihb =>
    intro sc s ex s' p r h hp
    rw [sx] at h
    split at h
    · cases h
    · rename_i sc1 s1 gp hg
      simp only at h
      split at h
      · rename_i s2 p2 r2 h2
        split at h
        · rename_i ex3 s3 p3 r3 h3
          simp only [Option.some.injEq, Prod.mk.injEq] at h
          obtain ⟨rfl, rfl, rfl, _⟩ := h
          obtain ⟨q1, q2⟩ := split2 hp
          obtain ⟨q2, q3⟩ := split2 q2
          exact Piece.pre (ghosts_ok _ _ _ _ _ hg q1) ((iha _ _ _ _ _ _ h2 q2).seq (ihb _ _ _ _ _ _ h3 q3))
        · cases h
      · rename_i ex2 s2 p2 r2 hne h2
        simp only [Option.some.injEq, Prod.mk.injEq] at h
        obtain ⟨rfl, rfl, rfl, _⟩ := h
        obtain ⟨q1, q2⟩ := split2 hp
        exact Piece.pre (ghosts_ok _ _ _ _ _ hg q1) ((iha _ _ _ _ _ _ h2 q2).seq_out hne)
      · cases h
  | cond x a b iha ihb =>
    intro sc s ex s' p r h hp
    rw [sx] at h
    split at h
    · cases h
    · rename_i sc1 s1 gp hg
      simp only at h
      split at h
      · rename_i d r1
        split at h
        · rename_i t ht
          split at h
          · rename_i ex2 s2 p2 r2 h2
            simp only [Option.some.injEq, Prod.mk.injEq] at h
            obtain ⟨rfl, rfl, rfl, _⟩ := h
            obtain ⟨q1, q2⟩ := split2 hp.2
            refine Piece.pre (ghosts_ok _ _ _ _ _ hg q1) (Piece.cond ht hp.1 ?_)
            cases d with
            | true => exact iha _ _ _ _ _ _ h2 q2
            | false => exact ihb _ _ _ _ _ _ h2 q2
          · cases h
        · cases h
      · rename_i ex2 s2 r2
        simp only [Option.some.injEq, Prod.mk.injEq] at h
        obtain ⟨rfl, rfl, rfl, _⟩ := h
        exact Piece.pre (ghosts_ok _ _ _ _ _ hg hp.2) hp.1
      · cases h
  | block id a iha =>
    intro sc s ex s' p r h hp
    rw [sx] at h
    split at h
    · cases h
    · rename_i sc1 s1 gp hg
      simp only at h
      split at h
      · rename_i ex2 s2 r2
        simp only [Option.some.injEq, Prod.mk.injEq] at h
        obtain ⟨rfl, rfl, rfl, _⟩ := h
        exact Piece.pre (ghosts_ok _ _ _ _ _ hg hp.2) hp.1
      · split at h
        · rename_i i s2 p2 r2 h2
          simp only [Option.some.injEq, Prod.mk.injEq] at h
          obtain ⟨rfl, rfl, rfl, _⟩ := h
          obtain ⟨q1, q2⟩ := split2 hp
          exact Piece.pre (ghosts_ok _ _ _ _ _ hg q1) (iha _ _ _ _ _ _ h2 q2).block_exit
        · rename_i ex2 s2 p2 r2 hne h2
          simp only [Option.some.injEq, Prod.mk.injEq] at h
          obtain ⟨rfl, rfl, rfl, _⟩ := h
          obtain ⟨q1, q2⟩ := split2 hp
          exact Piece.pre (ghosts_ok _ _ _ _ _ hg q1) ((iha _ _ _ _ _ _ h2 q2).block_other hne)
        · cases h
  | loop a _ =>
    intro sc s ex s' p r h hp
    rw [sx] at h
    split at h
    · cases h
    · rename_i sc1 s1 gp hg
      simp only at h
      split at h
      · rename_i ex2 s2 r2
        simp only [Option.some.injEq, Prod.mk.injEq] at h
        obtain ⟨rfl, rfl, rfl, _⟩ := h
        exact Piece.pre (ghosts_ok _ _ _ _ _ hg hp.2) hp.1
      · cases h
  | _ =>
    intro sc s ex s' p r h hp
    rw [sx] at h
    split at h
    · cases h
    · cases h

/-! ### Loops -/
def Lp (P : Program) (c : Code) (Q : Exit → Act → World → Prop) : Nat → Act → World → Prop
  | 0, _, _ => False
  | n + 1, a, w => c.wp P (Exit.then (Lp P c Q n) Q) a w

open Classical in
theorem loop_of_Lp {P : Program} {c : Code} {Q : Exit → Act → World → Prop} {n : Nat} {a : Act} {w : World} (h : Lp P c Q n a w) : (Code.loop c).wp P Q a w := by
  have hleast : ∀ (p : Nat → Prop), (∃ n, p n) → ∃ n, p n ∧ ∀ m, m < n → ¬ p m := by
    intro p ⟨n, hn⟩
    induction n using Nat.strongRecOn with
    | ind n ih =>
      by_cases hh : ∃ m, m < n ∧ p m
      · obtain ⟨m, h1, h2⟩ := hh; exact ih m h1 h2
      · exact ⟨n, hn, fun m h1 h2 => hh ⟨m, h1, h2⟩⟩
  let μ : Act → World → Nat := fun a w => if hh : ∃ n, Lp P c Q n a w then Classical.choose (hleast _ hh) else 0
  have hμ : ∀ a w, (∃ n, Lp P c Q n a w) → Lp P c Q (μ a w) a w ∧ ∀ m, Lp P c Q m a w → μ a w ≤ m := by
    intro a w hh
    have h1 := Classical.choose_spec (hleast _ hh)
    have : μ a w = Classical.choose (hleast _ hh) := by simp only [μ]; rw [dif_pos hh]
    rw [this]
    exact ⟨h1.1, fun m hm => Nat.le_of_not_lt fun hl => h1.2 m hl hm⟩
  refine wp_loop (fun a w => ∃ n, Lp P c Q n a w) μ ⟨n, h⟩ ?_
  intro a w hI
  obtain ⟨h1, _⟩ := hμ a w hI
  cases hn : μ a w with
  | zero => rw [hn] at h1; exact h1.elim
  | succ m =>
    rw [hn] at h1
    refine wp_mono h1 ?_
    intro e a' w' he
    cases e with
    | normal => exact ⟨⟨m, he⟩, Nat.lt_succ_of_le ((hμ a' w' ⟨m, he⟩).2 m he)⟩
    | _ => exact he

inductive Loop (P : Program) (g : Gl) (c : Code) : St → Exit → St → Prop
  | out {s s' : St} {ex : Exit} : Piece P g c s ex s' → ex ≠ .normal → Loop P g c s ex s'
  | next {s s1 s' : St} {ex : Exit} : Piece P g c s .normal s1 → Loop P g c s1 ex s' → Loop P g c s ex s'

theorem Loop.piece {P : Program} {g : Gl} {c : Code} {s s' : St} {ex : Exit} (h : Loop P g c s ex s') : Piece P g (.loop c) s ex s' := by
  intro R w0 e0 H0 Q w a e ho hQ
  have key : ∃ n, ∀ (w : World) (a : Act) (e : Env), StOk g R w0 e0 H0 w a e s → Lp P c Q n a w := by
    clear ho
    induction h with
    | @out _ _ ex0 h hn =>
      refine ⟨1, fun w a e ho => h R w0 e0 H0 _ w a e ho fun a' w' e' h' => ?_⟩
      have := hQ a' w' e' h'
      cases ex0 <;> first | exact this | exact absurd rfl hn
    | next h _ ih =>
      obtain ⟨n, hn⟩ := ih hQ
      exact ⟨n + 1, fun w a e ho => h R w0 e0 H0 _ w a e ho fun a' w' e' h' => hn w' a' e' h'⟩
  obtain ⟨n, hn⟩ := key
  exact loop_of_Lp (hn w a e ho)

/-! ### Functions -/
def initSt (fn : Func) (args : List T) (H : List O) : St := { tm := args ++ List.replicate (fn.ntmps - args.length) (T.c undef), hp := H }

def resOf (P : Program) (s : St) : ResultVar → Option A
  | .tmp t => match s.tm[t]? with | some (.a v) => some v | _ => none
  | .cell a t => match P.info? t, aggOf P t, eva s.tm (.tmp a) with
    | some inf, some ag, .a (.s (.ref k off)) => match s.hp[k]? with
      | some (.cells ss) => if ag then (getR ss off inf.size).map .g else (getC ss off).map .s
      | _ => none
    | _, _, _ => none

def resAll (P : Program) (s : St) : List ResultVar → Option (List A)
  | [] => some []
  | x :: r => match resOf P s x, resAll P s r with
    | some v, some vs => some (v :: vs)
    | _, _ => none

/-- What is answered: one result, or all together. -/
def fnRes (P : Program) (fn : Func) (s : St) : Option T :=
  match resAll P s fn.results.toList with
  | some [v] => some (.a v)
  | some vs => some (.t vs)
  | none => none

def resRun (tmps : Array Value) : ResultVar → Sem Value
  | .tmp t => pure (tmps.getD t undef)
  | .cell a t => do loadVar t (← asAddr (tmps.getD a undef))

theorem resOf_ok {P : Program} {g : Gl} {R : Pl} {w0 : World} {e0 : Env} {H0 : List O} {w : World} {a : Act} {e : Env} {s : St} (ho : StOk g R w0 e0 H0 w a e s) {x : ResultVar} {v : A} (h : resOf P s x = some v) :
    ∃ u, (resRun a.tmps x).run P w = .ok u w ∧ RelA w e (Mut e R s.hp) v u := by
  cases x with
  | tmp t =>
    simp only [resOf] at h
    split at h
    · rename_i v' ht
      cases h
      exact ⟨_, rfl, ho.tms t _ ht⟩
    · cases h
  | cell ad t =>
    simp only [resOf] at h
    split at h
    · rename_i inf ag k off hi ha hv
      have hr := eva_rel ho.tms (.tmp ad)
      rw [hv] at hr
      simp only [Act.eval] at hr
      have hp : a.tmps.getD ad undef = .pointer (some ⟨(e.β k).1, (e.β k).2 + off, none⟩) := by
        generalize a.tmps.getD ad undef = u at hr
        cases hr; rfl
      split at h
      · rename_i ss hk
        cases ag with
        | true =>
          simp only [if_true, Option.map_eq_some_iff] at h
          obtain ⟨cs, hcs, rfl⟩ := h
          obtain ⟨hlen, hget⟩ := getR_spec ss inf.size off cs hcs
          obtain ⟨us, h1, h2⟩ := list_choose (p := fun j u => w.cell? ⟨(e.β k).1, (e.β k).2 + off + j, none⟩ = some u ∧ ∀ c, cs[j]? = some c → Rel w e (Mut e R s.hp) c u) cs.length fun j hj => by
            obtain ⟨u, h1, h2⟩ := ho.sat.has k _ _ _ hk (hget j cs[j] (List.getElem?_eq_getElem hj))
            exact ⟨u, by rw [Nat.add_assoc]; exact h1, fun c hc => by rw [List.getElem?_eq_getElem hj] at hc; cases hc; exact h2⟩
          refine ⟨.agg us.toArray, ?_, us, rfl, h1, fun j c hj => ?_⟩
          · have := run_loadCells_list (P := P) w ⟨(e.β k).1, (e.β k).2 + off, none⟩ us (fun j v hj => by
              have hjl := (List.getElem?_eq_some_iff.1 hj).1
              obtain ⟨u, h3, h4, _⟩ := h2 j (h1 ▸ hjl)
              rw [hj] at h3; cases h3
              rw [add_none]; exact h4)
            rw [h1, hlen] at this
            simp only [resRun, hp]
            simp [asAddr, loadVar, run_isAgg' ha, run_sizeOf' hi, this]
          · have hjl := (List.getElem?_eq_some_iff.1 hj).1
            obtain ⟨u, h3, _, h5⟩ := h2 j hjl
            exact ⟨u, h3, h5 c hj⟩
        | false =>
          simp only [Bool.false_eq_true, if_false, Option.map_eq_some_iff] at h
          obtain ⟨c, hc, rfl⟩ := h
          have h1 := getC_has ss off c 0 hc
          rw [Nat.zero_add] at h1
          obtain ⟨u, h2, h3⟩ := ho.sat.has k _ _ c hk h1
          refine ⟨u, ?_, h3⟩
          simp only [resRun, hp]
          simp [asAddr, loadVar, run_isAgg' ha, h2]
      · cases h
    · cases h

def tupV : List Value → Value
  | [v] => v
  | us => .tuple us.toArray

theorem results_run {P : Program} {fn : Func} {w : World} {tmps : Array Value} (us : List Value) (rs : List ResultVar) (hrs : fn.results = rs.toArray) (hlen : rs.length ≤ 4) (hl : rs.length = us.length)
    (h : ∀ (j : Nat) (r : ResultVar), rs[j]? = some r → ∃ u, us[j]? = some u ∧ (resRun tmps r).run P w = .ok u w) :
    (results fn tmps).run P w = .ok (tupV us) w := by
  have hres : results fn tmps = (do let vs ← rs.toArray.mapM (resRun tmps); pure (if h : vs.size = 1 then vs[0] else .tuple vs)) := by
    unfold results
    rw [hrs]
    congr 1
  rw [hres]
  have g : ∀ (j : Nat) (r : ResultVar) (u : Value), rs[j]? = some r → us[j]? = some u → (resRun tmps r).run P w = .ok u w := fun j r u h1 h2 => by
    obtain ⟨u', h3, h4⟩ := h j r h1
    rw [h2] at h3; cases h3; exact h4
  clear h
  match rs, us, hl, hlen, g with
  | [], [], _, _, _ => simp [tupV]
  | [a], [x], _, _, g => have := g 0 a x rfl rfl; simp [tupV, this]
  | [a, b], [x, y], _, _, g => have h1 := g 0 a x rfl rfl; have h2 := g 1 b y rfl rfl; simp [tupV, h1, h2]
  | [a, b, c], [x, y, z], _, _, g => have h1 := g 0 a x rfl rfl; have h2 := g 1 b y rfl rfl; have h3 := g 2 c z rfl rfl; simp [tupV, h1, h2, h3]
  | [a, b, c, d], [x, y, z, t], _, _, g => have h1 := g 0 a x rfl rfl; have h2 := g 1 b y rfl rfl; have h3 := g 2 c z rfl rfl; have h4 := g 3 d t rfl rfl; simp [tupV, h1, h2, h3, h4]
end Sx
