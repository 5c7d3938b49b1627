/- From a run of the executor to a function's contract, or a piece's. -/
import Derived.Test.YthimhmocgnnaiaaDoorSxW
namespace Sx
open Go

/-- The usual obligation of a step that asks nothing. -/
def Tt : Prop := True ∧ True
theorem tt : Tt := ⟨trivial, trivial⟩

def isEnd : Exit → Bool
  | .normal => true
  | .ret => true
  | _ => false

def fnGo (P : Program) (g : Gl) (fn : Func) (args : List T) (H : List O) (sc : List Sc) (ρ mv : List Nat) : Option (T × List O × List Prop) :=
  if (closedB H && argsB args H && decide (args.length ≤ fn.ntmps) && decide (fn.results.size ≤ 4)) then
    match fn.body with
    | none => none
    | some c => match sx P g c sc (initSt fn args H) with
      | some (ex, s', p, r) => match ghosts r s' with
        | some ([], s2, gp) =>
          if isEnd ex then
            if nodupB ρ && keepOk H.length mv ρ && s2.mv.all (fun k => mv.contains k || !decide (k < H.length)) then
              match fnRes P fn s2, subOf ρ (fun k => s2.hp[k]?) ρ with
              | some res, some q => some (renT (posOf ρ) res, q, gp ++ p)
              | _, _ => none
            else none
          else none
        | _ => none
      | _ => none
  else none

theorem FT_go {P : Program} {g : Gl} {f : FuncId} {fn : Func} {args : List T} {H q : List O} {sc : List Sc} {ρ mv : List Nat} {res : T} {p : List Prop} (hm : P.follows .mixedOrders = true) (hf : P.funcs[f]? = some fn)
    (h : fnGo P g fn args H sc ρ mv = some (res, q, p)) (hp : pall p) : FT P g f args H mv res q := by
  unfold fnGo at h
  split at h
  · rename_i hc
    split at h
    · cases h
    · rename_i c hb
      split at h
      · rename_i ex s' p' r hs
        split at h
        · rename_i s2 gp hg
          split at h
          · rename_i hex
            split at h
            · rename_i hk
              split at h
              · rename_i res' q' hr hq
                simp only [Option.some.injEq, Prod.mk.injEq] at h
                obtain ⟨rfl, rfl, rfl⟩ := h
                obtain ⟨p1, p2⟩ := pall_append hp
                have hpc := (sx_ok hm _ _ _ _ _ _ _ hs p2).post (ghosts_ok _ _ _ _ _ hg p1)
                have hex' : ex = .normal ∨ ex = .ret := by cases ex <;> first | exact .inl rfl | exact .inr rfl | cases hex
                exact (FT_of hf hb hc hpc hex' hr).keep ρ hk hq
              · cases h
            · cases h
          · cases h
        · cases h
      · cases h
  · cases h

/-- A piece that a script leads through. -/
def pcGo (P : Program) (g : Gl) (c : Code) (sc : List Sc) (s : St) : Option (Exit × St × List Prop) :=
  match sx P g c sc s with
  | some (ex, s', p, r) => match ghosts r s' with
    | some ([], s2, gp) => some (ex, s2, gp ++ p)
    | _ => none
  | none => none

theorem Piece_go {P : Program} {g : Gl} {c : Code} {sc : List Sc} {s s' : St} {ex : Exit} {p : List Prop} (hm : P.follows .mixedOrders = true) (h : pcGo P g c sc s = some (ex, s', p)) (hp : pall p) : Piece P g c s ex s' := by
  unfold pcGo at h
  split at h
  · rename_i ex1 s1 p1 r hs
    split at h
    · rename_i s2 gp hg
      simp only [Option.some.injEq, Prod.mk.injEq] at h
      obtain ⟨rfl, rfl, rfl⟩ := h
      obtain ⟨q1, q2⟩ := pall_append hp
      exact (sx_ok hm _ _ _ _ _ _ _ hs q2).post (ghosts_ok _ _ _ _ _ hg q1)
    · cases h
  · cases h

/-- New objects that nothing leans on are passed over. -/
theorem Piece.trunc {P : Program} {g : Gl} {c : Code} {s s' : St} {ex : Exit} (h : Piece P g c s ex s')
    (hb : (s'.tm.all (T.lt s.hp.length) && (s'.hp.take s.hp.length).all (fun o => o.ones.all (C.lt s.hp.length)) && decide (s.hp.length ≤ s'.hp.length)) = true) :
    Piece P g c s ex { s' with hp := s'.hp.take s.hp.length } := by
  simp only [Bool.and_eq_true, decide_eq_true_eq] at hb
  obtain ⟨⟨h1, h2⟩, h3⟩ := hb
  intro R w0 e0 H0 Q w a e ho hQ
  refine h R w0 e0 H0 Q w a e ho fun a' w' e' h' => hQ a' w' e' ?_
  have hlen : (s'.hp.take s.hp.length).length = s.hp.length := by rw [List.length_take]; omega
  have hget : ∀ (k : Nat) (obj : O), (s'.hp.take s.hp.length)[k]? = some obj → s'.hp[k]? = some obj := fun k obj hk => by
    rw [List.getElem?_take] at hk
    split at hk
    · exact hk
    · cases hk
  have hfp : ∀ b o, FP e' (s'.hp.take s.hp.length) b o → FP e' s'.hp b o := by
    rintro b o ⟨k, obj, i, k1, k2⟩; exact ⟨k, obj, i, hget k obj k1, k2⟩
  have hM : ∀ b o, Mut e' R (s'.hp.take s.hp.length) b o → Mut e' R s'.hp b o := fun b o hm => hm.imp id (hfp b o)
  have hs : Sat g w' e' R (s'.hp.take s.hp.length) := by
    have q := h'.sat
    refine ⟨fun k obj hk => q.wf k obj (hget k obj hk), fun k obj o v hk hv => ?_, fun k obj o hk hv => q.cov k obj o (hget k obj hk) hv, fun k k' obj obj' o o' hk hk' => q.dis k k' obj obj' o o' (hget k obj hk) (hget k' obj' hk'),
      fun b o hr => ⟨fun hf => (q.rest b o hr).1 (hfp b o hf), (q.rest b o hr).2⟩, fun b o hm => q.low b o (hM b o hm), q.glob⟩
    obtain ⟨u, h4, h5⟩ := q.has k obj o v (hget k obj hk) hv
    exact ⟨u, h4, h5.step (fun _ _ => ⟨rfl, rfl⟩) (fun b o v hc hn => ⟨hc, fun hm => hn (hM b o hm)⟩)⟩
  refine ⟨hs, ?_, ?_, ?_, h'.len, h'.defers, ?_, ?_⟩
  · intro k obj o v hk hv j hj
    rw [hlen]
    rcases ones_or_free (hs.wf k obj hk) hv with h4 | h4
    · have := List.all_eq_true.1 (List.all_eq_true.1 h2 obj (List.mem_of_getElem? hk)) v h4
      simp only [C.lt, hj, decide_eq_true_eq] at this; exact this
    · rw [C.key_of_free h4] at hj; cases hj
  · intro t v ht
    exact (h'.tms t v ht).mem (fun b o v hc hn => ⟨hc, fun hm => hn (hM b o hm)⟩)
  · intro t v ht
    have := List.all_eq_true.1 h1 v (List.mem_of_getElem? ht)
    simp only [hlen]
    exact T.lt_below this
  · have x := h'.ext
    exact ⟨x.size, x.block, x.cell, fun b o hf => x.foot b o (hfp b o hf), x.pins, x.os⟩
  · simp only [hlen]; exact ho.hl

def pcGoT (P : Program) (g : Gl) (c : Code) (sc : List Sc) (s : St) : Option (Exit × St × List Prop) :=
  match pcGo P g c sc s with
  | some (ex, s', p) => if s'.tm.all (T.lt s.hp.length) && (s'.hp.take s.hp.length).all (fun o => o.ones.all (C.lt s.hp.length)) && decide (s.hp.length ≤ s'.hp.length) then some (ex, { s' with hp := s'.hp.take s.hp.length }, p) else none
  | none => none

theorem Piece_goT {P : Program} {g : Gl} {c : Code} {sc : List Sc} {s s' : St} {ex : Exit} {p : List Prop} (hm : P.follows .mixedOrders = true) (h : pcGoT P g c sc s = some (ex, s', p)) (hp : pall p) : Piece P g c s ex s' := by
  unfold pcGoT at h
  split at h
  · rename_i ex1 s1 p1 h1
    split at h
    · rename_i hb
      simp only [Option.some.injEq, Prod.mk.injEq] at h
      obtain ⟨rfl, rfl, rfl⟩ := h
      exact (Piece_go hm h1 hp).trunc hb
    · cases h
  · cases h
end Sx
