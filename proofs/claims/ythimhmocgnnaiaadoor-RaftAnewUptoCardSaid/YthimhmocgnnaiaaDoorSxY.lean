/- Words of the printed texts: decisions, states by their temporaries, rows of data. -/
import Derived.Test.YthimhmocgnnaiaaDoorSxX
namespace Sx
open Go

/-! ### Decisions of the pure functions -/
def iteB {α : Type} (b : Bool) (x y : Option α) : Option α := match b with | true => x | false => y
theorem iteB_some {α : Type} {b : Bool} {x y : Option α} {r : α} (h : iteB b x y = some r) : (b = true ∧ x = some r) ∨ (b = false ∧ y = some r) := by
  cases b
  · exact .inr ⟨rfl, h⟩
  · exact .inl ⟨rfl, h⟩
def ifP {α : Type} (p : Prop) [Decidable p] (x : Option α) : Option α := if p then x else none
theorem ifP_some {α : Type} {p : Prop} [Decidable p] {x : Option α} {r : α} (h : ifP p x = some r) : p ∧ x = some r := by
  unfold ifP at h
  split at h
  · exact ⟨‹p›, h⟩
  · cases h
theorem bind_some {α β : Type} {m : Option α} {f : α → Option β} {r : β} (h : m.bind f = some r) : ∃ a, m = some a ∧ f a = some r := by
  cases m with
  | none => cases h
  | some a => exact ⟨a, rfl, h⟩

/-! ### States -/
def setTs : List (Nat × T) → List T → List T
  | [], tm => tm
  | (t, v) :: r, tm => setTs r (tm.set t v)
def mkTm (n : Nat) (l : List (Nat × T)) : List T := setTs l (List.replicate n T.x)

/-- A part of a piece of code. -/
def subC : List Nat → Code → Code
  | [], c => c
  | i :: r, c => match c with
    | .seq a b => subC r (if i = 0 then a else b)
    | .cond _ a b => subC r (if i = 0 then a else b)
    | .block _ a => subC r a
    | .loop a => subC r a
    | c => c
def bodyOf (fn : Func) : Code := match fn.body with | some c => c | none => .skip

/-! ### Obligations -/
def Tn : Nat → Prop
  | 0 => True
  | n + 1 => True ∧ Tn n
theorem tn : ∀ n, Tn n
  | 0 => trivial
  | n + 1 => ⟨trivial, tn n⟩

def Tk : Nat → Prop → Prop
  | 0, p => p
  | n + 1, p => Tt ∧ Tk n p
theorem tk : ∀ (n : Nat) {p : Prop}, p → Tk n p
  | 0, _, h => h
  | n + 1, _, h => ⟨tt, tk n h⟩

/-! ### Rows -/
def rI (k : IntKind) (x : Int) : List C := [.c (.int k x)]
def rS (x : ByteArray) : List C := [.c (.string x)]
def rB (x : Bool) : List C := [.c (.bool x)]

theorem map_get {α β : Type} {f : α → β} {L : List α} {i : Nat} {e : α} (h : L[i]? = some e) : (L.map f)[i]? = some (f e) := by
  rw [List.getElem?_map, h]; rfl
theorem cut_map {α β : Type} {f : α → β} {L : List α} {i n : Nat} : cut (L.map f) i n = (cut L i n).map f := by
  simp [cut, List.map_drop, List.map_take]
theorem cut_all {α : Type} {L : List α} {n : Nat} (h : n = L.length) : cut L 0 n = L := by
  subst h; simp [cut]
theorem app_map {α β : Type} {f : α → β} {L M : List α} : L.map f ++ M.map f = (L ++ M).map f := List.map_append.symm
theorem set_map {α β : Type} {f : α → β} {L : List α} {i : Nat} {v : α} : (L.map f).set i (f v) = (L.set i v).map f := by
  rw [List.map_set]

/-! ### Arguments in another light -/
def shutC (esz : Nat) : C → C
  | .c (.slice none 0 0) => .ssl esz []
  | c => c
def shutAt (j esz : Nat) (cs : List C) : List C := match cs[j]? with | some c => cs.set j (shutC esz c) | none => cs
def shutL : List (Nat × Nat) → List C → List C
  | [], cs => cs
  | (j, esz) :: r, cs => shutL r (shutAt j esz cs)
def shutT (l : List (Nat × Nat)) : T → T
  | .a (.g cs) => .a (.g (shutL l cs))
  | .a (.s c) => match l with
    | (_, esz) :: _ => .a (.s (shutC esz c))
    | [] => .a (.s c)
  | t => t
def shutTs : List (List (Nat × Nat)) → List T → List T
  | l :: r, t :: ts => shutT l t :: shutTs r ts
  | _, ts => ts

theorem shutC_rel {w : World} {e : Env} {M : Pl} {esz : Nat} {c : C} {u : Value} (h : Rel w e M c u) : Rel w e M (shutC esz c) u := by
  unfold shutC
  split
  · have := Rel.c_eq h; subst this; exact .ssl0 _ _ _
  · exact h

theorem shutAt_rel {w : World} {e : Env} {M : Pl} {j esz : Nat} {cs : List C} {us : List Value} (h : RelL w e M cs us) : RelL w e M (shutAt j esz cs) us := by
  unfold shutAt
  split
  · rename_i c hc
    refine ⟨by rw [List.length_set]; exact h.1, fun i d hd => ?_⟩
    rcases set_get cs j i _ d hd with ⟨rfl, rfl⟩ | ⟨_, hd⟩
    · obtain ⟨u, h1, h2⟩ := h.2 i c hc; exact ⟨u, h1, shutC_rel h2⟩
    · exact h.2 i d hd
  · exact h

theorem shutL_rel {w : World} {e : Env} {M : Pl} : ∀ (l : List (Nat × Nat)) {cs : List C} {us : List Value}, RelL w e M cs us → RelL w e M (shutL l cs) us
  | [], _, _, h => h
  | (_, _) :: r, _, _, h => shutL_rel r (shutAt_rel h)

theorem shutT_rel {w : World} {e : Env} {M : Pl} {l : List (Nat × Nat)} {t : T} {u : Value} (h : RelT w e M t u) : RelT w e M (shutT l t) u := by
  unfold shutT
  split
  · obtain ⟨us, h1, h2⟩ := h; exact ⟨us, h1, shutL_rel l h2⟩
  · split
    · exact shutC_rel (c := _) h
    · exact h
  · exact h

theorem shutTs_rel {w : World} {e : Env} {M : Pl} : ∀ (ls : List (List (Nat × Nat))) (ts : List T) (vs : List Value), RelTs w e M ts vs → RelTs w e M (shutTs ls ts) vs
  | [], ts, vs, h => by cases ts <;> exact h
  | _ :: _, [], vs, h => h
  | l :: r, t :: ts, vs, h => by
    cases vs with
    | nil => exact absurd h.1 (by simp)
    | cons v vs =>
      have h0 : RelTs w e M ts vs := ⟨by simpa using h.1, fun j x hj => by simpa using h.2 (j + 1) x (by simpa using hj)⟩
      have h1 := shutTs_rel r ts vs h0
      refine ⟨by simpa [shutTs] using h1.1, fun j x hj => ?_⟩
      cases j with
      | zero =>
        simp [shutTs] at hj
        subst hj
        obtain ⟨u, h2, h3⟩ := h.2 0 t rfl
        exact ⟨u, h2, shutT_rel h3⟩
      | succ j => simpa using h1.2 j x (by simpa [shutTs] using hj)

def shutA (l : List (Nat × Nat)) : A → A
  | .g cs => .g (shutL l cs)
  | .s c => match l with
    | (_, esz) :: _ => .s (shutC esz c)
    | [] => .s c
def shutAs : List (List (Nat × Nat)) → List A → List A
  | l :: r, v :: vs => shutA l v :: shutAs r vs
  | _, vs => vs
def shutRes (ls : List (List (Nat × Nat))) : T → T
  | .a v => match ls with
    | l :: _ => .a (shutA l v)
    | [] => .a v
  | .t vs => .t (shutAs ls vs)
theorem shutA_rel {w : World} {e : Env} {M : Pl} {l : List (Nat × Nat)} {v : A} {u : Value} (h : RelA w e M v u) : RelA w e M (shutA l v) u := by
  cases v with
  | g cs => obtain ⟨us, h1, h2⟩ := h; exact ⟨us, h1, shutL_rel l h2⟩
  | s c =>
    match l with
    | [] => exact h
    | (_, esz) :: _ => exact shutC_rel (c := c) h
theorem shutAs_length : ∀ (ls : List (List (Nat × Nat))) (vs : List A), (shutAs ls vs).length = vs.length
  | [], vs => by cases vs <;> rfl
  | _ :: _, [] => rfl
  | _ :: r, _ :: vs => by simp [shutAs, shutAs_length r vs]
theorem shutAs_get : ∀ (ls : List (List (Nat × Nat))) (vs : List A) (j : Nat) (v : A), (shutAs ls vs)[j]? = some v → ∃ v0, vs[j]? = some v0 ∧ (v = v0 ∨ ∃ l, v = shutA l v0)
  | [], vs, j, v, h => ⟨v, by cases vs <;> exact h, .inl rfl⟩
  | _ :: _, [], j, v, h => by simp [shutAs] at h
  | l :: r, a :: vs, j, v, h => by
    cases j with
    | zero => simp [shutAs] at h; exact ⟨a, rfl, .inr ⟨l, h.symm⟩⟩
    | succ j =>
      obtain ⟨v0, h1, h2⟩ := shutAs_get r vs j v (by simpa [shutAs] using h)
      exact ⟨v0, by simpa using h1, h2⟩
theorem shutRes_rel {w : World} {e : Env} {M : Pl} {ls : List (List (Nat × Nat))} {t : T} {u : Value} (h : RelT w e M t u) : RelT w e M (shutRes ls t) u := by
  cases t with
  | a v =>
    match ls with
    | [] => exact h
    | l :: _ => exact shutA_rel (v := v) h
  | t vs =>
    obtain ⟨us, h1, h2, h3⟩ := h
    refine ⟨us, h1, by rw [shutAs_length]; exact h2, fun j v hj => ?_⟩
    obtain ⟨v0, h4, h5⟩ := shutAs_get ls vs j v hj
    obtain ⟨x, h6, h7⟩ := h3 j v0 h4
    rcases h5 with rfl | ⟨l, rfl⟩
    · exact ⟨x, h6, h7⟩
    · exact ⟨x, h6, shutA_rel h7⟩
theorem FT.shutRes {P : Program} {g : Gl} {f : FuncId} {args : List T} {H H' : List O} {mv : List Nat} {res : T} (ls : List (List (Nat × Nat))) (h : FT P g f args H mv res H') : FT P g f args H mv (Sx.shutRes ls res) H' :=
  fun w e R vs hs hvs => (h w e R vs hs hvs).mono fun _ _ ⟨u, h1, e', h2, h3, h4⟩ => ⟨u, h1, e', h2, h3, shutRes_rel h4⟩

theorem FT.shut {P : Program} {g : Gl} {f : FuncId} {args : List T} {H H' : List O} {mv : List Nat} {res : T} (ls : List (List (Nat × Nat))) (h : FT P g f (shutTs ls args) H mv res H') : FT P g f args H mv res H' :=
  fun w e R vs hs hvs => h w e R vs hs (shutTs_rel ls args vs hvs)
end Sx
