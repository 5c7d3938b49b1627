/- A small-footprint symbolic store over the model's worlds: values, objects, what it means that a world holds them, and what a step may change. -/
import Derived.Orders
import Derived.Tactics
import Derived.KernelRfl
import Derived.Laws.World
import Derived.Laws.IdiomCopy
import Derived.Below
namespace Sx
open Go

/-- What one cell or one word holds: nothing known, a datum, an address into a known object, a slice of one, a shared list, a place in shared memory. -/
inductive C where
  | x
  | c (v : Value)
  | ref (k off : Nat)
  | el (k off esz i sub : Nat)
  | sl (k off esz i n : Nat)
  | ssl (esz : Nat) (xs : List (List C))
  | spt (cs : List C) (sub : Nat)
  | mp (k : Nat)
  deriving Inhabited

def C.key : C → Option Nat
  | .ref k _ | .el k _ _ _ _ | .sl k _ _ _ _ | .mp k => some k
  | _ => none

/-- What may stand in the rows: it leans on no object of ours, and is one cell. -/
def C.free : C → Bool
  | .c (.agg _) => false
  | .c (.tuple _) => false
  | .c _ => true
  | .ssl _ _ => true
  | .spt _ _ => true
  | _ => false

theorem C.key_of_free {c : C} (h : c.free = true) : c.key = none := by
  cases c <;> first | rfl | cases h

inductive Slot where
  | one (c : C)
  | row (n esz : Nat) (xs : List (List C))
  | hole (n : Nat)
  deriving Inhabited

inductive O where
  | dead
  | cells (ss : List Slot)
  | arr (esz : Nat) (xs : List (List C))
  deriving Inhabited

/-- Where the objects lie, and how far the rows in them reach. -/
structure Env where
  β : Nat → Nat × Nat
  κ : Nat → Nat → Nat

abbrev Pl := Nat → Nat → Prop

inductive Rel (w : World) (e : Env) (M : Pl) : C → Value → Prop
  | x (v : Value) : Rel w e M .x v
  | c (v : Value) : Rel w e M (.c v) v
  | ref (k off : Nat) : Rel w e M (.ref k off) (.pointer (some ⟨(e.β k).1, (e.β k).2 + off, none⟩))
  | el (k off esz i sub : Nat) : Rel w e M (.el k off esz i sub) (.pointer (some ⟨(e.β k).1, (e.β k).2 + off + i * esz + sub, none⟩))
  | sl0 (k off esz i : Nat) (a : Option Addr) : Rel w e M (.sl k off esz i 0) (.slice a 0 0)
  | sl (k off esz i n cap : Nat) (hn : n ≤ cap) (hc : i + cap ≤ e.κ k off) :
      Rel w e M (.sl k off esz i n) (.slice (some ⟨(e.β k).1, (e.β k).2 + off + i * esz, none⟩) n cap)
  | ssl0 (esz : Nat) (a : Option Addr) (cap : Nat) : Rel w e M (.ssl esz []) (.slice a 0 cap)
  | ssl (esz : Nat) (xs : List (List C)) (b o cap : Nat) (u : Nat → Nat → Value) (hn : xs.length ≤ cap)
      (hl : ∀ (i : Nat) (cs : List C), xs[i]? = some cs → cs.length = esz)
      (hk : ∀ (i : Nat) (cs : List C) (j : Nat) (c : C), xs[i]? = some cs → cs[j]? = some c → c.free = true)
      (hm : ∀ (i : Nat) (cs : List C) (j : Nat) (c : C), xs[i]? = some cs → cs[j]? = some c → w.cell? ⟨b, o + i * esz + j, none⟩ = some (u i j) ∧ ¬ M b (o + i * esz + j))
      (hr : ∀ (i : Nat) (cs : List C) (j : Nat) (c : C), xs[i]? = some cs → cs[j]? = some c → Rel w e M c (u i j)) :
      Rel w e M (.ssl esz xs) (.slice (some ⟨b, o, none⟩) xs.length cap)
  | spt (cs : List C) (sub b o : Nat) (u : Nat → Value)
      (hk : ∀ (j : Nat) (c : C), cs[j]? = some c → c.free = true)
      (hm : ∀ (j : Nat) (c : C), cs[j]? = some c → w.cell? ⟨b, o + j, none⟩ = some (u j) ∧ ¬ M b (o + j))
      (hr : ∀ (j : Nat) (c : C), cs[j]? = some c → Rel w e M c (u j)) :
      Rel w e M (.spt cs sub) (.pointer (some ⟨b, o + sub, none⟩))
  | mp (k : Nat) : Rel w e M (.mp k) (.map (some (e.β k).1))

def SCov : List Slot → Nat → Nat → Prop
  | [], _, _ => False
  | .one _ :: r, s, o => o = s ∨ SCov r (s + 1) o
  | .row n esz _ :: r, s, o => (s ≤ o ∧ o < s + n * esz) ∨ SCov r (s + n * esz) o
  | .hole n :: r, s, o => SCov r (s + n) o

def RHas (esz : Nat) (xs : List (List C)) (s o : Nat) (u : C) : Prop := ∃ (i j : Nat) (cs : List C), xs[i]? = some cs ∧ cs[j]? = some u ∧ o = s + i * esz + j

def SHas : List Slot → Nat → Nat → C → Prop
  | [], _, _, _ => False
  | .one v :: r, s, o, u => (o = s ∧ u = v) ∨ SHas r (s + 1) o u
  | .row n esz xs :: r, s, o, u => RHas esz xs s o u ∨ SHas r (s + n * esz) o u
  | .hole n :: r, s, o, u => SHas r (s + n) o u

def RWf (esz : Nat) (xs : List (List C)) : Prop :=
  (∀ (i : Nat) (cs : List C), xs[i]? = some cs → cs.length = esz) ∧ ∀ (i : Nat) (cs : List C) (j : Nat) (c : C), xs[i]? = some cs → cs[j]? = some c → c.free = true

def SWf (κ : Nat → Nat) : List Slot → Nat → Prop
  | [], _ => True
  | .one _ :: r, s => SWf κ r (s + 1)
  | .row n esz xs :: r, s => (xs.length = n ∧ κ s = n ∧ RWf esz xs) ∧ SWf κ r (s + n * esz)
  | .hole n :: r, s => SWf κ r (s + n)

def Cov (κ : Nat → Nat) : O → Nat → Prop
  | .dead, _ => False
  | .cells ss, o => SCov ss 0 o
  | .arr esz _, o => o < κ 0 * esz

def Has : O → Nat → C → Prop
  | .dead, _, _ => False
  | .cells ss, o, u => SHas ss 0 o u
  | .arr esz xs, o, u => RHas esz xs 0 o u

def Wf (κ : Nat → Nat) : O → Prop
  | .dead => True
  | .cells ss => SWf κ ss 0
  | .arr esz xs => xs.length ≤ κ 0 ∧ RWf esz xs

def FP (e : Env) (H : List O) : Pl := fun b o =>
  ∃ (k : Nat) (obj : O) (i : Nat), H[k]? = some obj ∧ b = (e.β k).1 ∧ o = (e.β k).2 + i ∧ Cov (e.κ k) obj i

def Mut (e : Env) (R : Pl) (H : List O) : Pl := fun b o => R b o ∨ FP e H b o

/-- The globals: below block N the heap is G. -/
structure Gl where
  N : Nat
  G : Nat → Option Obj

structure Sat (g : Gl) (w : World) (e : Env) (R : Pl) (H : List O) : Prop where
  wf : ∀ (k : Nat) (obj : O), H[k]? = some obj → Wf (e.κ k) obj
  has : ∀ (k : Nat) (obj : O) (o : Nat) (v : C), H[k]? = some obj → Has obj o v → ∃ u, w.cell? ⟨(e.β k).1, (e.β k).2 + o, none⟩ = some u ∧ Rel w e (Mut e R H) v u
  cov : ∀ (k : Nat) (obj : O) (o : Nat), H[k]? = some obj → Cov (e.κ k) obj o → (∃ u, w.cell? ⟨(e.β k).1, (e.β k).2 + o, none⟩ = some u) ∧ w.frozen? ⟨(e.β k).1, (e.β k).2 + o, none⟩ = false
  dis : ∀ (k k' : Nat) (obj obj' : O) (o o' : Nat), H[k]? = some obj → H[k']? = some obj' → Cov (e.κ k) obj o → Cov (e.κ k') obj' o' →
    (e.β k).1 = (e.β k').1 → (e.β k).2 + o = (e.β k').2 + o' → k = k'
  rest : ∀ b o, R b o → ¬ FP e H b o ∧ b < w.heap.size
  low : ∀ b o, Mut e R H b o → g.N ≤ b
  glob : g.N ≤ w.heap.size ∧ ∀ b, b < g.N → w.heap[b]? = g.G b

structure Ext (w : World) (e : Env) (H : List O) (w' : World) (e' : Env) (H' : List O) (mv : List Nat) : Prop where
  size : w.heap.size ≤ w'.heap.size
  block : ∀ b, b < w.heap.size → (∀ o, ¬ FP e H b o) → w'.heap[b]? = w.heap[b]?
  cell : ∀ b o, b < w.heap.size → ¬ FP e H b o → w'.cell? ⟨b, o, none⟩ = w.cell? ⟨b, o, none⟩ ∧ w'.frozen? ⟨b, o, none⟩ = w.frozen? ⟨b, o, none⟩
  foot : ∀ b o, FP e' H' b o → FP e H b o ∨ w.heap.size ≤ b
  pins : ∀ k, k < H.length → k ∉ mv → e'.β k = e.β k ∧ e'.κ k = e.κ k
  os : w'.os = w.os ∧ w'.output = w.output

theorem lt_of_cell {w : World} {b o : Nat} {u : Value} (h : w.cell? ⟨b, o, none⟩ = some u) : b < w.heap.size := by
  rcases Nat.lt_or_ge b w.heap.size with h' | h'
  · exact h'
  · simp [World.cell?, Array.getElem?_eq_none h'] at h

/-- What a value says goes on to be said, where what it leans on goes on. -/
theorem Rel.step {w w' : World} {e e' : Env} {M M' : Pl} {c : C} {u : Value} (h : Rel w e M c u)
    (hk : ∀ k, c.key = some k → e'.β k = e.β k ∧ e'.κ k = e.κ k)
    (hm : ∀ b o v, w.cell? ⟨b, o, none⟩ = some v → ¬ M b o → w'.cell? ⟨b, o, none⟩ = some v ∧ ¬ M' b o) : Rel w' e' M' c u := by
  induction h with
  | x v => exact .x v
  | c v => exact .c v
  | ref k off => rw [← (hk k rfl).1]; exact .ref k off
  | el k off esz i sub => rw [← (hk k rfl).1]; exact .el k off esz i sub
  | sl0 k off esz i a => exact .sl0 k off esz i a
  | sl k off esz i n cap hn hc => rw [← (hk k rfl).1]; exact .sl k off esz i n cap hn (by rw [(hk k rfl).2]; exact hc)
  | ssl0 esz a cap => exact .ssl0 esz a cap
  | ssl esz xs b o cap u hn hl hk' hm' hr ih =>
    exact .ssl esz xs b o cap u hn hl hk' (fun i cs j c h1 h2 => hm _ _ _ (hm' i cs j c h1 h2).1 (hm' i cs j c h1 h2).2)
      (fun i cs j c h1 h2 => ih i cs j c h1 h2 (by rw [C.key_of_free (hk' i cs j c h1 h2)]; intro k hk; cases hk))
  | spt cs sub b o u hk' hm' hr ih =>
    exact .spt cs sub b o u hk' (fun j c h1 => hm _ _ _ (hm' j c h1).1 (hm' j c h1).2)
      (fun j c h1 => ih j c h1 (by rw [C.key_of_free (hk' j c h1)]; intro k hk; cases hk))
  | mp k => rw [← (hk k rfl).1]; exact .mp k

/-- The memory side of 'Rel.step', by an extension. -/
theorem Ext.mem {w w' : World} {e e' : Env} {H H' : List O} {mv : List Nat} {R : Pl} (x : Ext w e H w' e' H' mv) :
    ∀ b o v, w.cell? ⟨b, o, none⟩ = some v → ¬ Mut e R H b o → w'.cell? ⟨b, o, none⟩ = some v ∧ ¬ Mut e' R H' b o := by
  intro b o v hc hn
  have hb := lt_of_cell hc
  refine ⟨?_, ?_⟩
  · rw [(x.cell b o hb (fun h => hn (.inr h))).1]; exact hc
  · rintro (h | h)
    · exact hn (.inl h)
    · rcases x.foot b o h with h | h
      · exact hn (.inr h)
      · omega

theorem Ext.refl (w : World) (e : Env) (H : List O) (mv : List Nat) : Ext w e H w e H mv where
  size := Nat.le_refl _
  block := fun _ _ _ => rfl
  cell := fun _ _ _ _ => ⟨rfl, rfl⟩
  foot := fun _ _ h => .inl h
  pins := fun _ _ _ => ⟨rfl, rfl⟩
  os := ⟨rfl, rfl⟩

theorem Ext.trans {w w' w'' : World} {e e' e'' : Env} {H H' H'' : List O} {mv mv' : List Nat} (x : Ext w e H w' e' H' mv) (y : Ext w' e' H' w'' e'' H'' mv')
    (hl : H.length ≤ H'.length) (hmv : ∀ k, k ∈ mv → k ∈ mv') : Ext w e H w'' e'' H'' mv' where
  size := Nat.le_trans x.size y.size
  block := fun b hb hn => by
    rw [y.block b (Nat.lt_of_lt_of_le hb x.size) (fun o h => by rcases x.foot b o h with h | h; exact hn o h; omega), x.block b hb hn]
  cell := fun b o hb hn => by
    have hn' : ¬ FP e' H' b o := fun h => by rcases x.foot b o h with h | h; exact hn h; omega
    obtain ⟨h1, h2⟩ := x.cell b o hb hn
    obtain ⟨h3, h4⟩ := y.cell b o (Nat.lt_of_lt_of_le hb x.size) hn'
    exact ⟨h3.trans h1, h4.trans h2⟩
  foot := fun b o h => by
    rcases y.foot b o h with h | h
    · exact x.foot b o h
    · exact .inr (Nat.le_trans x.size h)
  pins := fun k hk hn => by
    obtain ⟨h1, h2⟩ := x.pins k hk (fun h => hn (hmv k h))
    obtain ⟨h3, h4⟩ := y.pins k (Nat.lt_of_lt_of_le hk hl) hn
    exact ⟨h3.trans h1, h4.trans h2⟩
  os := ⟨y.os.1.trans x.os.1, y.os.2.trans x.os.2⟩
end Sx
