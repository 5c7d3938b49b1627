/- append: in place or in a new row, one law. -/
import Derived.Test.YthimhmocgnnaiaaDoorSxG
import Derived.Lib.AppendStr
namespace Sx
open Go

theorem Sat.of_heap {g : Gl} {w w' : World} {e : Env} {R : Pl} {H : List O} (s : Sat g w e R H) (hh : w'.heap = w.heap) : Sat g w' e R H := by
  have hc : ∀ a, w'.cell? a = w.cell? a := fun a => by simp [World.cell?, hh]
  have hf : ∀ a, w'.frozen? a = w.frozen? a := fun a => by simp [World.frozen?, hh]
  refine ⟨s.wf, ?_, ?_, s.dis, fun b o h => by rw [hh]; exact s.rest b o h, s.low, by rw [hh]; exact s.glob⟩
  · intro k obj o v hk hv
    obtain ⟨u, h1, h2⟩ := s.has k obj o v hk hv
    exact ⟨u, by rw [hc]; exact h1, h2.step (fun _ _ => ⟨rfl, rfl⟩) (fun b o v hc' hn => ⟨by rw [hc]; exact hc', hn⟩)⟩
  · intro k obj o hk hv
    rw [hc, hf]; exact s.cov k obj o hk hv

theorem Ext.of_heap {w w' : World} {e : Env} {H : List O} (hh : w'.heap = w.heap) (ho : w'.os = w.os ∧ w'.output = w.output) : Ext w e H w' e H [] where
  size := by rw [hh]; exact Nat.le_refl _
  block := fun b _ _ => by rw [hh]
  cell := fun b o _ _ => ⟨by simp [World.cell?, hh], by simp [World.frozen?, hh]⟩
  foot := fun _ _ h => .inl h
  pins := fun _ _ _ => ⟨rfl, rfl⟩
  os := ho

theorem Ext.weaken {w w' : World} {e e' : Env} {H H' : List O} {mv mv' : List Nat} (x : Ext w e H w' e' H' mv) (h : ∀ k, k ∈ mv → k ∈ mv') : Ext w e H w' e' H' mv' :=
  { x with pins := fun k hk hn => x.pins k hk (fun hm => hn (h k hm)) }

/-- A row of elements that is read: each cell of each. -/
structure Reads (w : World) (e : Env) (M : Pl) (esz : Nat) (zs : List (List C)) (b q : Nat) : Prop where
  wf : RWf esz zs
  cell : ∀ (i : Nat) (cs : List C) (j : Nat) (c : C), zs[i]? = some cs → cs[j]? = some c → ∃ u, w.cell? ⟨b, q + i * esz + j, none⟩ = some u ∧ Rel w e M c u

theorem free_one {w : World} {e : Env} {M : Pl} {c : C} {u : Value} (h : Rel w e M c u) (hf : c.free = true) : u.oneCell' = true := by
  refine h.one ?_
  cases c with
  | c v => cases v <;> first | rfl | cases hf
  | _ => first | rfl | cases hf

/-- The cells of a row that is read, as one list. -/
theorem Reads.flat {w : World} {e : Env} {M : Pl} {esz : Nat} {zs : List (List C)} {b q : Nat} (h : Reads w e M esz zs b q) (hz : 0 < esz) :
    ∃ us : List Value, us.length = zs.length * esz ∧ (∀ (j : Nat) (u : Value), us[j]? = some u → w.cell? ((⟨b, q, none⟩ : Addr).add j) = some u) ∧ (∀ u ∈ us, u.oneCell' = true) ∧
      ∀ (i : Nat) (cs : List C) (j : Nat) (c : C), zs[i]? = some cs → cs[j]? = some c → ∃ u, us[i * esz + j]? = some u ∧ Rel w e M c u := by
  obtain ⟨us, h1, h2⟩ := list_choose (p := fun j u => w.cell? ⟨b, q + j, none⟩ = some u ∧ u.oneCell' = true ∧ ∀ (cs : List C) (c : C), zs[j / esz]? = some cs → cs[j % esz]? = some c → Rel w e M c u) (zs.length * esz) fun j hj => by
    have hi : j / esz < zs.length := (Nat.div_lt_iff_lt_mul hz).2 hj
    have hm : j % esz < esz := Nat.mod_lt _ hz
    have hcs := List.getElem?_eq_getElem hi
    have hcl := h.wf.1 _ _ hcs
    have hjc : j % esz < (zs[j / esz]).length := by rw [hcl]; exact hm
    have hc := List.getElem?_eq_getElem hjc
    obtain ⟨u, h3, h4⟩ := h.cell _ _ _ _ hcs hc
    refine ⟨u, ?_, free_one h4 (h.wf.2 _ _ _ _ hcs hc), fun cs' c' h5 h6 => ?_⟩
    · rw [← h3]; congr 2
      have := Nat.div_add_mod j esz
      rw [Nat.mul_comm] at this; omega
    · rw [hcs] at h5; cases h5
      rw [hc] at h6; cases h6
      exact h4
  refine ⟨us, h1, fun j u hj => ?_, fun u hu => ?_, fun i cs j c hi hj => ?_⟩
  · have hjl := (List.getElem?_eq_some_iff.1 hj).1
    obtain ⟨u', h3, h4, _⟩ := h2 j (h1 ▸ hjl)
    rw [hj] at h3; cases h3
    rw [add_none]; exact h4
  · obtain ⟨j, hj, rfl⟩ := List.mem_iff_getElem.1 hu
    obtain ⟨u', h3, _, h5, _⟩ := h2 j (h1 ▸ hj)
    rw [List.getElem?_eq_getElem hj] at h3; cases h3
    exact h5
  · have hil := (List.getElem?_eq_some_iff.1 hi).1
    have hjl := (List.getElem?_eq_some_iff.1 hj).1
    rw [h.wf.1 i cs hi] at hjl
    have hlt : i * esz + j < zs.length * esz := by
      have := Nat.mul_le_mul_right esz (Nat.succ_le_of_lt hil); rw [Nat.succ_mul] at this; omega
    obtain ⟨u, h3, _, _, h6⟩ := h2 _ hlt
    refine ⟨u, h3, h6 cs c ?_ ?_⟩
    · rw [Nat.mul_comm, Nat.mul_add_div hz, Nat.div_eq_of_lt hjl, Nat.add_zero]; exact hi
    · rw [Nat.mul_comm, Nat.mul_add_mod, Nat.mod_eq_of_lt hjl]; exact hj

def rowCells (s : ByteArray) : List (List C) := s.data.toList.map fun b => [.c (.int .u8 b.toNat)]

/-- What a slice, or a text, holds. -/
def content (H : Nat → Option O) (esz : Nat) : T → Option (List (List C))
  | .a (.s (.sl k off ez i n)) => if ez = esz then match H k with
      | some obj => (rowsOf obj off esz).map fun xs => cut xs i n
      | none => none
    else none
  | .a (.s (.ssl ez xs)) => if ez = esz then some xs else none
  | .a (.s (.c (.slice none 0 0))) => some []
  | .a (.s (.c (.string s))) => if esz = 1 then some (rowCells s) else none
  | _ => none

/-- What is appended, as the builtin sees it: whatever it is. -/
structure Src (P : Program) (w : World) (e : Env) (M : Pl) (esz : Nat) (ys : List (List C)) (u : TypeId) (x : Value) : Prop where
  wf : RWf esz ys
  notInt : ∃ d, P.underlying u = some d ∧ ∀ k, d ≠ .int k
  len : ∀ w', (Builtin.lenOf x).run P w' = .ok ys.length w'
  news : ∃ us : List Value, us.length = ys.length * esz ∧ (∀ u ∈ us, u.oneCell' = true) ∧ (∀ w', w'.heap = w.heap → (Builtin.firstCells esz ys.length x).run P w' = .ok us.toArray w') ∧
    ∀ (i : Nat) (cs : List C) (j : Nat) (c : C), ys[i]? = some cs → cs[j]? = some c → ∃ u, us[i * esz + j]? = some u ∧ Rel w e M c u

theorem cut_wf {esz : Nat} {xs : List (List C)} (h : RWf esz xs) (i n : Nat) : RWf esz (cut xs i n) :=
  ⟨fun _ cs hj => h.1 _ cs (cut_get hj), fun _ cs l c hj hl => h.2 _ cs l c (cut_get hj) hl⟩

theorem nil_wf (esz : Nat) : RWf esz [] := ⟨fun i cs h => by simp at h, fun i cs j c h => by simp at h⟩

theorem src_nil {P : Program} {w : World} {e : Env} {M : Pl} {esz : Nat} {u el : TypeId} (hu : P.underlying u = some (.slice el)) (a : Option Addr) (cap : Nat) : Src P w e M esz [] u (.slice a 0 cap) :=
  ⟨nil_wf esz, ⟨_, hu, fun k h => by cases h⟩, fun w' => rfl, [], by simp, by simp, fun w' _ => by
    cases a with
    | none => rfl
    | some a => have := run_loadCells_list (P := P) w' a [] (by simp); simpa [Builtin.firstCells] using this,
   fun i cs j c h => by simp at h⟩

theorem src_row {P : Program} {w : World} {e : Env} {M : Pl} {esz : Nat} {ys : List (List C)} {u el : TypeId} (hu : P.underlying u = some (.slice el)) (hz : 0 < esz) {b q cap : Nat} (h : Reads w e M esz ys b q) :
    Src P w e M esz ys u (.slice (some ⟨b, q, none⟩) ys.length cap) := by
  obtain ⟨us, h1, h2, h3, h4⟩ := h.flat hz
  refine ⟨h.wf, ⟨_, hu, fun k h => by cases h⟩, fun w' => rfl, us, h1, h3, fun w' hw => ?_, h4⟩
  exact run_firstCells_some w' esz ys.length ⟨b, q, none⟩ ys.length cap us h1 (fun j v hj => by
    have := h2 j v hj
    simpa [World.cell?, hw] using this)

def isSeq : TypeDesc → Bool
  | .slice _ => true
  | .string => true
  | _ => false

theorem content_src {P : Program} {g : Gl} {w : World} {e : Env} {R : Pl} {H : List O} (s : Sat g w e R H) {esz : Nat} (hz : 0 < esz) {t : T} {x : Value} {ys : List (List C)} {u : TypeId} {d : TypeDesc}
    (hu : P.underlying u = some d) (hd : isSeq d = true) (hr : RelT w e (Mut e R H) t x) (hc : content (fun k => H[k]?) esz t = some ys) (hlen : ∀ k off ez i n, t = .a (.s (.sl k off ez i n)) → n = ys.length)
    (hfit : (∃ el, d = .slice el) ↔ ∀ b, x ≠ .string b) :
    Src P w e (Mut e R H) esz ys u x := by
  unfold content at hc
  split at hc
  · rename_i k off ez i n
    split at hc
    · rename_i he
      subst he
      split at hc
      · rename_i obj hk
        simp only [Option.map_eq_some_iff] at hc
        obtain ⟨xs, hx, rfl⟩ := hc
        have hn := hlen k off ez i n rfl
        obtain ⟨a, cap, rfl, hcap, hor⟩ := Rel.sl_inv hr
        obtain ⟨el, rfl⟩ := hfit.2 (fun b h => by cases h)
        obtain ⟨r1, r2, _⟩ := rowsOf_spec hx
        rcases hor with ⟨h0, _⟩ | ⟨rfl, _⟩
        · rw [hn] at h0
          have : cut xs i n = [] := List.eq_nil_of_length_eq_zero h0
          rw [this] at hn ⊢; rw [hn]
          exact src_nil hu _ _
        · have key : Reads w e (Mut e R H) ez (cut xs i n) (e.β k).1 ((e.β k).2 + off + i * ez) := by
            refine ⟨cut_wf (r2 _ (s.wf k obj hk)).1 _ _, fun i' cs j c h1 h2 => ?_⟩
            obtain ⟨u, h3, h4⟩ := s.has k obj _ c hk (r1 _ j cs c (cut_get h1) h2)
            exact ⟨u, by rw [← h3]; congr 2; rw [Nat.add_mul]; omega, h4⟩
          have := src_row (P := P) (cap := cap) hu hz key
          rwa [← hn] at this
      · cases hc
    · cases hc
  · rename_i ez xs
    split at hc
    · rename_i he
      subst he; cases hc
      obtain ⟨a, cap, rfl, hcap, hor⟩ := Rel.ssl_inv hr
      obtain ⟨el, rfl⟩ := hfit.2 (fun b h => by cases h)
      rcases hor with rfl | ⟨b, o, f, rfl, hl, hk, hm, hrr⟩
      · exact src_nil hu _ _
      · exact src_row hu hz ⟨⟨hl, hk⟩, fun i cs j c h1 h2 => ⟨f i j, (hm i cs j c h1 h2).1, hrr i cs j c h1 h2⟩⟩
    · cases hc
  · cases hc
    have := Rel.c_eq hr
    subst this
    obtain ⟨el, rfl⟩ := hfit.2 (fun b h => by cases h)
    exact src_nil hu none 0
  · rename_i st
    split at hc
    · rename_i he
      subst he; cases hc
      have := Rel.c_eq hr
      subst this
      have hd' : ∀ k, d ≠ .int k := fun k hk => by subst hk; cases hd
      have hsz : (rowCells st).length = st.size := by simp [rowCells]
      refine ⟨⟨fun i cs h => ?_, fun i cs j c h h' => ?_⟩, ⟨d, hu, hd'⟩, fun w' => by rw [hsz]; rfl, Lib.strCells st, by rw [Lib.strCells_length, hsz, Nat.mul_one], Lib.strCells_oneCell st, fun w' _ => by rw [hsz]; exact Lib.run_firstCells_string w' 1 st, ?_⟩
      · simp only [rowCells, List.getElem?_map, Option.map_eq_some_iff] at h
        obtain ⟨b, _, rfl⟩ := h; rfl
      · simp only [rowCells, List.getElem?_map, Option.map_eq_some_iff] at h
        obtain ⟨b, _, rfl⟩ := h
        cases j with
        | zero => simp at h'; subst h'; rfl
        | succ j => simp at h'
      · intro i cs j c h h'
        simp only [rowCells, List.getElem?_map, Option.map_eq_some_iff] at h
        obtain ⟨b, hb, rfl⟩ := h
        cases j with
        | zero => simp at h'; subst h'; exact ⟨.int .u8 b.toNat, by simp [Lib.strCells, hb], .c _⟩
        | succ j => simp at h'
    · cases hc
  · cases hc

section
variable {P : Program} (w : World)
theorem run_app_room (t u ty el : TypeId) (i : TypeInfo) (d : TypeDesc) (ht : P.underlying t = some (.slice el)) (hu : P.underlying u = some d) (hd : ∀ k, d ≠ .int k) (hi : P.info? el = some i)
    (a : Option Addr) (n cap m : Nat) (x : Value) (us : List Value) (hlen : (Builtin.lenOf x).run P w = .ok m w) (hfc : (Builtin.firstCells i.size m x).run P w = .ok us.toArray w) (hroom : n + m ≤ cap)
    (w' : World) (hst : ∀ b, a = some b → (storeCells (b.add (n * i.size)) us).run P w = .ok () w') (hno : a = none → w' = w) :
    (Builtin.append_ #[t, u] ty #[.slice a n cap, x]).run P w = .ok (.slice a (n + m) cap) w' := by
  have hd' := hd
  cases a with
  | none => simp [Builtin.append_, run_underlying ht, run_underlying hu, Go.sizeOf, typeInfo, hi, hlen, hroom, hfc, hno rfl]
  | some b => simp [Builtin.append_, run_underlying ht, run_underlying hu, Go.sizeOf, typeInfo, hi, hlen, hroom, hfc, hst b rfl]

theorem run_app_grow (t u ty el : TypeId) (i : TypeInfo) (z : Value) (d : TypeDesc) (ht : P.underlying t = some (.slice el)) (hu : P.underlying u = some d) (hd : ∀ k, d ≠ .int k) (hi : P.info? el = some i) (hz : i.zero = some z)
    (a : Option Addr) (n cap m : Nat) (x : Value) (olds us : List Value) (hlen : (Builtin.lenOf x).run P w = .ok m w) (hfo : (Builtin.firstCells i.size n (.slice a n cap)).run P w.drew = .ok olds.toArray w.drew)
    (hfc : (Builtin.firstCells i.size m x).run P w.drew = .ok us.toArray w.drew) (hg : cap < n + m) (h63 : ((n + m : Nat) : Int) ≤ 9223372036854775807) (hfit : Builtin.nextslicecap (n + m) cap * i.bytes ≤ 281474976710656) :
    (Builtin.append_ #[t, u] ty #[.slice a n cap, x]).run P w = .ok (.slice (some ⟨w.heap.size, 0, none⟩) (n + m) (grownCap w (n + m) cap el))
        (w.drew.alloc (.cells (olds.toArray ++ us.toArray ++ Builtin.zeroCells z.cells (grownCap w (n + m) cap el - (n + m))) el)) := by
  have hd' := hd
  have hn : ¬ (n + m ≤ cap) := by omega
  have h63' : ¬ (9223372036854775807 < ((n : Int) + (m : Int))) := by omega
  have h48' : ¬ (281474976710656 < Builtin.nextslicecap (n + m) cap * i.bytes) := by omega
  simp [Builtin.append_, run_underlying ht, run_underlying hu, Go.sizeOf, typeInfo, zeroValue, hi, hz, hlen, hn, h63', h48', Question.forced, hfc, hfo, newRow, grownCap]
  congr 2
  apply Array.ext'
  simp [List.append_assoc]
end
end Sx
