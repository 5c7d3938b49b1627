/- Calls: a function's contract over the objects that it is handed, and how a caller uses it. -/
import Derived.Test.YthimhmocgnnaiaaDoorSxJ
namespace Sx
open Go

def RelTs (w : World) (e : Env) (M : Pl) (ts : List T) (vs : List Value) : Prop :=
  vs.length = ts.length ∧ ∀ (j : Nat) (t : T), ts[j]? = some t → ∃ v, vs[j]? = some v ∧ RelT w e M t v

/-- The contract: handed args over the objects H, the function answers res, and has made H' of them (its first ones the ones that came, behind them new ones); those of mv may lie elsewhere then. -/
def FT (P : Program) (g : Gl) (f : FuncId) (args : List T) (H : List O) (mv : List Nat) (res : T) (H' : List O) : Prop :=
  ∀ (w : World) (e : Env) (R : Pl) (vs : List Value), Sat g w e R H → RelTs w e (Mut e R H) args vs →
    Calls P f vs.toArray w fun en w' => ∃ u, en = .returned u ∧ ∃ e', Sat g w' e' R H' ∧ Ext w e H w' e' H' mv ∧ RelT w' e' (Mut e' R H') res u

def callable (P : Program) (f : FuncId) : Bool :=
  match P.funcs[f]? with
  | some fn => fn.body.isSome && fn.name != "runtime.NumGoroutine"
  | none => false

theorem run_callFunc {P : Program} {f : FuncId} (h : callable P f = true) (args : Array Value) (w : World) : (callFunc f args).run P w = .ok (.enter f args) w := by
  unfold callable at h
  split at h
  · rename_i fn hf
    simp only [Bool.and_eq_true, bne_iff_ne, ne_eq] at h
    have hb : fn.body ≠ none := fun hh => by rw [hh] at h; simp at h
    simp [callFunc, hf, h.2, hb]
  · cases h

/-- What is said of the old world stays, where nothing of it was touched. -/
theorem Sat.frame {g : Gl} {w w' : World} {e : Env} {R : Pl} {H : List O} (s : Sat g w e R H) (hsize : w.heap.size ≤ w'.heap.size) (hblock : ∀ b, b < w.heap.size → w'.heap[b]? = w.heap[b]?) : Sat g w' e R H := by
  have hc : ∀ b o, b < w.heap.size → w'.cell? ⟨b, o, none⟩ = w.cell? ⟨b, o, none⟩ := fun b o hb => World.cell?_of_block (hblock b hb)
  have hf : ∀ b o, b < w.heap.size → w'.frozen? ⟨b, o, none⟩ = w.frozen? ⟨b, o, none⟩ := fun b o hb => World.frozen?_of_block (hblock b hb)
  refine ⟨s.wf, ?_, ?_, s.dis, fun b o h => ⟨(s.rest b o h).1, Nat.lt_of_lt_of_le (s.rest b o h).2 hsize⟩, s.low, Nat.le_trans s.glob.1 hsize, fun b hb => by rw [hblock b (Nat.lt_of_lt_of_le hb s.glob.1)]; exact s.glob.2 b hb⟩
  · intro k obj o v hk hv
    obtain ⟨u, h1, h2⟩ := s.has k obj o v hk hv
    exact ⟨u, by rw [hc _ _ (lt_of_cell h1)]; exact h1, h2.step (fun _ _ => ⟨rfl, rfl⟩) (fun b o v h3 h4 => ⟨by rw [hc _ _ (lt_of_cell h3)]; exact h3, h4⟩)⟩
  · intro k obj o hk hv
    obtain ⟨⟨u, hu⟩, hz⟩ := s.cov k obj o hk hv
    exact ⟨⟨u, by rw [hc _ _ (lt_of_cell hu)]; exact hu⟩, by rw [hf _ _ (lt_of_cell hu)]; exact hz⟩

/-! ### Names of objects, seen from within a call and from without -/
def renC (f : Nat → Option Nat) : C → C
  | .ref k off => match f k with | some j => .ref j off | none => .x
  | .el k off esz i sub => match f k with | some j => .el j off esz i sub | none => .x
  | .sl k off esz i n => match f k with | some j => .sl j off esz i n | none => .x
  | .mp k => match f k with | some j => .mp j | none => .x
  | c => c

def renA (f : Nat → Option Nat) : A → A
  | .s c => .s (renC f c)
  | .g cs => .g (cs.map (renC f))

def renT (f : Nat → Option Nat) : T → T
  | .a v => .a (renA f v)
  | .t vs => .t (vs.map (renA f))

def renS (f : Nat → Option Nat) : List Slot → List Slot
  | [] => []
  | .one c :: r => .one (renC f c) :: renS f r
  | .row n esz xs :: r => .row n esz xs :: renS f r
  | .hole n :: r => .hole n :: renS f r

def renO (f : Nat → Option Nat) : O → O
  | .dead => .dead
  | .cells ss => .cells (renS f ss)
  | .arr esz xs => .arr esz xs

theorem renC_free {f : Nat → Option Nat} {c : C} (h : c.free = true) : renC f c = c := by cases c <;> first | rfl | cases h

theorem renC_key {f : Nat → Option Nat} {c : C} {k : Nat} (h : (renC f c).key = some k) : ∃ j, c.key = some j ∧ f j = some k := by
  cases c <;> simp only [renC] at h <;> first
    | (cases h; done)
    | (split at h
       · rename_i j hj; simp only [C.key, Option.some.injEq] at h; subst h; exact ⟨_, rfl, hj⟩
       · cases h)

theorem Rel.ren {w : World} {e e' : Env} {M : Pl} {c : C} {u : Value} {f : Nat → Option Nat} (h : Rel w e M c u) (hf : ∀ k j, c.key = some k → f k = some j → e'.β j = e.β k ∧ e'.κ j = e.κ k) : Rel w e' M (renC f c) u := by
  cases h with
  | x => exact .x _
  | c => exact .c _
  | ref k off =>
    simp only [renC]
    split
    · rename_i j hj; rw [← (hf k j rfl hj).1]; exact .ref j off
    · exact .x _
  | el k off esz i sub =>
    simp only [renC]
    split
    · rename_i j hj; rw [← (hf k j rfl hj).1]; exact .el j off esz i sub
    · exact .x _
  | sl0 k off esz i a =>
    simp only [renC]
    split
    · exact .sl0 _ _ _ _ _
    · exact .x _
  | sl k off esz i n cap hn hc =>
    simp only [renC]
    split
    · rename_i j hj; rw [← (hf k j rfl hj).1]; exact .sl j off esz i n cap hn (by rw [(hf k j rfl hj).2]; exact hc)
    · exact .x _
  | ssl0 esz a cap => exact .ssl0 esz a cap
  | ssl esz xs b o cap u hn hl hk hm hr =>
    exact .ssl esz xs b o cap u hn hl hk hm (fun i cs j c h1 h2 => (hr i cs j c h1 h2).step (by rw [C.key_of_free (hk i cs j c h1 h2)]; intro k hk; cases hk) (fun b o v h1 h2 => ⟨h1, h2⟩))
  | spt cs sub b o u hk hm hr =>
    exact .spt cs sub b o u hk hm (fun j c h1 => (hr j c h1).step (by rw [C.key_of_free (hk j c h1)]; intro k hk; cases hk) (fun b o v h1 h2 => ⟨h1, h2⟩))
  | mp k =>
    simp only [renC]
    split
    · rename_i j hj; rw [← (hf k j rfl hj).1]; exact .mp j
    · exact .x _

theorem SCov_ren (f : Nat → Option Nat) (ss : List Slot) : ∀ s o, SCov (renS f ss) s o ↔ SCov ss s o := by
  induction ss with
  | nil => intro s o; exact Iff.rfl
  | cons a r ih => intro s o; cases a <;> simp [renS, SCov, ih]

theorem SWf_ren (f : Nat → Option Nat) (κ : Nat → Nat) (ss : List Slot) : ∀ s, SWf κ (renS f ss) s ↔ SWf κ ss s := by
  induction ss with
  | nil => intro s; exact Iff.rfl
  | cons a r ih => intro s; cases a <;> simp [renS, SWf, ih]

theorem SHas_ren (f : Nat → Option Nat) (κ : Nat → Nat) (ss : List Slot) : ∀ s o v, SWf κ ss s → SHas (renS f ss) s o v → ∃ v0, SHas ss s o v0 ∧ v = renC f v0 := by
  induction ss with
  | nil => intro s o v _ h; exact h.elim
  | cons a r ih =>
    intro s o v hw h
    cases a with
    | one c =>
      rcases h with ⟨h1, h2⟩ | h
      · exact ⟨c, .inl ⟨h1, rfl⟩, h2⟩
      · obtain ⟨v0, h1, h2⟩ := ih _ _ _ hw h
        exact ⟨v0, .inr h1, h2⟩
    | row n esz xs =>
      rcases h with ⟨i, j, cs, h1, h2, h3⟩ | h
      · exact ⟨v, .inl ⟨i, j, cs, h1, h2, h3⟩, (renC_free (hw.1.2.2.2 i cs j v h1 h2)).symm⟩
      · obtain ⟨v0, h1, h2⟩ := ih _ _ _ hw.2 h
        exact ⟨v0, .inr h1, h2⟩
    | hole n =>
      obtain ⟨v0, h1, h2⟩ := ih _ _ _ hw h
      exact ⟨v0, h1, h2⟩

theorem Cov_ren (f : Nat → Option Nat) (κ : Nat → Nat) (obj : O) (o : Nat) : Cov κ (renO f obj) o ↔ Cov κ obj o := by
  cases obj <;> simp [renO, Cov, SCov_ren]

theorem Wf_ren (f : Nat → Option Nat) (κ : Nat → Nat) (obj : O) : Wf κ (renO f obj) ↔ Wf κ obj := by
  cases obj <;> simp [renO, Wf, SWf_ren]

theorem Has_ren (f : Nat → Option Nat) (κ : Nat → Nat) (obj : O) (o : Nat) (v : C) (hw : Wf κ obj) (h : Has (renO f obj) o v) : ∃ v0, Has obj o v0 ∧ v = renC f v0 := by
  cases obj with
  | dead => exact h.elim
  | cells ss => exact SHas_ren f κ ss 0 o v hw h
  | arr esz xs =>
    obtain ⟨i, j, cs, h1, h2, h3⟩ := h
    exact ⟨v, ⟨i, j, cs, h1, h2, h3⟩, (renC_free (hw.2.2 i cs j v h1 h2)).symm⟩

theorem RelL.ren {w : World} {e e' : Env} {M : Pl} {cs : List C} {us : List Value} {f : Nat → Option Nat} (h : RelL w e M cs us) (hf : ∀ c ∈ cs, ∀ k j, c.key = some k → f k = some j → e'.β j = e.β k ∧ e'.κ j = e.κ k) : RelL w e' M (cs.map (renC f)) us := by
  refine ⟨by simpa using h.1, fun j c hj => ?_⟩
  simp only [List.getElem?_map, Option.map_eq_some_iff] at hj
  obtain ⟨c0, hj, rfl⟩ := hj
  obtain ⟨u, h1, h2⟩ := h.2 j c0 hj
  exact ⟨u, h1, h2.ren (hf c0 (List.mem_of_getElem? hj))⟩

theorem RelA.ren {w : World} {e e' : Env} {M : Pl} {v : A} {u : Value} {f : Nat → Option Nat} (h : RelA w e M v u) (hf : ∀ k j, f k = some j → e'.β j = e.β k ∧ e'.κ j = e.κ k) : RelA w e' M (renA f v) u := by
  cases v with
  | s c => exact Rel.ren h (fun k j _ hj => hf k j hj)
  | g cs => obtain ⟨us, h1, h2⟩ := h; exact ⟨us, h1, h2.ren (fun c _ k j _ hj => hf k j hj)⟩

theorem RelT.ren {w : World} {e e' : Env} {M : Pl} {t : T} {u : Value} {f : Nat → Option Nat} (h : RelT w e M t u) (hf : ∀ k j, f k = some j → e'.β j = e.β k ∧ e'.κ j = e.κ k) : RelT w e' M (renT f t) u := by
  cases t with
  | a v => exact RelA.ren h hf
  | t vs =>
    obtain ⟨us, h1, h2, h3⟩ := h
    refine ⟨us, h1, by simpa using h2, fun j v hj => ?_⟩
    simp only [List.getElem?_map, Option.map_eq_some_iff] at hj
    obtain ⟨v0, hj, rfl⟩ := hj
    obtain ⟨x, h4, h5⟩ := h3 j v0 hj
    exact ⟨x, h4, RelA.ren h5 hf⟩

theorem RelA.mem {w w' : World} {e : Env} {M M' : Pl} {v : A} {u : Value} (h : RelA w e M v u)
    (hm : ∀ b o v, w.cell? ⟨b, o, none⟩ = some v → ¬ M b o → w'.cell? ⟨b, o, none⟩ = some v ∧ ¬ M' b o) : RelA w' e M' v u := by
  cases v with
  | s c => exact Rel.step h (fun _ _ => ⟨rfl, rfl⟩) hm
  | g cs => obtain ⟨us, h1, h2⟩ := h; exact ⟨us, h1, h2.step (fun _ _ _ _ => ⟨rfl, rfl⟩) hm⟩

theorem RelT.mem {w w' : World} {e : Env} {M M' : Pl} {t : T} {u : Value} (h : RelT w e M t u)
    (hm : ∀ b o v, w.cell? ⟨b, o, none⟩ = some v → ¬ M b o → w'.cell? ⟨b, o, none⟩ = some v ∧ ¬ M' b o) : RelT w' e M' t u := by
  cases t with
  | a v => exact RelA.mem h hm
  | t vs =>
    obtain ⟨us, h1, h2, h3⟩ := h
    refine ⟨us, h1, h2, fun j v hj => ?_⟩
    obtain ⟨x, h4, h5⟩ := h3 j v hj
    exact ⟨x, h4, RelA.mem h5 hm⟩

/-! ### Slices that are handed on to be read: for good, or for the call's time -/
/-- What stands for slice 'sl k ..' in the call: a shared list. -/
def lendC (fr : List (Nat × List (List C))) (c : C) : C :=
  match c with
  | .sl k _ esz _ _ => match fr.find? (·.1 == k) with
    | some (_, ys) => .ssl esz ys
    | none => c
  | c => c

/-- What must be so, where it does. -/
def lendOk (H : Nat → Option O) (fr : List (Nat × List (List C))) (c : C) : Prop :=
  match c with
  | .sl k off esz i n => match fr.find? (·.1 == k) with
    | some (_, ys) => content H esz (.a (.s (.sl k off esz i n))) = some ys ∧ n = ys.length
    | none => True
  | _ => True

def lendA (fr : List (Nat × List (List C))) : A → A
  | .s c => .s (lendC fr c)
  | .g cs => .g (cs.map (lendC fr))
def lendT (fr : List (Nat × List (List C))) : T → T
  | .a v => .a (lendA fr v)
  | .t vs => .t (vs.map (lendA fr))

def lendAll (H : Nat → Option O) (fr : List (Nat × List (List C))) : List C → Prop
  | [] => True
  | c :: r => lendOk H fr c ∧ lendAll H fr r

theorem lendAll_mem {H : Nat → Option O} {fr : List (Nat × List (List C))} : ∀ {cs : List C}, lendAll H fr cs → ∀ c ∈ cs, lendOk H fr c
  | c :: r, h, d, hd => by
    rcases List.mem_cons.1 hd with rfl | hd
    · exact h.1
    · exact lendAll_mem h.2 d hd

/-- The places of the lent objects count as nobody's to write. -/
theorem lend_rel {g : Gl} {w : World} {e : Env} {R : Pl} {H : List O} (s : Sat g w e R H) {fr : List (Nat × List (List C))} {M' : Pl} {c : C} {u : Value} (h : Rel w e (Mut e R H) c u) (ho : lendOk (fun k => H[k]?) fr c)
    (hM : ∀ b o, M' b o → Mut e R H b o)
    (hfr : ∀ k ys, fr.find? (·.1 == k) = some ys → ∀ (obj : O) (i : Nat), H[k]? = some obj → Cov (e.κ k) obj i → ¬ M' (e.β k).1 ((e.β k).2 + i)) : Rel w e M' (lendC fr c) u := by
  have hsame : Rel w e M' c u := h.step (fun _ _ => ⟨rfl, rfl⟩) (fun b o v hc hn => ⟨hc, fun hm => hn (hM b o hm)⟩)
  unfold lendC
  cases c with
  | sl k off esz i n =>
    simp only [lendOk] at ho
    simp only []
    cases hfk : fr.find? (·.1 == k) with
    | none => exact hsame
    | some p =>
      obtain ⟨k', ys⟩ := p
      rw [hfk] at ho
      simp only at ho ⊢
      obtain ⟨hc, hn⟩ := ho
      simp only [content, if_true] at hc
      cases hk : H[k]? with
      | none => rw [hk] at hc; cases hc
      | some obj =>
        rw [hk] at hc
        simp only [Option.map_eq_some_iff] at hc
        obtain ⟨xs, hx, rfl⟩ := hc
        obtain ⟨a, cap, rfl, hcap, hor⟩ := Rel.sl_inv h
        obtain ⟨r1, r2, _⟩ := rowsOf_spec hx
        rcases hor with ⟨h0, h0'⟩ | ⟨rfl, _⟩
        · have : cut xs i n = [] := List.eq_nil_of_length_eq_zero (by omega)
          rw [this, h0, h0']
          exact .ssl0 _ _ _
        · have hwf := s.wf k obj hk
          have hw := cut_wf (r2 _ hwf).1 i n
          have hcell : ∀ (i' : Nat) (cs : List C) (j : Nat) (c : C), (cut xs i n)[i']? = some cs → cs[j]? = some c → ∃ u, w.cell? ⟨(e.β k).1, (e.β k).2 + off + i * esz + i' * esz + j, none⟩ = some u ∧ Rel w e (Mut e R H) c u := by
            intro i' cs j c h1 h2
            obtain ⟨u, h3, h4⟩ := s.has k obj _ c hk (r1 _ j cs c (cut_get h1) h2)
            exact ⟨u, by rw [← h3]; congr 2; rw [Nat.add_mul]; omega, h4⟩
          have key := Rel.ssl (w := w) (e := e) (M := M') esz (cut xs i n) (e.β k).1 ((e.β k).2 + off + i * esz) cap (fun i' j => (w.cell? ⟨(e.β k).1, (e.β k).2 + off + i * esz + i' * esz + j, none⟩).getD undef)
            (by omega) hw.1 hw.2
            (fun i' cs j c h1 h2 => by
              obtain ⟨u, h3, _⟩ := hcell i' cs j c h1 h2
              refine ⟨by rw [h3]; rfl, ?_⟩
              have hcv := Cov_of_has hwf (r1 _ j cs c (cut_get h1) h2)
              have := hfr k _ hfk obj _ hk hcv
              rwa [show (e.β k).2 + (off + (i + i') * esz + j) = (e.β k).2 + off + i * esz + i' * esz + j by rw [Nat.add_mul]; omega] at this)
            (fun i' cs j c h1 h2 => by
              obtain ⟨u, h3, h4⟩ := hcell i' cs j c h1 h2
              rw [h3]
              exact h4.step (fun _ _ => ⟨rfl, rfl⟩) (fun b o v hc hn => ⟨hc, fun hm => hn (hM b o hm)⟩))
          rwa [← hn] at key
  | _ => exact hsame

theorem lend_relT {g : Gl} {w : World} {e : Env} {R : Pl} {H : List O} (s : Sat g w e R H) {fr : List (Nat × List (List C))} {M' : Pl} {t : T} {u : Value} (h : RelT w e (Mut e R H) t u) (ho : lendAll (fun k => H[k]?) fr t.cs)
    (hM : ∀ b o, M' b o → Mut e R H b o)
    (hfr : ∀ k ys, fr.find? (·.1 == k) = some ys → ∀ (obj : O) (i : Nat), H[k]? = some obj → Cov (e.κ k) obj i → ¬ M' (e.β k).1 ((e.β k).2 + i)) : RelT w e M' (lendT fr t) u := by
  have hA : ∀ (v : A) (u : Value), RelA w e (Mut e R H) v u → (∀ c ∈ (match v with | .s c => [c] | .g cs => cs), lendOk (fun k => H[k]?) fr c) → RelA w e M' (lendA fr v) u := by
    intro v u hr hc
    cases v with
    | s c => exact lend_rel s hr (hc c (by simp)) hM hfr
    | g cs =>
      obtain ⟨us, h1, h2, h3⟩ := hr
      refine ⟨us, h1, by simpa using h2, fun j c hj => ?_⟩
      simp only [List.getElem?_map, Option.map_eq_some_iff] at hj
      obtain ⟨c0, hj, rfl⟩ := hj
      obtain ⟨x, h4, h5⟩ := h3 j c0 hj
      exact ⟨x, h4, lend_rel s h5 (hc c0 (List.mem_of_getElem? hj)) hM hfr⟩
  cases t with
  | a v => exact hA v u h (fun c hc => lendAll_mem ho c (by cases v <;> exact hc))
  | t vs =>
    obtain ⟨us, h1, h2, h3⟩ := h
    refine ⟨us, h1, by simpa using h2, fun j v hj => ?_⟩
    simp only [List.getElem?_map, Option.map_eq_some_iff] at hj
    obtain ⟨v0, hj, rfl⟩ := hj
    obtain ⟨x, h4, h5⟩ := h3 j v0 hj
    refine ⟨x, h4, hA v0 x h5 fun c hc => lendAll_mem ho c ?_⟩
    simp only [T.cs, List.mem_flatMap]
    exact ⟨v0, List.mem_of_getElem? hj, by cases v0 <;> exact hc⟩
end Sx
