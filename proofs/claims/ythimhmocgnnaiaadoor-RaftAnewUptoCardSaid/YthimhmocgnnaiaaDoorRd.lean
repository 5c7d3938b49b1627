/- From the row's reading of the arguments to the executor's words for them; from the executor's contract to what the row asks. -/
import Derived.Test.YthimhmocgnnaiaaDoorSxZ
import Derived.RowKit
import Derived.Carry
import Derived.ChangeReads
import Derived.ChangeOld
import Derived.WideShapes
import Derived.ChangeShapes
namespace Sx
open Go Go.WideShapes Go.ChangeShapes Go.RowKit

/-- A measure of what a reading holds. -/
structure Meas (μ : {H : Type} → DataW H → Nat) : Prop where
  one : ∀ {H : Type} (d : DataW H), 1 ≤ μ d
  str : ∀ {H : Type} (bs : List UInt8), bs.length + 1 ≤ μ (DataW.lit (H := H) (.string bs))
  slice : ∀ {H : Type} (es sp : List (DataW H)), (es.map μ).sum + 1 ≤ μ (.slice es sp)
  agg : ∀ {H : Type} (ps : List (DataW H)), (ps.map μ).sum ≤ μ (.agg ps)

def NoM (M : Pl) : Prop := ∀ b o, ¬ M b o

/-- Whatever is read at this type is a row of data. -/
def Rdz (μ : {H : Type} → DataW H → Nat) (P : Program) (t : TypeId) {α : Type} (row : α → List C) (ok : α → Prop) (sz : α → Nat) : Prop :=
  ∀ {H : Type} (enc : TypeId × Value → H) (w : World) (base : Nat) (sp : Nat → Bool) (held : Bool) (fuel : Nat) (cs : List Value) (d : DataW H) (ps : List MemPlace),
    DataW.trod enc P w base sp held fuel t cs = some (d, ps) → ∃ x : α, ok x ∧ sz x ≤ μ d ∧ ∀ (e : Env) (M : Pl), NoM M → RelL w e M (row x) cs

section
variable {μ : {H : Type} → DataW H → Nat} (hμ : Meas μ) {P : Program}
include hμ

theorem Rdz.int {t : TypeId} {k : IntKind} (ht : P.underlying t = some (.int k)) : Rdz μ P t (rI k) (fun n => (Lit.int k n).wf = true) (fun _ => 1) := by
  intro H enc w base sp held fuel cs d ps h
  cases fuel with
  | zero => cases h
  | succ n =>
    unfold DataW.trod at h
    rw [ht] at h
    split at h <;> simp_all
    obtain ⟨⟨rfl, h1⟩, rfl, rfl⟩ := h
    exact ⟨_, h1, hμ.one _, fun e M _ => RelL.single (.c _)⟩

theorem Rdz.bool {t : TypeId} (ht : P.underlying t = some .bool) : Rdz μ P t rB (fun _ => True) (fun _ => 1) := by
  intro H enc w base sp held fuel cs d ps h
  cases fuel with
  | zero => cases h
  | succ n =>
    unfold DataW.trod at h
    rw [ht] at h
    split at h
    all_goals first
      | (exfalso; simp_all; done)
      | (simp only [Option.some.injEq, Prod.mk.injEq] at h
         obtain ⟨rfl, rfl⟩ := h
         exact ⟨_, trivial, hμ.one _, fun e M _ => RelL.single (.c _)⟩)

theorem Rdz.str {t : TypeId} (ht : P.underlying t = some .string) : Rdz μ P t rS (fun s => s.size ≤ maxLen) (fun s => s.size + 1) := by
  intro H enc w base sp held fuel cs d ps h
  cases fuel with
  | zero => cases h
  | succ n =>
    unfold DataW.trod at h
    rw [ht] at h
    split at h <;> simp_all
    obtain ⟨h1, rfl, rfl⟩ := h
    refine ⟨_, h1, ?_, fun e M _ => RelL.single (.c _)⟩
    refine Nat.le_trans (Nat.le_of_eq ?_) (hμ.str _)
    rw [Array.length_toList]; rfl

omit hμ in
theorem mapM_list {α β γ : Type} {f : α → Option β} {p : α → γ → β → Prop} : ∀ (l : List α) (r : List β), l.mapM f = some r → (∀ a b, f a = some b → ∃ x, p a x b) → ∃ xs : List γ, xs.length = l.length ∧ r.length = l.length ∧ ∀ (i : Nat) (a : α), l[i]? = some a → ∃ x b, xs[i]? = some x ∧ r[i]? = some b ∧ f a = some b ∧ p a x b
  | [], r, h, _ => by simp at h; subst h; exact ⟨[], rfl, rfl, fun i a h => by simp at h⟩
  | a :: l, r, h, hp => by
    rw [List.mapM_cons] at h
    cases hfa : f a with
    | none => simp [hfa] at h
    | some b =>
      cases hfs : l.mapM f with
      | none => simp [hfa, hfs] at h
      | some bs =>
        simp [hfa, hfs] at h
        subst h
        obtain ⟨xs, h1, h2, h3⟩ := mapM_list l bs hfs hp
        obtain ⟨x, hx⟩ := hp a b hfa
        refine ⟨x :: xs, by simp [h1], by simp [h2], fun i a' hi => ?_⟩
        cases i with
        | zero => simp at hi; subst hi; exact ⟨x, b, rfl, rfl, hfa, hx⟩
        | succ i => simpa using h3 i a' (by simpa using hi)

omit hμ in
theorem sum_le_of_get {α β : Type} {f : α → Nat} {g : β → Nat} : ∀ (xs : List α) (ys : List β), xs.length = ys.length → (∀ (i : Nat) x y, xs[i]? = some x → ys[i]? = some y → f x ≤ g y) → (xs.map f).sum ≤ (ys.map g).sum
  | [], [], _, _ => Nat.le_refl _
  | x :: xs, y :: ys, h, hg => by
    simp only [List.map_cons, List.sum_cons]
    have h1 := hg 0 x y rfl rfl
    have h2 := sum_le_of_get xs ys (by simpa using h) (fun i a b ha hb => hg (i + 1) a b (by simpa using ha) (by simpa using hb))
    omega

theorem Rdz.slice {t el : TypeId} (ht : P.underlying t = some (.slice el)) {α : Type} {row : α → List C} {ok : α → Prop} {sz : α → Nat} (r : Rdz μ P el row ok sz) (hpos : 0 < P.cellsOf el) (hlen : ∀ x, (row x).length = P.cellsOf el)
    (hfree : ∀ x, (row x).all C.free = true) :
    Rdz μ P t (fun xs : List α => [.ssl (P.cellsOf el) (xs.map row)]) (fun xs => ∀ x ∈ xs, ok x) (fun xs => (xs.map sz).sum + 1) := by
  intro H enc w base sp held fuel cs d ps h
  cases fuel with
  | zero => cases h
  | succ n =>
    unfold DataW.trod at h
    rw [ht] at h
    split at h <;> simp_all
    · obtain ⟨rfl, rfl⟩ := h
      exact ⟨[], by simp, by simpa using hμ.one _, fun e M _ => RelL.single (.ssl0 _ _ _)⟩
    · rename_i e a len cap heq
      subst heq
      obtain ⟨⟨h1, h2, h3⟩, h⟩ := h
      rw [Option.bind_eq_some_iff] at h
      obtain ⟨elems, he, h⟩ := h
      rw [Option.map_eq_some_iff] at h
      obtain ⟨rest, hr, h⟩ := h
      simp only [Prod.mk.injEq] at h
      obtain ⟨rfl, rfl⟩ := h
      obtain ⟨xs, k1, k2, k3⟩ := mapM_list (p := fun i x (y : DataW H × List MemPlace) => ∃ us, w.cells? base (a.add (i * P.cellsOf el)) (P.cellsOf el) = some us ∧ ok x ∧ sz x ≤ μ y.1 ∧ ∀ (e : Env) (M : Pl), NoM M → RelL w e M (row x) us) _ _ he (by
        intro i b hb
        rw [Option.bind_eq_some_iff] at hb
        obtain ⟨us, hu, hb⟩ := hb
        obtain ⟨x, x1, x2, x3⟩ := r enc w base sp held n us b.1 b.2 hb
        exact ⟨x, us, hu, x1, x2, x3⟩)
      simp only [List.length_range] at k1 k2
      have hget : ∀ (i : Nat) (x : α), xs[i]? = some x → ∃ b us, elems[i]? = some b ∧ w.cells? base (a.add (i * P.cellsOf el)) (P.cellsOf el) = some us ∧ ok x ∧ sz x ≤ μ b.1 ∧ ∀ (e : Env) (M : Pl), NoM M → RelL w e M (row x) us := by
        intro i x hx
        have hi : i < len := by rw [← k1]; exact (List.getElem?_eq_some_iff.1 hx).1
        obtain ⟨x', b, q1, q2, _, us, q4, q5, q6, q7⟩ := k3 i i (by simp [hi])
        rw [hx] at q1; cases q1
        exact ⟨b, us, q2, q4, q5, q6, q7⟩
      refine ⟨xs, fun x hx => ?_, ?_, fun e M hM => ?_⟩
      · obtain ⟨i, hi⟩ := List.getElem?_of_mem hx
        obtain ⟨_, _, _, _, q, _⟩ := hget i x hi
        exact q
      · refine Nat.le_trans (Nat.succ_le_succ ?_) (hμ.slice _ _)
        rw [List.map_map]
        refine sum_le_of_get xs elems (by rw [k1, k2]) (fun i x y hx hy => ?_)
        obtain ⟨b, _, q1, _, _, q3, _⟩ := hget i x hx
        rw [hy] at q1; cases q1
        exact q3
      · refine RelL.single ?_
        by_cases h0 : len = 0
        · have : xs = [] := List.eq_nil_of_length_eq_zero (by omega)
          subst this; subst h0
          exact .ssl0 _ _ _
        · obtain ⟨b, off, spot⟩ := a
          have hcell : ∀ (i : Nat) (x : α) (j : Nat) (c : C), xs[i]? = some x → (row x)[j]? = some c → ∃ u, w.cell? ((⟨b, off, spot⟩ : Addr).add (i * P.cellsOf el + j)) = some u ∧ Rel w e M c u := by
            intro i x j c hx hj
            obtain ⟨_, us, _, q2, _, _, q4⟩ := hget i x hx
            obtain ⟨q5, q6⟩ := q4 e M hM
            obtain ⟨u, q7, q8⟩ := q6 j c hj
            obtain ⟨_, _, q9⟩ := World.cells?_some q2
            have hjl : j < P.cellsOf el := by rw [← hlen x]; exact (List.getElem?_eq_some_iff.1 hj).1
            have := q9 j hjl
            rw [q7] at this
            refine ⟨u, ?_, q8⟩
            rw [← this]
            congr 1
            unfold Addr.add
            by_cases hi0 : i * P.cellsOf el = 0 <;> by_cases hj0 : j = 0 <;> simp [hi0, hj0, Nat.add_assoc]
          have hspot : spot = none := by
            have hx0 : ∃ x, xs[0]? = some x := ⟨xs[0]'(by omega), List.getElem?_eq_getElem (by omega)⟩
            obtain ⟨x, hx⟩ := hx0
            obtain ⟨u, hu, _⟩ := hcell 0 x 0 ((row x)[0]'(by rw [hlen]; exact hpos)) hx (List.getElem?_eq_getElem (by rw [hlen]; exact hpos))
            simpa [Addr.add] using World.cell?_spot hu
          subst hspot
          rw [← k1]
          have hadd : ∀ i j, ((⟨b, off, none⟩ : Addr).add (i * P.cellsOf el + j)) = ⟨b, off + i * P.cellsOf el + j, none⟩ := fun i j => by rw [add_none]; congr 1; omega
          have hxl : (xs.map row).length = xs.length := List.length_map ..
          have key := Rel.ssl (w := w) (e := e) (M := M) (P.cellsOf el) (xs.map row) b off cap (fun i j => (w.cell? ⟨b, off + i * P.cellsOf el + j, none⟩).getD undef) (by omega)
            (fun i cs hi => by
              rw [List.getElem?_map, Option.map_eq_some_iff] at hi; obtain ⟨x, _, rfl⟩ := hi; exact hlen x)
            (fun i cs j c hi hj => by
              rw [List.getElem?_map, Option.map_eq_some_iff] at hi; obtain ⟨x, _, rfl⟩ := hi
              exact hfree x c (List.mem_of_getElem? hj))
            (fun i cs j c hi hj => by
              rw [List.getElem?_map, Option.map_eq_some_iff] at hi; obtain ⟨x, hx, rfl⟩ := hi
              obtain ⟨u, hu, _⟩ := hcell i x j c hx hj
              rw [hadd] at hu
              exact ⟨by rw [hu]; rfl, hM _ _⟩)
            (fun i cs j c hi hj => by
              rw [List.getElem?_map, Option.map_eq_some_iff] at hi; obtain ⟨x, hx, rfl⟩ := hi
              obtain ⟨u, hu, hr⟩ := hcell i x j c hx hj
              rw [hadd] at hu
              rw [hu]; exact hr)
          rw [hxl] at key
          exact key

/-! ### Structs -/
/-- Whatever is read of these fields, that lie one behind the other from a place on. -/
def RdF (μ : {H : Type} → DataW H → Nat) (P : Program) (fs : List Field) (off : Nat) {α : Type} (row : α → List C) (ok : α → Prop) (sz : α → Nat) (n : Nat) : Prop :=
  ∀ {H : Type} (enc : TypeId × Value → H) (w : World) (base : Nat) (sp : Nat → Bool) (held : Bool) (fuel : Nat) (cs : List Value) (xs : List (DataW H × List MemPlace)),
    off + n ≤ cs.length → (fs.mapM fun f => DataW.trod enc P w base sp held fuel f.type ((cs.drop f.offset).take (P.cellsOf f.type))) = some xs →
    ∃ x : α, ok x ∧ sz x ≤ ((xs.map (·.1)).map μ).sum ∧ ∀ (e : Env) (M : Pl), NoM M → RelL w e M (row x) ((cs.drop off).take n)

omit hμ in
theorem RelL.append {w : World} {e : Env} {M : Pl} {a b : List C} {u v : List Value} (h1 : RelL w e M a u) (h2 : RelL w e M b v) : RelL w e M (a ++ b) (u ++ v) := by
  refine ⟨by simp [h1.1, h2.1], fun j c hj => ?_⟩
  rw [List.getElem?_append] at hj
  split at hj
  · rename_i hlt
    obtain ⟨x, h3, h4⟩ := h1.2 j c hj
    exact ⟨x, by rw [List.getElem?_append_left (by rw [h1.1]; exact hlt)]; exact h3, h4⟩
  · rename_i hge
    obtain ⟨x, h3, h4⟩ := h2.2 _ c hj
    exact ⟨x, by rw [List.getElem?_append_right (by rw [h1.1]; omega), h1.1]; exact h3, h4⟩

omit hμ in
theorem RdF.nil (off : Nat) : RdF μ P [] off (fun _ : Unit => []) (fun _ => True) (fun _ => 0) 0 := by
  intro H enc w base sp held fuel cs xs _ h
  simp at h
  subst h
  exact ⟨(), trivial, by simp, fun e M _ => ⟨by simp, fun j c hj => by simp at hj⟩⟩

omit hμ in
theorem RdF.cons {f : Field} {fs : List Field} {α β : Type} {row : α → List C} {ok : α → Prop} {sz : α → Nat} {row' : β → List C} {ok' : β → Prop} {sz' : β → Nat} {n : Nat} (off m : Nat)
    (r : Rdz μ P f.type row ok sz) (ho : f.offset = off) (hm : P.cellsOf f.type = m) (rs : RdF μ P fs (off + m) row' ok' sz' n) :
    RdF μ P (f :: fs) off (fun x : α × β => row x.1 ++ row' x.2) (fun x => ok x.1 ∧ ok' x.2) (fun x => sz x.1 + sz' x.2) (m + n) := by
  intro H enc w base sp held fuel cs xs hl h
  rw [List.mapM_cons] at h
  cases hfa : DataW.trod enc P w base sp held fuel f.type ((cs.drop f.offset).take (P.cellsOf f.type)) with
  | none => simp [hfa] at h
  | some b =>
    cases hfs : fs.mapM fun f => DataW.trod enc P w base sp held fuel f.type ((cs.drop f.offset).take (P.cellsOf f.type)) with
    | none => simp [hfa, hfs] at h
    | some bs =>
      simp [hfa, hfs] at h
      subst h
      obtain ⟨x, h1, h2, h3⟩ := r enc w base sp held fuel _ b.1 b.2 hfa
      obtain ⟨y, h4, h5, h6⟩ := rs enc w base sp held fuel cs bs (by omega) hfs
      refine ⟨(x, y), ⟨h1, h4⟩, by simp only [List.map_cons, List.sum_cons]; exact Nat.add_le_add h2 h5, fun e M hM => ?_⟩
      have key := RelL.append (h3 e M hM) (h6 e M hM)
      rw [ho, hm] at key
      have : (cs.drop off).take m ++ (cs.drop (off + m)).take n = (cs.drop off).take (m + n) := by
        rw [List.take_add, List.drop_drop]
      rw [this] at key
      exact key

theorem Rdz.struct {t : TypeId} {fs : Array Field} (ht : P.underlying t = some (.struct fs)) {α β : Type} {row : α → List C} {ok : α → Prop} {sz : α → Nat} {n : Nat} (r : RdF μ P fs.toList 0 row ok sz n) (hn : P.cellsOf t = n)
    (f : α → β) {rowβ : β → List C} (hf : ∀ x, rowβ (f x) = row x) {okβ : β → Prop} (hok : ∀ x, ok x → okβ (f x)) {szβ : β → Nat} (hsz : ∀ x, szβ (f x) ≤ sz x) : Rdz μ P t rowβ okβ szβ := by
  intro H enc w base sp held fuel cs d ps h
  cases fuel with
  | zero => cases h
  | succ k =>
    unfold DataW.trod at h
    rw [ht] at h
    simp only at h
    split at h
    · rename_i hl
      rw [Option.map_eq_some_iff] at h
      obtain ⟨xs, hx, he⟩ := h
      simp only [Prod.mk.injEq] at he
      obtain ⟨rfl, rfl⟩ := he
      obtain ⟨x, h1, h2, h3⟩ := r enc w base sp held k cs xs (by omega) hx
      refine ⟨f x, hok x h1, Nat.le_trans (hsz x) (Nat.le_trans h2 (hμ.agg _)), fun e M hM => ?_⟩
      have := h3 e M hM
      rw [hf]
      rw [List.drop_zero, List.take_of_length_le (by omega)] at this
      exact this
    · cases h
end
end Sx
