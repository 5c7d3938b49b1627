/- A function's contract from its body's piece; what of its objects goes on. -/
import Derived.Test.YthimhmocgnnaiaaDoorSxV
namespace Sx
open Go

def closedB (H : List O) : Bool := H.all fun o => o.ones.all (C.lt H.length)
def argsB (args : List T) (H : List O) : Bool := args.all (T.lt H.length)

theorem ones_or_free {κ : Nat → Nat} {obj : O} {o : Nat} {v : C} (hw : Wf κ obj) (h : Has obj o v) : v ∈ obj.ones ∨ v.free = true := by
  cases obj with
  | dead => exact h.elim
  | arr esz xs => obtain ⟨i, j, cs, h1, h2, _⟩ := h; exact .inr (hw.2.2 i cs j v h1 h2)
  | cells ss =>
    have : ∀ (ss : List Slot) s, SWf κ ss s → SHas ss s o v → v ∈ onesOf ss ∨ v.free = true := by
      intro ss
      induction ss with
      | nil => intro s _ h; exact h.elim
      | cons a r ih =>
        intro s hw h
        cases a with
        | one c =>
          rcases h with ⟨_, rfl⟩ | h
          · exact .inl List.mem_cons_self
          · exact (ih _ hw h).imp (List.mem_cons_of_mem _) id
        | row n esz xs =>
          rcases h with ⟨i, j, cs, h1, h2, _⟩ | h
          · exact .inr (hw.1.2.2.2 i cs j v h1 h2)
          · exact ih _ hw.2 h
        | hole n => exact ih _ hw h
    exact this ss 0 hw h

theorem closedB_ok {g : Gl} {w : World} {e : Env} {R : Pl} {H : List O} (s : Sat g w e R H) (h : closedB H = true) : Closed H := by
  intro k obj o v hk hv j hj
  rcases ones_or_free (s.wf k obj hk) hv with h1 | h1
  · have := List.all_eq_true.1 (List.all_eq_true.1 h obj (List.mem_of_getElem? hk)) v h1
    simp only [C.lt, hj, decide_eq_true_eq] at this; exact this
  · rw [C.key_of_free h1] at hj; cases hj

theorem FT_of {P : Program} {g : Gl} {f : FuncId} {fn : Func} {c : Code} {args : List T} {H : List O} {s' : St} {ex : Exit} {res : T} (hf : P.funcs[f]? = some fn) (hb : fn.body = some c)
    (hc : (closedB H && argsB args H && decide (args.length ≤ fn.ntmps) && decide (fn.results.size ≤ 4)) = true)
    (hp : Piece P g c (initSt fn args H) ex s') (hex : ex = .normal ∨ ex = .ret) (hr : fnRes P fn s' = some res) : FT P g f args H s'.mv res s'.hp := by
  simp only [Bool.and_eq_true, decide_eq_true_eq] at hc
  obtain ⟨⟨⟨c1, c2⟩, c3⟩, c4⟩ := hc
  intro w e R vs hs hvs
  refine calls_of_wp hf hb (hp R w e H _ w _ e ?_ ?_)
  · refine ⟨hs, closedB_ok hs c1, ?_, ?_, ?_, rfl, Ext.refl _ _ _ _, Nat.le_refl _⟩
    · intro t v ht
      simp only [initSt] at ht
      rcases Nat.lt_or_ge t args.length with hlt | hge
      · rw [List.getElem?_append_left hlt] at ht
        obtain ⟨u, h1, h2⟩ := hvs.2 t v ht
        have : (vs.toArray ++ Array.replicate (fn.ntmps - vs.toArray.size) undef).getD t undef = u := by
          have hlt' : t < vs.length := (List.getElem?_eq_some_iff.1 h1).1
          have h3 : vs[t] = u := by rw [List.getElem?_eq_getElem hlt'] at h1; exact Option.some.inj h1
          simp [Array.getElem?_append, hlt', h3]
        rw [this]; exact h2
      · rw [List.getElem?_append_right hge, List.getElem?_replicate] at ht
        split at ht
        · simp only [Option.some.injEq] at ht
          subst ht
          have hl := hvs.1
          have : (vs.toArray ++ Array.replicate (fn.ntmps - vs.toArray.size) undef).getD t undef = undef := by
            simp only [Array.getD_eq_getD_getElem?, Array.getElem?_append, List.size_toArray]
            rw [if_neg (by omega), Array.getElem?_replicate]
            split <;> rfl
          rw [this]; exact .c _
        · cases ht
    · intro t v ht
      simp only [initSt] at ht
      rcases Nat.lt_or_ge t args.length with hlt | hge
      · rw [List.getElem?_append_left hlt] at ht
        exact T.lt_below (List.all_eq_true.1 c2 v (List.mem_of_getElem? ht))
      · rw [List.getElem?_append_right hge, List.getElem?_replicate] at ht
        split at ht
        · simp only [Option.some.injEq] at ht
          subst ht
          intro c hc k hk
          simp only [T.c, T.cs, List.mem_singleton] at hc
          subst hc; cases hk
        · cases ht
    · simp only [initSt, List.length_append, List.length_replicate, Array.size_append, List.size_toArray, Array.size_replicate]
      rw [hvs.1]
  · intro a' w' e' ho
    have hresall : ∃ vs', resAll P s' fn.results.toList = some vs' ∧ res = (match vs' with | [v] => .a v | vs' => .t vs') := by
      unfold fnRes at hr
      cases hq : resAll P s' fn.results.toList with
      | none => rw [hq] at hr; cases hr
      | some l =>
        rw [hq] at hr
        refine ⟨l, rfl, ?_⟩
        match l, hr with
        | [], hr => exact (Option.some.inj hr).symm
        | [v], hr => exact (Option.some.inj hr).symm
        | _ :: _ :: _, hr => exact (Option.some.inj hr).symm
    obtain ⟨vs', hq, hres⟩ := hresall
    have hget : ∀ (rs : List ResultVar) (vs' : List A), resAll P s' rs = some vs' → ∃ us : List Value, us.length = vs'.length ∧ rs.length = us.length ∧
        (∀ (j : Nat) (r : ResultVar), rs[j]? = some r → ∃ u, us[j]? = some u ∧ (resRun a'.tmps r).run P w' = .ok u w') ∧ (∀ (j : Nat) (v : A), vs'[j]? = some v → ∃ u, us[j]? = some u ∧ RelA w' e' (Mut e' R s'.hp) v u) := by
      intro rs
      induction rs with
      | nil => intro vs' h; simp only [resAll, Option.some.injEq] at h; subst h; exact ⟨[], rfl, rfl, fun j r h => by simp at h, fun j r h => by simp at h⟩
      | cons x r ih =>
        intro vs' h
        simp only [resAll] at h
        split at h
        · rename_i v vs2 h1 h2
          simp only [Option.some.injEq] at h
          subst h
          obtain ⟨us, k1, k2, k3, k4⟩ := ih vs2 h2
          obtain ⟨u, h3, h4⟩ := resOf_ok ho h1
          refine ⟨u :: us, by simp [k1], by simp [k2], fun j y hj => ?_, fun j y hj => ?_⟩
          · cases j with
            | zero => simp at hj; subst hj; exact ⟨u, rfl, h3⟩
            | succ j => simpa using k3 j y (by simpa using hj)
          · cases j with
            | zero => simp at hj; subst hj; exact ⟨u, rfl, h4⟩
            | succ j => simpa using k4 j y (by simpa using hj)
        · cases h
    obtain ⟨us, k1, k2, k3, k4⟩ := hget _ _ hq
    have hrun := results_run (P := P) (fn := fn) (w := w') (tmps := a'.tmps) us fn.results.toList (by simp) (by simpa using c4) k2 k3
    have hrel : RelT w' e' (Mut e' R s'.hp) res (tupV us) := by
      subst hres
      match vs', us, k1, k4 with
      | [v], [u], _, k4 => obtain ⟨u', h1, h2⟩ := k4 0 v rfl; cases h1; exact h2
      | [], [], _, k4 => exact ⟨[], rfl, rfl, fun j v h => by simp at h⟩
      | a :: b :: r, x :: y :: z, k1, k4 => exact ⟨x :: y :: z, rfl, k1, k4⟩
    have hpost : (∃ v, (results fn a'.tmps).run P w' = .ok v w' ∧ ∃ u, Ending.returned v = .returned u ∧ ∃ e'', Sat g w' e'' R s'.hp ∧ Ext w e H w' e'' s'.hp s'.mv ∧ RelT w' e'' (Mut e'' R s'.hp) res u) :=
      ⟨_, hrun, _, rfl, e', ho.sat, ho.ext, hrel⟩
    rcases hex with rfl | rfl
    · exact ⟨ho.defers, hpost⟩
    · exact ⟨ho.defers, hpost⟩

/-- Some objects of many, under new names. -/
theorem Sat.sub {g : Gl} {w : World} {e : Env} {R : Pl} {H q : List O} {ρ : List Nat} (s : Sat g w e R H) (hn : ρ.Nodup) (hq : subOf ρ (fun k => H[k]?) ρ = some q) :
    let e' : Env := { β := fun j => e.β (ρ.getD j 0), κ := fun j => e.κ (ρ.getD j 0) }
    Sat g w e' R q ∧ (∀ b o, FP e' q b o → FP e H b o) ∧ ∀ k j, posOf ρ k = some j → e'.β j = e.β k ∧ e'.κ j = e.κ k := by
  intro e'
  obtain ⟨hl, hg⟩ := subOf_get hq
  have hec : ∀ j k, ρ[j]? = some k → e'.β j = e.β k ∧ e'.κ j = e.κ k := fun j k hj => by simp [e', hj]
  have hget : ∀ (j : Nat) (obj : O), q[j]? = some obj → ∃ k o, ρ[j]? = some k ∧ H[k]? = some o ∧ obj = renO (posOf ρ) o := fun j obj hj => by
    have hjl : j < ρ.length := by rw [← hl]; exact (List.getElem?_eq_some_iff.1 hj).1
    obtain ⟨o, h1, h2⟩ := hg j ρ[j] (List.getElem?_eq_getElem hjl)
    rw [hj] at h2; cases h2
    exact ⟨_, o, List.getElem?_eq_getElem hjl, h1, rfl⟩
  have hfp : ∀ b o, FP e' q b o → FP e H b o := by
    rintro b o ⟨j, obj, i, h1, h2, h3, h4⟩
    obtain ⟨k, o', h5, h6, rfl⟩ := hget j obj h1
    rw [(hec j k h5).1] at h2 h3
    rw [(hec j k h5).2, Cov_ren] at h4
    exact ⟨k, o', i, h6, h2, h3, h4⟩
  have hM : ∀ b o, Mut e' R q b o → Mut e R H b o := fun b o h => h.imp id (hfp b o)
  have hpos : ∀ k j, posOf ρ k = some j → e'.β j = e.β k ∧ e'.κ j = e.κ k := fun k j h => hec j k (posOf_get h)
  refine ⟨⟨?_, ?_, ?_, ?_, fun b o hr => ⟨fun h => (s.rest b o hr).1 (hfp b o h), (s.rest b o hr).2⟩, fun b o h => s.low b o (hM b o h), s.glob⟩, hfp, hpos⟩
  · intro j obj hj
    obtain ⟨k, o', h5, h6, rfl⟩ := hget j obj hj
    rw [(hec j k h5).2, Wf_ren]; exact s.wf k o' h6
  · intro j obj i v hj hv
    obtain ⟨k, o', h5, h6, rfl⟩ := hget j obj hj
    obtain ⟨v0, h7, rfl⟩ := Has_ren _ _ o' i v (s.wf k o' h6) hv
    obtain ⟨u, h8, h9⟩ := s.has k o' i v0 h6 h7
    rw [(hec j k h5).1]
    exact ⟨u, h8, Rel.ren (h9.step (fun _ _ => ⟨rfl, rfl⟩) (fun b o v hc hn => ⟨hc, fun hm => hn (hM b o hm)⟩)) (fun k j _ h => hpos k j h)⟩
  · intro j obj i hj hv
    obtain ⟨k, o', h5, h6, rfl⟩ := hget j obj hj
    rw [(hec j k h5).2, Cov_ren] at hv
    rw [(hec j k h5).1]
    exact s.cov k o' i h6 hv
  · intro j j' obj obj' i i' hj hj' hv hv' hb ho
    obtain ⟨k, o', h5, h6, rfl⟩ := hget j obj hj
    obtain ⟨k', o'', h5', h6', rfl⟩ := hget j' obj' hj'
    rw [(hec j k h5).2, Cov_ren] at hv
    rw [(hec j' k' h5').2, Cov_ren] at hv'
    rw [(hec j k h5).1, (hec j' k' h5').1] at hb ho
    have := s.dis k k' o' o'' i i' h6 h6' hv hv' hb ho
    subst this
    have p1 := posOf_of_get hn h5
    have p2 := posOf_of_get hn h5'
    rw [p2] at p1; exact (Option.some.inj p1).symm

/-- The names of the objects that go on: an old one that isn't told of as moved keeps its name. -/
def keepOk (n : Nat) (mv ρ : List Nat) : Bool := (List.range n).all fun k => ρ[k]? == some k || mv.contains k

theorem FT.keep {P : Program} {g : Gl} {f : FuncId} {args : List T} {H H1 q : List O} {mv mv' : List Nat} {res : T} (h : FT P g f args H mv res H1) (ρ : List Nat)
    (hn : (nodupB ρ && keepOk H.length mv' ρ && mv.all (fun k => mv'.contains k || !decide (k < H.length))) = true) (hq : subOf ρ (fun k => H1[k]?) ρ = some q) :
    FT P g f args H mv' (renT (posOf ρ) res) q := by
  simp only [Bool.and_eq_true] at hn
  obtain ⟨⟨hn, hk'⟩, hmv⟩ := hn
  intro w e R vs hs hvs
  refine (h w e R vs hs hvs).mono ?_
  rintro en w' ⟨u, rfl, e', s', x', hr⟩
  obtain ⟨s2, hfp, hpos⟩ := s'.sub (nodupB_ok hn) hq
  refine ⟨u, rfl, _, s2, ⟨x'.size, x'.block, x'.cell, fun b o hb => x'.foot b o (hfp b o hb), fun k hk hm => ?_, x'.os⟩, ?_⟩
  · have hm2 : k ∉ mv := fun hmem => by
      have := List.all_eq_true.1 hmv k hmem
      simp only [Bool.or_eq_true, Bool.not_eq_true', decide_eq_false_iff_not] at this
      rcases this with h | h
      · exact hm (List.contains_iff_mem.1 h)
      · exact h hk
    obtain ⟨p1, p2⟩ := x'.pins k hk hm2
    have hk1 := List.all_eq_true.1 hk' k (List.mem_range.2 hk)
    simp only [Bool.or_eq_true, beq_iff_eq] at hk1
    have hk2 : ρ.getD k 0 = k := by
      rw [List.getD_eq_getElem?_getD, hk1.resolve_right (fun h => hm (List.contains_iff_mem.1 h))]; rfl
    simp only [hk2]
    exact ⟨p1, p2⟩
  · exact RelT.ren (hr.mem (fun b o v hc hn => ⟨hc, fun hm => hn (hm.imp id (hfp b o))⟩)) hpos
end Sx
