/- Whole pieces of code: straight runs, branches told of, exits, rounds of a loop. -/
import Derived.Test.YthimhmocgnnaiaaDoorSxS
namespace Sx
open Go

/-- The piece leads from the one state to the other, and leaves so. -/
def Piece (P : Program) (g : Gl) (c : Code) (s : St) (ex : Exit) (s' : St) : Prop :=
  ∀ (R : Pl) (w0 : World) (e0 : Env) (H0 : List O) (Q : Exit → Act → World → Prop) (w : World) (a : Act) (e : Env), StOk g R w0 e0 H0 w a e s →
    (∀ a' w' e', StOk g R w0 e0 H0 w' a' e' s' → Q ex a' w') → c.wp P Q a w

theorem StOk.of_heap {g : Gl} {R : Pl} {w0 : World} {e0 : Env} {H0 : List O} {w w' : World} {a : Act} {e : Env} {s : St} (h : StOk g R w0 e0 H0 w a e s) (hh : w'.heap = w.heap) (ho : w'.os = w.os ∧ w'.output = w.output) : StOk g R w0 e0 H0 w' a e s where
  sat := h.sat.of_heap hh
  closed := h.closed
  tms := fun t v ht => (h.tms t v ht).mem (fun b o v hc hn => ⟨by unfold World.cell? at hc ⊢; rw [hh]; exact hc, hn⟩)
  below := h.below
  len := h.len
  defers := h.defers
  ext := (h.ext.trans (mv' := s.mv) ((Ext.of_heap hh ho).weaken (fun _ h => by cases h)) h.hl (fun _ hk => hk))
  hl := h.hl

/-! ### What may be forgotten between two regions -/
inductive Gh where
  | keep (ts : List Nat)
  | forget (ts : List Nat)
  | drop (ks : List Nat)
  | lend (fr : List (Nat × List (List C)))
  | mv (ks : List Nat)
  | trim (k n : Nat)

def trimAt (k n : Nat) (H : List O) : List O := match H[k]? with | some (.arr esz xs) => H.set k (.arr esz (cut xs 0 n)) | _ => H

def keepTm (ts : List Nat) : Nat → List T → List T
  | _, [] => []
  | i, v :: r => (if ts.contains i then v else T.x) :: keepTm ts (i + 1) r

def forgetTm : List Nat → List T → List T
  | [], tm => tm
  | t :: r, tm => forgetTm r (tm.set t T.x)

def dropAll : List Nat → List O → List O
  | [], H => H
  | k :: r, H => dropAll r (H.set k .dead)

def lendS (fr : List (Nat × List (List C))) : List Slot → List Slot
  | [] => []
  | .one c :: r => .one (lendC fr c) :: lendS fr r
  | .row n esz xs :: r => .row n esz xs :: lendS fr r
  | .hole n :: r => .hole n :: lendS fr r
def lendO (fr : List (Nat × List (List C))) : O → O
  | .dead => .dead
  | .cells ss => .cells (lendS fr ss)
  | .arr esz xs => .arr esz xs

/-- The conditions of lending, where there are any. -/
def condsC (H : Nat → Option O) (fr : List (Nat × List (List C))) : List C → List Prop
  | [] => []
  | .sl k off esz i n :: r => (match fr.find? (·.1 == k) with | some _ => [lendOk H fr (.sl k off esz i n)] | none => []) ++ condsC H fr r
  | _ :: r => condsC H fr r
def onesOf : List Slot → List C
  | [] => []
  | .one c :: r => c :: onesOf r
  | _ :: r => onesOf r
def O.ones : O → List C
  | .cells ss => onesOf ss
  | _ => []
def pall : List Prop → Prop
  | [] => True
  | p :: r => p ∧ pall r

def Gh.go (gh : Gh) (s : St) : St × Prop :=
  match gh with
  | .keep ts => ({ s with tm := keepTm ts 0 s.tm }, True)
  | .forget ts => ({ s with tm := forgetTm ts s.tm }, True)
  | .drop ks => ({ s with hp := dropAll ks s.hp }, True)
  | .mv ks => ({ s with mv := addMv ks s.mv }, True)
  | .trim k n => ({ s with hp := trimAt k n s.hp }, True)
  | .lend fr => ({ s with tm := s.tm.map (lendT fr), hp := dropAll (fr.map (·.1)) (s.hp.map (lendO fr)) },
      pall (condsC (fun k => s.hp[k]?) fr (s.tm.flatMap T.cs ++ s.hp.flatMap O.ones)))

theorem keepTm_get {ts : List Nat} : ∀ (tm : List T) (i t : Nat) (v : T), (keepTm ts i tm)[t]? = some v → v = T.x ∨ tm[t]? = some v := by
  intro tm
  induction tm with
  | nil => intro i t v h; simp [keepTm] at h
  | cons a r ih =>
    intro i t v h
    cases t with
    | zero =>
      simp only [keepTm, List.getElem?_cons_zero, Option.some.injEq] at h ⊢
      split at h
      · exact .inr h
      · exact .inl h.symm
    | succ t => exact ih _ t v h
theorem keepTm_length {ts : List Nat} : ∀ (tm : List T) (i : Nat), (keepTm ts i tm).length = tm.length := by
  intro tm
  induction tm with
  | nil => intro i; rfl
  | cons a r ih => intro i; simp [keepTm, ih]
theorem forgetTm_get : ∀ (ts : List Nat) (tm : List T) (t : Nat) (v : T), (forgetTm ts tm)[t]? = some v → v = T.x ∨ tm[t]? = some v := by
  intro ts
  induction ts with
  | nil => intro tm t v h; exact .inr h
  | cons a r ih =>
    intro tm t v h
    rcases ih _ t v h with h | h
    · exact .inl h
    · rcases set_get tm a t T.x v h with ⟨_, h⟩ | ⟨_, h⟩
      · exact .inl h
      · exact .inr h
theorem forgetTm_length : ∀ (ts : List Nat) (tm : List T), (forgetTm ts tm).length = tm.length := by
  intro ts
  induction ts with
  | nil => intro tm; rfl
  | cons a r ih => intro tm; simp [forgetTm, ih]

theorem StOk.tmWeak {g : Gl} {R : Pl} {w0 : World} {e0 : Env} {H0 : List O} {w : World} {a : Act} {e : Env} {s : St} {tm : List T} (h : StOk g R w0 e0 H0 w a e s) (hl : tm.length = s.tm.length) (hg : ∀ (t : Nat) (v : T), tm[t]? = some v → v = T.x ∨ s.tm[t]? = some v) : StOk g R w0 e0 H0 w a e { s with tm := tm } where
  sat := h.sat
  closed := h.closed
  tms := fun t v ht => by
    rcases hg t v ht with rfl | ht
    · exact .x _
    · exact h.tms t v ht
  below := fun t v ht => by
    rcases hg t v ht with rfl | ht
    · intro c hc k hk; simp [T.x, T.cs] at hc; subst hc; cases hk
    · exact h.below t v ht
  len := hl.trans h.len
  defers := h.defers
  ext := h.ext
  hl := h.hl

theorem Ext.trans_drop {w : World} {e : Env} {H H' H'' : List O} {w' : World} {e' : Env} {mv : List Nat} (x : Ext w e H w' e' H' mv) (y : Ext w' e' H' w' e' H'' []) (hl : H.length ≤ H'.length) : Ext w e H w' e' H'' mv :=
  x.trans (y.weaken (fun _ h => by cases h)) hl (fun _ h => h)

/-- Fewer, or weaker, objects. -/
theorem StOk.hpWeak {g : Gl} {R : Pl} {w0 : World} {e0 : Env} {H0 : List O} {w : World} {a : Act} {e : Env} {s : St} {H' : List O} (h : StOk g R w0 e0 H0 w a e s) (hl : H'.length = s.hp.length)
    (hs : Sat g w e R H') (x : Ext w e s.hp w e H' []) (hc : Closed H') : StOk g R w0 e0 H0 w a e { s with hp := H' } where
  sat := hs
  closed := hc
  tms := fun t v ht => (h.tms t v ht).mem (x.mem (R := R))
  below := fun t v ht => by rw [hl]; exact h.below t v ht
  len := h.len
  defers := h.defers
  ext := h.ext.trans_drop x h.hl
  hl := by rw [hl]; exact h.hl

theorem Closed.drop {H : List O} (h : Closed H) (k : Nat) : Closed (H.set k .dead) := by
  intro k' obj o v hk hh j hj
  rw [List.length_set]
  rcases set_get H k k' .dead obj hk with ⟨_, rfl⟩ | ⟨_, hk⟩
  · exact hh.elim
  · exact h k' obj o v hk hh j hj

theorem StOk.dropAll {g : Gl} {R : Pl} {w0 : World} {e0 : Env} {H0 : List O} {w : World} {a : Act} {e : Env} : ∀ (ks : List Nat) (s : St), StOk g R w0 e0 H0 w a e s → StOk g R w0 e0 H0 w a e { s with hp := Sx.dropAll ks s.hp } := by
  intro ks
  induction ks with
  | nil => intro s h; exact h
  | cons k r ih =>
    intro s h
    obtain ⟨h1, h2⟩ := h.sat.drop k
    exact ih { s with hp := s.hp.set k .dead } (h.hpWeak (by simp) h1 h2 (h.closed.drop k))

theorem lendC_free {fr : List (Nat × List (List C))} {c : C} (h : c.free = true) : lendC fr c = c := by cases c <;> first | rfl | cases h

theorem lendC_key {fr : List (Nat × List (List C))} {c : C} {k : Nat} (h : (lendC fr c).key = some k) : c.key = some k := by
  unfold lendC at h
  split at h
  · split at h
    · cases h
    · exact h
  · exact h

theorem SCov_lend (fr : List (Nat × List (List C))) (ss : List Slot) : ∀ s o, SCov (lendS fr ss) s o ↔ SCov ss s o := by
  induction ss with
  | nil => intro s o; exact Iff.rfl
  | cons a r ih => intro s o; cases a <;> simp [lendS, SCov, ih]
theorem SWf_lend (fr : List (Nat × List (List C))) (κ : Nat → Nat) (ss : List Slot) : ∀ s, SWf κ (lendS fr ss) s ↔ SWf κ ss s := by
  induction ss with
  | nil => intro s; exact Iff.rfl
  | cons a r ih => intro s; cases a <;> simp [lendS, SWf, ih]
theorem SHas_lend (fr : List (Nat × List (List C))) (κ : Nat → Nat) (ss : List Slot) : ∀ s o v, SWf κ ss s → SHas (lendS fr ss) s o v → ∃ v0, SHas ss s o v0 ∧ v = lendC fr v0 ∧ (v0 ∈ onesOf ss ∨ v0.free = true) := by
  induction ss with
  | nil => intro s o v _ h; exact h.elim
  | cons a r ih =>
    intro s o v hw h
    cases a with
    | one c =>
      rcases h with ⟨h1, h2⟩ | h
      · exact ⟨c, .inl ⟨h1, rfl⟩, h2, .inl List.mem_cons_self⟩
      · obtain ⟨v0, h1, h2, h3⟩ := ih _ _ _ hw h
        exact ⟨v0, .inr h1, h2, h3.imp (List.mem_cons_of_mem _) id⟩
    | row n esz xs =>
      rcases h with ⟨i, j, cs, h1, h2, h3⟩ | h
      · have hf := hw.1.2.2.2 i cs j v h1 h2
        exact ⟨v, .inl ⟨i, j, cs, h1, h2, h3⟩, (lendC_free hf).symm, .inr hf⟩
      · obtain ⟨v0, h1, h2, h3⟩ := ih _ _ _ hw.2 h
        exact ⟨v0, .inr h1, h2, h3⟩
    | hole n =>
      obtain ⟨v0, h1, h2, h3⟩ := ih _ _ _ hw h
      exact ⟨v0, h1, h2, h3⟩
theorem Cov_lend (fr : List (Nat × List (List C))) (κ : Nat → Nat) (obj : O) (o : Nat) : Cov κ (lendO fr obj) o ↔ Cov κ obj o := by
  cases obj <;> simp [lendO, Cov, SCov_lend]
theorem Wf_lend (fr : List (Nat × List (List C))) (κ : Nat → Nat) (obj : O) : Wf κ (lendO fr obj) ↔ Wf κ obj := by
  cases obj <;> simp [lendO, Wf, SWf_lend]
theorem Has_lend (fr : List (Nat × List (List C))) (κ : Nat → Nat) (obj : O) (o : Nat) (v : C) (hw : Wf κ obj) (h : Has (lendO fr obj) o v) : ∃ v0, Has obj o v0 ∧ v = lendC fr v0 ∧ (v0 ∈ obj.ones ∨ v0.free = true) := by
  cases obj with
  | dead => exact h.elim
  | cells ss => exact SHas_lend fr κ ss 0 o v hw h
  | arr esz xs =>
    obtain ⟨i, j, cs, h1, h2, h3⟩ := h
    have hf := hw.2.2 i cs j v h1 h2
    exact ⟨v, ⟨i, j, cs, h1, h2, h3⟩, (lendC_free hf).symm, .inr hf⟩

theorem pall_append {a b : List Prop} (h : pall (a ++ b)) : pall a ∧ pall b := by
  induction a with
  | nil => exact ⟨trivial, h⟩
  | cons p r ih => exact ⟨⟨h.1, (ih h.2).1⟩, (ih h.2).2⟩

theorem condsC_mem {H : Nat → Option O} {fr : List (Nat × List (List C))} : ∀ (cs : List C), pall (condsC H fr cs) → ∀ c ∈ cs, lendOk H fr c := by
  intro cs
  induction cs with
  | nil => intro _ c hc; cases hc
  | cons a r ih =>
    intro h c hc
    have hr : pall (condsC H fr r) ∧ lendOk H fr a := by
      cases a with
      | sl k off esz i n =>
        simp only [condsC] at h
        obtain ⟨h1, h2⟩ := pall_append h
        refine ⟨h2, ?_⟩
        cases hf : fr.find? (·.1 == k) with
        | none => simp only [lendOk]; rw [hf]; trivial
        | some p => rw [hf] at h1; exact h1.1
      | _ => exact ⟨h, trivial⟩
    rcases List.mem_cons.1 hc with rfl | hc
    · exact hr.2
    · exact ih hr.1 c hc

theorem dropAll_get : ∀ (ks : List Nat) (H : List O) (k : Nat) (o : O), (dropAll ks H)[k]? = some o → (o = .dead) ∨ (k ∉ ks ∧ H[k]? = some o) := by
  intro ks
  induction ks with
  | nil => intro H k o h; exact .inr ⟨by simp, h⟩
  | cons a r ih =>
    intro H k o h
    rcases ih _ k o h with h | ⟨h1, h2⟩
    · exact .inl h
    · rcases set_get H a k .dead o h2 with ⟨_, h⟩ | ⟨hne, h⟩
      · exact .inl h
      · exact .inr ⟨by simp [hne, h1], h⟩
theorem dropAll_length : ∀ (ks : List Nat) (H : List O), (dropAll ks H).length = H.length := by
  intro ks
  induction ks with
  | nil => intro H; rfl
  | cons a r ih => intro H; simp [dropAll, ih]

theorem lend_get {fr : List (Nat × List (List C))} {H : List O} {k : Nat} {o : O} (h : (dropAll (fr.map (·.1)) (H.map (lendO fr)))[k]? = some o) : o = .dead ∨ (k ∉ fr.map (·.1) ∧ ∃ o0, H[k]? = some o0 ∧ o = lendO fr o0) := by
  rcases dropAll_get _ _ _ _ h with h | ⟨h1, h2⟩
  · exact .inl h
  · simp only [List.getElem?_map, Option.map_eq_some_iff] at h2
    obtain ⟨o0, h3, rfl⟩ := h2
    exact .inr ⟨h1, o0, h3, rfl⟩

theorem StOk.lend {g : Gl} {R : Pl} {w0 : World} {e0 : Env} {H0 : List O} {w : World} {a : Act} {e : Env} {s : St} (h : StOk g R w0 e0 H0 w a e s) {fr : List (Nat × List (List C))}
    (hp : pall (condsC (fun k => s.hp[k]?) fr (s.tm.flatMap T.cs ++ s.hp.flatMap O.ones))) :
    StOk g R w0 e0 H0 w a e { s with tm := s.tm.map (lendT fr), hp := Sx.dropAll (fr.map (·.1)) (s.hp.map (lendO fr)) } := by
  have hall := condsC_mem _ hp
  have hfp : ∀ b o, FP e (Sx.dropAll (fr.map (·.1)) (s.hp.map (lendO fr))) b o → FP e s.hp b o := by
    rintro b o ⟨k, obj, i, h1, h2, h3, h4⟩
    rcases lend_get h1 with rfl | ⟨_, o0, h5, rfl⟩
    · exact h4.elim
    · exact ⟨k, o0, i, h5, h2, h3, (Cov_lend _ _ _ _).1 h4⟩
  have hM : ∀ b o, Mut e R (Sx.dropAll (fr.map (·.1)) (s.hp.map (lendO fr))) b o → Mut e R s.hp b o := fun b o hm => hm.imp id (hfp b o)
  have hfr : ∀ k ys, fr.find? (·.1 == k) = some ys → ∀ (obj : O) (i : Nat), s.hp[k]? = some obj → Cov (e.κ k) obj i → ¬ Mut e R (Sx.dropAll (fr.map (·.1)) (s.hp.map (lendO fr))) (e.β k).1 ((e.β k).2 + i) := by
    intro k ys hk obj i h1 h2 hm
    have hkm : k ∈ fr.map (·.1) := by
      have h3 := List.mem_of_find?_eq_some hk
      have h4 := List.find?_some hk
      simp only [beq_iff_eq] at h4
      exact List.mem_map.2 ⟨ys, h3, h4⟩
    rcases hm with hr | ⟨k', obj', i', a1, a2, a3, a4⟩
    · exact (h.sat.rest _ _ hr).1 ⟨k, obj, i, h1, rfl, rfl, h2⟩
    · rcases lend_get a1 with rfl | ⟨hn, o0, h5, rfl⟩
      · exact a4.elim
      · have := h.sat.dis k k' obj o0 i i' h1 h5 h2 ((Cov_lend _ _ _ _).1 a4) a2 a3
        exact hn (this ▸ hkm)
  have hcond : ∀ (k : Nat) (o0 : O) (c : C), s.hp[k]? = some o0 → (c ∈ o0.ones ∨ c.free = true) → lendOk (fun k => s.hp[k]?) fr c := by
    intro k o0 c h1 h2
    rcases h2 with h2 | h2
    · exact hall c (List.mem_append_right _ (List.mem_flatMap.2 ⟨o0, List.mem_of_getElem? h1, h2⟩))
    · cases c <;> first | trivial | cases h2
  have hsat : Sat g w e R (Sx.dropAll (fr.map (·.1)) (s.hp.map (lendO fr))) := by
    refine ⟨?_, ?_, ?_, ?_, ?_, fun b o hm => h.sat.low b o (hM b o hm), h.sat.glob⟩
    · intro k obj hk
      rcases lend_get hk with rfl | ⟨_, o0, h5, rfl⟩
      · trivial
      · exact (Wf_lend _ _ _).2 (h.sat.wf k o0 h5)
    · intro k obj o v hk hv
      rcases lend_get hk with rfl | ⟨_, o0, h5, rfl⟩
      · exact hv.elim
      · obtain ⟨v0, h6, rfl, h7⟩ := Has_lend _ _ o0 o v (h.sat.wf k o0 h5) hv
        obtain ⟨u, h8, h9⟩ := h.sat.has k o0 o v0 h5 h6
        exact ⟨u, h8, lend_rel h.sat h9 (hcond k o0 v0 h5 h7) hM hfr⟩
    · intro k obj o hk hv
      rcases lend_get hk with rfl | ⟨_, o0, h5, rfl⟩
      · exact hv.elim
      · exact h.sat.cov k o0 o h5 ((Cov_lend _ _ _ _).1 hv)
    · intro k k' obj obj' o o' hk hk' hv hv' hb ho
      rcases lend_get hk with rfl | ⟨_, o0, h5, rfl⟩
      · exact hv.elim
      · rcases lend_get hk' with rfl | ⟨_, o0', h5', rfl⟩
        · exact hv'.elim
        · exact h.sat.dis k k' o0 o0' o o' h5 h5' ((Cov_lend _ _ _ _).1 hv) ((Cov_lend _ _ _ _).1 hv') hb ho
    · intro b o hr
      exact ⟨fun hf => (h.sat.rest b o hr).1 (hfp b o hf), (h.sat.rest b o hr).2⟩
  have hl : (Sx.dropAll (fr.map (·.1)) (s.hp.map (lendO fr))).length = s.hp.length := by rw [dropAll_length, List.length_map]
  have hx : Ext w e s.hp w e (Sx.dropAll (fr.map (·.1)) (s.hp.map (lendO fr))) [] :=
    ⟨Nat.le_refl _, fun _ _ _ => rfl, fun _ _ _ _ => ⟨rfl, rfl⟩, fun b o hf => .inl (hfp b o hf), fun _ _ _ => ⟨rfl, rfl⟩, rfl, rfl⟩
  refine ⟨hsat, ?_, ?_, ?_, by simpa using h.len, h.defers, h.ext.trans_drop hx h.hl, by simp only [hl]; exact h.hl⟩
  · intro k obj o v hk hv j hj
    rw [hl]
    rcases lend_get hk with rfl | ⟨_, o0, h5, rfl⟩
    · exact hv.elim
    · obtain ⟨v0, h6, rfl, _⟩ := Has_lend _ _ o0 o v (h.sat.wf k o0 h5) hv
      exact h.closed k o0 o v0 h5 h6 j (lendC_key hj)
  · intro t v ht
    simp only [List.getElem?_map, Option.map_eq_some_iff] at ht
    obtain ⟨v0, ht, rfl⟩ := ht
    refine lend_relT h.sat (h.tms t v0 ht) ?_ hM hfr
    have : ∀ (cs : List C), (∀ c ∈ cs, lendOk (fun k => s.hp[k]?) fr c) → lendAll (fun k => s.hp[k]?) fr cs := by
      intro cs
      induction cs with
      | nil => intro _; trivial
      | cons c r ih => intro hh; exact ⟨hh c List.mem_cons_self, ih fun d hd => hh d (List.mem_cons_of_mem _ hd)⟩
    exact this _ fun c hc => hall c (List.mem_append_left _ (List.mem_flatMap.2 ⟨v0, List.mem_of_getElem? ht, hc⟩))
  · intro t v ht
    simp only [List.getElem?_map, Option.map_eq_some_iff] at ht
    obtain ⟨v0, ht, rfl⟩ := ht
    rw [hl]
    intro c hc k hk
    have hb := h.below t v0 ht
    have key : ∀ (cs : List C), (∀ c ∈ cs, c ∈ v0.cs) → ∀ c ∈ cs.map (lendC fr), ∀ k, c.key = some k → k < s.hp.length := by
      intro cs hcs c hc k hk
      obtain ⟨c0, h0, rfl⟩ := List.mem_map.1 hc
      exact hb c0 (hcs c0 h0) k (lendC_key hk)
    cases v0 with
    | a v =>
      cases v with
      | s c0 => simp only [lendT, lendA, T.cs, List.mem_singleton] at hc; subst hc; exact hb c0 (by simp [T.cs]) k (lendC_key hk)
      | g cs => exact key cs (fun c hc => hc) c hc k hk
    | t vs =>
      simp only [lendT, T.cs, List.mem_flatMap, List.mem_map] at hc
      obtain ⟨v1, ⟨v0, hv0, rfl⟩, hc⟩ := hc
      cases v0 with
      | s c0 => simp only [lendA, List.mem_singleton] at hc; subst hc; exact hb c0 (by simp only [T.cs, List.mem_flatMap]; exact ⟨.s c0, hv0, by simp⟩) k (lendC_key hk)
      | g cs => exact key cs (fun c hc => by simp only [T.cs, List.mem_flatMap]; exact ⟨.g cs, hv0, hc⟩) c hc k hk

theorem StOk.trim {g : Gl} {R : Pl} {w0 : World} {e0 : Env} {H0 : List O} {w : World} {a : Act} {e : Env} {s : St} (h : StOk g R w0 e0 H0 w a e s) (k n : Nat) : StOk g R w0 e0 H0 w a e { s with hp := trimAt k n s.hp } := by
  unfold trimAt
  split
  · rename_i esz xs hk
    have hw := h.sat.wf k _ hk
    have hcut : ∀ (i : Nat) (cs : List C), (cut xs 0 n)[i]? = some cs → xs[i]? = some cs := fun i cs hi => by have := cut_get hi; simpa using this
    have hlen : (cut xs 0 n).length ≤ xs.length := by simp only [cut, List.length_take, List.length_drop]; omega
    obtain ⟨s1, x1⟩ := h.sat.forget (H' := s.hp.set k (.arr esz (cut xs 0 n))) fun k' obj' hk' => by
      rcases set_get s.hp k k' _ obj' hk' with ⟨rfl, rfl⟩ | ⟨_, hk'⟩
      · right
        refine ⟨_, hk, fun o => Iff.rfl, ⟨Nat.le_trans hlen hw.1, cut_wf hw.2 0 n⟩, fun o v hv => .inr ?_⟩
        obtain ⟨i, j, cs, h1, h2, h3⟩ := hv
        exact ⟨i, j, cs, hcut i cs h1, h2, h3⟩
      · exact .inr ⟨obj', hk', fun _ => Iff.rfl, h.sat.wf k' obj' hk', fun o v h => .inr h⟩
    refine h.hpWeak (by simp) s1 x1 ?_
    intro k' obj o v hk' hv j hj
    rw [List.length_set]
    rcases set_get s.hp k k' _ obj hk' with ⟨rfl, rfl⟩ | ⟨_, hk'⟩
    · exact absurd hj (nosrc (cut_wf hw.2 0 n) hv j)
    · exact h.closed k' obj o v hk' hv j hj
  · exact h

theorem Gh.ok {g : Gl} {R : Pl} {w0 : World} {e0 : Env} {H0 : List O} {w : World} {a : Act} {e : Env} {s : St} (gh : Gh) (hp : (gh.go s).2) (h : StOk g R w0 e0 H0 w a e s) : StOk g R w0 e0 H0 w a e (gh.go s).1 := by
  cases gh with
  | keep ts => exact h.tmWeak (keepTm_length _ _) (fun t v ht => keepTm_get _ _ t v ht)
  | forget ts => exact h.tmWeak (forgetTm_length _ _) (fun t v ht => forgetTm_get _ _ t v ht)
  | drop ks => exact StOk.dropAll ks s h
  | lend fr => exact h.lend hp
  | trim k n => exact h.trim k n
  | mv ks => exact { h with ext := h.ext.weaken fun k hk => addMv_mem _ _ k (.inr hk) }
end Sx
