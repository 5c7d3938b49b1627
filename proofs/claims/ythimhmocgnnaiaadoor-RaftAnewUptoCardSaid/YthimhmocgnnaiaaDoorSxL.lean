/- The call, as an operation. -/
import Derived.Test.YthimhmocgnnaiaaDoorSxK
namespace Sx
open Go

def posOf : List Nat → Nat → Option Nat
  | [], _ => none
  | a :: r, k => if a = k then some 0 else (posOf r k).map (· + 1)

theorem posOf_get : ∀ {ρ : List Nat} {k j : Nat}, posOf ρ k = some j → ρ[j]? = some k
  | a :: r, k, j, h => by
    simp only [posOf] at h
    split at h
    · rename_i he; cases h; simp [he]
    · simp only [Option.map_eq_some_iff] at h
      obtain ⟨i, hi, rfl⟩ := h
      simpa using posOf_get hi

theorem posOf_none : ∀ {ρ : List Nat} {k : Nat}, posOf ρ k = none ↔ k ∉ ρ
  | [], k => by simp [posOf]
  | a :: r, k => by
    simp only [posOf]
    split
    · rename_i h; simp [h]
    · rename_i h; simp only [Option.map_eq_none_iff, posOf_none (ρ := r) (k := k), List.mem_cons, not_or]
      exact ⟨fun hh => ⟨fun e => h e.symm, hh⟩, fun hh => hh.2⟩

theorem posOf_of_get : ∀ {ρ : List Nat} {k j : Nat}, ρ.Nodup → ρ[j]? = some k → posOf ρ k = some j
  | [], k, j, _, h => by simp at h
  | a :: r, k, j, hn, h => by
    rw [List.nodup_cons] at hn
    simp only [posOf]
    cases j with
    | zero => simp at h; rw [if_pos h]
    | succ j =>
      have hr : r[j]? = some k := by simpa using h
      rw [if_neg (fun e => hn.1 (by rw [e]; exact List.mem_of_getElem? hr)), posOf_of_get hn.2 hr]; rfl

def fout (ρ : List Nat) (len j : Nat) : Option Nat := if j < ρ.length then ρ[j]? else some (len + (j - ρ.length))

theorem setAll_append (a b : List (Nat × O)) : ∀ H, setAll (a ++ b) H = setAll b (setAll a H) := by
  induction a with
  | nil => intro H; rfl
  | cons x r ih => intro H; obtain ⟨k, o⟩ := x; exact ih _

theorem setAll_length (l : List (Nat × O)) : ∀ H, (setAll l H).length = H.length := by
  induction l with
  | nil => intro H; rfl
  | cons x r ih => intro H; obtain ⟨k, o⟩ := x; rw [setAll, ih]; simp

theorem setAll_other (l : List (Nat × O)) : ∀ (H : List O) (k : Nat), k ∉ l.map (·.1) → (setAll l H)[k]? = H[k]? := by
  induction l with
  | nil => intro H k _; rfl
  | cons x r ih =>
    intro H k h
    obtain ⟨k', o⟩ := x
    simp only [List.map_cons, List.mem_cons, not_or] at h
    rw [setAll, ih _ k h.2, List.getElem?_set_ne (Ne.symm h.1)]

theorem setAll_zip : ∀ (ρ : List Nat) (os : List O) (H : List O) (j k : Nat) (o : O), ρ.Nodup → ρ[j]? = some k → os[j]? = some o → k < H.length → (setAll (ρ.zip os) H)[k]? = some o
  | [], _, _, j, k, o, _, h, _, _ => by simp at h
  | a :: r, [], _, j, k, o, _, _, h, _ => by simp at h
  | a :: r, p :: q, H, j, k, o, hn, h1, h2, hk => by
    rw [List.nodup_cons] at hn
    rw [List.zip_cons_cons, setAll]
    cases j with
    | zero =>
      simp at h1 h2
      subst h1; subst h2
      rw [setAll_other]
      · rw [List.getElem?_set]; simp [hk]
      · intro hm
        simp only [List.mem_map] at hm
        obtain ⟨⟨x, y⟩, hxy, rfl⟩ := hm
        exact hn.1 (List.of_mem_zip hxy).1
    | succ j => exact setAll_zip r q _ j k o hn.2 (by simpa using h1) (by simpa using h2) (by simpa using hk)

theorem setAll_dead : ∀ (fk : List Nat) (H : List O) (k : Nat) (o : O), k ∈ fk → (setAll (fk.map fun k => (k, O.dead)) H)[k]? = some o → o = .dead
  | a :: r, H, k, o, h, h' => by
    by_cases hr : k ∈ r
    · exact setAll_dead r _ k o hr h'
    · rcases List.mem_cons.1 h with rfl | h
      · rw [List.map_cons, setAll, setAll_other _ _ _ (by simpa using hr)] at h'
        rw [List.getElem?_set] at h'
        simp at h'; exact h'.2.symm
      · exact absurd h hr

structure Claim where
  ρ : List Nat
  mv : List Nat := []
  fr : List (Nat × List (List C)) := []
  res : T
  H' : List O

def subOf (ρ : List Nat) (H : Nat → Option O) : List Nat → Option (List O)
  | [] => some []
  | k :: r => match H k, subOf ρ H r with
    | some o, some q => some (renO (posOf ρ) o :: q)
    | _, _ => none

theorem subOf_get {ρ : List Nat} {H : Nat → Option O} : ∀ {l : List Nat} {q : List O}, subOf ρ H l = some q → q.length = l.length ∧ ∀ (j k : Nat), l[j]? = some k → ∃ o, H k = some o ∧ q[j]? = some (renO (posOf ρ) o)
  | [], q, h => by cases h; exact ⟨rfl, fun j k h => by simp at h⟩
  | a :: r, q, h => by
    simp only [subOf] at h
    split at h
    · rename_i o q' ho hq
      cases h
      obtain ⟨h1, h2⟩ := subOf_get hq
      refine ⟨by simp [h1], fun j k hj => ?_⟩
      cases j with
      | zero => simp at hj; subst hj; exact ⟨o, ho, rfl⟩
      | succ j => simpa using h2 j k (by simpa using hj)
    · cases h

def argsOk (H : Nat → Option O) (fr : List (Nat × List (List C))) (ρo : Operand → T) : List Operand → Prop
  | [] => True
  | x :: r => lendAll H fr (ρo x).cs ∧ argsOk H fr ρo r

theorem argsOk_mem {H : Nat → Option O} {fr : List (Nat × List (List C))} {ρo : Operand → T} : ∀ {l : List Operand}, argsOk H fr ρo l → ∀ x ∈ l, lendAll H fr (ρo x).cs
  | a :: r, h, x, hx => by
    rcases List.mem_cons.1 hx with rfl | hx
    · exact h.1
    · exact argsOk_mem h.2 x hx

def Claim.del (cl : Claim) (len : Nat) : Del where
  val := renT (fout cl.ρ len) cl.res
  sets := cl.ρ.zip ((cl.H'.take cl.ρ.length).map (renO (fout cl.ρ len))) ++ (cl.fr.map (·.1)).map fun k => (k, O.dead)
  new := (cl.H'.drop cl.ρ.length).map (renO (fout cl.ρ len))
  kill := cl.mv.filterMap (fun j => cl.ρ[j]?) ++ cl.fr.map (·.1)

def nodupB : List Nat → Bool
  | [] => true
  | a :: r => !r.contains a && nodupB r

theorem nodupB_ok : ∀ {l : List Nat}, nodupB l = true → l.Nodup
  | [], _ => List.nodup_nil
  | a :: r, h => by
    simp only [nodupB, Bool.and_eq_true, Bool.not_eq_true'] at h
    refine List.nodup_cons.2 ⟨fun hm => ?_, nodupB_ok h.2⟩
    have h1 := h.1
    rw [List.contains_iff_mem.2 hm] at h1; cases h1

def coCall (P : Program) (g : Gl) (o : Oper) (ρo : Operand → T) (H : Nat → Option O) (len : Nat) (cl : Claim) : Option (Del × Prop) :=
  match o.op with
  | .call c => match c.callee with
    | .value (.func f) =>
      if callable P f && nodupB cl.ρ && cl.ρ.all (fun k => !(cl.fr.map (·.1)).contains k) && decide (cl.ρ.length ≤ cl.H'.length) then
        match subOf cl.ρ H cl.ρ with
        | some Hs => some (cl.del len, argsOk H cl.fr ρo c.args.toList ∧ FT P g f (c.args.toList.map fun x => renT (posOf cl.ρ) (lendT cl.fr (ρo x))) Hs cl.mv cl.res cl.H')
        | none => none
      else none
    | _ => none
  | _ => none

theorem killN_length (ks : List Nat) (H : List O) : (killN ks H).length = H.length := by
  cases ks with
  | nil => rfl
  | cons a r => exact killH_length _ _

theorem killH_nil_get (ks : List Nat) (H : List O) (k : Nat) (obj : O) (h : (killN ks H)[k]? = some obj) : ∃ o, H[k]? = some o ∧ (obj = o ∧ ks = [] ∨ obj = killO ks o) := by
  cases ks with
  | nil => exact ⟨obj, h, .inl ⟨rfl, rfl⟩⟩
  | cons a r =>
    have h : (killH (a :: r) H)[k]? = some obj := h
    rw [killH_get, Option.map_eq_some_iff] at h
    obtain ⟨o, h1, h2⟩ := h
    exact ⟨o, h1, .inr h2.symm⟩

theorem coCall_ok {P : Program} {g : Gl} {o : Oper} {τ : Operand → T} {ρ : Operand → Value} {w : World} {e : Env} {R : Pl} {H : List O} {d : Del} {p : Prop} {cl : Claim} (s : Sat g w e R H) (hcl : Closed H)
    (hρ : ∀ x, RelT w e (Mut e R H) (τ x) (ρ x)) (hfn : ∀ f, ρ (.func f) = .func (.func f) #[] #[]) (h : coCall P g o τ (fun k => H[k]?) H.length cl = some (d, p)) (hp : p) : Does P g o ρ w e R H d := by
  unfold coCall at h
  split at h
  · rename_i c hx
    split at h
    · rename_i f hcallee
      split at h
      · rename_i hcond
        simp only [Bool.and_eq_true, decide_eq_true_eq, List.all_eq_true, Bool.not_eq_true'] at hcond
        obtain ⟨⟨⟨hcall, hnd⟩, hdisj⟩, hlen'⟩ := hcond
        have hnod := nodupB_ok hnd
        split at h
        · rename_i Hs hsub
          simp only [Option.some.injEq, Prod.mk.injEq] at h
          obtain ⟨rfl, rfl⟩ := h
          obtain ⟨hargs, hft⟩ := hp
          obtain ⟨hsl, hsg⟩ := subOf_get hsub
          obtain ⟨cρ, cmv, cfr, cres, cH⟩ := cl
          simp only at hnod hdisj hlen' hsub hargs hft hsl hsg
          -- the names
          have hrho : ∀ j k, cρ[j]? = some k → k < H.length := fun j k hj => by
            obtain ⟨o', h1, _⟩ := hsg j k hj
            exact (List.getElem?_eq_some_iff.1 h1).1
          have hfrk : ∀ k, k ∈ cρ → k ∉ cfr.map (·.1) := fun k hk hm => by
            have := hdisj k hk
            rw [List.contains_iff_mem.2 hm] at this; cases this
          let ec : Env := { β := fun j => e.β (cρ.getD j 0), κ := fun j => e.κ (cρ.getD j 0) }
          have hec : ∀ j k, cρ[j]? = some k → ec.β j = e.β k ∧ ec.κ j = e.κ k := fun j k hj => by simp [ec, hj]
          let oth : Nat → O → Prop := fun k obj => k ∉ cρ ∧ k ∉ cfr.map (·.1) ∧ H[k]? = some obj
          let Rc : Pl := fun b q => R b q ∨ ∃ k obj i, oth k obj ∧ b = (e.β k).1 ∧ q = (e.β k).2 + i ∧ Cov (e.κ k) obj i
          have hfpc : ∀ b q, FP ec Hs b q → ∃ (j k : Nat) (obj : O) (i : Nat), cρ[j]? = some k ∧ H[k]? = some obj ∧ b = (e.β k).1 ∧ q = (e.β k).2 + i ∧ Cov (e.κ k) obj i := by
            rintro b q ⟨j, obj, i, h1, h2, h3, h4⟩
            have hjl : j < cρ.length := by rw [← hsl]; exact (List.getElem?_eq_some_iff.1 h1).1
            obtain ⟨o', h5, h6⟩ := hsg j cρ[j] (List.getElem?_eq_getElem hjl)
            rw [h1] at h6; cases h6
            obtain ⟨e1, e2⟩ := hec j _ (List.getElem?_eq_getElem hjl)
            rw [e1] at h2 h3
            rw [e2, Cov_ren] at h4
            exact ⟨j, _, o', i, List.getElem?_eq_getElem hjl, h5, h2, h3, h4⟩
          have hfpc' : ∀ b q, FP ec Hs b q → FP e H b q := fun b q h => by
            obtain ⟨j, k, obj, i, _, h1, h2, h3, h4⟩ := hfpc b q h
            exact ⟨k, obj, i, h1, h2, h3, h4⟩
          have hRcM : ∀ b q, Rc b q → Mut e R H b q := by
            rintro b q (h | ⟨k, obj, i, ⟨_, _, h1⟩, h2, h3, h4⟩)
            · exact .inl h
            · exact .inr ⟨k, obj, i, h1, h2, h3, h4⟩
          have hMc : ∀ b q, Mut ec Rc Hs b q → Mut e R H b q := fun b q h => by
            rcases h with h | h
            · exact hRcM b q h
            · exact .inr (hfpc' b q h)
          have hpos : ∀ k j, posOf cρ k = some j → ec.β j = e.β k ∧ ec.κ j = e.κ k := fun k j h => hec j k (posOf_get h)
          have hltw : ∀ b q, FP e H b q → b < w.heap.size := by
            rintro b q ⟨k, obj, i, h1, rfl, rfl, h4⟩
            obtain ⟨⟨u, hu⟩, _⟩ := s.cov k obj i h1 h4
            exact lt_of_cell hu
          have sc : Sat g w ec Rc Hs := by
            refine ⟨?_, ?_, ?_, ?_, ?_, fun b q h => s.low b q (hMc b q h), s.glob⟩
            · intro j obj hj
              have hjl : j < cρ.length := by rw [← hsl]; exact (List.getElem?_eq_some_iff.1 hj).1
              obtain ⟨o', h5, h6⟩ := hsg j cρ[j] (List.getElem?_eq_getElem hjl)
              rw [hj] at h6; cases h6
              rw [(hec j _ (List.getElem?_eq_getElem hjl)).2, Wf_ren]
              exact s.wf _ _ h5
            · intro j obj q v hj hv
              have hjl : j < cρ.length := by rw [← hsl]; exact (List.getElem?_eq_some_iff.1 hj).1
              obtain ⟨o', h5, h6⟩ := hsg j cρ[j] (List.getElem?_eq_getElem hjl)
              rw [hj] at h6; cases h6
              obtain ⟨v0, h7, rfl⟩ := Has_ren _ _ o' q v (s.wf _ _ h5) hv
              obtain ⟨u, h8, h9⟩ := s.has _ o' q v0 h5 h7
              rw [(hec j _ (List.getElem?_eq_getElem hjl)).1]
              exact ⟨u, h8, Rel.ren (h9.step (fun _ _ => ⟨rfl, rfl⟩) (fun b o v hc hn => ⟨hc, fun hm => hn (hMc b o hm)⟩)) (fun k j _ h => hpos k j h)⟩
            · intro j obj q hj hv
              have hjl : j < cρ.length := by rw [← hsl]; exact (List.getElem?_eq_some_iff.1 hj).1
              obtain ⟨o', h5, h6⟩ := hsg j cρ[j] (List.getElem?_eq_getElem hjl)
              rw [hj] at h6; cases h6
              rw [(hec j _ (List.getElem?_eq_getElem hjl)).2, Cov_ren] at hv
              rw [(hec j _ (List.getElem?_eq_getElem hjl)).1]
              exact s.cov _ o' q h5 hv
            · intro j j' obj obj' q q' hj hj' hv hv' hb ho
              have hjl : j < cρ.length := by rw [← hsl]; exact (List.getElem?_eq_some_iff.1 hj).1
              have hjl' : j' < cρ.length := by rw [← hsl]; exact (List.getElem?_eq_some_iff.1 hj').1
              obtain ⟨o1, h5, h6⟩ := hsg j cρ[j] (List.getElem?_eq_getElem hjl)
              obtain ⟨o2, h5', h6'⟩ := hsg j' cρ[j'] (List.getElem?_eq_getElem hjl')
              rw [hj] at h6; cases h6
              rw [hj'] at h6'; cases h6'
              rw [(hec j _ (List.getElem?_eq_getElem hjl)).2, Cov_ren] at hv
              rw [(hec j' _ (List.getElem?_eq_getElem hjl')).2, Cov_ren] at hv'
              rw [(hec j _ (List.getElem?_eq_getElem hjl)).1, (hec j' _ (List.getElem?_eq_getElem hjl')).1] at hb ho
              have := s.dis _ _ o1 o2 q q' h5 h5' hv hv' hb ho
              have p1 := posOf_of_get hnod (List.getElem?_eq_getElem hjl)
              have p2 := posOf_of_get hnod (List.getElem?_eq_getElem hjl')
              rw [this, p2] at p1
              exact (Option.some.inj p1).symm
            · intro b q hr
              refine ⟨fun hf => ?_, ?_⟩
              · obtain ⟨j, k, obj, i, h1, h2, h3, h4, h5⟩ := hfpc b q hf
                rcases hr with hr | ⟨k', obj', i', ⟨a1, _, a3⟩, h2', h3', h4'⟩
                · exact (s.rest b q hr).1 (hfpc' b q hf)
                · have := s.dis k k' obj obj' i i' h2 a3 h5 h4' (h3.symm.trans h2') (h4.symm.trans h3')
                  exact a1 (this ▸ List.mem_of_getElem? h1)
              · rcases hr with hr | ⟨k', obj', i', ⟨_, _, a3⟩, rfl, rfl, h4'⟩
                · exact (s.rest b q hr).2
                · exact hltw _ _ ⟨k', obj', i', a3, rfl, rfl, h4'⟩
          -- the arguments
          have hRc0 : ∀ k ys, cfr.find? (·.1 == k) = some ys → ∀ (obj : O) (i : Nat), H[k]? = some obj → Cov (e.κ k) obj i → ¬ Mut ec Rc Hs (e.β k).1 ((e.β k).2 + i) := by
            intro k ys hk obj i h1 h2 hm
            have hkm : k ∈ cfr.map (·.1) := by
              have h3 := List.mem_of_find?_eq_some hk
              have h4 := List.find?_some hk
              simp only [beq_iff_eq] at h4
              exact List.mem_map.2 ⟨ys, h3, h4⟩
            rcases hm with (hr | ⟨k', obj', i', ⟨a1, a2, a3⟩, h2', h3', h4'⟩) | hf
            · exact (s.rest _ _ hr).1 ⟨k, obj, i, h1, rfl, rfl, h2⟩
            · have := s.dis k k' obj obj' i i' h1 a3 h2 h4' h2' h3'
              exact a2 (this ▸ hkm)
            · obtain ⟨j, k', obj', i', b1, b2, b3, b4, b5⟩ := hfpc _ _ hf
              have := s.dis k k' obj obj' i i' h1 b2 h2 b5 b3 b4
              exact hfrk k' (List.mem_of_getElem? b1) (this ▸ hkm)
          have hvs : RelTs w ec (Mut ec Rc Hs) (c.args.toList.map fun x => renT (posOf cρ) (lendT cfr (τ x))) (c.args.toList.map ρ) := by
            refine ⟨by simp, fun j t hj => ?_⟩
            simp only [List.getElem?_map, Option.map_eq_some_iff] at hj
            obtain ⟨x, hj, rfl⟩ := hj
            refine ⟨ρ x, by simp [hj], RelT.ren (lend_relT s (hρ x) (argsOk_mem hargs x (List.mem_of_getElem? hj)) hMc hRc0) hpos⟩
          have hC := hft w ec Rc _ sc hvs
          have hmapargs : Array.map ρ c.args = (c.args.toList.map ρ).toArray := by apply Array.ext'; simp
          have hrun : (execOp ρ o).run P w = .ok (.enter f (c.args.toList.map ρ).toArray) w := by
            simp [execOp, hx, resolve, hcallee, hfn, Deferred.ofValue, invoke, run_callFunc hcall, hmapargs]
          refine OpOk.call hrun (hC.mono ?_)
          rintro en w' ⟨u, rfl, ec', s', x', hres⟩
          refine ⟨u, rfl, ?_⟩
          -- the new names
          let e' : Env :=
            { β := fun k => match posOf cρ k with | some j => ec'.β j | none => if k < H.length then e.β k else ec'.β (cρ.length + (k - H.length))
              κ := fun k => match posOf cρ k with | some j => ec'.κ j | none => if k < H.length then e.κ k else ec'.κ (cρ.length + (k - H.length)) }
          have he1 : ∀ k j, posOf cρ k = some j → e'.β k = ec'.β j ∧ e'.κ k = ec'.κ j := fun k j h => by simp [e', h]
          have he2 : ∀ k, k ∉ cρ → k < H.length → e'.β k = e.β k ∧ e'.κ k = e.κ k := fun k h h' => by simp [e', posOf_none.2 h, h']
          have he3 : ∀ i, e'.β (H.length + i) = ec'.β (cρ.length + i) ∧ e'.κ (H.length + i) = ec'.κ (cρ.length + i) := fun i => by
            have hn : H.length + i ∉ cρ := fun hm => by
              obtain ⟨j, hj, hjk⟩ := List.mem_iff_getElem.1 hm
              have := hrho j _ (by rw [List.getElem?_eq_getElem hj, hjk]); omega
            have hlt : ¬ H.length + i < H.length := by omega
            simp [e', posOf_none.2 hn, hlt]
          have hfo : ∀ j k, fout cρ H.length j = some k → e'.β k = ec'.β j ∧ e'.κ k = ec'.κ j := by
            intro j k h
            unfold fout at h
            split at h
            · exact he1 k j (posOf_of_get hnod h)
            · rename_i hj
              cases h
              have := he3 (j - cρ.length)
              rwa [show cρ.length + (j - cρ.length) = j by omega] at this
          -- the new heap, place by place
          let D : Del := Claim.del { ρ := cρ, mv := cmv, fr := cfr, res := cres, H' := cH } H.length
          let kl := cmv.filterMap (fun j => cρ[j]?) ++ cfr.map (·.1)
          have hD : D.hp H = setAll ((cfr.map (·.1)).map fun k => (k, O.dead)) (setAll (cρ.zip ((cH.take cρ.length).map (renO (fout cρ H.length)))) (killN kl H)) ++ (cH.drop cρ.length).map (renO (fout cρ H.length)) := by
            show setAll (_ ++ _) _ ++ _ = _
            rw [setAll_append]; rfl
          have hkl : (killN kl H).length = H.length := killN_length kl H
          have hbase : (setAll ((cfr.map (·.1)).map fun k => (k, O.dead)) (setAll (cρ.zip ((cH.take cρ.length).map (renO (fout cρ H.length)))) (killN kl H))).length = H.length := by
            rw [setAll_length, setAll_length, hkl]
          have hget : ∀ (k : Nat) (obj : O), (D.hp H)[k]? = some obj →
              (∃ (j : Nat) (q : O), fout cρ H.length j = some k ∧ cH[j]? = some q ∧ obj = renO (fout cρ H.length) q) ∨ obj = .dead ∨
              ∃ (q : O), oth k q ∧ (obj = q ∧ kl = [] ∨ obj = killO kl q) := by
            intro k obj hk
            rw [hD] at hk
            rcases Nat.lt_or_ge k H.length with hlt | hge
            · rw [List.getElem?_append_left (by rw [hbase]; exact hlt)] at hk
              by_cases hfk : k ∈ cfr.map (·.1)
              · exact .inr (.inl (setAll_dead _ _ k obj hfk hk))
              · rw [setAll_other _ _ _ (by rw [List.map_map]; simpa using hfk)] at hk
                cases hpk : posOf cρ k with
                | some j =>
                  have hj := posOf_get hpk
                  have hjl := (List.getElem?_eq_some_iff.1 hj).1
                  have hjc : j < cH.length := by omega
                  rw [setAll_zip cρ _ _ j k (renO (fout cρ H.length) cH[j]) hnod hj (by rw [List.getElem?_map, List.getElem?_take, if_pos hjl, List.getElem?_eq_getElem hjc]; rfl) (by rw [hkl]; exact hlt)] at hk
                  cases hk
                  exact .inl ⟨j, cH[j], by unfold fout; rw [if_pos hjl]; exact hj, List.getElem?_eq_getElem hjc, rfl⟩
                | none =>
                  have hnm := posOf_none.1 hpk
                  rw [setAll_other _ _ _ (by
                    intro hm
                    simp only [List.mem_map] at hm
                    obtain ⟨⟨a, b⟩, hab, rfl⟩ := hm
                    exact hnm (List.of_mem_zip hab).1)] at hk
                  obtain ⟨q, h1, h2⟩ := killH_nil_get kl H k obj hk
                  exact .inr (.inr ⟨q, ⟨hnm, hfk, h1⟩, h2⟩)
            · rw [List.getElem?_append_right (by rw [hbase]; exact hge), hbase, List.getElem?_map, List.getElem?_drop, Option.map_eq_some_iff] at hk
              obtain ⟨q, h1, h2⟩ := hk
              exact .inl ⟨cρ.length + (k - H.length), q, by unfold fout; rw [if_neg (by omega)]; congr 1; omega, h1, h2.symm⟩
          have hothcov : ∀ (k : Nat) (q obj : O), oth k q → (obj = q ∧ kl = [] ∨ obj = killO kl q) → (∀ i, Cov (e'.κ k) obj i ↔ Cov (e.κ k) q i) ∧ e'.β k = e.β k ∧ e'.κ k = e.κ k := by
            intro k q obj hq ho
            obtain ⟨a1, a2, a3⟩ := hq
            obtain ⟨b1, b2⟩ := he2 k a1 (List.getElem?_eq_some_iff.1 a3).1
            refine ⟨fun i => ?_, b1, b2⟩
            rw [b2]
            rcases ho with ⟨rfl, _⟩ | rfl
            · exact Iff.rfl
            · exact Cov_kill _ _ _ _
          have hfp'' : ∀ b q, FP e' (D.hp H) b q → FP ec' cH b q ∨ ∃ k obj i, oth k obj ∧ b = (e.β k).1 ∧ q = (e.β k).2 + i ∧ Cov (e.κ k) obj i := by
            rintro b q ⟨k, obj, i, h1, h2, h3, h4⟩
            rcases hget k obj h1 with ⟨j, q', hj, hq, rfl⟩ | rfl | ⟨q', hq, ho⟩
            · obtain ⟨b1, b2⟩ := hfo j k hj
              rw [b1] at h2 h3
              rw [b2, Cov_ren] at h4
              exact .inl ⟨j, q', i, hq, h2, h3, h4⟩
            · exact h4.elim
            · obtain ⟨c1, c2, c3⟩ := hothcov k q' obj hq ho
              rw [c2] at h2 h3
              exact .inr ⟨k, q', i, hq, h2, h3, (c1 i).1 h4⟩
          have hM'' : ∀ b q, Mut e' R (D.hp H) b q → Mut ec' Rc cH b q := by
            rintro b q (h | h)
            · exact .inl (.inl h)
            · rcases hfp'' b q h with h | h
              · exact .inr h
              · exact .inl (.inr h)
          have hfoot : ∀ b q, FP e' (D.hp H) b q → FP e H b q ∨ w.heap.size ≤ b := by
            intro b q h
            rcases hfp'' b q h with h | ⟨k, obj, i, ⟨_, _, h1⟩, h2, h3, h4⟩
            · exact (x'.foot b q h).imp (hfpc' b q) id
            · exact .inl ⟨k, obj, i, h1, h2, h3, h4⟩
          have hmem : ∀ b q v, w.cell? ⟨b, q, none⟩ = some v → ¬ Mut e R H b q → w'.cell? ⟨b, q, none⟩ = some v ∧ ¬ Mut e' R (D.hp H) b q := by
            intro b q v hc hn
            refine ⟨by rw [(x'.cell b q (lt_of_cell hc) (fun h => hn (.inr (hfpc' b q h)))).1]; exact hc, ?_⟩
            rintro (h | h)
            · exact hn (.inl h)
            · rcases hfoot b q h with h | h
              · exact hn (.inr h)
              · have := lt_of_cell hc; omega
          have hpins : ∀ k, k < H.length → k ∉ kl → e'.β k = e.β k ∧ e'.κ k = e.κ k := by
            intro k hk hn
            cases hpk : posOf cρ k with
            | none => exact he2 k (posOf_none.1 hpk) hk
            | some j =>
              have hj := posOf_get hpk
              have hjl := (List.getElem?_eq_some_iff.1 hj).1
              obtain ⟨b1, b2⟩ := he1 k j hpk
              obtain ⟨c1, c2⟩ := x'.pins j (by rw [hsl]; exact hjl) (fun hm => hn (List.mem_append_left _ (List.mem_filterMap.2 ⟨j, hm, hj⟩)))
              obtain ⟨d1, d2⟩ := hec j k hj
              exact ⟨b1.trans (c1.trans d1), b2.trans (c2.trans d2)⟩
          have hothhas : ∀ (k : Nat) (q obj : O) (i : Nat) (v : C), oth k q → (obj = q ∧ kl = [] ∨ obj = killO kl q) → Has obj i v → v = .x ∨ (Has q i v ∧ ∀ k', v.key = some k' → k' ∉ kl) := by
            intro k q obj i v hq ho hh
            rcases ho with ⟨rfl, hnil⟩ | rfl
            · exact .inr ⟨hh, fun k' _ => by rw [hnil]; simp⟩
            · exact Has_kill _ kl q i v (s.wf k q hq.2.2) hh
          have hothcell : ∀ (k : Nat) (q : O) (i : Nat), oth k q → Cov (e.κ k) q i → w'.cell? ⟨(e.β k).1, (e.β k).2 + i, none⟩ = w.cell? ⟨(e.β k).1, (e.β k).2 + i, none⟩ ∧ w'.frozen? ⟨(e.β k).1, (e.β k).2 + i, none⟩ = w.frozen? ⟨(e.β k).1, (e.β k).2 + i, none⟩ := by
            intro k q i hq hc
            refine x'.cell _ _ (hltw _ _ ⟨k, q, i, hq.2.2, rfl, rfl, hc⟩) (fun hf => ?_)
            obtain ⟨j, k', obj', i', h1, h2, h3, h4, h5⟩ := hfpc _ _ hf
            have := s.dis k k' q obj' i i' hq.2.2 h2 hc h5 h3 h4
            exact hq.1 (this ▸ List.mem_of_getElem? h1)
          refine ⟨e', ⟨?_, ?_, ?_, ?_, ?_, fun b q h => s'.low b q (hM'' b q h), s'.glob⟩, ⟨x'.size, ?_, ?_, hfoot, hpins, x'.os⟩, ?_⟩
          · intro k obj hk
            rcases hget k obj hk with ⟨j, q', hj, hq, rfl⟩ | rfl | ⟨q', hq, ho⟩
            · rw [(hfo j k hj).2, Wf_ren]; exact s'.wf j q' hq
            · trivial
            · rw [(hothcov k q' obj hq ho).2.2]
              rcases ho with ⟨rfl, _⟩ | rfl
              · exact s.wf k _ hq.2.2
              · exact Wf_kill _ _ _ (s.wf k _ hq.2.2)
          · intro k obj i v hk hv
            rcases hget k obj hk with ⟨j, q', hj, hq, rfl⟩ | rfl | ⟨q', hq, ho⟩
            · obtain ⟨v0, h1, rfl⟩ := Has_ren _ _ q' i v (s'.wf j q' hq) hv
              obtain ⟨u', h2, h3⟩ := s'.has j q' i v0 hq h1
              rw [(hfo j k hj).1]
              exact ⟨u', h2, Rel.ren (h3.step (fun _ _ => ⟨rfl, rfl⟩) (fun b o v hc hn => ⟨hc, fun hm => hn (hM'' b o hm)⟩)) (fun k0 k1 _ h => hfo k0 k1 h)⟩
            · exact hv.elim
            · obtain ⟨c1, c2, c3⟩ := hothcov k q' obj hq ho
              rw [c2]
              rcases hothhas k q' obj i v hq ho hv with rfl | ⟨h1, h2⟩
              · have hcv : Cov (e'.κ k) obj i := by
                  rw [c3]
                  rcases ho with ⟨rfl, _⟩ | rfl
                  · exact Cov_of_has (s.wf k _ hq.2.2) hv
                  · exact Cov_of_has (Wf_kill _ _ _ (s.wf k _ hq.2.2)) hv
                obtain ⟨⟨u', hu⟩, _⟩ := s.cov k q' i hq.2.2 ((c1 i).1 hcv)
                exact ⟨u', by rw [(hothcell k q' i hq ((c1 i).1 hcv)).1]; exact hu, .x _⟩
              · obtain ⟨u', h3, h4⟩ := s.has k q' i v hq.2.2 h1
                refine ⟨u', by rw [(hothcell k q' i hq (Cov_of_has (s.wf k _ hq.2.2) h1)).1]; exact h3, h4.step (fun k' hk' => hpins k' (hcl k q' i v hq.2.2 h1 k' hk') (h2 k' hk')) hmem⟩
          · intro k obj i hk hv
            rcases hget k obj hk with ⟨j, q', hj, hq, rfl⟩ | rfl | ⟨q', hq, ho⟩
            · rw [(hfo j k hj).2, Cov_ren] at hv
              rw [(hfo j k hj).1]
              exact s'.cov j q' i hq hv
            · exact hv.elim
            · obtain ⟨c1, c2, c3⟩ := hothcov k q' obj hq ho
              have hv' := (c1 i).1 hv
              obtain ⟨d1, d2⟩ := hothcell k q' i hq hv'
              rw [c2, d1, d2]
              exact s.cov k q' i hq.2.2 hv'
          · -- apart
            have key : ∀ (k k' : Nat) (obj obj' : O) (i i' : Nat), (D.hp H)[k]? = some obj → (D.hp H)[k']? = some obj' → Cov (e'.κ k) obj i → Cov (e'.κ k') obj' i' → (e'.β k).1 = (e'.β k').1 → (e'.β k).2 + i = (e'.β k').2 + i' → k = k' := by
              intro k k' obj obj' i i' hk hk' hv hv' hb ho
              rcases hget k obj hk with ⟨j, q, hj, hq, rfl⟩ | rfl | ⟨q, hq, hoq⟩
              · rcases hget k' obj' hk' with ⟨j', q', hj', hq', rfl⟩ | rfl | ⟨q', hq', hoq'⟩
                · rw [(hfo j k hj).2, Cov_ren] at hv
                  rw [(hfo j' k' hj').2, Cov_ren] at hv'
                  rw [(hfo j k hj).1, (hfo j' k' hj').1] at hb ho
                  have := s'.dis j j' q q' i i' hq hq' hv hv' hb ho
                  subst this
                  rw [hj] at hj'; exact Option.some.inj hj'
                · exact hv'.elim
                · exfalso
                  obtain ⟨c1, c2, c3⟩ := hothcov k' q' obj' hq' hoq'
                  rw [(hfo j k hj).2, Cov_ren] at hv
                  rw [(hfo j k hj).1, c2] at hb ho
                  exact (s'.rest _ _ (.inr ⟨k', q', i', hq', hb, ho, (c1 i').1 hv'⟩)).1 ⟨j, q, i, hq, rfl, rfl, hv⟩
              · exact hv.elim
              · obtain ⟨c1, c2, c3⟩ := hothcov k q obj hq hoq
                rcases hget k' obj' hk' with ⟨j', q', hj', hq', rfl⟩ | rfl | ⟨q', hq', hoq'⟩
                · exfalso
                  rw [(hfo j' k' hj').2, Cov_ren] at hv'
                  rw [(hfo j' k' hj').1, c2] at hb ho
                  exact (s'.rest _ _ (.inr ⟨k, q, i, hq, hb.symm, ho.symm, (c1 i).1 hv⟩)).1 ⟨j', q', i', hq', rfl, rfl, hv'⟩
                · exact hv'.elim
                · obtain ⟨c1', c2', c3'⟩ := hothcov k' q' obj' hq' hoq'
                  rw [c2, c2'] at hb ho
                  exact s.dis k k' q q' i i' hq.2.2 hq'.2.2 ((c1 i).1 hv) ((c1' i').1 hv') hb ho
            exact key
          · intro b q hr
            refine ⟨fun hf => ?_, Nat.lt_of_lt_of_le (s.rest b q hr).2 x'.size⟩
            rcases hfp'' b q hf with h | ⟨k, obj, i, ⟨_, _, h1⟩, h2, h3, h4⟩
            · exact (s'.rest b q (.inl hr)).1 h
            · exact (s.rest b q hr).1 ⟨k, obj, i, h1, h2, h3, h4⟩
          · exact fun b hb hn => x'.block b hb (fun q h => hn q (hfpc' b q h))
          · exact fun b q hb hn => x'.cell b q hb (fun h => hn (hfpc' b q h))
          · exact RelT.ren (hres.mem (fun b o v hc hn => ⟨hc, fun hm => hn (hM'' b o hm)⟩)) (fun k0 k1 h => hfo k0 k1 h)
        · cases h
      · cases h
    · cases h
  · cases h
end Sx
