/- Regions whose order is open, second part: two steps change places; any order. -/
import Derived.Test.YthimhmocgnnaiaaDoorSxP
namespace Sx
open Go

structure Rec where
  d : Del
  p : Prop
  τ : Operand → T
  len : Nat

def looks (ops : Array Oper) (o : Oper) : List Operand :=
  o.op.operands.toList ++ (match guardTmp ops o with | some t => [.tmp t] | none => [])

def clsOf (hs : List (Nat × Hn)) (i : Nat) (o : Oper) : Nat := if (lookH hs i).run then cls o.op (lookH hs i).it else 0

/-- A call that makes no object and hands none on for good: where its objects lie doesn't hang on how many there are. -/
def tightCl (cl : Claim) : Bool := cl.fr.isEmpty && cl.H'.length == cl.ρ.length && cl.res.cs.all (C.lt cl.ρ.length) && cl.H'.all (O.lt cl.ρ.length)
def tight (it : Itm) : Bool := match it with | .call cl => tightCl cl | _ => false

structure At (P : Program) (g : Gl) (ops : Array Oper) (hs : List (Nat × Hn)) (i : Nat) (o : Oper) (r : Rec) (s : St) : Prop where
  op : ops[i]? = some o
  step : stepAt P g ops hs i s = some (r.d, r.p)
  eva : ∀ x ∈ looks ops o, eva s.tm x = r.τ x
  len : clsOf hs i o = 2 → (tight (lookH hs i).it = true → r.len ≤ s.hp.length) ∧ (tight (lookH hs i).it = false → s.hp.length = r.len)

theorem At.le {P : Program} {g : Gl} {ops : Array Oper} {hs : List (Nat × Hn)} {i : Nat} {o : Oper} {r : Rec} {s : St} (h : At P g ops hs i o r s) (hc : clsOf hs i o = 2) : r.len ≤ s.hp.length := by
  obtain ⟨h1, h2⟩ := h.len hc
  cases ht : tight (lookH hs i).it with
  | true => exact h1 ht
  | false => exact Nat.le_of_eq (h2 ht).symm

theorem quiet_of_cls {P : Program} {g : Gl} {o : Oper} {τ : Operand → T} {H : Nat → Option O} {len : Nat} {it : Itm} {d : Del} {p : Prop} (hc : cls o.op it ≤ 1) (h : core P g o τ H len it = some (d, p)) : d.sets = [] ∧ d.new = [] ∧ d.kill = [] := by
  have pure : coPure P o τ = some d → d.sets = [] ∧ d.new = [] ∧ d.kill = [] := by
    intro h
    unfold coPure at h
    split at h
    · split at h
      · cases h; exact ⟨rfl, rfl, rfl⟩
      · cases h
    · cases h
  have two : ∀ (c : Option Del), (c = some d → d.sets = [] ∧ d.new = [] ∧ d.kill = []) → (match c with | some d => some (d, True) | none => noProp (coPure P o τ)) = some (d, p) → d.sets = [] ∧ d.new = [] ∧ d.kill = [] := by
    intro c hh hc
    cases c with
    | some d' => simp only [Option.some.injEq, Prod.mk.injEq] at hc; exact hh (congrArg some hc.1)
    | none => exact pure (noProp_some hc)
  cases it with
  | call cl => simp [cls] at hc
  | lend fr res =>
    simp only [core, coLend] at h
    split at h
    · split at h
      · split at h
        · cases h; exact ⟨rfl, rfl, rfl⟩
        · cases h
      · cases h
    · cases h
  | look rs res =>
    simp only [core, coLook] at h
    split at h
    · split at h
      · split at h
        · split at h
          · cases h; exact ⟨rfl, rfl, rfl⟩
          · cases h
        · cases h
      · cases h
    · cases h
  | i it =>
    simp only [core] at h
    cases hop : o.op <;> simp only [hop, cls] at hc h
    case move => have := noProp_some h; simp only [coMove, hop] at this; cases this; exact ⟨rfl, rfl, rfl⟩
    case assign => have := noProp_some h; simp only [coMove, hop] at this; cases this; exact ⟨rfl, rfl, rfl⟩
    case pick =>
      simp only [coPick, hop] at h
      split at h
      · cases h; exact ⟨rfl, rfl, rfl⟩
      · cases h
    case extract =>
      refine two _ (fun h => ?_) h
      simp only [coExtract, hop] at h
      split at h
      · simp only [Option.map_eq_some_iff] at h
        obtain ⟨v, _, rfl⟩ := h; exact ⟨rfl, rfl, rfl⟩
      · cases h
    case nilCheck =>
      refine two _ (fun h => ?_) h
      simp only [coNil, hop] at h
      split at h <;> first | (cases h; exact ⟨rfl, rfl, rfl⟩) | cases h
    case binOp op t x y u =>
      split at h
      · simp only [coArith, hop] at h
        split at h <;> first
          | (cases h; exact ⟨rfl, rfl, rfl⟩)
          | (split at h <;> first | (cases h; exact ⟨rfl, rfl, rfl⟩) | cases h)
          | cases h
      · split at h
        · refine two _ (fun h => ?_) h
          unfold coNil at h
          rw [hop] at h
          split at h <;> first
            | (split at h <;> first | (cases h; exact ⟨rfl, rfl, rfl⟩) | cases h)
            | cases h
        · refine two _ (fun h => ?_) h
          simp only [coEq, hop] at h
          split at h
          · split at h
            · split at h <;> first | (cases h; exact ⟨rfl, rfl, rfl⟩) | cases h
            · cases h
          · cases h
    case index =>
      split at h
      · simp only [coArith, hop] at h
        split at h <;> first | (cases h; exact ⟨rfl, rfl, rfl⟩) | cases h
      · exact pure (noProp_some h)
    case fieldAddr =>
      have := noProp_some h
      simp only [coAddr, hop] at this
      repeat' split at this
      all_goals first | (cases this; exact ⟨rfl, rfl, rfl⟩) | cases this
    case field =>
      refine two _ (fun h => ?_) h
      simp only [coField, hop] at h
      repeat' split at h
      all_goals first
        | (cases h; exact ⟨rfl, rfl, rfl⟩)
        | (simp only [Option.map_eq_some_iff] at h; obtain ⟨v, _, rfl⟩ := h; exact ⟨rfl, rfl, rfl⟩)
        | cases h
    case indexAddr =>
      simp only [coIndexAddr, hop] at h
      repeat' split at h
      all_goals first | (cases h; exact ⟨rfl, rfl, rfl⟩) | cases h
    case load =>
      simp only [coLoad, hop] at h
      repeat' split at h
      all_goals first
        | (cases h; exact ⟨rfl, rfl, rfl⟩)
        | (simp only [Option.map_eq_some_iff, Prod.mk.injEq] at h; obtain ⟨v, _, rfl, _⟩ := h; exact ⟨rfl, rfl, rfl⟩)
        | cases h
    case slice =>
      simp only [coSlice, hop] at h
      repeat' split at h
      all_goals first | (cases h; exact ⟨rfl, rfl, rfl⟩) | cases h
    case build =>
      have := noProp_some h
      simp only [coBuild, hop] at this
      split at this
      · simp only [Option.map_eq_some_iff] at this
        obtain ⟨v, _, rfl⟩ := this; exact ⟨rfl, rfl, rfl⟩
      · cases this
    case unOp => exact pure (noProp_some h)
    case convert =>
      split at h
      · unfold coStr at h
        repeat' split at h
        all_goals first | (cases h; exact ⟨rfl, rfl, rfl⟩) | cases h
      · exact pure (noProp_some h)
    case call c =>
      cases hcl : c.callee with
      | value f => simp only [hcl] at h; cases h
      | invoke r m => simp only [hcl] at h; cases h
      | builtin b =>
        cases b <;> simp only [hcl] at hc h <;> first
          | (exact pure (noProp_some h))
          | (exfalso; omega)
          | (refine two _ (fun h => ?_) h
             simp only [coLen, hop, hcl] at h
             repeat' split at h
             all_goals first | (cases h; exact ⟨rfl, rfl, rfl⟩) | cases h)
    all_goals first | (cases h; done) | (exfalso; omega)

/-- A step that is not of the third kind leaves the objects alone. -/
theorem At.quiet {P : Program} {g : Gl} {ops : Array Oper} {hs : List (Nat × Hn)} {i : Nat} {o : Oper} {r : Rec} {s : St} (h : At P g ops hs i o r s) (hc : clsOf hs i o ≤ 1) : r.d.sets = [] ∧ r.d.new = [] ∧ r.d.kill = [] := by
  have hst := h.step
  unfold stepAt at hst
  rw [h.op] at hst
  simp only at hst
  split at hst
  · cases hst
  · split at hst
    · rename_i hrun
      unfold clsOf at hc
      rw [if_pos hrun] at hc
      split at hst
      · rename_i d p hcore
        split at hst
        · simp only [Option.some.injEq, Prod.mk.injEq] at hst
          rw [← hst.1]
          exact quiet_of_cls hc hcore
        · cases hst
      · cases hst
    · simp only [Option.some.injEq, Prod.mk.injEq] at hst
      rw [← hst.1]; exact ⟨rfl, rfl, rfl⟩

theorem Del.hp_quiet {d : Del} (h : d.sets = [] ∧ d.new = [] ∧ d.kill = []) (H : List O) : d.hp H = H := by
  simp [Del.hp, h.1, h.2.1, h.2.2, setAll, killN]

theorem eva_tmp {tm : List T} {t : Nat} : eva tm (.tmp t) = (tm[t]?).getD T.x := rfl

/-- The step's outcome, in another state that shows it the same. -/
theorem stepAt_congr {P : Program} {g : Gl} {ops : Array Oper} {hs : List (Nat × Hn)} {i : Nat} {o : Oper} {d : Del} {p : Prop} {s s' : St} (hop : ops[i]? = some o) (h : stepAt P g ops hs i s = some (d, p))
    (hlen : s'.tm.length = s.tm.length) (he : ∀ x ∈ looks ops o, eva s'.tm x = eva s.tm x)
    (hcore : (lookH hs i).run = true → core P g o (eva s.tm) (fun k => s'.hp[k]?) s'.hp.length (lookH hs i).it = core P g o (eva s.tm) (fun k => s.hp[k]?) s.hp.length (lookH hs i).it) (hok : (lookH hs i).run = true → d.ok s'.hp.length = true) :
    stepAt P g ops hs i s' = some (d, p) := by
  have hg : (guardTmp ops o).bind (s'.tm[·]?) = (guardTmp ops o).bind (s.tm[·]?) := by
    cases hgt : guardTmp ops o with
    | none => rfl
    | some t =>
      have := he (.tmp t) (by simp [looks, hgt])
      rw [eva_tmp, eva_tmp] at this
      show s'.tm[t]? = s.tm[t]?
      rcases Nat.lt_or_ge t s.tm.length with hlt | hge
      · have hlt' : t < s'.tm.length := by rw [hlen]; exact hlt
        rw [List.getElem?_eq_getElem hlt, List.getElem?_eq_getElem hlt'] at this ⊢
        simpa using this
      · have hge' : s'.tm.length ≤ t := by rw [hlen]; exact hge
        rw [List.getElem?_eq_none hge, List.getElem?_eq_none hge']
  unfold stepAt at h ⊢
  rw [hop] at h ⊢
  simp only at h ⊢
  rw [hg]
  split at h
  · cases h
  · rename_i gp hgp
    split at h
    · rename_i hrun
      rw [if_pos hrun]
      have hco : core P g o (eva s'.tm) (fun k => s'.hp[k]?) s'.hp.length (lookH hs i).it = core P g o (eva s.tm) (fun k => s'.hp[k]?) s'.hp.length (lookH hs i).it := by
        have hx : ∀ x ∈ o.op.operands, eva s'.tm x = eva s.tm x := fun x hx => he x (by simp only [looks, List.mem_append]; exact .inl (by simpa using hx))
        cases hit : (lookH hs i).it with
        | call cl =>
          simp only [core, coCall]
          cases hopp : o.op <;> try rfl
          rename_i c
          simp only []
          cases hcl : c.callee <;> try rfl
          rename_i f
          cases f <;> try rfl
          simp only []
          have hm : ∀ x ∈ c.args.toList, eva s'.tm x = eva s.tm x := fun x hxx => hx x (by rw [hopp]; simp only [Op.operands, Call.operands]; exact Array.mem_append.2 (.inr (by simpa using hxx)))
          split
          · split
            · congr 2
              rw [argsOk_congr (H := fun k => s'.hp[k]?) (H' := fun k => s'.hp[k]?) hm (fun _ _ _ _ => rfl)]
              congr 2
              exact List.map_congr_left fun x hxx => by rw [hm x hxx]
            · rfl
          · rfl
        | lend fr res => exact core_congr (by simp [cls]) hx (fun _ _ _ _ _ => rfl) (fun _ _ => rfl)
        | look rs res => exact core_congr (by simp [cls]) hx (fun _ _ _ _ _ => rfl) (fun _ _ => rfl)
        | i it =>
          by_cases hc1 : cls o.op (.i it) ≤ 1
          · exact core_congr hc1 hx (fun _ _ _ _ _ => rfl) (fun _ _ => rfl)
          · simp only [core]
            cases hopp : o.op <;> simp only [hopp, cls] at hc1 hx ⊢ <;> try (exfalso; omega)
            case store t x y =>
              have h1 := hx x (by simp [Op.operands])
              have h2 := hx y (by simp [Op.operands])
              simp only [coStore, hopp, h1, h2]
            case alloc t => simp only [coNew, hopp]
            case box t x =>
              have h1 := hx x (by simp [Op.operands])
              simp only [coNew, hopp, h1]
            case buildSlice t n ps =>
              simp only [coBuild, hopp]
              have : ∀ (l : List (Nat × Operand)), (∀ q ∈ l, eva s'.tm q.2 = eva s.tm q.2) → partsOf (eva s'.tm) l = partsOf (eva s.tm) l := by
                intro l
                induction l with
                | nil => intro _; rfl
                | cons a r ih =>
                  intro hl
                  obtain ⟨i, x⟩ := a
                  have h1 : eva s'.tm x = eva s.tm x := hl (i, x) List.mem_cons_self
                  simp only [partsOf, h1, ih (fun q hq => hl q (List.mem_cons_of_mem _ hq))]
              rw [this ps.toList (fun q hq => hx q.2 (by simp only [Op.operands, List.mem_toArray, List.mem_map]; exact ⟨q, hq, rfl⟩))]
            case call c =>
              cases hcl : c.callee with
              | value f => simp only [hcl] at hc1; omega
              | invoke r m => simp only [hcl] at hc1; omega
              | builtin b =>
                have hm : ∀ x ∈ c.args.toList, eva s'.tm x = eva s.tm x := fun x hxx => hx x (by simp only [Op.operands, Call.operands]; exact Array.mem_append.2 (.inr (by simpa using hxx)))
                cases b <;> simp only [hcl] at hc1 ⊢ <;> try (exfalso; omega)
                · simp only [coAppend, hopp, hcl]
                  split
                  · rename_i x y t u xs ys qs _ ha hty
                    have h1 := hm x (by rw [ha]; simp)
                    have h2 := hm y (by rw [ha]; simp)
                    simp only [h1, h2]
                  · rfl
                · simp only [coClear, hopp, hcl]
                  split
                  · rename_i x t _ ha hty
                    have h1 := hm x (by rw [ha]; simp)
                    simp only [h1]
                  · rfl
      rw [hco, hcore hrun]
      split at h
      · rename_i d' p' hc
        split at h
        · simp only [Option.some.injEq, Prod.mk.injEq] at h
          obtain ⟨rfl, rfl⟩ := h
          rw [if_pos (hok hrun)]
        · cases h
      · cases h
    · rename_i hrun
      rw [if_neg hrun]
      exact h
end Sx
