/- Regions whose order is open: one order is walked; what may come otherwise doesn't matter. -/
import Derived.Test.YthimhmocgnnaiaaDoorSxO
namespace Sx
open Go

def keysT (t : T) : List Nat := t.cs.filterMap C.key
def T.known (t : T) : Bool := t.cs.all C.known

/-- 0: only its operands matter; 1: it reads objects; 2: it may do more. -/
def cls (o : Op) (it : Itm) : Nat :=
  match it with
  | .call _ => 2
  | .lend _ _ => 1
  | .look _ _ => 1
  | .i _ => match o with
    | .load _ _ | .slice _ _ _ _ _ | .convert _ _ _ => 1
    | .store _ _ _ | .alloc _ | .box _ _ | .buildSlice _ _ _ => 2
    | .call c => match c.callee with
      | .builtin .append | .builtin .clear => 2
      | _ => 0
    | _ => 0

theorem mem_keysT {t : T} {c : C} {k : Nat} (h : c ∈ t.cs) (hk : c.key = some k) : k ∈ keysT t := List.mem_filterMap.2 ⟨c, h, hk⟩

theorem killC_id {ks : List Nat} {c : C} (h : ∀ k, c.key = some k → k ∉ ks) : killC ks c = c := by
  unfold killC
  cases hk : c.key with
  | none => rfl
  | some k =>
    simp only
    rw [if_neg]
    intro hc
    exact h k hk (List.contains_iff_mem.1 hc)

theorem killC_known {ks : List Nat} {c : C} (h : (killC ks c).known = true) : killC ks c = c := by
  rcases killC_cases ks c with h' | ⟨h', _⟩
  · rw [h'] at h; cases h
  · exact h'

theorem map_id_of {f : C → C} : ∀ {cs : List C}, (∀ c ∈ cs, f c = c) → cs.map f = cs
  | [], _ => rfl
  | c :: r, h => by rw [List.map_cons, h c List.mem_cons_self, map_id_of (fun d hd => h d (List.mem_cons_of_mem _ hd))]

theorem mapA_id_of {f : A → A} : ∀ {cs : List A}, (∀ c ∈ cs, f c = c) → cs.map f = cs
  | [], _ => rfl
  | c :: r, h => by rw [List.map_cons, h c List.mem_cons_self, mapA_id_of (fun d hd => h d (List.mem_cons_of_mem _ hd))]

def A.cs : A → List C
  | .s c => [c]
  | .g cs => cs

theorem killA_id_of {ks : List Nat} {v : A} (h : ∀ c ∈ v.cs, killC ks c = c) : killA ks v = v := by
  cases v with
  | s c => simp only [killA]; rw [h c (by simp [A.cs])]
  | g cs => simp only [killA]; rw [map_id_of (cs := cs) (fun c hc => h c hc)]

theorem T.cs_t (vs : List A) : (T.t vs).cs = vs.flatMap A.cs := by
  simp only [T.cs]
  congr 1

theorem killT_id_of {ks : List Nat} {t : T} (h : ∀ c ∈ t.cs, killC ks c = c) : killT ks t = t := by
  cases t with
  | a v => simp only [killT]; rw [killA_id_of (fun c hc => h c (by cases v <;> exact hc))]
  | t vs =>
    simp only [killT]
    rw [mapA_id_of (fun v hv => killA_id_of (fun c hc => h c (by rw [T.cs_t]; exact List.mem_flatMap.2 ⟨v, hv, hc⟩)))]

theorem killT_id {ks : List Nat} {t : T} (h : ∀ k ∈ keysT t, k ∉ ks) : killT ks t = t :=
  killT_id_of fun _ hc => killC_id fun k hk => h k (mem_keysT hc hk)

theorem killT_cs (ks : List Nat) (t : T) : (killT ks t).cs = t.cs.map (killC ks) := by
  cases t with
  | a v => cases v <;> rfl
  | t vs =>
    simp only [killT]
    rw [T.cs_t, T.cs_t, List.map_flatMap, List.flatMap_map]
    congr 1
    funext v; cases v <;> rfl

theorem killT_known {ks : List Nat} {t : T} (h : (killT ks t).known = true) : killT ks t = t := by
  refine killT_id_of fun c hc => killC_known ?_
  unfold T.known at h
  rw [killT_cs, List.all_eq_true] at h
  exact h _ (List.mem_map.2 ⟨c, hc, rfl⟩)

/-! ### What an operation leans on -/
theorem lit_eq {τ τ' : Operand → T} {x : Operand} (h : τ x = τ' x) : (τ x).lit = (τ' x).lit := by rw [h]

theorem coPure_congr {P : Program} {o : Oper} {τ τ' : Operand → T} (h : ∀ x ∈ o.op.operands, τ x = τ' x) : coPure P o τ = coPure P o τ' := by
  unfold coPure
  have h1 : (o.op.operands.all fun x => (τ x).lit.isSome) = (o.op.operands.all fun x => (τ' x).lit.isSome) := by
    rw [Bool.eq_iff_iff, Array.all_eq_true_iff_forall_mem, Array.all_eq_true_iff_forall_mem]
    exact ⟨fun hh x hx => by rw [← h x hx]; exact hh x hx, fun hh x hx => by rw [h x hx]; exact hh x hx⟩
  rw [h1]
  by_cases hc : (noSelect o.op && o.op.operands.all fun x => (τ' x).lit.isSome) = true
  · rw [if_pos hc, if_pos hc]
    have hsel : ∀ cs b, o.op ≠ .select cs b := fun cs b hh => by rw [hh] at hc; simp [noSelect] at hc
    rw [execOp_congr (ρ := litOf τ) (ρ' := litOf τ') o hsel (fun x hx => by simp only [litOf, h x hx])]
  · rw [if_neg hc, if_neg hc]

theorem boundOf_congr {τ τ' : Operand → T} {d : Int} {x : Option Operand} (h : ∀ y, x = some y → τ y = τ' y) : boundOf τ d x = boundOf τ' d x := by
  cases x with
  | none => rfl
  | some y => simp only [boundOf, h y rfl]

theorem lendAll_congr {H H' : Nat → Option O} {fr : List (Nat × List (List C))} : ∀ {cs : List C}, (∀ c ∈ cs, ∀ k, c.key = some k → H k = H' k) → (lendAll H fr cs = lendAll H' fr cs)
  | [], _ => rfl
  | c :: r, h => by
    simp only [lendAll]
    rw [lendAll_congr (fun d hd => h d (List.mem_cons_of_mem _ hd))]
    congr 1
    unfold lendOk
    cases c <;> try rfl
    rename_i k off esz i n
    simp only [content, h (.sl k off esz i n) List.mem_cons_self k rfl]

theorem argsOk_congr {H H' : Nat → Option O} {fr : List (Nat × List (List C))} {τ τ' : Operand → T} : ∀ {l : List Operand}, (∀ x ∈ l, τ x = τ' x) → (∀ x ∈ l, ∀ k ∈ keysT (τ x), H k = H' k) → (argsOk H fr τ l = argsOk H' fr τ' l)
  | [], _, _ => rfl
  | x :: r, h, h' => by
    simp only [argsOk]
    rw [argsOk_congr (fun y hy => h y (List.mem_cons_of_mem _ hy)) (fun y hy => h' y (List.mem_cons_of_mem _ hy)), ← h x List.mem_cons_self,
      lendAll_congr (fun c hc k hk => h' x List.mem_cons_self k (mem_keysT hc hk))]

/-- What is read beside what the operands tell of. -/
def rdOf : Itm → List Nat
  | .look ρ _ => ρ
  | _ => []

theorem subOf_congr {ρ : List Nat} {H H' : Nat → Option O} : ∀ (l : List Nat), (∀ k ∈ l, H k = H' k) → subOf ρ H l = subOf ρ H' l
  | [], _ => rfl
  | k :: r, h => by
    simp only [subOf]
    rw [h k List.mem_cons_self, subOf_congr r (fun j hj => h j (List.mem_cons_of_mem _ hj))]

theorem core_congr {P : Program} {g : Gl} {o : Oper} {τ τ' : Operand → T} {H H' : Nat → Option O} {len len' : Nat} {it : Itm} (hc : cls o.op it ≤ 1) (h : ∀ x ∈ o.op.operands, τ x = τ' x)
    (hH : cls o.op it = 1 → ∀ x ∈ o.op.operands, ∀ k ∈ keysT (τ x), H k = H' k)
    (hR : ∀ k ∈ rdOf it, H k = H' k) : core P g o τ H len it = core P g o τ' H' len' it := by
  have hp := coPure_congr (P := P) h
  cases it with
  | call cl => simp [cls] at hc
  | lend fr res =>
    simp only [core, coLend]
    have hH' := hH rfl
    cases hop : o.op <;> try rfl
    rename_i c
    simp only []
    cases hcl : c.callee <;> try rfl
    rename_i f
    cases f <;> try rfl
    simp only []
    have hm : ∀ x ∈ c.args.toList, x ∈ o.op.operands := fun x hx => by rw [hop]; simp only [Op.operands, Call.operands]; exact Array.mem_append.2 (.inr (by simpa using hx))
    split
    · congr 2
      · rw [argsOk_congr (fun x hx => h x (hm x hx)) (fun x hx => hH' x (hm x hx))]
        congr 2
        exact List.map_congr_left fun x hx => by rw [h x (hm x hx)]
    · rfl
  | look rs res =>
    simp only [core, coLook]
    have hH' := hH rfl
    have hR' : ∀ k ∈ rs, H k = H' k := hR
    cases hop : o.op <;> try rfl
    rename_i c
    simp only []
    cases hcl : c.callee <;> try rfl
    rename_i f
    cases f <;> try rfl
    simp only []
    have hm : ∀ x ∈ c.args.toList, x ∈ o.op.operands := fun x hx => by rw [hop]; simp only [Op.operands, Call.operands]; exact Array.mem_append.2 (.inr (by simpa using hx))
    have hall : allIn rs H = allIn rs H' := by
      unfold allIn
      rw [Bool.eq_iff_iff, List.all_eq_true, List.all_eq_true]
      exact ⟨fun hh k hk => by rw [← hR' k hk]; exact hh k hk, fun hh k hk => by rw [hR' k hk]; exact hh k hk⟩
    rw [hall, subOf_congr rs hR', argsOk_congr (fun x hx => h x (hm x hx)) (fun x hx => hH' x (hm x hx))]
    have hmap : (c.args.toList.map fun x => renT (posOf rs) (lendT [] (τ x))) = (c.args.toList.map fun x => renT (posOf rs) (lendT [] (τ' x))) := List.map_congr_left fun x hx => by rw [h x (hm x hx)]
    rw [hmap]
  | i it =>
    simp only [core]
    cases hop : o.op <;> simp only [hop, cls, Op.operands] at hc h hH <;> try rfl
    case move x => simp only [coMove, hop]; rw [h x (by simp)]
    case assign x => simp only [coMove, hop]; rw [h x (by simp)]
    case pick c a b => simp only [coPick, hop]; rw [h c (by simp), h a (by simp), h b (by simp)]
    case extract x i => simp only [coExtract, hop]; rw [h x (by simp), hp]
    case nilCheck x => simp only [coNil, hop]; rw [h x (by simp), hp]
    case binOp op t x y u =>
      have hx := h x (by simp)
      have hy := h y (by simp)
      have h1 : coArith P o τ = coArith P o τ' := by simp only [coArith, hop]; rw [hx, hy]
      have h2 : coNil o τ = coNil o τ' := by unfold coNil; rw [hop]; cases op <;> simp only [hx, hy]
      have h3 : coEq P o τ = coEq P o τ' := by simp only [coEq, hop]; rw [hx, hy]
      rw [h1, h2, h3, hp]
    case index t x y =>
      have hx := h x (by simp)
      have hy := h y (by simp)
      have h1 : coArith P o τ = coArith P o τ' := by simp only [coArith, hop]; rw [hx, hy]
      rw [h1, hp]
    case fieldAddr t x f => simp only [coAddr, hop]; rw [h x (by simp)]
    case field t x f => simp only [coField, hop]; rw [h x (by simp), hp]
    case indexAddr t x y => simp only [coIndexAddr, hop]; rw [h x (by simp), h y (by simp)]
    case load t x =>
      have hx : τ x = τ' x := h x (by simp)
      have hk := hH trivial x (by simp)
      unfold coLoad
      rw [hop]
      simp only [← hx]
      cases hτ : τ x with
      | t vs => cases P.info? t <;> cases aggOf P t <;> rfl
      | a v =>
        rw [hτ] at hk
        cases v with
        | g cs => cases P.info? t <;> cases aggOf P t <;> rfl
        | s c =>
          cases c <;> try (cases P.info? t <;> cases aggOf P t <;> rfl)
          · rename_i k off
            have hk' : H k = H' k := hk k (by simp [keysT, T.cs, C.key])
            cases P.info? t <;> cases aggOf P t <;> first | rfl | simp only [hk']
          · rename_i k off esz i sub
            have hk' : H k = H' k := hk k (by simp [keysT, T.cs, C.key])
            cases P.info? t <;> cases aggOf P t <;> first | rfl | simp only [hk']
    case slice t x lo hi mx =>
      have hx : τ x = τ' x := h x (by simp)
      have hl : ∀ d, boundOf τ d lo = boundOf τ' d lo := fun d => boundOf_congr fun y hy => h y (by subst hy; simp)
      have hh : ∀ d, boundOf τ d hi = boundOf τ' d hi := fun d => boundOf_congr fun y hy => h y (by subst hy; simp)
      have hm : ∀ d, boundOf τ d mx = boundOf τ' d mx := fun d => boundOf_congr fun y hy => h y (by subst hy; simp)
      have hk := hH trivial x (by simp)
      unfold coSlice
      rw [hop]
      simp only [← hx, hl, hh, hm]
      cases P.underlying t with
      | none => rfl
      | some d =>
        cases hτ : τ x with
        | t vs => cases d <;> rfl
        | a v =>
          rw [hτ] at hk
          cases v with
          | g cs => cases d <;> rfl
          | s c =>
            cases c with
            | ref k off =>
              have hk' : H k = H' k := hk k (by simp [keysT, T.cs, C.key])
              cases d <;> first | rfl | simp only [hk']
            | c v => cases d <;> first | rfl | (cases v <;> rfl)
            | _ => cases d <;> rfl
    case build t ps =>
      simp only [coBuild, hop]
      have : ∀ (l : List (Nat × Operand)), (∀ q ∈ l, τ q.2 = τ' q.2) → partsOf τ l = partsOf τ' l := by
        intro l
        induction l with
        | nil => intro _; rfl
        | cons a r ih =>
          intro hl
          obtain ⟨i, x⟩ := a
          have h1 : τ x = τ' x := hl (i, x) List.mem_cons_self
          simp only [partsOf, h1, ih (fun q hq => hl q (List.mem_cons_of_mem _ hq))]
      rw [this ps.toList (fun q hq => h q.2 (by simp only [List.mem_toArray, List.mem_map]; exact ⟨q, hq, rfl⟩))]
    case unOp => rw [hp]
    case convert a b x =>
      cases it <;> simp only [] <;> try (rw [hp]; done)
      rename_i ns
      have hx : τ x = τ' x := h x (by simp)
      have hk := hH (by simp) x (by simp)
      simp only [coStr, hop]
      have hcont : content H 1 (τ x) = content H' 1 (τ' x) := by
        rw [← hx]
        unfold content
        cases hτ : τ x with
        | t vs => rfl
        | a v =>
          rw [hτ] at hk
          cases v with
          | g cs => rfl
          | s c =>
            cases c with
            | sl k off ez i n =>
              have hk' : H k = H' k := hk k (by simp [keysT, T.cs, C.key])
              simp only [hk']
            | c v => cases v <;> first | rfl | (rename_i a n c; cases a <;> cases n <;> cases c <;> rfl)
            | _ => rfl
      rw [hx] at hcont
      simp only [hx, hcont]
    case call c =>
      cases hcl : c.callee with
      | value f => simp only [hcl]
      | invoke r m => simp only [hcl]
      | builtin b =>
        cases b <;> simp only [hcl] at hc ⊢ <;> try (rw [hp]; done)
        · omega
        · omega
        · have : coLen P o τ = coLen P o τ' := by
            simp only [coLen, hop, hcl]
            split
            · rename_i y t _ ha ht
              rw [h y (by simp only [Call.operands]; exact Array.mem_append.2 (.inr (by rw [toList_one ha]; simp)))]
            · rfl
          rw [this, hp]
    all_goals omega
end Sx
