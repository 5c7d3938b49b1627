/- Literals and new variables. -/
import Derived.Test.YthimhmocgnnaiaaDoorSxI
import Derived.Great.BuildSlice
namespace Sx
open Go

def T.cs : T → List C
  | .a (.s c) => [c]
  | .a (.g cs) => cs
  | .t vs => vs.flatMap fun | .s c => [c] | .g cs => cs

def T.below (t : T) (n : Nat) : Prop := ∀ c ∈ t.cs, ∀ k, c.key = some k → k < n

def chunk : Nat → Nat → List C → List (List C)
  | 0, _, _ => []
  | n + 1, esz, cs => cs.take esz :: chunk n esz (cs.drop esz)

def lay : Nat → List (Nat × Nat × Nat) → Nat → List C → Option (List Slot)
  | _, _, _, [] => some []
  | 0, _, _, _ :: _ => none
  | f + 1, sh, pos, c :: cs => match sh with
    | (p, n, esz) :: r =>
      if p = pos then
        if 0 < n * esz ∧ n * esz ≤ (c :: cs).length ∧ ((c :: cs).take (n * esz)).all C.free = true then
          (lay f r (pos + n * esz) ((c :: cs).drop (n * esz))).map (.row n esz (chunk n esz (c :: cs)) :: ·)
        else none
      else (lay f ((p, n, esz) :: r) (pos + 1) cs).map (.one c :: ·)
    | [] => (lay f [] (pos + 1) cs).map (.one c :: ·)

theorem chunk_length (n esz : Nat) : ∀ cs, (chunk n esz cs).length = n := by
  induction n with
  | zero => intro cs; rfl
  | succ n ih => intro cs; simp [chunk, ih]

theorem chunk_get (esz : Nat) : ∀ (n : Nat) (cs : List C) (i : Nat) (ds : List C), (chunk n esz cs)[i]? = some ds → i < n ∧ ds = (cs.drop (i * esz)).take esz := by
  intro n
  induction n with
  | zero => intro cs i ds h; simp [chunk] at h
  | succ n ih =>
    intro cs i ds h
    cases i with
    | zero => simp [chunk] at h; subst h; exact ⟨Nat.succ_pos n, by simp⟩
    | succ i =>
      obtain ⟨h1, h2⟩ := ih (cs.drop esz) i ds (by simpa [chunk] using h)
      refine ⟨by omega, ?_⟩
      rw [h2, List.drop_drop, Nat.succ_mul, Nat.add_comm esz]

theorem chunk_wf {n esz : Nat} {cs : List C} (hl : n * esz ≤ cs.length) (hf : (cs.take (n * esz)).all C.free = true) : RWf esz (chunk n esz cs) := by
  have hb : ∀ i, i < n → i * esz + esz ≤ n * esz := fun i hi => by
    have := Nat.mul_le_mul_right esz (Nat.succ_le_of_lt hi); rw [Nat.succ_mul] at this; exact this
  constructor
  · intro i ds h
    obtain ⟨h1, rfl⟩ := chunk_get esz n cs i ds h
    have := hb i h1
    simp; omega
  · intro i ds j c h hj
    obtain ⟨h1, rfl⟩ := chunk_get esz n cs i ds h
    have hget := slice_get cs (i * esz) esz j c hj
    have hjl := (List.getElem?_eq_some_iff.1 hj).1
    have := hb i h1
    simp at hjl
    refine List.all_eq_true.1 hf c (List.mem_of_getElem? (i := i * esz + j) ?_)
    rw [List.getElem?_take, if_pos (by omega)]; exact hget

theorem SWf_congr {κ κ' : Nat → Nat} (ss : List Slot) : ∀ s, (∀ o, s ≤ o → κ' o = κ o) → SWf κ ss s → SWf κ' ss s := by
  induction ss with
  | nil => intro s _ h; exact h
  | cons a r ih =>
    intro s hk h
    cases a with
    | one c => exact ih _ (fun o ho => hk o (by omega)) h
    | row n esz xs => exact ⟨⟨h.1.1, (hk s (Nat.le_refl _)).trans h.1.2.1, h.1.2.2⟩, ih _ (fun o ho => hk o (Nat.le_trans (Nat.le_add_right _ _) ho)) h.2⟩
    | hole n => exact ih _ (fun o ho => hk o (by omega)) h

theorem lay_spec : ∀ (f : Nat) (sh : List (Nat × Nat × Nat)) (pos : Nat) (cs : List C) (ss : List Slot), lay f sh pos cs = some ss →
    ∃ κ, SWf κ ss pos ∧ (∀ o v, SHas ss pos o v → ∃ j : Nat, o = pos + j ∧ cs[j]? = some v) ∧ ∀ o, SCov ss pos o → o < pos + cs.length := by
  intro f
  induction f with
  | zero =>
    intro sh pos cs ss h
    cases cs with
    | nil => simp [lay] at h; subst h; exact ⟨fun _ => 0, trivial, fun o v h => h.elim, fun o h => h.elim⟩
    | cons c cs => simp [lay] at h
  | succ f ih =>
    intro sh pos cs ss h
    cases cs with
    | nil => simp [lay] at h; subst h; exact ⟨fun _ => 0, trivial, fun o v h => h.elim, fun o h => h.elim⟩
    | cons c cs =>
      have one : ∀ sh, (lay f sh (pos + 1) cs).map (Slot.one c :: ·) = some ss → ∃ κ, SWf κ ss pos ∧ (∀ o v, SHas ss pos o v → ∃ j : Nat, o = pos + j ∧ (c :: cs)[j]? = some v) ∧ ∀ o, SCov ss pos o → o < pos + (c :: cs).length := by
        intro sh h
        simp only [Option.map_eq_some_iff] at h
        obtain ⟨r, hr, rfl⟩ := h
        obtain ⟨κ, h1, h2, h3⟩ := ih sh (pos + 1) cs r hr
        refine ⟨κ, h1, fun o v hh => ?_, fun o hh => ?_⟩
        · rcases hh with ⟨rfl, rfl⟩ | hh
          · exact ⟨0, rfl, rfl⟩
          · obtain ⟨j, rfl, hj⟩ := h2 o v hh
            exact ⟨j + 1, by omega, by simpa using hj⟩
        · rcases hh with rfl | hh
          · simp
          · have := h3 o hh; simp; omega
      simp only [lay] at h
      split at h
      · rename_i p n esz r
        split at h
        · split at h
          · rename_i hp hc
            obtain ⟨hpos, hle, hfree⟩ := hc
            simp only [Option.map_eq_some_iff] at h
            obtain ⟨q, hq, rfl⟩ := h
            obtain ⟨κ, h1, h2, h3⟩ := ih r _ _ q hq
            refine ⟨fun o => if o = pos then n else κ o, ⟨⟨chunk_length _ _ _, by simp, chunk_wf hle hfree⟩, ?_⟩, fun o v hh => ?_, fun o hh => ?_⟩
            · exact SWf_congr q _ (fun o ho => if_neg (by omega)) h1
            · rcases hh with ⟨i, j, ds, a1, a2, a3⟩ | hh
              · obtain ⟨b1, rfl⟩ := chunk_get esz n _ i ds a1
                exact ⟨i * esz + j, by omega, slice_get _ _ _ _ _ a2⟩
              · obtain ⟨j, rfl, hj⟩ := h2 o v hh
                refine ⟨n * esz + j, by omega, ?_⟩
                rw [List.getElem?_drop] at hj; exact hj
            · rcases hh with hh | hh
              · omega
              · have := h3 o hh
                rw [List.length_drop] at this; omega
          · cases h
        · exact one _ h
      · exact one _ h

def zerosOf (v : Value) : List C := v.cells.toList.map .c

def shapeOf : It → List (Nat × Nat × Nat)
  | .sh s => s
  | _ => []

def coNew (P : Program) (o : Oper) (ρ : Operand → T) (len : Nat) (it : It) : Option Del :=
  match o.op with
  | .alloc t => match P.info? t with
    | some inf => match inf.zero with
      | some z => (lay (zerosOf z).length (shapeOf it) 0 (zerosOf z)).map fun ss => { val := .a (.s (.ref len 0)), new := [.cells ss] }
      | none => none
    | none => none
  | .box _ x => match ρ x with
    | .a v => if v.cells.all C.known then (lay v.cells.length (shapeOf it) 0 v.cells).map fun ss => { val := .a (.s (.ref len 0)), new := [.cells ss] } else none
    | _ => none
  | _ => none

theorem new_cells {P : Program} {g : Gl} {o : Oper} {ρ : Operand → Value} {w : World} {e : Env} {R : Pl} {H : List O} (s : Sat g w e R H) (hcl : Closed H)
    {t : TypeId} {us : Array Value} {cs : List C} {f : Nat} {sh : List (Nat × Nat × Nat)} {ss : List Slot} (hrel : RelL w e (Mut e R H) cs us.toList) (hkeys : ∀ c ∈ cs, ∀ k, c.key = some k → k < H.length)
    (hl : lay f sh 0 cs = some ss) (hrun : (execOp ρ o).run P w = .ok (.value (.pointer (some ⟨w.heap.size, 0, none⟩))) (w.alloc (.cells us t))) :
    Does P g o ρ w e R H { val := .a (.s (.ref H.length 0)), new := [.cells ss] } := by
  obtain ⟨κ, h1, h2, h3⟩ := lay_spec f sh 0 cs ss hl
  obtain ⟨s2, x2⟩ := s.make us t κ (obj := .cells ss) h1 (fun o ho => by have := h3 o ho; have := hrel.1; simp at this; omega) hcl
    (fun o v hh k hk => by
      obtain ⟨j, _, hj⟩ := h2 o v hh
      exact hkeys v (List.mem_of_getElem? hj) k hk)
    (fun o v hh => by
      obtain ⟨j, rfl, hj⟩ := h2 o v hh
      obtain ⟨u, h4, h5⟩ := hrel.2 j v hj
      exact ⟨u, by rw [Nat.zero_add, ← Array.getElem?_toList]; exact h4, h5⟩)
  refine OpOk.value hrun ⟨_, by rw [Del.hp_new]; exact s2, by rw [Del.hp_new]; exact x2, ?_⟩
  have hs := Env.put_same e H.length (w.heap.size, 0) κ
  have key := Rel.ref (w := w.alloc (.cells us t)) (e := e.put H.length (w.heap.size, 0) κ) (M := Mut (e.put H.length (w.heap.size, 0) κ) R (H ++ [.cells ss])) H.length 0
  rw [hs.1] at key
  rw [Del.hp_new]
  exact key

theorem coNew_ok {P : Program} {g : Gl} {o : Oper} {τ : Operand → T} {ρ : Operand → Value} {w : World} {e : Env} {R : Pl} {H : List O} {d : Del} {it : It} (s : Sat g w e R H) (hcl : Closed H)
    (hρ : ∀ x, RelT w e (Mut e R H) (τ x) (ρ x)) (hτ : ∀ x, (τ x).below H.length) (h : coNew P o τ H.length it = some d) : Does P g o ρ w e R H d := by
  unfold coNew at h
  split at h
  · rename_i t hx
    split at h
    · rename_i inf hinf
      split at h
      · rename_i z hz
        simp only [Option.map_eq_some_iff] at h
        obtain ⟨ss, hl, rfl⟩ := h
        refine new_cells s hcl (t := t) (us := z.cells) (RelL.ofC _) (fun c hc k hk => ?_) hl (by simp [execOp, hx, Instr.alloc, zeroValue, typeInfo, hinf, hz, newVar, newRow])
        simp only [List.mem_map] at hc
        obtain ⟨v, _, rfl⟩ := hc
        cases hk
      · cases h
    · cases h
  · rename_i t x hx
    split at h
    · rename_i v hv
      split at h
      · rename_i hkn
        simp only [Option.map_eq_some_iff] at h
        obtain ⟨ss, hl, rfl⟩ := h
        have hr := hρ x
        rw [hv] at hr
        refine new_cells s hcl (t := t) (us := (ρ x).cells) (RelA.cells hr hkn) (fun c hc k hk => ?_) hl (by simp [execOp, hx, Instr.box, newVar, newRow])
        have := hτ x
        rw [hv] at this
        cases v with
        | g cs => exact this c hc k hk
        | s c' =>
          cases c' with
          | c v =>
            cases v with
            | agg vs =>
              simp only [A.cells, List.mem_map] at hc
              obtain ⟨v, _, rfl⟩ := hc
              cases hk
            | _ => simp only [A.cells, List.mem_singleton] at hc; subst hc; cases hk
          | _ => exact this c hc k hk
      · cases h
    · cases h
  · cases h

/-! ### Literals -/
def fillC (place : Nat → Option (Nat × Nat)) : List C → List (Nat × List C) → Option (List C)
  | zc, [] => some zc
  | zc, (i, cs) :: r => match place i with
    | some (off, size) => if cs.length = size ∧ off + cs.length ≤ zc.length then fillC place (zc.take off ++ cs ++ zc.drop (off + cs.length)) r else none
    | none => none

theorem fold_set (off : Nat) : ∀ (l : List Value) (k : Nat) (us : Array Value), off + k + l.length ≤ us.size →
    ((l.zipIdx k).foldl (fun (cs : Array Value) (x : Value × Nat) => cs.setIfInBounds (off + x.2) x.1) us).toList = us.toList.take (off + k) ++ l ++ us.toList.drop (off + k + l.length) := by
  intro l
  induction l with
  | nil => intro k us _; simp
  | cons v r ih =>
    intro k us h
    simp only [List.zipIdx_cons, List.foldl_cons]
    simp only [List.length_cons] at h
    rw [ih (k + 1) _ (by simp; omega)]
    simp only [Array.toList_setIfInBounds, List.length_cons]
    have hlt : off + k < us.toList.length := by simp; omega
    rw [show off + (k + 1) = off + k + 1 by omega, show off + k + 1 + r.length = off + k + (r.length + 1) by omega]
    rw [List.take_succ_eq_append_getElem (by simpa using hlt), List.getElem_set_self, List.take_set_of_le (Nat.le_refl _), List.drop_set_of_lt (by omega)]
    simp [List.append_assoc]

theorem RelL.splice {w : World} {e : Env} {M : Pl} {zc cs : List C} {us vs : List Value} (h : RelL w e M zc us) (h' : RelL w e M cs vs) (off : Nat) (hle : off + cs.length ≤ zc.length) :
    RelL w e M (zc.take off ++ cs ++ zc.drop (off + cs.length)) (us.take off ++ vs ++ us.drop (off + vs.length)) := by
  have hl := h.1
  have hl' := h'.1
  refine ⟨by simp [hl, hl'], fun j c hj => ?_⟩
  have hlen : (us.take off).length = off := by simp; omega
  rw [List.append_assoc] at hj ⊢
  rcases Nat.lt_or_ge j off with hjo | hjo
  · rw [List.getElem?_append_left (by simp; omega), List.getElem?_take, if_pos hjo] at hj
    obtain ⟨u, h1, h2⟩ := h.2 j c hj
    exact ⟨u, by rw [List.getElem?_append_left (by omega), List.getElem?_take, if_pos hjo]; exact h1, h2⟩
  · rw [List.getElem?_append_right (by simp; omega)] at hj
    simp only [List.length_take, Nat.min_eq_left (by omega : off ≤ zc.length)] at hj
    rcases Nat.lt_or_ge (j - off) cs.length with hjc | hjc
    · rw [List.getElem?_append_left hjc] at hj
      obtain ⟨u, h1, h2⟩ := h'.2 _ c hj
      exact ⟨u, by rw [List.getElem?_append_right (by omega), hlen, List.getElem?_append_left (by omega)]; exact h1, h2⟩
    · rw [List.getElem?_append_right hjc, List.getElem?_drop] at hj
      obtain ⟨u, h1, h2⟩ := h.2 _ c hj
      refine ⟨u, ?_, h2⟩
      rw [List.getElem?_append_right (by omega), hlen, List.getElem?_append_right (by omega), List.getElem?_drop, hl']
      exact h1

inductive Parts (w : World) (e : Env) (M : Pl) : List (Nat × List C) → List (Nat × Value) → Prop
  | nil : Parts w e M [] []
  | cons (i : Nat) (cs : List C) (v : Value) {r : List (Nat × List C)} {q : List (Nat × Value)} (h : RelL w e M cs v.cells.toList) (t : Parts w e M r q) : Parts w e M ((i, cs) :: r) ((i, v) :: q)

theorem fill_rel {w : World} {e : Env} {M : Pl} {place : Nat → Option (Nat × Nat)} {ps : List (Nat × List C)} {vs : List (Nat × Value)} (hp : Parts w e M ps vs) :
    ∀ (zc zc' : List C) (us : Array Value), RelL w e M zc us.toList → fillC place zc ps = some zc' → ∃ us', Instr.fill place us vs = some us' ∧ RelL w e M zc' us'.toList := by
  induction hp with
  | nil => intro zc zc' us h h'; cases h'; exact ⟨us, rfl, h⟩
  | cons i cs v hv _ ih =>
    intro zc zc' us h h'
    simp only [fillC] at h'
    split at h'
    · rename_i off size hpl
      split at h'
      · rename_i hc
        obtain ⟨hsz, hle⟩ := hc
        have hus : us.size = zc.length := by have := h.1; simpa using this
        have hvs : v.cells.size = cs.length := by have := hv.1; simpa using this
        obtain ⟨us', h1, h2⟩ := ih _ zc' _ (by
          have := fold_set off v.cells.toList 0 us (by simp; omega)
          simp only [Nat.add_zero] at this
          have key := h.splice hv off hle
          rw [← this] at key
          exact key) h'
        refine ⟨us', ?_, h2⟩
        rw [Instr.fill, hpl]
        simp only [hvs, hsz]
        rw [if_neg (by simp; omega)]
        rw [← h1]
        congr 1
        rw [← Array.foldl_toList]
        congr 1
        simp
      · cases h'
    · cases h'

def zeroPlaces (P : Program) (t : TypeId) : Option (Array Value × (Nat → Option (Nat × Nat))) :=
  match P.info? t, P.underlying t with
  | some it, some (.array _ e) =>
    match it.zero, P.info? e with
    | some z, some ie => some (z.cells, fun i => some (i * ie.size, ie.size))
    | _, _ => none
  | some it, some (.struct fields) =>
    match it.zero, fields.toList.mapM (fun f => (P.info? f.type).map fun i => (f.offset, i.size)) with
    | some z, some places => some (z.cells, (places.toArray[·]?))
    | _, _ => none
  | _, _ => none

theorem built_eq {P : Program} {t : TypeId} {z : Array Value} {pl : Nat → Option (Nat × Nat)} (h : zeroPlaces P t = some (z, pl)) (parts : List (Nat × Value)) : P.built t parts = Instr.fill pl z parts := by
  unfold zeroPlaces at h
  unfold Program.built
  split at h
  · rename_i it _ e h1 h2
    rw [h1, h2]
    split at h
    · rename_i z' ie h3 h4
      cases h
      simp only [h3, h4]
    · cases h
  · rename_i it fs h1 h2
    rw [h1, h2]
    split at h
    · rename_i z' pl' h3 h4
      cases h
      simp only [h3, h4]
    · cases h
  · cases h

def partsOf (ρ : Operand → T) : List (Nat × Operand) → Option (List (Nat × List C))
  | [] => some []
  | (i, x) :: r => match ρ x, partsOf ρ r with
    | .a v, some q => if v.cells.all C.known then some ((i, v.cells) :: q) else none
    | _, _ => none

theorem partsOf_rel {w : World} {e : Env} {M : Pl} {τ : Operand → T} {ρ : Operand → Value} (hρ : ∀ x, RelT w e M (τ x) (ρ x)) : ∀ (ps : List (Nat × Operand)) (qs : List (Nat × List C)), partsOf τ ps = some qs →
    Parts w e M qs (ps.map fun (i, x) => (i, ρ x)) := by
  intro ps
  induction ps with
  | nil => intro qs h; cases h; exact .nil
  | cons a r ih =>
    intro qs h
    obtain ⟨i, x⟩ := a
    simp only [partsOf] at h
    split at h
    · rename_i v q hv hq
      split at h
      · rename_i hk
        cases h
        have := hρ x
        rw [hv] at this
        exact .cons i v.cells (ρ x) (RelA.cells this hk) (ih q hq)
      · cases h
    · cases h

def coBuild (P : Program) (o : Oper) (ρ : Operand → T) (len : Nat) : Option Del :=
  match o.op with
  | .build t parts => match zeroPlaces P t, partsOf ρ parts.toList with
    | some (z, pl), some qs => (fillC pl (z.toList.map .c) qs).map fun cs => { val := .a (.g cs) }
    | _, _ => none
  | .buildSlice t n parts => match P.underlying t with
    | some (.slice el) => match P.info? el, partsOf ρ parts.toList with
      | some inf, some qs => match inf.zero with
        | some z => if n * inf.size ≤ 16777216 ∧ 0 < n * inf.size then
            match fillC (fun i => some (i * inf.size, inf.size)) ((List.range (n * inf.size)).map fun i => .c (z.cells[i % z.cells.size]!)) qs with
            | some cs => if cs.all C.free = true then some { val := .a (.s (.sl len 0 inf.size 0 n)), new := [.arr inf.size (chunk n inf.size cs)] } else none
            | none => none
          else none
        | none => none
      | _, _ => none
    | _ => none
  | _ => none

theorem fillC_length {place : Nat → Option (Nat × Nat)} : ∀ (ps : List (Nat × List C)) (zc zc' : List C), fillC place zc ps = some zc' → zc'.length = zc.length := by
  intro ps
  induction ps with
  | nil => intro zc zc' h; cases h; rfl
  | cons a r ih =>
    intro zc zc' h
    obtain ⟨i, cs⟩ := a
    simp only [fillC] at h
    split at h
    · split at h
      · rename_i hc
        rw [ih _ _ h]; simp; omega
      · cases h
    · cases h

theorem coBuild_ok {P : Program} {g : Gl} {o : Oper} {τ : Operand → T} {ρ : Operand → Value} {w : World} {e : Env} {R : Pl} {H : List O} {d : Del} (s : Sat g w e R H) (hcl : Closed H)
    (hρ : ∀ x, RelT w e (Mut e R H) (τ x) (ρ x)) (h : coBuild P o τ H.length = some d) : Does P g o ρ w e R H d := by
  unfold coBuild at h
  split at h
  · rename_i t parts hx
    split at h
    · rename_i z pl qs hz hq
      simp only [Option.map_eq_some_iff] at h
      obtain ⟨cs, hf, rfl⟩ := h
      obtain ⟨us', h1, h2⟩ := fill_rel (partsOf_rel hρ _ _ hq) _ cs z (RelL.ofC _) hf
      have hrun := run_build (P := P) w t (parts.map fun (i, x) => (i, ρ x)) us' (by rw [built_eq hz]; simpa using h1)
      refine Does.val s (u := .agg us') (by simp [execOp, hx, hrun]) ⟨us'.toList, by simp, h2⟩
    · cases h
  · rename_i t n parts hx
    split at h
    · rename_i el hu
      split at h
      · rename_i inf qs hinf hq
        split at h
        · rename_i z hz
          split at h
          · rename_i hc
            obtain ⟨hsmall, hpos⟩ := hc
            split at h
            · rename_i cs hf
              split at h
              · rename_i hfree
                cases h
                obtain ⟨us', h1, h2⟩ := fill_rel (partsOf_rel hρ _ _ hq) _ cs ((Array.range (n * inf.size)).map (z.cells[· % z.cells.size]!)) (by
                  have := RelL.ofC (w := w) (e := e) (M := Mut e R H) (((Array.range (n * inf.size)).map (z.cells[· % z.cells.size]!)).toList)
                  simpa [Function.comp_def] using this) hf
                have hlen : cs.length = n * inf.size := by rw [fillC_length _ _ _ hf]; simp
                have hul : us'.size = n * inf.size := by have := h2.1; simp at this; omega
                have hrun := run_buildSlice (P := P) w t el n (parts.map fun (i, x) => (i, ρ x)) us' inf z hu hinf hz (by omega) (by omega) (by simpa using h1)
                have hwf : RWf inf.size (chunk n inf.size cs) := chunk_wf (by omega) (by rw [← hlen, List.take_length]; exact hfree)
                obtain ⟨s2, x2⟩ := s.make us' el (fun _ => n) (obj := .arr inf.size (chunk n inf.size cs)) ⟨by rw [chunk_length]; exact Nat.le_refl _, hwf⟩
                  (fun o ho => by rw [hul]; exact ho) hcl (fun o v hh k hkey => absurd hkey (nosrc hwf hh k))
                  (fun o v hh => by
                    obtain ⟨i, j, ds, a1, a2, a3⟩ := hh
                    obtain ⟨b1, rfl⟩ := chunk_get inf.size n cs i ds a1
                    obtain ⟨u, h3, h4⟩ := h2.2 _ v (slice_get _ _ _ _ _ a2)
                    exact ⟨u, by rw [a3, Nat.zero_add, ← Array.getElem?_toList]; exact h3, h4⟩)
                refine OpOk.value (u := .slice (some ⟨w.heap.size, 0, none⟩) n n) (w' := w.alloc (.cells us' el)) (by simp [execOp, hx] at hrun ⊢; simp [hrun]) ⟨_, by rw [Del.hp_new]; exact s2, by rw [Del.hp_new]; exact x2, ?_⟩
                have hs := Env.put_same e H.length (w.heap.size, 0) (fun _ => n)
                have key := Rel.sl (w := w.alloc (.cells us' el)) (e := e.put H.length (w.heap.size, 0) (fun _ => n)) (M := Mut (e.put H.length (w.heap.size, 0) (fun _ => n)) R (H ++ [.arr inf.size (chunk n inf.size cs)])) H.length 0 inf.size 0 n n
                  (Nat.le_refl _) (by rw [hs.2]; show 0 + n ≤ n; omega)
                rw [hs.1] at key
                simp only [Nat.zero_mul, Nat.add_zero] at key
                rw [Del.hp_new]
                exact key
              · cases h
            · cases h
          · cases h
        · cases h
      · cases h
    · cases h
  · cases h
end Sx
