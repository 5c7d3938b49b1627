/- Structs compared; a row cleared; calls that only read; all operations in one. -/
import Derived.Test.YthimhmocgnnaiaaDoorSxL
import Derived.Laws.StructEq
namespace Sx
open Go

/-! ### == of structs -/
def eqC (P : Program) : Nat → TypeId → List C → List C → Option Bool
  | 0, _, _, _ => none
  | n + 1, t, xs, ys =>
    match P.underlying t with
    | some .bool => match xs, ys with
      | [.c (.bool a)], [.c (.bool b)] => some (a == b)
      | _, _ => none
    | some (.int _) => match xs, ys with
      | [.c (.int k a)], [.c (.int k' b)] => if k = k' then some (a == b) else none
      | _, _ => none
    | some .string => match xs, ys with
      | [.c (.string a)], [.c (.string b)] => some (a.toList == b.toList)
      | _, _ => none
    | some (.struct fs) =>
      if P.stoodInHeld t then none else
      fs.toList.foldr (fun f acc => match acc, P.info? f.type, aggOf P f.type with
        | some r, some inf, some _ =>
          if f.name != "_" && decide (f.offset + inf.size ≤ xs.length) && decide (f.offset + inf.size ≤ ys.length) && decide (inf.size ≠ 0) then
            (eqC P n f.type (cut xs f.offset inf.size) (cut ys f.offset inf.size)).map (· && r)
          else none
        | _, _, _ => none) (some true)
    | _ => none

def asVal (P : Program) (t : TypeId) (us : List Value) : Value :=
  match aggOf P t with
  | some true => .agg us.toArray
  | _ => us.headD undef

theorem RelL.one_c {w : World} {e : Env} {M : Pl} {v : Value} {us : List Value} (h : RelL w e M [.c v] us) : us = [v] := by
  obtain ⟨u, h1, h2⟩ := h.2 0 _ rfl
  have hu := Rel.c_eq h2
  subst hu
  match us, h.1, h1 with
  | [x], _, h1 => simp at h1; rw [h1]

theorem eqC_one {P : Program} {n : Nat} {t : TypeId} {xs ys : List C} {r : Bool} (h : eqC P n t xs ys = some r) (ha : aggOf P t = some false) : xs.length = 1 ∧ ys.length = 1 := by
  cases n with
  | zero => cases h
  | succ n =>
    simp only [eqC] at h
    simp only [aggOf, Option.map_eq_some_iff] at ha
    obtain ⟨d, hd, hd'⟩ := ha
    rw [hd] at h
    cases d <;> simp only [reduceCtorEq] at h <;> first
      | (split at h <;> first | exact ⟨rfl, rfl⟩ | cases h)
      | cases hd'

theorem eqC_ok {P : Program} {w : World} {e : Env} {M : Pl} : ∀ (n : Nat) (t : TypeId) (xs ys : List C) (r : Bool), eqC P n t xs ys = some r →
    ∀ (us vs : List Value), RelL w e M xs us → RelL w e M ys vs → ∀ d, n ≤ d → (Op.equalIn d t (asVal P t us) (asVal P t vs)).run P w = .ok r w := by
  intro n
  induction n with
  | zero => intro t xs ys r h; cases h
  | succ n ih =>
    intro t xs ys r h us vs hu hv d hd
    obtain ⟨d, rfl⟩ : ∃ k, d = k + 1 := ⟨d - 1, by omega⟩
    simp only [eqC] at h
    cases hut : P.underlying t with
    | none => rw [hut] at h; cases h
    | some td =>
      rw [hut] at h
      cases td <;> simp only [reduceCtorEq] at h
      case bool =>
        split at h
        · cases h
          have e1 := hu.one_c
          have e2 := hv.one_c
          subst e1; subst e2
          simp [asVal, aggOf, hut, run_equalIn_bool w d t _ _ hut]
        · cases h
      case int q =>
        split at h
        · split at h
          · rename_i hk
            cases h; subst hk
            have e1 := hu.one_c
            have e2 := hv.one_c
            subst e1; subst e2
            simp [asVal, aggOf, hut, run_equalIn_int w d t _ q _ _ hut]
          · cases h
        · cases h
      case string =>
        split at h
        · cases h
          have e1 := hu.one_c
          have e2 := hv.one_c
          subst e1; subst e2
          simp [asVal, aggOf, hut, run_equalIn_string w d t _ _ hut]
        · cases h
      case struct fs =>
        split at h
        · cases h
        · rename_i hst
          have hst' : P.stoodInHeld t = false := by simpa using hst
          have hfs : P.fieldsOf t = fs := by simp [Program.fieldsOf, hut]
          have hag : aggOf P t = some true := by simp [aggOf, hut]
          simp only [asVal, hag]
          rw [run_equalIn_struct w d t _ _ (by rw [hfs]; exact hut) hst', hfs]
          generalize fs.toList = l at h
          clear hfs hut hst hst' hag
          induction l generalizing r with
          | nil => simp at h; subst h; simp [Op.eqFields]
          | cons f l ihl =>
            rw [List.foldr_cons] at h
            split at h
            · rename_i r' inf ag hacc hi ha
              split at h
              · rename_i hc
                simp only [Bool.and_eq_true, bne_iff_ne, ne_eq, decide_eq_true_eq] at hc
                obtain ⟨⟨⟨hnm, hx⟩, hy⟩, hz⟩ := hc
                simp only [Option.map_eq_some_iff] at h
                obtain ⟨b, hb, rfl⟩ := h
                have hux := hu.slice f.offset inf.size
                have huy := hv.slice f.offset inf.size
                have key := ih f.type _ _ b hb _ _ hux huy d (by omega)
                have hpart : ∀ (us : List Value) (cs : List C), RelL w e M cs us → f.offset + inf.size ≤ cs.length → (ag = false → inf.size = 1) → (part f.type us.toArray f.offset).run P w = .ok (asVal P f.type ((us.drop f.offset).take inf.size)) w := by
                  intro us cs hr hle h1
                  have hl := hr.1
                  cases ag
                  · have hs := h1 rfl
                    have hlt : f.offset < us.length := by omega
                    simp [part, run_isAgg' ha, asVal, ha, hlt, hs, List.headD, List.take_one, List.head?_drop]
                  · simp [part, run_isAgg' ha, asVal, ha, run_sizeOf' hi, List.take_drop]
                have hone : ag = false → inf.size = 1 := fun hf => by
                  subst hf
                  have := (eqC_one hb ha).1
                  simp [cut] at this; omega
                have ihl' := ihl r' hacc
                simp only [Op.eqFields, hnm, ne_eq, not_false_eq_true, if_true, Sem.run_bind, hpart us xs hu hx hone, hpart vs ys hv hy hone, Result.andThen_ok, key]
                cases b
                · simp
                · simpa using ihl'
              · cases h
            · cases h

def coEq (P : Program) (o : Oper) (ρ : Operand → T) : Option Del :=
  match o.op with
  | .binOp op t x y _ => match ρ x, ρ y with
    | .a a, .a b =>
      if aggOf P t = some true && a.cells.all C.known && b.cells.all C.known && !P.eqGuardType P.depth t && isAggA a && isAggA b then
        match op, eqC P 20 t a.cells b.cells with
        | .eql, some r => some { val := .c (.bool r) }
        | .neq, some r => some { val := .c (.bool !r) }
        | _, _ => none
      else none
    | _, _ => none
  | _ => none
where
  isAggA : A → Bool
    | .g _ => true
    | .s (.c (.agg _)) => true
    | _ => false

theorem isAggA_val {w : World} {e : Env} {M : Pl} {a : A} {u : Value} (h : coEq.isAggA a = true) (hr : RelA w e M a u) : ∃ us : List Value, u = .agg us.toArray ∧ RelL w e M a.cells us := by
  unfold coEq.isAggA at h
  split at h
  · obtain ⟨us, h1, h2⟩ := hr; exact ⟨us, h1, h2⟩
  · rename_i vs
    have := Rel.c_eq hr
    subst this
    exact ⟨vs.toList, by simp, RelL.ofC _⟩
  · cases h

theorem coEq_ok {P : Program} {g : Gl} {o : Oper} {τ : Operand → T} {ρ : Operand → Value} {w : World} {e : Env} {R : Pl} {H : List O} {d : Del} (s : Sat g w e R H)
    (hρ : ∀ x, RelT w e (Mut e R H) (τ x) (ρ x)) (h : coEq P o τ = some d) : Does P g o ρ w e R H d := by
  unfold coEq at h
  split at h
  · rename_i op t x y yt hx
    split at h
    · rename_i a b ha hb
      split at h
      · rename_i hc
        simp only [Bool.and_eq_true, decide_eq_true_eq, Bool.not_eq_true'] at hc
        obtain ⟨⟨⟨⟨⟨hag, _⟩, _⟩, hgd⟩, h1⟩, h2⟩ := hc
        have r1 := hρ x
        have r2 := hρ y
        rw [ha] at r1
        rw [hb] at r2
        obtain ⟨us, hu, hru⟩ := isAggA_val h1 r1
        obtain ⟨vs, hv, hrv⟩ := isAggA_val h2 r2
        have hgd' := fun op => run_eqGuard_agg (P := P) w op t x y us.toArray vs.toArray hgd
        split at h
        · rename_i r hr
          cases h
          have key := eqC_ok 20 t _ _ r hr us vs hru hrv 10000 (by omega)
          simp only [asVal, hag] at key
          exact Does.val s (u := .bool r) (by simp [execOp, hx, hu, hv, hgd', run_eql_struct, key]) (.c _)
        · rename_i r hr
          cases h
          have key := eqC_ok 20 t _ _ r hr us vs hru hrv 10000 (by omega)
          simp only [asVal, hag] at key
          exact Does.val s (u := .bool !r) (by simp [execOp, hx, hu, hv, hgd', run_neq_struct, key]) (.c _)
        · cases h
      · cases h
    · cases h
  · cases h

/-! ### A row cleared -/
def coClear (P : Program) (o : Oper) (ρ : Operand → T) (H : Nat → Option O) : Option (Del × Prop) :=
  match o.op with
  | .call c => match c.callee, c.args.toList, c.argTypes.toList with
    | .builtin .clear, [x], [t] => match P.underlying t, ρ x with
      | some (.slice el), .a (.s (.sl k off esz 0 n)) => match P.info? el, H k with
        | some inf, some obj => match inf.zero, rowsOf obj off esz with
          | some z, some xs =>
            if inf.size = esz ∧ z.cells.size = esz ∧ 0 < esz ∧ (zerosOf z).all C.free = true then
              (setRows obj off (List.replicate n (zerosOf z))).map fun obj' => ({ val := .a (.s .x), sets := [(k, obj')] }, n = xs.length)
            else none
          | _, _ => none
        | _, _ => none
      | _, _ => none
    | _, _, _ => none
  | _ => none

theorem coClear_ok {P : Program} {g : Gl} {o : Oper} {τ : Operand → T} {ρ : Operand → Value} {w : World} {e : Env} {R : Pl} {H : List O} {d : Del} {p : Prop} (s : Sat g w e R H)
    (hρ : ∀ x, RelT w e (Mut e R H) (τ x) (ρ x)) (h : coClear P o τ (fun k => H[k]?) = some (d, p)) (hp : p) : Does P g o ρ w e R H d := by
  unfold coClear at h
  split at h
  · rename_i c hx
    split at h
    · rename_i x t hc ha hty
      split at h
      · rename_i el k off esz n hu hv
        split at h
        · rename_i inf obj hinf hk0
          have hk : H[k]? = some obj := hk0
          split at h
          · rename_i z xs hz hxs
            split at h
            · rename_i hcond
              obtain ⟨hsz, hzs, hpos, hfree⟩ := hcond
              simp only [Option.map_eq_some_iff, Prod.mk.injEq] at h
              obtain ⟨obj', hset, rfl, rfl⟩ := h
              subst hsz
              have hr := hρ x
              rw [hv] at hr
              obtain ⟨a, cap, hxv, hncap, hor⟩ := Rel.sl_inv hr
              obtain ⟨r1, r2, r3⟩ := rowsOf_spec hxs
              have hwf := s.wf k _ hk
              have hzl : (zerosOf z).length = inf.size := by simp [zerosOf, hzs]
              have hys : ∀ (i : Nat) (cs : List C), (List.replicate n (zerosOf z))[i]? = some cs → cs = zerosOf z := fun i cs hi => by
                rw [List.getElem?_replicate] at hi
                split at hi
                · cases hi; rfl
                · cases hi
              have hRW : RWf inf.size (List.replicate n (zerosOf z)) := ⟨fun i cs hi => by rw [hys i cs hi, hzl], fun i cs j c hi hj => by rw [hys i cs hi] at hj; exact List.all_eq_true.1 hfree _ (List.mem_of_getElem? hj)⟩
              obtain ⟨b1, b2, b3⟩ := setRows_spec hxs hset (by simp [hp]) hRW hwf
              have hcsl : (List.replicate n (zerosOf z)).flatten.length = n * inf.size := by rw [flatten_length hRW]; simp
              have husl : (Builtin.zeroCells z.cells n).toList.length = n * inf.size := by simp [Builtin.zeroCells, hzs]
              have hrel : ∀ (j : Nat) (c : C), (List.replicate n (zerosOf z)).flatten[j]? = some c → ∃ u, (Builtin.zeroCells z.cells n).toList[j]? = some u ∧ Rel w e (Mut e R H) c u := by
                intro j c hj
                have hjl := (List.getElem?_eq_some_iff.1 hj).1
                obtain ⟨i, l, cs, g1, g2, rfl⟩ := flatten_get hRW hj
                rw [hys i cs g1] at g2
                simp only [zerosOf, List.getElem?_map, Option.map_eq_some_iff] at g2
                obtain ⟨v, g3, rfl⟩ := g2
                have hll : l < z.cells.size := by have := (List.getElem?_eq_some_iff.1 g3).1; simpa using this
                have hlt : i * inf.size + l < n * z.cells.size := by rw [hzs]; omega
                have hmod : (i * inf.size + l) % z.cells.size = l := by rw [hzs, Nat.mul_comm, Nat.mul_add_mod, Nat.mod_eq_of_lt (by omega)]
                refine ⟨v, ?_, .c v⟩
                rw [Array.getElem?_toList]
                simp only [Builtin.zeroCells, Array.getElem?_map, Array.getElem?_range, if_pos hlt, Option.map_some, hmod]
                rw [getElem!_pos z.cells l hll]
                have := (List.getElem?_eq_some_iff.1 g3).2
                simp at this
                rw [this]
              obtain ⟨w', hrun, s2, x2⟩ := s.writes hk off (List.replicate n (zerosOf z)).flatten (Builtin.zeroCells z.cells n).toList (by rw [hcsl, husl])
                (fun u hu => by
                  obtain ⟨j, hj, rfl⟩ := List.mem_iff_getElem.1 hu
                  have hjc : j < (List.replicate n (zerosOf z)).flatten.length := by rw [hcsl, ← husl]; exact hj
                  obtain ⟨u', g1, g2⟩ := hrel j _ (List.getElem?_eq_getElem hjc)
                  rw [List.getElem?_eq_getElem hj] at g1
                  cases g1
                  obtain ⟨i, l, cs, g3, g4, _⟩ := flatten_get hRW (List.getElem?_eq_getElem hjc)
                  exact free_one g2 (hRW.2 i cs l _ g3 g4)) hrel
                (fun j hj => by
                  rw [hcsl] at hj
                  have h4 := r3 _ hwf (j / inf.size) (j % inf.size) (Nat.lt_of_lt_of_le ((Nat.div_lt_iff_lt_mul hpos).2 hj) (by rw [hp]; exact (r2 _ hwf).2)) (Nat.mod_lt _ hpos)
                  have := Nat.div_add_mod j inf.size
                  rw [Nat.mul_comm] at this
                  rwa [show off + j / inf.size * inf.size + j % inf.size = off + j by omega] at h4) obj' b1 b2
                (fun o v hh => by
                  rcases b3 o v hh with ⟨i, j, cs, g1, g2, rfl⟩ | ⟨g1, g2⟩
                  · exact .inl ⟨i * inf.size + j, by omega, get_flatten hRW g1 g2⟩
                  · refine .inr ⟨fun j hj heq => ?_, g2⟩
                    rw [hcsl] at hj
                    refine g1 (j / inf.size) (j % inf.size) (by rw [← hp]; exact (Nat.div_lt_iff_lt_mul hpos).2 hj) (Nat.mod_lt _ hpos) ?_
                    have := Nat.div_add_mod j inf.size
                    rw [Nat.mul_comm] at this
                    omega)
              refine OpOk.value (u := .tuple #[]) (w' := w') ?_ ⟨e, by rw [Del.hp_set]; exact s2, by rw [Del.hp_set]; exact x2, .x _⟩
              rcases hor with ⟨h0, h0'⟩ | ⟨rfl, _⟩
              · have hw : w' = w := by
                  have := hrun P
                  rw [h0] at this
                  simp [Builtin.zeroCells, storeCells] at this
                  exact this.symm
                rw [hw]
                rw [h0] at hxv
                cases a <;> simp [execOp, hx, resolve, hc, toList_one ha, toList_one hty, invoke, builtin, hxv, Builtin.clear_, run_underlying hu]
              · have hrun' := hrun P
                by_cases hn0 : n = 0
                · subst hn0
                  have hw : w' = w := by
                    simp [Builtin.zeroCells, storeCells] at hrun'
                    exact hrun'.symm
                  rw [hw]
                  simp [execOp, hx, resolve, hc, toList_one ha, toList_one hty, invoke, builtin, hxv, Builtin.clear_, run_underlying hu]
                · obtain ⟨m, rfl⟩ : ∃ m, n = m + 1 := ⟨n - 1, by omega⟩
                  rw [show (e.β k).2 + off = (e.β k).2 + off + 0 * inf.size by omega] at hrun'
                  simp [execOp, hx, resolve, hc, toList_one ha, toList_one hty, invoke, builtin, hxv, Builtin.clear_, run_underlying hu, zeroValue, typeInfo, hinf, hz] at hrun' ⊢
                  simp [hrun']
            · cases h
          · cases h
        · cases h
      · cases h
    · cases h
  · cases h
end Sx
