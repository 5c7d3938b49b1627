/- Addresses, loads, stores. -/
import Derived.Test.YthimhmocgnnaiaaDoorSxE
namespace Sx
open Go

theorem list_choose {p : Nat → Value → Prop} : ∀ (n : Nat), (∀ j, j < n → ∃ u, p j u) → ∃ us : List Value, us.length = n ∧ ∀ j, j < n → ∃ u, us[j]? = some u ∧ p j u := by
  intro n
  induction n with
  | zero => intro _; exact ⟨[], rfl, fun j hj => absurd hj (Nat.not_lt_zero _)⟩
  | succ n ih =>
    intro h
    obtain ⟨us, h1, h2⟩ := ih fun j hj => h j (Nat.lt_succ_of_lt hj)
    obtain ⟨u, hu⟩ := h n (Nat.lt_succ_self n)
    refine ⟨us ++ [u], by simp [h1], fun j hj => ?_⟩
    by_cases hjn : j < n
    · obtain ⟨u', h3, h4⟩ := h2 j hjn
      exact ⟨u', by rw [List.getElem?_append_left (by omega)]; exact h3, h4⟩
    · have : j = n := by omega
      subst this
      exact ⟨u, by rw [List.getElem?_append_right (by omega), h1]; simp, hu⟩

def aggOf (P : Program) (t : TypeId) : Option Bool := (P.underlying t).map fun
  | .struct _ | .array _ _ => true
  | _ => false

theorem run_isAgg' {P : Program} {t : TypeId} {b : Bool} (h : aggOf P t = some b) (w : World) : (isAgg t).run P w = .ok b w := by
  unfold aggOf at h
  simp only [Option.map_eq_some_iff] at h
  obtain ⟨d, h1, h2⟩ := h
  subst h2
  simp only [isAgg, Sem.run_bind, run_underlying h1, Result.andThen_ok]
  cases d <;> rfl

theorem run_sizeOf' {P : Program} {t : TypeId} {inf : TypeInfo} (h : P.info? t = some inf) (w : World) : (Go.sizeOf t).run P w = .ok inf.size w := by
  simp [Go.sizeOf, typeInfo, h]

def rowsOf (o : O) (off esz : Nat) : Option (List (List C)) :=
  match o with
  | .arr ez xs => if off = 0 ∧ ez = esz then some xs else none
  | .cells ss => match rowAt ss off with
    | some (_, ez, xs) => if ez = esz then some xs else none
    | none => none
  | .dead => none

def setRows (o : O) (off : Nat) (ys : List (List C)) : Option O :=
  match o with
  | .arr ez _ => some (.arr ez ys)
  | .cells ss => (setRow ss off ys).map .cells
  | .dead => none

theorem rowsOf_spec {obj : O} {off esz : Nat} {xs : List (List C)} (h : rowsOf obj off esz = some xs) :
    (∀ (i j : Nat) (cs : List C) (v : C), xs[i]? = some cs → cs[j]? = some v → Has obj (off + i * esz + j) v) ∧
    (∀ κ, Wf κ obj → RWf esz xs ∧ xs.length ≤ κ off) ∧ ∀ κ, Wf κ obj → ∀ i j, i < κ off → j < esz → Cov κ obj (off + i * esz + j) := by
  unfold rowsOf at h
  split at h
  · rename_i ez ys
    split at h
    · rename_i hc
      cases h
      obtain ⟨rfl, rfl⟩ := hc
      refine ⟨fun i j cs v h1 h2 => ⟨i, j, cs, h1, h2, rfl⟩, fun κ hw => ⟨hw.2, hw.1⟩, fun κ hw i j hi hj => ?_⟩
      have : i * ez + ez ≤ κ 0 * ez := by
        have := Nat.mul_le_mul_right ez (Nat.succ_le_of_lt hi); rw [Nat.succ_mul] at this; exact this
      show 0 + i * ez + j < κ 0 * ez
      omega
    · cases h
  · rename_i ss
    split at h
    · rename_i n ez ys hr
      split at h
      · rename_i hc
        cases h
        subst hc
        obtain ⟨h1, h2, h3⟩ := rowAt_spec ss off n ez xs 0 hr
        simp only [Nat.zero_add] at h1 h2 h3
        refine ⟨h1, fun κ hw => ⟨(h2 κ hw).2.2, by rw [(h2 κ hw).1, (h2 κ hw).2.1]; exact Nat.le_refl _⟩, fun κ hw i j hi hj => h3 _ (by omega) ?_⟩
        rw [(h2 κ hw).2.1] at hi
        have : i * ez + ez ≤ n * ez := by
          have := Nat.mul_le_mul_right ez (Nat.succ_le_of_lt hi); rw [Nat.succ_mul] at this; exact this
        omega
      · cases h
    · cases h
  · cases h

/-- One element of a row is changed. -/
theorem setRows_spec {obj obj' : O} {off esz : Nat} {xs ys : List (List C)} (h : rowsOf obj off esz = some xs) (h' : setRows obj off ys = some obj') (hlen : ys.length = xs.length) (hw : RWf esz ys) {κ : Nat → Nat} (hwf : Wf κ obj) :
    (∀ o, Cov κ obj' o ↔ Cov κ obj o) ∧ Wf κ obj' ∧ ∀ o v, Has obj' o v → (∃ (i j : Nat) (cs : List C), ys[i]? = some cs ∧ cs[j]? = some v ∧ o = off + i * esz + j) ∨
      ((∀ i j, i < xs.length → j < esz → o ≠ off + i * esz + j) ∧ Has obj o v) := by
  unfold rowsOf at h
  split at h
  · rename_i ez zs
    split at h
    · rename_i hc
      cases h
      obtain ⟨rfl, rfl⟩ := hc
      cases h'
      exact ⟨fun o => Iff.rfl, ⟨by rw [hlen]; exact hwf.1, hw⟩, fun o v hh => .inl hh⟩
    · cases h
  · rename_i ss
    split at h
    · rename_i n ez zs hr
      split at h
      · rename_i hc
        cases h
        subst hc
        simp only [setRows, Option.map_eq_some_iff] at h'
        obtain ⟨ss', hs, rfl⟩ := h'
        obtain ⟨a1, a2, a3⟩ := setRow_spec ss off n ez xs ys ss' 0 hr hs
        have hn := (rowAt_spec ss off n ez xs 0 hr).2.1 κ hwf
        refine ⟨a1, a2 κ hwf (hlen.trans hn.1) hw, fun o v hh => ?_⟩
        rcases a3 κ o v hwf hh with ⟨i, j, cs, h1, h2, h3⟩ | ⟨h1, h2⟩
        · exact .inl ⟨i, j, cs, h1, h2, by simpa using h3⟩
        · refine .inr ⟨fun i j hi hj => ?_, h2⟩
          rw [hn.1] at hi
          have : i * ez + ez ≤ n * ez := by
            have := Nat.mul_le_mul_right ez (Nat.succ_le_of_lt hi); rw [Nat.succ_mul] at this; exact this
          omega
      · cases h
    · cases h
  · cases h

def coAddr (P : Program) (o : Oper) (ρ : Operand → T) : Option Del :=
  match o.op with
  | .fieldAddr t x f =>
    match P.underlying t with
    | some (.struct fs) => match fs[f]? with
      | some fd => match P.info? fd.type with
        | some inf => if inf.size = 0 then none else
          match ρ x with
          | .a (.s (.ref k off)) => some { val := .a (.s (.ref k (off + fd.offset))) }
          | .a (.s (.el k off esz i sub)) => some { val := .a (.s (.el k off esz i (sub + fd.offset))) }
          | .a (.s (.spt cs sub)) => some { val := .a (.s (.spt cs (sub + fd.offset))) }
          | _ => none
        | none => none
      | none => none
    | _ => none
  | _ => none

theorem add_none (b o n : Nat) : (⟨b, o, none⟩ : Addr).add n = ⟨b, o + n, none⟩ := by unfold Addr.add; split <;> simp_all

theorem coAddr_ok {P : Program} {g : Gl} {o : Oper} {τ : Operand → T} {ρ : Operand → Value} {w : World} {e : Env} {R : Pl} {H : List O} {d : Del} (s : Sat g w e R H)
    (hρ : ∀ x, RelT w e (Mut e R H) (τ x) (ρ x)) (h : coAddr P o τ = some d) : Does P g o ρ w e R H d := by
  unfold coAddr at h
  split at h
  · rename_i t x f hx
    split at h
    · rename_i fs hu
      split at h
      · rename_i fd hf
        split at h
        · rename_i inf hi
          split at h
          · cases h
          · rename_i hz
            have hr := hρ x
            split at h
            · rename_i k off hv
              rw [hv] at hr; cases h
              cases hr' : ρ x <;> (rw [hr'] at hr; cases hr)
              exact Does.val s (u := .pointer (some ⟨(e.β k).1, (e.β k).2 + (off + fd.offset), none⟩))
                (by simp [execOp, hx, hr', Instr.fieldAt, run_underlying hu, hf, Instr.sureAddr, fieldPlace, run_sizeOf' hi, hz, add_none, Nat.add_assoc]) (.ref k (off + fd.offset))
            · rename_i k off esz i sub hv
              rw [hv] at hr; cases h
              cases hr' : ρ x <;> (rw [hr'] at hr; cases hr)
              exact Does.val s (u := .pointer (some ⟨(e.β k).1, (e.β k).2 + off + i * esz + (sub + fd.offset), none⟩))
                (by simp [execOp, hx, hr', Instr.fieldAt, run_underlying hu, hf, Instr.sureAddr, fieldPlace, run_sizeOf' hi, hz, add_none, Nat.add_assoc]) (.el k off esz i (sub + fd.offset))
            · rename_i cs sub hv
              rw [hv] at hr; cases h
              cases hr' : ρ x <;> (rw [hr'] at hr; cases hr)
              rename_i b o' u hk hm hr
              exact Does.val s (u := .pointer (some ⟨b, o' + (sub + fd.offset), none⟩))
                (by simp [execOp, hx, hr', Instr.fieldAt, run_underlying hu, hf, Instr.sureAddr, fieldPlace, run_sizeOf' hi, hz, add_none, Nat.add_assoc]) (.spt cs (sub + fd.offset) b o' u hk hm hr)
            · cases h
        · cases h
      · cases h
    · cases h
  · cases h

def coLoad (P : Program) (o : Oper) (ρ : Operand → T) (H : Nat → Option O) (it : It) : Option (Del × Prop) :=
  match o.op with
  | .load t x =>
    match P.info? t, aggOf P t, ρ x with
    | some inf, some ag, .a (.s (.ref k off)) => match H k with
      | some (.cells ss) =>
        if ag then (getR ss off inf.size).map fun cs => ({ val := .a (.g cs) }, True)
        else (getC ss off).map fun c => ({ val := .a (.s c) }, True)
      | _ => none
    | some inf, some ag, .a (.s (.el k off esz i sub)) => match H k, it with
      | some obj, .e cs => match rowsOf obj off esz with
        | some xs =>
          if ag then (if sub + inf.size ≤ cs.length then some ({ val := .a (.g ((cs.drop sub).take inf.size)) }, xs[i]? = some cs) else none)
          else (cs[sub]?).map fun c => ({ val := .a (.s c) }, xs[i]? = some cs)
        | none => none
      | _, _ => none
    | some inf, some ag, .a (.s (.spt cs sub)) =>
      if ag then (if sub + inf.size ≤ cs.length then some ({ val := .a (.g ((cs.drop sub).take inf.size)) }, True) else none)
      else (cs[sub]?).map fun c => ({ val := .a (.s c) }, True)
    | _, _, _ => none
  | _ => none

theorem run_loadAt_agg {P : Program} {t : TypeId} {inf : TypeInfo} (hi : P.info? t = some inf) (ha : aggOf P t = some true) (w : World) (a : Addr) (us : List Value) (hl : us.length = inf.size)
    (h : ∀ (j : Nat) (v : Value), us[j]? = some v → w.cell? (a.add j) = some v) : (Instr.loadAt t (.pointer (some a))).run P w = .ok (.agg us.toArray) w := by
  have := run_loadCells_list (P := P) w a us h
  rw [hl] at this
  simp [Instr.loadAt, Instr.sureAddr, loadVar, run_isAgg' ha, run_sizeOf' hi, this]

theorem run_loadAt_one {P : Program} {t : TypeId} (ha : aggOf P t = some false) (w : World) (a : Addr) (v : Value) (h : w.cell? a = some v) :
    (Instr.loadAt t (.pointer (some a))).run P w = .ok v w := by
  simp [Instr.loadAt, Instr.sureAddr, loadVar, run_isAgg' ha, h]

/-- A run of places that are known, loaded whole. -/
theorem load_agg {P : Program} {g : Gl} {o : Oper} {ρ : Operand → Value} {w : World} {e : Env} {R : Pl} {H : List O} (s : Sat g w e R H) {t : TypeId} {x : Operand} (hx : o.op = .load t x) {inf : TypeInfo}
    (hi : P.info? t = some inf) (ha : aggOf P t = some true) {b q : Nat} (hr : ρ x = .pointer (some ⟨b, q, none⟩)) (cs : List C) (hl : cs.length = inf.size)
    (h : ∀ (j : Nat) (c : C), cs[j]? = some c → ∃ u, w.cell? ⟨b, q + j, none⟩ = some u ∧ Rel w e (Mut e R H) c u) : Does P g o ρ w e R H { val := .a (.g cs) } := by
  obtain ⟨us, h1, h2⟩ := list_choose (p := fun j u => w.cell? ⟨b, q + j, none⟩ = some u ∧ ∀ c, cs[j]? = some c → Rel w e (Mut e R H) c u) cs.length fun j hj => by
    obtain ⟨u, h1, h2⟩ := h j cs[j] (List.getElem?_eq_getElem hj)
    exact ⟨u, h1, fun c hc => by rw [List.getElem?_eq_getElem hj] at hc; cases hc; exact h2⟩
  refine Does.val s (u := .agg us.toArray) ?_ ⟨us, rfl, h1, fun j c hj => ?_⟩
  · have := run_loadAt_agg hi ha w ⟨b, q, none⟩ us (h1.trans hl) (fun j v hj => by
      have hjl := (List.getElem?_eq_some_iff.1 hj).1
      obtain ⟨u, h3, h4, _⟩ := h2 j (h1 ▸ hjl)
      rw [hj] at h3; cases h3
      rw [add_none]; exact h4)
    simp [execOp, hx, hr, this]
  · have hjl := (List.getElem?_eq_some_iff.1 hj).1
    obtain ⟨u, h3, _, h5⟩ := h2 j hjl
    exact ⟨u, h3, h5 c hj⟩

theorem load_one {P : Program} {g : Gl} {o : Oper} {ρ : Operand → Value} {w : World} {e : Env} {R : Pl} {H : List O} (s : Sat g w e R H) {t : TypeId} {x : Operand} (hx : o.op = .load t x)
    (ha : aggOf P t = some false) {b q : Nat} (hr : ρ x = .pointer (some ⟨b, q, none⟩)) {c : C} {u : Value}
    (h1 : w.cell? ⟨b, q, none⟩ = some u) (h2 : Rel w e (Mut e R H) c u) : Does P g o ρ w e R H { val := .a (.s c) } :=
  Does.val s (u := u) (by simp [execOp, hx, hr, run_loadAt_one ha w _ _ h1]) h2

theorem slice_get {α : Type} (cs : List α) (sub n j : Nat) (c : α) (h : ((cs.drop sub).take n)[j]? = some c) : cs[sub + j]? = some c := by
  rw [List.getElem?_take] at h
  split at h
  · rw [List.getElem?_drop] at h; exact h
  · cases h

theorem coLoad_ok {P : Program} {g : Gl} {o : Oper} {τ : Operand → T} {ρ : Operand → Value} {w : World} {e : Env} {R : Pl} {H : List O} {d : Del} {p : Prop} {it : It} (s : Sat g w e R H)
    (hρ : ∀ x, RelT w e (Mut e R H) (τ x) (ρ x)) (h : coLoad P o τ (fun k => H[k]?) it = some (d, p)) (hp : p) : Does P g o ρ w e R H d := by
  unfold coLoad at h
  split at h
  · rename_i t x hx
    split at h
    · rename_i inf ag k off hi ha hv
      have hr := hρ x
      rw [hv] at hr
      split at h
      · rename_i ss hk
        cases ag
        · simp only [Bool.false_eq_true, if_false, Option.map_eq_some_iff, Prod.mk.injEq] at h
          obtain ⟨c, h1, rfl, rfl⟩ := h
          obtain ⟨u, h2, h3⟩ := s.has k _ off c hk (by have := getC_has ss off c 0 h1; rw [Nat.zero_add] at this; exact this)
          cases hr' : ρ x <;> (rw [hr'] at hr; cases hr)
          exact load_one s hx ha hr' h2 h3
        · simp only [if_true, Option.map_eq_some_iff, Prod.mk.injEq] at h
          obtain ⟨cs, h1, rfl, rfl⟩ := h
          obtain ⟨h2, h3⟩ := getR_spec ss inf.size off cs h1
          cases hr' : ρ x <;> (rw [hr'] at hr; cases hr)
          refine load_agg s hx hi ha hr' cs h2 fun j c hj => ?_
          obtain ⟨u, h4, h5⟩ := s.has k _ (off + j) c hk (h3 j c hj)
          exact ⟨u, by rw [Nat.add_assoc]; exact h4, h5⟩
      · cases h
    · rename_i inf ag k off esz i sub hi ha hv
      have hr := hρ x
      rw [hv] at hr
      split at h
      · rename_i obj cs hk
        split at h
        · rename_i xs hxs
          obtain ⟨r1, r2, r3⟩ := rowsOf_spec hxs
          cases hr' : ρ x <;> (rw [hr'] at hr; cases hr)
          cases ag
          · simp only [Bool.false_eq_true, if_false, Option.map_eq_some_iff, Prod.mk.injEq] at h
            obtain ⟨c, h1, rfl, rfl⟩ := h
            obtain ⟨u, h2, h3⟩ := s.has k _ _ c hk (r1 i sub cs c hp h1)
            exact load_one s hx ha hr' (by rw [← h2]; congr 2; omega) h3
          · simp only [if_true] at h
            split at h
            · rename_i hle
              simp only [Option.some.injEq, Prod.mk.injEq] at h
              obtain ⟨rfl, rfl⟩ := h
              refine load_agg s hx hi ha hr' _ (by simp; omega) fun j c hj => ?_
              obtain ⟨u, h2, h3⟩ := s.has k _ _ c hk (r1 i (sub + j) cs c hp (slice_get cs sub _ j c hj))
              exact ⟨u, by rw [← h2]; congr 2; omega, h3⟩
            · cases h
        · cases h
      · cases h
    · rename_i inf ag cs sub hi ha hv
      have hr := hρ x
      rw [hv] at hr
      cases hr' : ρ x <;> (rw [hr'] at hr; cases hr)
      rename_i b q u hk hm hrr
      cases ag
      · simp only [Bool.false_eq_true, if_false, Option.map_eq_some_iff, Prod.mk.injEq] at h
        obtain ⟨c, h1, rfl, rfl⟩ := h
        exact load_one s hx ha hr' (hm sub c h1).1 (hrr sub c h1)
      · simp only [if_true] at h
        split at h
        · rename_i hle
          simp only [Option.some.injEq, Prod.mk.injEq] at h
          obtain ⟨rfl, rfl⟩ := h
          refine load_agg s hx hi ha hr' _ (by simp; omega) fun j c hj => ?_
          have hj' := slice_get cs sub _ j c hj
          exact ⟨u (sub + j), by rw [Nat.add_assoc]; exact (hm _ c hj').1, hrr _ c hj'⟩
        · cases h
    · cases h
  · cases h

def coStore (P : Program) (o : Oper) (ρ : Operand → T) (H : Nat → Option O) (it : It) : Option (Del × Prop) :=
  match o.op with
  | .store t x y =>
    match P.info? t, ρ y with
    | some inf, .a v =>
      if v.cells.all C.st && v.cells.length == inf.size then
        match ρ x with
        | .a (.s (.ref k off)) => match H k with
          | some (.cells ss) => (setR ss off v.cells).map fun ss' => ({ val := T.x, sets := [(k, .cells ss')] }, True)
          | _ => none
        | .a (.s (.el k off esz i sub)) => match H k, it with
          | some obj, .es cs qs => match rowsOf obj off esz with
            | some xs =>
              if sub + v.cells.length ≤ cs.length ∧ v.cells.all C.free = true then
                (setRows obj off qs).map fun obj' => ({ val := T.x, sets := [(k, obj')] }, xs[i]? = some cs ∧ xs.set i (cs.take sub ++ v.cells ++ cs.drop (sub + v.cells.length)) = qs)
              else none
            | none => none
          | _, _ => none
        | _ => none
      else none
    | _, _ => none
  | _ => none

theorem st_known {c : C} (h : c.st = true) : c.known = true := by cases c <;> first | rfl | cases h

theorem run_storeAt' {P : Program} {t : TypeId} {inf : TypeInfo} (hi : P.info? t = some inf) {w w' : World} {a : Addr} {v : Value} (hl : v.cells.toList.length = inf.size)
    (h : (storeCells a v.cells.toList).run P w = .ok () w') : (Instr.storeAt t (.pointer (some a)) v).run P w = .ok () w' := by
  have : ¬ v.cells.size ≠ inf.size := by simpa using hl
  simp only [Instr.storeAt, Instr.sureAddr, storeVar, Sem.run_bind, Sem.run_pure, Result.andThen_ok, run_sizeOf' hi, if_neg this, h]

theorem splice_get (cs ds : List C) (sub j : Nat) (v : C) (hle : sub + ds.length ≤ cs.length) (h : (cs.take sub ++ ds ++ cs.drop (sub + ds.length))[j]? = some v) :
    (∃ i, j = sub + i ∧ ds[i]? = some v) ∨ ((∀ i, i < ds.length → j ≠ sub + i) ∧ cs[j]? = some v) := by
  rw [List.append_assoc] at h
  rcases Nat.lt_or_ge j sub with hj | hj
  · rw [List.getElem?_append_left (by simp; omega), List.getElem?_take] at h
    rw [if_pos hj] at h
    exact .inr ⟨fun i _ => by omega, h⟩
  · rw [List.getElem?_append_right (by simp; omega)] at h
    simp only [List.length_take, Nat.min_eq_left (by omega : sub ≤ cs.length)] at h
    rcases Nat.lt_or_ge (j - sub) ds.length with hj' | hj'
    · rw [List.getElem?_append_left hj'] at h
      exact .inl ⟨j - sub, by omega, h⟩
    · rw [List.getElem?_append_right hj', List.getElem?_drop] at h
      refine .inr ⟨fun i hi => by omega, ?_⟩
      rwa [show sub + ds.length + (j - sub - ds.length) = j by omega] at h

theorem splice_free {cs ds : List C} {sub : Nat} (h1 : ∀ (j : Nat) (c : C), cs[j]? = some c → c.free = true) (h2 : ds.all C.free = true) (hle : sub + ds.length ≤ cs.length) :
    ∀ (j : Nat) (c : C), (cs.take sub ++ ds ++ cs.drop (sub + ds.length))[j]? = some c → c.free = true := by
  intro j c h
  rcases splice_get cs ds sub j c hle h with ⟨i, _, hi⟩ | ⟨_, hc⟩
  · exact List.all_eq_true.1 h2 _ (List.mem_of_getElem? hi)
  · exact h1 j c hc

theorem coStore_ok {P : Program} {g : Gl} {o : Oper} {τ : Operand → T} {ρ : Operand → Value} {w : World} {e : Env} {R : Pl} {H : List O} {d : Del} {p : Prop} {it : It} (s : Sat g w e R H)
    (hρ : ∀ x, RelT w e (Mut e R H) (τ x) (ρ x)) (h : coStore P o τ (fun k => H[k]?) it = some (d, p)) (hp : p) : Does P g o ρ w e R H d := by
  unfold coStore at h
  split at h
  · rename_i t x y hx
    split at h
    · rename_i inf v hi hy
      split at h
      · rename_i hc
        simp only [Bool.and_eq_true, beq_iff_eq] at hc
        obtain ⟨hst, hsz⟩ := hc
        have hry := hρ y
        rw [hy] at hry
        have hcells := RelA.cells hry (by rw [List.all_eq_true] at hst ⊢; exact fun c hc => st_known (hst c hc))
        have hone := hcells.one hst
        have hrx := hρ x
        split at h
        · rename_i k off hv
          rw [hv] at hrx
          split at h
          · rename_i ss hk
            simp only [Option.map_eq_some_iff, Prod.mk.injEq] at h
            obtain ⟨ss', h1, rfl, rfl⟩ := h
            obtain ⟨a1, a2, a3, a4⟩ := setR_spec v.cells ss off ss' h1
            obtain ⟨w', hrun, hs', hx'⟩ := s.writes hk off v.cells (ρ y).cells.toList hcells.1 hone hcells.2 (fun j hj => a3 j hj) (.cells ss') (fun q => a1 q) (a2 _ (s.wf k _ hk)) (fun q v hh => a4 _ q v (s.wf k _ hk) hh)
            cases hr' : ρ x <;> (rw [hr'] at hrx; cases hrx)
            refine OpOk.skip (w' := w') ?_ ⟨e, by rw [Del.hp_set]; exact hs', by rw [Del.hp_set]; exact hx', .x _⟩
            have := run_storeAt' hi (v := ρ y) (hcells.1.trans hsz) (hrun P)
            simp [execOp, hx, hr', this]
          · cases h
        · rename_i k off esz i sub hv
          rw [hv] at hrx
          split at h
          · rename_i obj cs qs hk
            split at h
            · rename_i xs hxs
              split at h
              · rename_i hcc
                obtain ⟨hle, hfree⟩ := hcc
                simp only [Option.map_eq_some_iff, Prod.mk.injEq] at h
                obtain ⟨obj', h1, rfl, rfl⟩ := h
                obtain ⟨hp, rfl⟩ := hp
                obtain ⟨r1, r2, r3⟩ := rowsOf_spec hxs
                have hwf := s.wf k _ hk
                obtain ⟨q1, q2⟩ := r2 _ hwf
                have hil : i < xs.length := (List.getElem?_eq_some_iff.1 hp).1
                have hcl : cs.length = esz := q1.1 i cs hp
                have hRW : RWf esz (xs.set i (cs.take sub ++ v.cells ++ cs.drop (sub + v.cells.length))) := by
                  refine ⟨fun i' cs' h' => ?_, fun i' cs' j c h' hj => ?_⟩
                  · rcases set_get xs i i' _ cs' h' with ⟨_, rfl⟩ | ⟨_, h'⟩
                    · simp; omega
                    · exact q1.1 i' cs' h'
                  · rcases set_get xs i i' _ cs' h' with ⟨_, rfl⟩ | ⟨_, h'⟩
                    · exact splice_free (q1.2 i cs · · hp) hfree hle j c hj
                    · exact q1.2 i' cs' j c h' hj
                obtain ⟨b1, b2, b3⟩ := setRows_spec hxs h1 (by simp) hRW hwf
                obtain ⟨w', hrun, hs', hx'⟩ := s.writes hk (off + i * esz + sub) v.cells (ρ y).cells.toList hcells.1 hone hcells.2
                  (fun j hj => by rw [Nat.add_assoc]; exact r3 _ hwf i (sub + j) (by omega) (by omega)) obj' b1 b2 (fun q u hh => by
                    rcases b3 q u hh with ⟨i', j, cs', h1, h2, rfl⟩ | ⟨h1, h2⟩
                    · rcases set_get xs i i' _ cs' h1 with ⟨rfl, rfl⟩ | ⟨hne, h1⟩
                      · rcases splice_get cs v.cells sub j u hle h2 with ⟨i2, rfl, h3⟩ | ⟨h3, h4⟩
                        · exact .inl ⟨i2, by omega, h3⟩
                        · refine .inr ⟨fun j' hj' heq => h3 j' hj' (by omega), r1 i' j cs u hp h4⟩
                      · refine .inr ⟨fun j' hj' heq => ?_, r1 i' j cs' u h1 h2⟩
                        have hjl := (List.getElem?_eq_some_iff.1 h2).1
                        rw [q1.1 i' cs' h1] at hjl
                        apply hne
                        rcases Nat.lt_trichotomy i' i with hlt | heq | hgt
                        · have := Nat.mul_le_mul_right esz (Nat.succ_le_of_lt hlt); rw [Nat.succ_mul] at this; omega
                        · exact heq
                        · have := Nat.mul_le_mul_right esz (Nat.succ_le_of_lt hgt); rw [Nat.succ_mul] at this; omega
                    · exact .inr ⟨fun j' hj' heq => h1 i (sub + j') hil (by omega) (by omega), h2⟩)
                cases hr' : ρ x <;> (rw [hr'] at hrx; cases hrx)
                refine OpOk.skip (w' := w') ?_ ⟨e, by rw [Del.hp_set]; exact hs', by rw [Del.hp_set]; exact hx', .x _⟩
                have hrun' := hrun P
                rw [show (e.β k).2 + (off + i * esz + sub) = (e.β k).2 + off + i * esz + sub by omega] at hrun'
                have := run_storeAt' hi (v := ρ y) (hcells.1.trans hsz) hrun'
                simp [execOp, hx, hr', this]
              · cases h
            · cases h
          · cases h
        · cases h
      · cases h
    · cases h
  · cases h
end Sx
