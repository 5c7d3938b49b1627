/- Fields of aggregates, elements' addresses, lengths, slices, shifts and divisions. -/
import Derived.Test.YthimhmocgnnaiaaDoorSxF
namespace Sx
open Go

def coField (P : Program) (o : Oper) (ρ : Operand → T) : Option Del :=
  match o.op with
  | .field t x f =>
    match P.underlying t, ρ x with
    | some (.struct fs), .a (.g cs) => match fs[f]? with
      | some fd => match P.info? fd.type, aggOf P fd.type with
        | some inf, some true => if fd.offset + inf.size ≤ cs.length then some { val := .a (.g ((cs.drop fd.offset).take inf.size)) } else none
        | some _, some false => (cs[fd.offset]?).map fun c => { val := .a (.s c) }
        | _, _ => none
      | none => none
    | _, _ => none
  | _ => none

theorem RelL.slice {w : World} {e : Env} {M : Pl} {cs : List C} {us : List Value} (h : RelL w e M cs us) (sub n : Nat) : RelL w e M ((cs.drop sub).take n) ((us.drop sub).take n) := by
  refine ⟨by simp [h.1], fun j c hj => ?_⟩
  obtain ⟨u, h1, h2⟩ := h.2 _ c (slice_get cs sub n j c hj)
  refine ⟨u, ?_, h2⟩
  have hjl := (List.getElem?_eq_some_iff.1 hj).1
  simp at hjl
  rw [List.getElem?_take, if_pos (by omega), List.getElem?_drop]
  exact h1

theorem coField_ok {P : Program} {g : Gl} {o : Oper} {τ : Operand → T} {ρ : Operand → Value} {w : World} {e : Env} {R : Pl} {H : List O} {d : Del} (s : Sat g w e R H)
    (hρ : ∀ x, RelT w e (Mut e R H) (τ x) (ρ x)) (h : coField P o τ = some d) : Does P g o ρ w e R H d := by
  unfold coField at h
  split at h
  · rename_i t x f hx
    split at h
    · rename_i fs cs hu hv
      have hr := hρ x
      rw [hv] at hr
      obtain ⟨us, h1, h2⟩ := hr
      split at h
      · rename_i fd hf
        split at h
        · rename_i inf hi ha
          split at h
          · rename_i hle
            cases h
            have := h2.slice fd.offset inf.size
            refine Does.val s (u := .agg ((us.drop fd.offset).take inf.size).toArray) ?_ ⟨_, rfl, this⟩
            simp [execOp, hx, h1, Instr.field, run_underlying hu, hf, asAgg, part, run_isAgg' ha, run_sizeOf' hi, List.take_drop]
          · cases h
        · rename_i inf hi ha
          simp only [Option.map_eq_some_iff] at h
          obtain ⟨c, hc, rfl⟩ := h
          obtain ⟨u, h3, h4⟩ := h2.2 _ c hc
          refine Does.val s (u := u) ?_ h4
          simp [execOp, hx, h1, Instr.field, run_underlying hu, hf, asAgg, part, run_isAgg' ha, h3]
        · cases h
      · cases h
    · cases h
  · cases h

theorem Rel.sl_inv {w : World} {e : Env} {M : Pl} {k off esz i n : Nat} {y : Value} (h : Rel w e M (.sl k off esz i n) y) :
    ∃ a cap, y = .slice a n cap ∧ n ≤ cap ∧ ((n = 0 ∧ cap = 0) ∨ (a = some ⟨(e.β k).1, (e.β k).2 + off + i * esz, none⟩ ∧ i + cap ≤ e.κ k off)) := by
  cases h with
  | sl0 k off esz i a => exact ⟨a, 0, rfl, Nat.le_refl _, .inl ⟨rfl, rfl⟩⟩
  | sl k off esz i n cap hn hc => exact ⟨_, cap, rfl, hn, .inr ⟨rfl, hc⟩⟩

theorem Rel.ssl_inv {w : World} {e : Env} {M : Pl} {esz : Nat} {xs : List (List C)} {y : Value} (h : Rel w e M (.ssl esz xs) y) :
    ∃ (a : Option Addr) (cap : Nat), y = .slice a xs.length cap ∧ xs.length ≤ cap ∧ (xs = [] ∨ ∃ (b o : Nat) (u : Nat → Nat → Value), a = some ⟨b, o, none⟩ ∧
      (∀ (i : Nat) (cs : List C), xs[i]? = some cs → cs.length = esz) ∧
      (∀ (i : Nat) (cs : List C) (j : Nat) (c : C), xs[i]? = some cs → cs[j]? = some c → c.free = true) ∧
      (∀ (i : Nat) (cs : List C) (j : Nat) (c : C), xs[i]? = some cs → cs[j]? = some c → w.cell? ⟨b, o + i * esz + j, none⟩ = some (u i j) ∧ ¬ M b (o + i * esz + j)) ∧
      ∀ (i : Nat) (cs : List C) (j : Nat) (c : C), xs[i]? = some cs → cs[j]? = some c → Rel w e M c (u i j)) := by
  cases h with
  | ssl0 esz a cap => exact ⟨a, cap, rfl, Nat.zero_le _, .inl rfl⟩
  | ssl esz xs b o cap u hn hl hk hm hr => exact ⟨_, cap, rfl, hn, .inr ⟨b, o, u, rfl, hl, hk, hm, hr⟩⟩

theorem toList_one {α : Type} {a : Array α} {x : α} (h : a.toList = [x]) : a = #[x] := by rw [← Array.toList_inj, h]
theorem toList_two {α : Type} {a : Array α} {x y : α} (h : a.toList = [x, y]) : a = #[x, y] := by rw [← Array.toList_inj, h]

def coIndexAddr (P : Program) (o : Oper) (ρ : Operand → T) (it : It) : Option (Del × Prop) :=
  match o.op with
  | .indexAddr t x i =>
    match P.underlying t, ρ x, (ρ i).lit with
    | some (.slice el), .a (.s (.sl k off esz i0 n)), some (.int _ iv) => match P.info? el with
      | some inf => if inf.size = esz then some ({ val := .a (.s (.el k off esz (i0 + iv.toNat) 0)) }, 0 ≤ iv ∧ iv < n) else none
      | none => none
    | some (.slice el), .a (.s (.ssl esz xs)), some (.int _ iv) => match P.info? el, it with
      | some inf, .e cs => if inf.size = esz then some ({ val := .a (.s (.spt cs 0)) }, 0 ≤ iv ∧ xs[iv.toNat]? = some cs) else none
      | _, _ => none
    | some (.array len el), .a (.s (.ref k off)), some (.int _ iv) => match P.info? el with
      | some inf => some ({ val := .a (.s (.el k off inf.size iv.toNat 0)) }, 0 ≤ iv ∧ iv < len)
      | none => none
    | _, _, _ => none
  | _ => none

theorem run_asIntOf (P : Program) (k : IntKind) (n : Int) (w : World) : (asIntOf (.int k n)).run P w = .ok (k, n) w := rfl

theorem coIndexAddr_ok {P : Program} {g : Gl} {o : Oper} {τ : Operand → T} {ρ : Operand → Value} {w : World} {e : Env} {R : Pl} {H : List O} {d : Del} {p : Prop} {it : It} (s : Sat g w e R H)
    (hρ : ∀ x, RelT w e (Mut e R H) (τ x) (ρ x)) (h : coIndexAddr P o τ it = some (d, p)) (hp : p) : Does P g o ρ w e R H d := by
  unfold coIndexAddr at h
  split at h
  · rename_i t x i hx
    split at h
    · rename_i el k off esz i0 n ik iv hu hv hi
      have hr := hρ x
      rw [hv] at hr
      have h2 := T.lit_rel hi (hρ i)
      split at h
      · rename_i inf hinf
        split at h
        · rename_i hsz
          simp only [Option.some.injEq, Prod.mk.injEq] at h
          obtain ⟨rfl, rfl⟩ := h
          obtain ⟨hp1, hp2⟩ := hp
          obtain ⟨a, cap, hr', hn, hz | ⟨rfl, hc⟩⟩ := Rel.sl_inv hr
          · omega
          · refine Does.val s (u := .pointer (some ⟨(e.β k).1, (e.β k).2 + off + (i0 + iv.toNat) * esz + 0, none⟩)) ?_ (.el k off esz (i0 + iv.toNat) 0)
            simp [execOp, hx, hr', h2, Instr.indexAt, run_asIntOf, run_underlying hu, hp1, hp2, run_sizeOf' hinf, hsz, add_none, Nat.add_mul, Nat.add_assoc]
        · cases h
      · cases h
    · rename_i el esz xs ik iv hu hv hi
      have hr := hρ x
      rw [hv] at hr
      have h2 := T.lit_rel hi (hρ i)
      split at h
      · rename_i inf cs hinf
        split at h
        · rename_i hsz
          simp only [Option.some.injEq, Prod.mk.injEq] at h
          obtain ⟨rfl, rfl⟩ := h
          obtain ⟨hp1, hp2⟩ := hp
          have hlt : iv.toNat < xs.length := (List.getElem?_eq_some_iff.1 hp2).1
          obtain ⟨a, cap, hr', hn, hz | ⟨b, q, u, rfl, hl, hk, hm, hrr⟩⟩ := Rel.ssl_inv hr
          · rw [hz] at hlt; simp at hlt
          · refine Does.val s (u := .pointer (some ⟨b, q + iv.toNat * esz + 0, none⟩)) ?_
              (.spt cs 0 b (q + iv.toNat * esz) (u iv.toNat) (fun j c hj => hk _ cs j c hp2 hj) (fun j c hj => hm _ cs j c hp2 hj) (fun j c hj => hrr _ cs j c hp2 hj))
            have hlt' : iv < (xs.length : Int) := by omega
            simp [execOp, hx, hr', h2, Instr.indexAt, run_asIntOf, run_underlying hu, hp1, hlt', run_sizeOf' hinf, hsz, add_none]
        · cases h
      · cases h
    · rename_i len el k off ik iv hu hv hi
      have hr := hρ x
      rw [hv] at hr
      have h2 := T.lit_rel hi (hρ i)
      split at h
      · rename_i inf hinf
        simp only [Option.some.injEq, Prod.mk.injEq] at h
        obtain ⟨rfl, rfl⟩ := h
        obtain ⟨hp1, hp2⟩ := hp
        cases hr' : ρ x <;> (rw [hr'] at hr; cases hr)
        refine Does.val s (u := .pointer (some ⟨(e.β k).1, (e.β k).2 + off + iv.toNat * inf.size + 0, none⟩)) ?_ (.el k off inf.size iv.toNat 0)
        simp [execOp, hx, hr', h2, Instr.indexAt, Instr.sureAddr, run_asIntOf, run_underlying hu, hp1, hp2, run_sizeOf' hinf, add_none]
      · cases h
    · cases h
  · cases h

def coLen (P : Program) (o : Oper) (ρ : Operand → T) : Option Del :=
  match o.op with
  | .call c => match c.callee, c.args.toList, c.argTypes.toList with
    | .builtin .len, [x], [t] =>
      match P.underlying t, ρ x with
      | some (.slice _), .a (.s (.sl _ _ _ _ n)) => some { val := .c (.int .i64 n) }
      | some (.slice _), .a (.s (.ssl _ xs)) => some { val := .c (.int .i64 xs.length) }
      | _, _ => none
    | _, _, _ => none
  | _ => none

theorem coLen_ok {P : Program} {g : Gl} {o : Oper} {τ : Operand → T} {ρ : Operand → Value} {w : World} {e : Env} {R : Pl} {H : List O} {d : Del} (s : Sat g w e R H)
    (hρ : ∀ x, RelT w e (Mut e R H) (τ x) (ρ x)) (h : coLen P o τ = some d) : Does P g o ρ w e R H d := by
  unfold coLen at h
  split at h
  · rename_i c hx
    split at h
    · rename_i x t hc ha ht
      have hr := hρ x
      split at h
      · rename_i el k off esz i n hu hv
        rw [hv] at hr; cases h
        obtain ⟨a, cap, hr', _⟩ := Rel.sl_inv hr
        exact Does.val s (u := .int .i64 n) (by simp [execOp, hx, resolve, hc, toList_one ha, toList_one ht, invoke, builtin, hr', Builtin.len_, run_underlying hu, goInt]) (.c _)
      · rename_i el esz xs hu hv
        rw [hv] at hr; cases h
        obtain ⟨a, cap, hr', _⟩ := Rel.ssl_inv hr
        exact Does.val s (u := .int .i64 xs.length) (by simp [execOp, hx, resolve, hc, toList_one ha, toList_one ht, invoke, builtin, hr', Builtin.len_, run_underlying hu, goInt]) (.c _)
      · cases h
    · cases h
  · cases h

/-! ### s[l:h] -/
def boundOf (ρ : Operand → T) (dflt : Int) : Option Operand → Option Int
  | none => some dflt
  | some x => match (ρ x).lit with
    | some (.int _ n) => some n
    | _ => none

theorem boundOf_run {P : Program} {τ : Operand → T} {ρ : Operand → Value} {w : World} {e : Env} {M : Pl} (hρ : ∀ x, RelT w e M (τ x) (ρ x)) {x : Operand} {n : Int} {dflt : Int} (h : boundOf τ dflt (some x) = some n)
    (y : Nat) (code : BoundsCode) (h0 : 0 ≤ n) (h1 : n ≤ y) : (Instr.sliceBound (ρ x) y code).run P w = .ok n.toNat w := by
  simp only [boundOf] at h
  split at h
  · rename_i k m hm
    cases h
    rw [T.lit_rel hm (hρ x)]
    simp [Instr.sliceBound, run_asIntOf, h0, h1]
  · cases h

/-- The bounds of a slice that reaches cap places, of which the first len are told of. -/
theorem bounds_run {P : Program} {τ : Operand → T} {ρ : Operand → Value} {w : World} {e : Env} {M : Pl} (hρ : ∀ x, RelT w e M (τ x) (ρ x)) {lo hi mx : Option Operand} {l h m : Int} {len cap : Nat} (b : Bool)
    (hl : boundOf τ 0 lo = some l) (hh : boundOf τ len hi = some h) (hm : boundOf τ cap mx = some m) (hmx : mx.isSome = true → hi.isSome = true)
    (h0 : 0 ≤ l) (h1 : l ≤ h) (h2 : h ≤ len) (_ : len ≤ cap) (h4 : h ≤ m) (h5 : m ≤ cap) :
    (Instr.sliceBounds b len cap (lo.map ρ) (hi.map ρ) (mx.map ρ)).run P w = .ok (l.toNat, h.toNat, m.toNat) w := by
  have el : ∀ (y : Nat) code, h ≤ y → lo.isSome = true → ∀ x, lo = some x → (Instr.sliceBound (ρ x) y code).run P w = .ok l.toNat w := fun y code hy _ x hx => by
    subst hx; exact boundOf_run hρ hl y code h0 (by omega)
  have eh : ∀ (y : Nat) code, h ≤ y → ∀ x, hi = some x → (Instr.sliceBound (ρ x) y code).run P w = .ok h.toNat w := fun y code hy x hx => by
    subst hx; exact boundOf_run hρ hh y code (by omega) hy
  have em : ∀ code x, mx = some x → (Instr.sliceBound (ρ x) cap code).run P w = .ok m.toNat w := fun code x hx => by
    subst hx; exact boundOf_run hρ hm cap code (by omega) h5
  unfold Instr.sliceBounds
  cases mx with
  | none =>
    simp only [boundOf, Option.some.injEq] at hm
    subst hm
    cases hi with
    | none =>
      simp only [boundOf, Option.some.injEq] at hh
      subst hh
      cases lo with
      | none => simp only [boundOf, Option.some.injEq] at hl; subst hl; simp
      | some x => simp [el len _ (by omega) rfl x rfl]
    | some y =>
      cases lo with
      | none => simp only [boundOf, Option.some.injEq] at hl; subst hl; simp [eh cap _ (by omega) y rfl]
      | some x => simp [eh cap _ (by omega) y rfl, el h.toNat _ (by omega) rfl x rfl]
  | some z =>
    cases hi with
    | none => exact absurd (hmx rfl) (by simp)
    | some y =>
      cases lo with
      | none => simp only [boundOf, Option.some.injEq] at hl; subst hl; simp [em _ z rfl, eh m.toNat _ (by omega) y rfl]
      | some x => simp [em _ z rfl, eh m.toNat _ (by omega) y rfl, el h.toNat _ (by omega) rfl x rfl]

def cut {α : Type} (xs : List α) (i n : Nat) : List α := (xs.drop i).take n

def coSlice (P : Program) (o : Oper) (ρ : Operand → T) (H : Nat → Option O) : Option (Del × Prop) :=
  match o.op with
  | .slice t x lo hi mx =>
    match P.underlying t, ρ x with
    | some .string, .a (.s (.c (.string s))) =>
      match boundOf ρ 0 lo, boundOf ρ s.size hi, mx with
      | some l, some h, none => some ({ val := .c (.string (s.extract l.toNat h.toNat)) }, 0 ≤ l ∧ l ≤ h ∧ h ≤ s.size)
      | _, _, _ => none
    | some (.slice el), .a (.s (.sl k off esz i n)) =>
      match P.info? el with
      | some inf => if inf.size = esz then
          match boundOf ρ 0 lo, boundOf ρ n hi, mx with
          | some l, some h, none => some ({ val := .a (.s (.sl k off esz (i + l.toNat) (h - l).toNat)) }, 0 ≤ l ∧ l ≤ h ∧ h ≤ n)
          | some l, some h, some _ => match boundOf ρ 0 mx, hi with
            | some m, some _ => some ({ val := .a (.s (.sl k off esz (i + l.toNat) (h - l).toNat)) }, 0 ≤ l ∧ l ≤ h ∧ h ≤ n ∧ h ≤ m ∧ m ≤ n)
            | _, _ => none
          | _, _, _ => none
        else none
      | none => none
    | some (.slice el), .a (.s (.ssl esz xs)) =>
      match P.info? el with
      | some inf => if inf.size = esz then
          match boundOf ρ 0 lo, boundOf ρ xs.length hi, mx with
          | some l, some h, none => some ({ val := .a (.s (.ssl esz (cut xs l.toNat (h - l).toNat))) }, 0 ≤ l ∧ l ≤ h ∧ h ≤ xs.length)
          | _, _, _ => none
        else none
      | none => none
    | some (.array n el), .a (.s (.ref k off)) =>
      match P.info? el, lo, hi, mx with
      | some inf, none, none, none => match H k with
        | some (.cells ss) => match rowAt ss off with
          | some (m, esz, _) => if m = n ∧ inf.size = esz then some ({ val := .a (.s (.sl k off esz 0 n)) }, True) else none
          | none => none
        | _ => none
      | _, _, _, _ => none
    | _, _ => none
  | _ => none

theorem cut_get {α : Type} {xs : List α} {i n j : Nat} {c : α} (h : (cut xs i n)[j]? = some c) : xs[i + j]? = some c := slice_get xs i n j c h

theorem Rel.sl_mk {w : World} {e : Env} {M : Pl} {k off esz i n cap : Nat} {a : Option Addr} (h : Rel w e M (.sl k off esz i n) (.slice a n cap)) (l h' m : Nat) (h1 : l ≤ h') (h2 : h' ≤ m) (h4 : m ≤ cap) :
    Rel w e M (.sl k off esz (i + l) (h' - l)) (.slice (if m = l then a else a.map (·.add (l * esz))) (h' - l) (m - l)) := by
  by_cases hml : m = l
  · have : h' - l = 0 := by omega
    rw [this, if_pos hml, show m - l = 0 by omega]
    exact .sl0 _ _ _ _ _
  · rw [if_neg hml]
    cases h with
    | sl0 k off esz i a => omega
    | sl k off esz i n cap hn hc =>
      have : (some (⟨(e.β k).1, (e.β k).2 + off + i * esz, none⟩ : Addr)).map (·.add (l * esz)) = some ⟨(e.β k).1, (e.β k).2 + off + (i + l) * esz, none⟩ := by
        simp [add_none, Nat.add_mul, Nat.add_assoc]
      rw [this]
      exact .sl k off esz (i + l) (h' - l) (m - l) (by omega) (by omega)

theorem Rel.ssl_cut {w : World} {e : Env} {M : Pl} {esz cap : Nat} {xs : List (List C)} {a : Option Addr} (h : Rel w e M (.ssl esz xs) (.slice a xs.length cap)) (l h' : Nat) (h1 : l ≤ h') (h2 : h' ≤ xs.length) (hcap : xs.length ≤ cap) :
    Rel w e M (.ssl esz (cut xs l (h' - l))) (.slice (if cap = l then a else a.map (·.add (l * esz))) (h' - l) (cap - l)) := by
  have hlen : (cut xs l (h' - l)).length = h' - l := by simp [cut]; omega
  by_cases hz : h' - l = 0
  · have : cut xs l (h' - l) = [] := by rw [hz]; simp [cut]
    rw [this, hz]
    exact .ssl0 _ _ _
  · rw [if_neg (by omega)]
    cases h with
    | ssl0 esz a cap => simp at h2; omega
    | ssl esz xs b o cap u hn hl hk hm hr =>
      have : (some (⟨b, o, none⟩ : Addr)).map (·.add (l * esz)) = some ⟨b, o + l * esz, none⟩ := by simp [add_none]
      rw [this]
      have hb : ∀ i j, o + (l + i) * esz + j = o + l * esz + i * esz + j := fun i j => by rw [Nat.add_mul]; omega
      have key := Rel.ssl (w := w) (e := e) (M := M) esz (cut xs l (h' - l)) b (o + l * esz) (cap - l) (fun i j => u (l + i) j) (by rw [hlen]; omega)
        (fun i cs h => hl _ cs (cut_get h)) (fun i cs j c h1 h2 => hk _ cs j c (cut_get h1) h2)
        (fun i cs j c h1 h2 => by rw [← hb]; exact hm _ cs j c (cut_get h1) h2) (fun i cs j c h1 h2 => hr _ cs j c (cut_get h1) h2)
      rwa [hlen] at key

theorem coSlice_ok {P : Program} {g : Gl} {o : Oper} {τ : Operand → T} {ρ : Operand → Value} {w : World} {e : Env} {R : Pl} {H : List O} {d : Del} {p : Prop} (s : Sat g w e R H)
    (hρ : ∀ x, RelT w e (Mut e R H) (τ x) (ρ x)) (h : coSlice P o τ (fun k => H[k]?) = some (d, p)) (hp : p) : Does P g o ρ w e R H d := by
  unfold coSlice at h
  split at h
  · rename_i t x lo hi mx hx
    split at h
    · rename_i st hu hv
      have hr := hρ x
      rw [hv] at hr
      have hr' := Rel.c_eq hr
      split at h
      · rename_i l hh hl hhh
        simp only [Option.some.injEq, Prod.mk.injEq] at h
        obtain ⟨rfl, rfl⟩ := h
        obtain ⟨p1, p2, p3⟩ := hp
        have hb := bounds_run (P := P) hρ (mx := none) (m := st.size) (cap := st.size) false hl hhh rfl (by simp) p1 p2 p3 (Nat.le_refl _) p3 (Int.le_refl _)
        refine Does.val s (u := .string (st.extract l.toNat hh.toNat)) ?_ (.c _)
        simp only [Option.map_none] at hb
        simp [execOp, hx, hr', Instr.sliceAt, Instr.slice, run_underlying hu, hb]
      · cases h
    · rename_i el k off esz i n hu hv
      have hr := hρ x
      rw [hv] at hr
      split at h
      · rename_i inf hinf
        split at h
        · rename_i hsz
          obtain ⟨a, cap, hr', hcap, _⟩ := Rel.sl_inv hr
          rw [hr'] at hr
          split at h
          · rename_i l hh hl hhh
            simp only [Option.some.injEq, Prod.mk.injEq] at h
            obtain ⟨rfl, rfl⟩ := h
            obtain ⟨p1, p2, p3⟩ := hp
            have hb := bounds_run (P := P) hρ (mx := none) (m := cap) (cap := cap) true hl hhh rfl (by simp) p1 p2 p3 hcap (by omega) (Int.le_refl _)
            have hrel := Rel.sl_mk hr l.toNat hh.toNat cap (by omega) (by omega) (Nat.le_refl _)
            rw [show hh.toNat - l.toNat = (hh - l).toNat by omega] at hrel
            refine Does.val s (u := .slice (if cap = l.toNat then a else a.map (·.add (l.toNat * esz))) (hh - l).toNat (cap - l.toNat)) ?_ hrel
            simp only [Option.map_none] at hb
            simp [execOp, hx, hr', Instr.sliceAt, Instr.slice, run_underlying hu, hb, run_sizeOf' hinf, hsz, show hh.toNat - l.toNat = (hh - l).toNat by omega]
          · rename_i l hh z hl hhh
            split at h
            · rename_i m y hm
              simp only [Option.some.injEq, Prod.mk.injEq] at h
              obtain ⟨rfl, rfl⟩ := h
              obtain ⟨p1, p2, p3, p4, p5⟩ := hp
              have hm' : boundOf τ cap (some z) = some m := hm
              have hb := bounds_run (P := P) hρ (mx := some z) (m := m) (cap := cap) true hl hhh hm' (by simp) p1 p2 p3 hcap (by omega) (by omega)
              have hrel := Rel.sl_mk hr l.toNat hh.toNat m.toNat (by omega) (by omega) (by omega)
              rw [show hh.toNat - l.toNat = (hh - l).toNat by omega] at hrel
              refine Does.val s (u := .slice (if m.toNat = l.toNat then a else a.map (·.add (l.toNat * esz))) (hh - l).toNat (m.toNat - l.toNat)) ?_ hrel
              simp only [Option.map_some] at hb
              simp [execOp, hx, hr', Instr.sliceAt, Instr.slice, run_underlying hu, hb, run_sizeOf' hinf, hsz, show hh.toNat - l.toNat = (hh - l).toNat by omega]
            · cases h
          · cases h
        · cases h
      · cases h
    · rename_i el esz xs hu hv
      have hr := hρ x
      rw [hv] at hr
      split at h
      · rename_i inf hinf
        split at h
        · rename_i hsz
          obtain ⟨a, cap, hr', hcap, _⟩ := Rel.ssl_inv hr
          rw [hr'] at hr
          split at h
          · rename_i l hh hl hhh
            simp only [Option.some.injEq, Prod.mk.injEq] at h
            obtain ⟨rfl, rfl⟩ := h
            obtain ⟨p1, p2, p3⟩ := hp
            have hb := bounds_run (P := P) hρ (mx := none) (m := cap) (cap := cap) true hl hhh rfl (by simp) p1 p2 p3 hcap (by omega) (Int.le_refl _)
            have hrel := Rel.ssl_cut hr l.toNat hh.toNat (by omega) (by omega) hcap
            rw [show hh.toNat - l.toNat = (hh - l).toNat by omega] at hrel
            refine Does.val s (u := .slice (if cap = l.toNat then a else a.map (·.add (l.toNat * esz))) (hh - l).toNat (cap - l.toNat)) ?_ hrel
            simp only [Option.map_none] at hb
            simp [execOp, hx, hr', Instr.sliceAt, Instr.slice, run_underlying hu, hb, run_sizeOf' hinf, hsz, show hh.toNat - l.toNat = (hh - l).toNat by omega]
          · cases h
        · cases h
      · cases h
    · rename_i n el k off hu hv
      have hr := hρ x
      rw [hv] at hr
      split at h
      · rename_i inf hinf
        split at h
        · rename_i ss hk
          split at h
          · rename_i m esz xs hrow
            split at h
            · rename_i hc
              obtain ⟨rfl, hsz⟩ := hc
              simp only [Option.some.injEq, Prod.mk.injEq] at h
              obtain ⟨rfl, rfl⟩ := h
              have hκ := (rowAt_spec ss off m esz xs 0 hrow).2.1 _ (s.wf k _ hk)
              rw [Nat.zero_add] at hκ
              cases hr' : ρ x <;> (rw [hr'] at hr; cases hr)
              have hb := bounds_run (P := P) hρ (lo := none) (hi := none) (mx := none) (l := 0) (h := m) (m := m) (len := m) (cap := m) false rfl rfl rfl (by simp) (by omega) (by omega) (by omega) (by omega) (by omega) (by omega)
              simp only [Option.map_none, Int.toNat_natCast, Int.toNat_zero] at hb
              by_cases hm0 : m = 0
              · subst hm0
                refine Does.val s (u := .slice (some ⟨(e.β k).1, (e.β k).2 + off, none⟩) 0 0) ?_ (.sl0 _ _ _ _ _)
                simp [execOp, hx, hr', Instr.sliceAt, run_underlying hu, Instr.sureAddr, hb, run_sizeOf' hinf]
              · refine Does.val s (u := .slice (some ⟨(e.β k).1, (e.β k).2 + off + 0 * esz, none⟩) m m) ?_ (.sl k off esz 0 m m (Nat.le_refl _) (by rw [hκ.2.1]; omega))
                simp [execOp, hx, hr', Instr.sliceAt, run_underlying hu, Instr.sureAddr, hb, run_sizeOf' hinf, hm0, add_none]
            · cases h
          · cases h
        · cases h
      · cases h
    · cases h
  · cases h

/-- Shifts by a number that isn't below 0, divisions by one that isn't 0, a text's byte. -/
def coArith (P : Program) (o : Oper) (ρ : Operand → T) : Option (Del × Prop) :=
  match o.op with
  | .binOp op _ x y _ => match op, (ρ x).lit, (ρ y).lit with
    | .shl, some (.int k a), some (.int _ b) => some ({ val := .c (.int k (k.wrap (a * 2 ^ (min b.toNat k.bits)))) }, 0 ≤ b)
    | .shr, some (.int k a), some (.int _ b) => some ({ val := .c (.int k (a.fdiv (2 ^ (min b.toNat k.bits)))) }, 0 ≤ b)
    | .quo, some (.int k a), some (.int k' b) => if k = k' then some ({ val := .c (.int k (k.wrap (a.tdiv b))) }, b ≠ 0) else none
    | .rem, some (.int k a), some (.int k' b) => if k = k' then some ({ val := .c (.int k (a.tmod b)) }, b ≠ 0) else none
    | _, _, _ => none
  | .index t x i => match P.underlying t, (ρ x).lit, (ρ i).lit with
    | some .string, some (.string s), some (.int _ n) => some ({ val := .c (.int .u8 (s.get! n.toNat).toNat) }, 0 ≤ n ∧ n < s.size)
    | _, _, _ => none
  | _ => none

theorem get!_eq (s : ByteArray) (i : Nat) (h : i < s.size) : s[i]? = some (s.get! i) := by
  rw [getElem?_pos s i h]
  cases s with
  | mk arr =>
    have h' : i < arr.size := h
    show some arr[i] = some arr[i]!
    rw [getElem!_pos arr i h']

theorem coArith_ok {P : Program} {g : Gl} {o : Oper} {τ : Operand → T} {ρ : Operand → Value} {w : World} {e : Env} {R : Pl} {H : List O} {d : Del} {p : Prop} (s : Sat g w e R H)
    (hρ : ∀ x, RelT w e (Mut e R H) (τ x) (ρ x)) (h : coArith P o τ = some (d, p)) (hp : p) : Does P g o ρ w e R H d := by
  unfold coArith at h
  split at h
  · rename_i op t x y yt hx
    split at h
    · rename_i k a k' b h1 h2
      simp only [Option.some.injEq, Prod.mk.injEq] at h
      obtain ⟨rfl, rfl⟩ := h
      have e1 := T.lit_rel h1 (hρ x)
      have e2 := T.lit_rel h2 (hρ y)
      have hn : ¬ b < 0 := by omega
      exact Does.val s (u := .int k (k.wrap (a * 2 ^ (min b.toNat k.bits)))) (by simp [execOp, hx, e1, e2, eqGuard, binOp, Op.shift, hn]) (.c _)
    · rename_i k a k' b h1 h2
      simp only [Option.some.injEq, Prod.mk.injEq] at h
      obtain ⟨rfl, rfl⟩ := h
      have e1 := T.lit_rel h1 (hρ x)
      have e2 := T.lit_rel h2 (hρ y)
      have hn : ¬ b < 0 := by omega
      exact Does.val s (u := .int k (a.fdiv (2 ^ (min b.toNat k.bits)))) (by simp [execOp, hx, e1, e2, eqGuard, binOp, Op.shift, hn]) (.c _)
    · rename_i k a k' b h1 h2
      split at h
      · rename_i hk
        subst hk
        simp only [Option.some.injEq, Prod.mk.injEq] at h
        obtain ⟨rfl, rfl⟩ := h
        have e1 := T.lit_rel h1 (hρ x)
        have e2 := T.lit_rel h2 (hρ y)
        exact Does.val s (u := .int k (k.wrap (a.tdiv b))) (by simp [execOp, hx, e1, e2, eqGuard, binOp, Op.intDiv, hp]) (.c _)
      · cases h
    · rename_i k a k' b h1 h2
      split at h
      · rename_i hk
        subst hk
        simp only [Option.some.injEq, Prod.mk.injEq] at h
        obtain ⟨rfl, rfl⟩ := h
        have e1 := T.lit_rel h1 (hρ x)
        have e2 := T.lit_rel h2 (hρ y)
        exact Does.val s (u := .int k (a.tmod b)) (by simp [execOp, hx, e1, e2, eqGuard, binOp, Op.intDiv, hp]) (.c _)
      · cases h
    · cases h
  · rename_i t x i hx
    split at h
    · rename_i st k n hu h1 h2
      simp only [Option.some.injEq, Prod.mk.injEq] at h
      obtain ⟨rfl, rfl⟩ := h
      obtain ⟨p1, p2⟩ := hp
      have e1 := T.lit_rel h1 (hρ x)
      have e2 := T.lit_rel h2 (hρ i)
      have hg := get!_eq st n.toNat (by omega)
      exact Does.val s (u := .int .u8 (st.get! n.toNat).toNat) (by simp [execOp, hx, e1, e2, Instr.index, run_asIntOf, run_underlying hu, p1, hg]) (.c _)
    · cases h
  · cases h
end Sx
