/- append, as an operation. -/
import Derived.Test.YthimhmocgnnaiaaDoorSxH
namespace Sx
open Go

theorem flatten_get {esz : Nat} : ∀ {ys : List (List C)} {j : Nat} {c : C}, RWf esz ys → ys.flatten[j]? = some c → ∃ (i l : Nat) (cs : List C), ys[i]? = some cs ∧ cs[l]? = some c ∧ j = i * esz + l
  | [], j, c, _, h => by simp at h
  | y :: r, j, c, hw, h => by
    have hy : y.length = esz := hw.1 0 y rfl
    rw [List.flatten_cons] at h
    rcases Nat.lt_or_ge j esz with hj | hj
    · rw [List.getElem?_append_left (by omega)] at h
      exact ⟨0, j, y, rfl, h, by omega⟩
    · rw [List.getElem?_append_right (by omega)] at h
      obtain ⟨i, l, cs, h1, h2, h3⟩ := flatten_get (esz := esz) (ys := r) ⟨fun i cs h => hw.1 (i + 1) cs h, fun i cs j c h h' => hw.2 (i + 1) cs j c h h'⟩ h
      exact ⟨i + 1, l, cs, h1, h2, by rw [Nat.succ_mul]; omega⟩

theorem get_flatten {esz : Nat} : ∀ {ys : List (List C)} {i l : Nat} {cs : List C} {c : C}, RWf esz ys → ys[i]? = some cs → cs[l]? = some c → ys.flatten[i * esz + l]? = some c
  | [], i, l, cs, c, _, h, _ => by simp at h
  | y :: r, i, l, cs, c, hw, h, h' => by
    have hy : y.length = esz := hw.1 0 y rfl
    rw [List.flatten_cons]
    cases i with
    | zero =>
      simp at h; subst h
      have := (List.getElem?_eq_some_iff.1 h').1
      rw [List.getElem?_append_left (by omega)]; simpa using h'
    | succ i =>
      rw [List.getElem?_append_right (by rw [Nat.succ_mul]; omega)]
      have := get_flatten (esz := esz) (ys := r) ⟨fun i cs h => hw.1 (i + 1) cs h, fun i cs j c h h' => hw.2 (i + 1) cs j c h h'⟩ (i := i) h h'
      rw [← this]; congr 1; rw [Nat.succ_mul]; omega

theorem flatten_length {esz : Nat} : ∀ {ys : List (List C)}, RWf esz ys → ys.flatten.length = ys.length * esz
  | [], _ => by simp
  | y :: r, hw => by
    have hy : y.length = esz := hw.1 0 y rfl
    rw [List.flatten_cons, List.length_append, hy, flatten_length (esz := esz) (ys := r) ⟨fun i cs h => hw.1 (i + 1) cs h, fun i cs j c h h' => hw.2 (i + 1) cs j c h h'⟩, List.length_cons, Nat.succ_mul]; omega

theorem append_wf {esz : Nat} {xs ys : List (List C)} (hx : RWf esz xs) (hy : RWf esz ys) : RWf esz (xs ++ ys) := by
  constructor
  · intro i cs h
    rcases Nat.lt_or_ge i xs.length with hi | hi
    · rw [List.getElem?_append_left hi] at h; exact hx.1 i cs h
    · rw [List.getElem?_append_right hi] at h; exact hy.1 _ cs h
  · intro i cs j c h h'
    rcases Nat.lt_or_ge i xs.length with hi | hi
    · rw [List.getElem?_append_left hi] at h; exact hx.2 i cs j c h h'
    · rw [List.getElem?_append_right hi] at h; exact hy.2 _ cs j c h h'

/-- No object leans on one that isn't there. -/
def Closed (H : List O) : Prop := ∀ (k' : Nat) (obj : O) (o : Nat) (v : C), H[k']? = some obj → Has obj o v → ∀ k, v.key = some k → k < H.length

/-- A row without anything in it. -/
theorem Sat.empty {g : Gl} {w : World} {e : Env} {R : Pl} {H : List O} (s : Sat g w e R H) (hcl : Closed H) (esz : Nat) :
    let e' := e.put H.length (0, 0) (fun _ => 0)
    Sat g w e' R (H ++ [.arr esz []]) ∧ Ext w e H w e' (H ++ [.arr esz []]) [] := by
  intro e'
  have hput : ∀ j, j ≠ H.length → e'.β j = e.β j ∧ e'.κ j = e.κ j := fun j hj => Env.put_other e H.length j _ _ hj
  have hsame := Env.put_same e H.length (0, 0) (fun _ => 0)
  have hnew : ∀ o, ¬ Cov (e'.κ H.length) (.arr esz []) o := fun o h => by
    have h' : o < e'.κ H.length 0 * esz := h
    rw [hsame.2] at h'; simp at h'
  have hfp : ∀ b o, FP e' (H ++ [.arr esz []]) b o ↔ FP e H b o := by
    intro b o
    constructor
    · rintro ⟨k, o', i, h1, h2, h3, h4⟩
      rcases append_get H _ o' k h1 with ⟨rfl, rfl⟩ | ⟨hk, h1⟩
      · exact absurd h4 (hnew i)
      · obtain ⟨p1, p2⟩ := hput k (Nat.ne_of_lt hk)
        rw [p1] at h2 h3; rw [p2] at h4
        exact ⟨k, o', i, h1, h2, h3, h4⟩
    · rintro ⟨k, o', i, h1, h2, h3, h4⟩
      have hk := (List.getElem?_eq_some_iff.1 h1).1
      obtain ⟨p1, p2⟩ := hput k (Nat.ne_of_lt hk)
      exact ⟨k, o', i, by rw [List.getElem?_append_left hk]; exact h1, by rw [p1]; exact h2, by rw [p1]; exact h3, by rw [p2]; exact h4⟩
  have hmut : ∀ b o, Mut e' R (H ++ [.arr esz []]) b o ↔ Mut e R H b o := fun b o => by simp only [Mut, hfp]
  refine ⟨⟨?_, ?_, ?_, ?_, fun b o hr => ⟨fun h => (s.rest b o hr).1 ((hfp b o).1 h), (s.rest b o hr).2⟩, fun b o hm => s.low b o ((hmut b o).1 hm), s.glob⟩,
    ⟨Nat.le_refl _, fun _ _ _ => rfl, fun _ _ _ _ => ⟨rfl, rfl⟩, fun b o h => .inl ((hfp b o).1 h), fun k hk _ => hput k (Nat.ne_of_lt hk), ⟨rfl, rfl⟩⟩⟩
  · intro k o' h
    rcases append_get H _ o' k h with ⟨rfl, rfl⟩ | ⟨hk, h⟩
    · exact ⟨Nat.zero_le _, nil_wf esz⟩
    · rw [(hput k (Nat.ne_of_lt hk)).2]; exact s.wf k o' h
  · intro k o' o v h hh
    rcases append_get H _ o' k h with ⟨rfl, rfl⟩ | ⟨hk, h⟩
    · obtain ⟨i, j, cs, h1, _⟩ := hh; simp at h1
    · obtain ⟨u, hu, hr⟩ := s.has k o' o v h hh
      rw [(hput k (Nat.ne_of_lt hk)).1]
      exact ⟨u, hu, hr.step (fun j hj => hput j (Nat.ne_of_lt (hcl k o' o v h hh j hj))) (fun b o v hc hn => ⟨hc, fun hm => hn ((hmut b o).1 hm)⟩)⟩
  · intro k o' o h hc
    rcases append_get H _ o' k h with ⟨rfl, rfl⟩ | ⟨hk, h⟩
    · exact absurd hc (hnew o)
    · rw [(hput k (Nat.ne_of_lt hk)).1]; rw [(hput k (Nat.ne_of_lt hk)).2] at hc; exact s.cov k o' o h hc
  · intro k1 k2 o1 o2 i1 i2 h1 h2 c1 c2 hb ho
    rcases append_get H _ o1 k1 h1 with ⟨rfl, rfl⟩ | ⟨hk1, h1⟩
    · exact absurd c1 (hnew i1)
    · rcases append_get H _ o2 k2 h2 with ⟨rfl, rfl⟩ | ⟨hk2, h2⟩
      · exact absurd c2 (hnew i2)
      · obtain ⟨p1, p2⟩ := hput k1 (Nat.ne_of_lt hk1)
        obtain ⟨q1, q2⟩ := hput k2 (Nat.ne_of_lt hk2)
        rw [p2] at c1; rw [q2] at c2; rw [p1, q1] at hb ho
        exact s.dis k1 k2 o1 o2 i1 i2 h1 h2 c1 c2 hb ho

theorem nosrc {esz : Nat} {xs : List (List C)} (h : RWf esz xs) {o : Nat} {v : C} (hh : Has (.arr esz xs) o v) (k : Nat) : v.key ≠ some k := by
  obtain ⟨i, j, cs, h1, h2, _⟩ := hh
  rw [C.key_of_free (h.2 i cs j v h1 h2)]
  intro hk; cases hk

/-- The new row's cells, of the old ones', the new ones' and zeros. -/
theorem rows_get {w : World} {e : Env} {M : Pl} {esz : Nat} {xs ys : List (List C)} {olds us rest : List Value} (hlo : olds.length = xs.length * esz)
    (ho : ∀ (i : Nat) (cs : List C) (j : Nat) (c : C), xs[i]? = some cs → cs[j]? = some c → ∃ u, olds[i * esz + j]? = some u ∧ Rel w e M c u)
    (hn : ∀ (i : Nat) (cs : List C) (j : Nat) (c : C), ys[i]? = some cs → cs[j]? = some c → ∃ u, us[i * esz + j]? = some u ∧ Rel w e M c u)
    {o : Nat} {v : C} (hh : Has (.arr esz (xs ++ ys)) o v) : ∃ u, (olds ++ us ++ rest)[o]? = some u ∧ Rel w e M v u := by
  obtain ⟨i, j, cs, h1, h2, h3⟩ := hh
  rw [Nat.zero_add] at h3
  subst h3
  rcases Nat.lt_or_ge i xs.length with hi | hi
  · rw [List.getElem?_append_left hi] at h1
    obtain ⟨u, h4, h5⟩ := ho i cs j v h1 h2
    have hl := (List.getElem?_eq_some_iff.1 h4).1
    exact ⟨u, by rw [List.append_assoc, List.getElem?_append_left hl]; exact h4, h5⟩
  · rw [List.getElem?_append_right hi] at h1
    obtain ⟨u, h4, h5⟩ := hn _ cs j v h1 h2
    have hl := (List.getElem?_eq_some_iff.1 h4).1
    have he : i * esz + j = olds.length + ((i - xs.length) * esz + j) := by
      rw [hlo, ← Nat.add_assoc, ← Nat.add_mul]; congr 2; omega
    refine ⟨u, ?_, h5⟩
    rw [List.append_assoc, he, List.getElem?_append_right (Nat.le_add_right _ _), Nat.add_sub_cancel_left, List.getElem?_append_left hl]
    exact h4

def fits (d : TypeDesc) (t : T) : Bool :=
  match d, t with
  | .slice _, .a (.s (.sl _ _ _ _ _)) => true
  | .slice _, .a (.s (.ssl _ _)) => true
  | .slice _, .a (.s (.c (.slice _ _ _))) => true
  | .string, .a (.s (.c (.string _))) => true
  | _, _ => false

def lenOk (t : T) (n : Nat) : Prop := match t with | .a (.s (.sl _ _ _ _ m)) => m = n | _ => True

def coAppend (P : Program) (o : Oper) (ρ : Operand → T) (H : Nat → Option O) (len : Nat) (it : It) : Option (Del × Prop) :=
  match o.op with
  | .call c => match c.callee, c.args.toList, c.argTypes.toList, it with
    | .builtin .append, [x, y], [t, u], .ap xs ys qs =>
      match P.underlying t, P.underlying u with
      | some (.slice el), some d => match P.info? el with
        | some inf => match inf.zero with
          | some z => if z.cells.size = inf.size ∧ 0 < inf.size ∧ fits d (ρ y) = true then
              match content H inf.size (ρ y), ρ x with
              | some ys', .a (.s (.sl k 0 ez 0 n)) => if ez = inf.size then match H k with
                  | some (.arr ez' zs) => if ez' = inf.size then
                      some ({ val := .a (.s (.sl k 0 inf.size 0 qs.length)), sets := [(k, .arr inf.size qs)], kill := [k] },
                        xs ++ ys = qs ∧ (cut zs 0 n = xs ∧ n = xs.length) ∧ (ys' = ys ∧ lenOk (ρ y) ys.length) ∧ (xs.length + ys.length) * (inf.bytes + 1) ≤ 70368744177664)
                    else none
                  | _ => none
                else none
              | some ys', .a (.s (.c (.slice none 0 0))) =>
                some ({ val := .a (.s (.sl len 0 inf.size 0 ys.length)), new := [.arr inf.size ys] }, (ys' = ys ∧ lenOk (ρ y) ys.length) ∧ ys.length * (inf.bytes + 1) ≤ 70368744177664)
              | _, _ => none
            else none
          | none => none
        | none => none
      | _, _ => none
    | _, _, _, _ => none
  | _ => none

theorem room_of {n b : Nat} (h : n * (b + 1) ≤ 70368744177664) : (n : Int) ≤ 9223372036854775807 ∧ n * b ≤ 140737488355328 := by
  rw [Nat.mul_succ] at h
  constructor <;> omega

theorem fits_src {d : TypeDesc} {t : T} {w : World} {e : Env} {M : Pl} {x : Value} (h : fits d t = true) (hr : RelT w e M t x) :
    isSeq d = true ∧ ((∃ el, d = .slice el) ↔ ∀ b, x ≠ .string b) := by
  unfold fits at h
  split at h
  · obtain ⟨a, cap, rfl, _⟩ := Rel.sl_inv hr
    exact ⟨rfl, ⟨fun _ b h => (by cases h), fun _ => ⟨_, rfl⟩⟩⟩
  · obtain ⟨a, cap, rfl, _⟩ := Rel.ssl_inv hr
    exact ⟨rfl, ⟨fun _ b h => (by cases h), fun _ => ⟨_, rfl⟩⟩⟩
  · have := Rel.c_eq hr
    subst this
    exact ⟨rfl, ⟨fun _ b h => (by cases h), fun _ => ⟨_, rfl⟩⟩⟩
  · have := Rel.c_eq hr
    subst this
    refine ⟨rfl, ⟨fun ⟨el, h⟩ => (by cases h), fun h => absurd rfl (h _)⟩⟩
  · cases h

theorem coAppend_ok {P : Program} {g : Gl} {o : Oper} {τ : Operand → T} {ρ : Operand → Value} {w : World} {e : Env} {R : Pl} {H : List O} {d : Del} {p : Prop} {it : It} (s : Sat g w e R H) (hcl : Closed H)
    (hρ : ∀ x, RelT w e (Mut e R H) (τ x) (ρ x)) (h : coAppend P o τ (fun k => H[k]?) H.length it = some (d, p)) (hp : p) : Does P g o ρ w e R H d := by
  unfold coAppend at h
  split at h
  · rename_i c hx
    split at h
    · rename_i x y t u xs ys qs hc ha hty
      split at h
      · rename_i el dd ht hu
        split at h
        · rename_i inf hinf
          split at h
          · rename_i z hz
            split at h
            · rename_i hcond
              obtain ⟨hzs, hsz, hfits⟩ := hcond
              have hry := hρ y
              obtain ⟨hd1, hd2⟩ := fits_src hfits hry
              split at h
              · rename_i ys' k ez n hcont hdst
                split at h
                · rename_i hez
                  subst hez
                  split at h
                  · rename_i ez' zs hk0
                    have hk : H[k]? = some (.arr ez' zs) := hk0
                    split at h
                    · rename_i hez'
                      subst hez'
                      simp only [Option.some.injEq, Prod.mk.injEq] at h
                      obtain ⟨rfl, rfl⟩ := h
                      obtain ⟨rfl, ⟨rfl, hn⟩, ⟨rfl, hlen⟩, hroom⟩ := hp
                      rw [List.length_append]
                      have hsrc := content_src s hsz hu hd1 hry hcont (fun k off ez i m hm => by rw [hm] at hlen; exact hlen) hd2
                      obtain ⟨us, hlu, hone, hfc, hrel⟩ := hsrc.news
                      have hrx := hρ x
                      rw [hdst] at hrx
                      obtain ⟨a, cap, hxv, hncap, hor⟩ := Rel.sl_inv hrx
                      obtain ⟨dd', hu', hnint⟩ := hsrc.notInt
                      rw [hu] at hu'; cases hu'
                      obtain ⟨s1, x1⟩ := s.kill [k]
                      have hk1 : (killH [k] H)[k]? = some (.arr inf.size zs) := by rw [killH_get, hk]; rfl
                      have hwf1 := s1.wf k _ hk1
                      have hxw : RWf inf.size (cut zs 0 n) := cut_wf hwf1.2 0 n
                      have hhp : ({ val := .a (.s (.sl k 0 inf.size 0 ((cut zs 0 n).length + ys'.length))), sets := [(k, .arr inf.size (cut zs 0 n ++ ys'))], kill := [k] } : Del).hp H = (killH [k] H).set k (.arr inf.size (cut zs 0 n ++ ys')) := by
                        simp [Del.hp, setAll, killN]
                      have hmm : ∀ b o, Mut e R (killH [k] H) b o → Mut e R H b o := fun b o hm => hm.imp id (fun hf => by obtain ⟨q1, q2, q3, q4, q5, q6, q7⟩ := hf; rcases x1.foot b o ⟨q1, q2, q3, q4, q5, q6, q7⟩ with hf | hf; exact hf; obtain ⟨⟨u', hu'⟩, _⟩ := s1.cov q1 q2 q3 q4 q7; have := lt_of_cell hu'; rw [← q5] at this; omega)
                      have hrel1 : ∀ (i : Nat) (cs : List C) (j : Nat) (c : C), ys'[i]? = some cs → cs[j]? = some c → ∃ u, us[i * inf.size + j]? = some u ∧ Rel w e (Mut e R (killH [k] H)) c u := fun i cs j c h1 h2 => by
                        obtain ⟨u', h3, h4⟩ := hrel i cs j c h1 h2
                        exact ⟨u', h3, h4.step (fun _ _ => ⟨rfl, rfl⟩) (fun b o v hc hn => ⟨hc, fun hm => hn (hmm b o hm)⟩)⟩
                      by_cases hroomy : n + ys'.length ≤ cap
                      · rcases hor with ⟨hn0, hc0⟩ | ⟨rfl, hcap⟩
                        · -- nothing, behind nothing
                          have hy0 : ys' = [] := List.eq_nil_of_length_eq_zero (by omega)
                          have hx0 : cut zs 0 n = [] := List.eq_nil_of_length_eq_zero (by omega)
                          have hus : us = [] := List.eq_nil_of_length_eq_zero (by rw [hlu, hy0]; simp)
                          obtain ⟨s2, x2⟩ := s1.write (w' := w) hk1 (obj' := .arr inf.size (cut zs 0 n ++ ys')) (fun o => Iff.rfl) (by rw [hx0, hy0]; exact ⟨Nat.zero_le _, nil_wf _⟩) rfl (fun _ _ => rfl) ⟨rfl, rfl⟩ (fun _ _ _ => rfl) (fun _ h => h) (fun _ => rfl) (fun _ => rfl)
                            (fun o v hh => by rw [hx0, hy0] at hh; obtain ⟨i, j, cs, h1, _⟩ := hh; simp at h1)
                          refine OpOk.value (u := .slice a (n + ys'.length) cap) (w' := w) ?_ ⟨e, by rw [hhp]; exact s2, by rw [hhp]; exact (x1.trans x2 (by simp [killH_length]) (by simp)).weaken (by simp), ?_⟩
                          · have := run_app_room (P := P) w t u o.type el inf dd ht hu hnint hinf a n cap ys'.length (ρ y) us (hsrc.len w) (hfc w rfl) hroomy w (fun b _ => by rw [hus]; rfl) (fun _ => rfl)
                            simp [execOp, hx, resolve, hc, toList_two ha, toList_two hty, invoke, builtin, hxv, this]
                          · rw [hx0, hy0, hn0, hc0]; exact .sl0 _ _ _ _ _
                        · -- there is room
                          have hcap' : cap ≤ e.κ k 0 := by omega
                          obtain ⟨w', hrun, s2, x2⟩ := s1.writes hk1 (n * inf.size) ys'.flatten us (by rw [hlu, flatten_length hsrc.wf]) hone
                            (fun j c hj => by
                              obtain ⟨i, l, cs, h1, h2, rfl⟩ := flatten_get hsrc.wf hj
                              exact hrel1 i cs l c h1 h2)
                            (fun j hj => by
                              rw [flatten_length hsrc.wf] at hj
                              show n * inf.size + j < e.κ k 0 * inf.size
                              have := Nat.mul_le_mul_right inf.size (Nat.le_trans hroomy hcap')
                              rw [Nat.add_mul] at this; omega)
                            (.arr inf.size (cut zs 0 n ++ ys')) (fun o => Iff.rfl) ⟨by simp only [List.length_append]; omega, append_wf hxw hsrc.wf⟩
                            (fun o v hh => by
                              obtain ⟨i, j, cs, h1, h2, h3⟩ := hh
                              rw [Nat.zero_add] at h3
                              subst h3
                              rcases Nat.lt_or_ge i (cut zs 0 n).length with hi | hi
                              · rw [List.getElem?_append_left hi] at h1
                                right
                                have hjl := (List.getElem?_eq_some_iff.1 h2).1
                                rw [hxw.1 i cs h1] at hjl
                                refine ⟨fun j' _ heq => ?_, ⟨i, j, cs, by have := cut_get h1; simpa using this, h2, by omega⟩⟩
                                have := Nat.mul_le_mul_right inf.size (Nat.succ_le_of_lt hi)
                                rw [Nat.succ_mul, ← hn] at this; omega
                              · rw [List.getElem?_append_right hi] at h1
                                left
                                refine ⟨(i - (cut zs 0 n).length) * inf.size + j, ?_, get_flatten hsrc.wf h1 h2⟩
                                rw [← Nat.add_assoc, ← Nat.add_mul]; congr 2; omega)
                          refine OpOk.value (u := .slice (some ⟨(e.β k).1, (e.β k).2 + 0 + 0 * inf.size, none⟩) (n + ys'.length) cap) (w' := w') ?_ ⟨e, by rw [hhp]; exact s2, by rw [hhp]; exact (x1.trans x2 (by simp [killH_length]) (by simp)).weaken (by simp), ?_⟩
                          · have hst : (storeCells ((⟨(e.β k).1, (e.β k).2 + 0 + 0 * inf.size, none⟩ : Addr).add (n * inf.size)) us).run P w = .ok () w' := by
                              rw [add_none, show (e.β k).2 + 0 + 0 * inf.size + n * inf.size = (e.β k).2 + n * inf.size by omega]; exact hrun P
                            have := run_app_room (P := P) w t u o.type el inf dd ht hu hnint hinf (some ⟨(e.β k).1, (e.β k).2 + 0 + 0 * inf.size, none⟩) n cap ys'.length (ρ y) us (hsrc.len w) (hfc w rfl) hroomy w' (fun b hb => by cases hb; exact hst) (fun h => by cases h)
                            simp [execOp, hx, resolve, hc, toList_two ha, toList_two hty, invoke, builtin, hxv] at this ⊢
                            simp [this]
                          · rw [← hn]; exact .sl k 0 inf.size 0 (n + ys'.length) cap hroomy (by omega)
                      · -- a new row
                        have holds : ∃ olds : List Value, olds.length = (cut zs 0 n).length * inf.size ∧ (Builtin.firstCells inf.size n (.slice a n cap)).run P w.drew = .ok olds.toArray w.drew ∧
                            ∀ (i : Nat) (cs : List C) (j : Nat) (c : C), (cut zs 0 n)[i]? = some cs → cs[j]? = some c → ∃ u, olds[i * inf.size + j]? = some u ∧ Rel w e (Mut e R (killH [k] H)) c u := by
                          rcases hor with ⟨hn0, hc0⟩ | ⟨rfl, hcap⟩
                          · have hx0 : cut zs 0 n = [] := List.eq_nil_of_length_eq_zero (by omega)
                            refine ⟨[], by simp [hx0], ?_, by simp [hx0]⟩
                            subst hn0
                            cases a with
                            | none => rfl
                            | some b => have := run_loadCells_list (P := P) w.drew b [] (by simp); simpa [Builtin.firstCells] using this
                          · have key : Reads w e (Mut e R (killH [k] H)) inf.size (cut zs 0 n) (e.β k).1 (e.β k).2 := by
                              refine ⟨hxw, fun i cs j c h1 h2 => ?_⟩
                              have := cut_get h1
                              rw [Nat.zero_add] at this
                              obtain ⟨u', h3, h4⟩ := s1.has k _ (0 + i * inf.size + j) c hk1 ⟨i, j, cs, this, h2, rfl⟩
                              exact ⟨u', by rw [← h3]; congr 2; omega, h4⟩
                            obtain ⟨olds, h1, h2, h3, h4⟩ := key.flat hsz
                            refine ⟨olds, h1, ?_, h4⟩
                            have := run_firstCells_some (P := P) w.drew inf.size n (⟨(e.β k).1, (e.β k).2, none⟩ : Addr) n cap olds (by rw [h1, ← hn]) (fun j v hj => by simpa using h2 j v hj)
                            simpa using this
                        obtain ⟨olds, hlo, hfo, hro⟩ := holds
                        obtain ⟨h63, hby⟩ := room_of hroom
                        rw [← hn] at h63 hby
                        have hrun := run_app_grow (P := P) w t u o.type el inf z dd ht hu hnint hinf hz a n cap ys'.length (ρ y) olds us (hsrc.len w) hfo (hfc w.drew rfl) (by omega) h63 (growslice_fits (by omega) hby)
                        have hge := grownCap_ge w (n + ys'.length) cap el
                        have sd : Sat g w.drew e R (killH [k] H) := s1.of_heap rfl
                        have xd : Ext w e (killH [k] H) w.drew e (killH [k] H) [] := Ext.of_heap rfl ⟨rfl, rfl⟩
                        have hklt : k < (killH [k] H).length := (List.getElem?_eq_some_iff.1 hk1).1
                        obtain ⟨s2, x2⟩ := sd.move hklt (olds.toArray ++ us.toArray ++ Builtin.zeroCells z.cells (grownCap w (n + ys'.length) cap el - (n + ys'.length))) el (fun _ => grownCap w (n + ys'.length) cap el)
                          (obj := .arr inf.size (cut zs 0 n ++ ys')) ⟨by show _ ≤ grownCap w (n + ys'.length) cap el; simp only [List.length_append]; omega, append_wf hxw hsrc.wf⟩
                          (fun o ho => by
                            have ho' : o < grownCap w (n + ys'.length) cap el * inf.size := ho
                            simp only [Array.size_append, List.size_toArray, size_zeroCells, hzs, hlo, hlu, ← hn]
                            have : n * inf.size + ys'.length * inf.size + (grownCap w (n + ys'.length) cap el - (n + ys'.length)) * inf.size = grownCap w (n + ys'.length) cap el * inf.size := by
                              rw [← Nat.add_mul, ← Nat.add_mul]; congr 1; omega
                            omega)
                          (fun k' obj' o v hne hh hhas hkey => by
                            rw [killH_get] at hh
                            cases hH : H[k']? with
                            | none => rw [hH] at hh; cases hh
                            | some q =>
                              rw [hH] at hh
                              simp only [Option.map_some, Option.some.injEq] at hh
                              subst hh
                              rcases Has_kill _ [k] q o v (s.wf k' q hH) hhas with rfl | ⟨_, h2⟩
                              · cases hkey
                              · exact h2 k hkey (by simp))
                          (fun o v hh => nosrc (append_wf hxw hsrc.wf) hh k)
                          (fun o v hh => by
                            obtain ⟨u', h1, h2⟩ := rows_get (rest := (Builtin.zeroCells z.cells (grownCap w (n + ys'.length) cap el - (n + ys'.length))).toList) hlo hro hrel1 hh
                            refine ⟨u', ?_, h2.step (fun _ _ => ⟨rfl, rfl⟩) (fun b o v hc hn => ⟨hc, hn⟩)⟩
                            rw [← Array.getElem?_toList, Array.toList_append, Array.toList_append]; exact h1)
                        refine OpOk.value (u := .slice (some ⟨w.heap.size, 0, none⟩) (n + ys'.length) (grownCap w (n + ys'.length) cap el)) ?_ ⟨_, by rw [hhp]; exact s2, by rw [hhp]; exact ((x1.trans xd (by simp [killH_length]) (by simp)).trans x2 (by simp [killH_length]) (by simp)), ?_⟩
                        · simp [execOp, hx, resolve, hc, toList_two ha, toList_two hty, invoke, builtin, hxv, hrun]
                        · have hs := Env.put_same e k (w.drew.heap.size, 0) (fun _ => grownCap w (n + ys'.length) cap el)
                          have key := Rel.sl (w := w.drew.alloc (.cells (olds.toArray ++ us.toArray ++ Builtin.zeroCells z.cells (grownCap w (n + ys'.length) cap el - (n + ys'.length))) el)) (e := e.put k (w.drew.heap.size, 0) (fun _ => grownCap w (n + ys'.length) cap el))
                            (M := Mut (e.put k (w.drew.heap.size, 0) (fun _ => grownCap w (n + ys'.length) cap el)) R ((killH [k] H).set k (.arr inf.size (cut zs 0 n ++ ys')))) k 0 inf.size 0 (n + ys'.length) (grownCap w (n + ys'.length) cap el) hge (by rw [hs.2]; show 0 + grownCap w (n + ys'.length) cap el ≤ grownCap w (n + ys'.length) cap el; omega)
                          rw [hs.1] at key
                          simp only [Nat.zero_mul, Nat.add_zero] at key
                          rw [hhp]
                          show Rel _ _ _ (.sl k 0 inf.size 0 ((cut zs 0 n).length + ys'.length)) _
                          rw [← hn]
                          exact key
                    · cases h
                  · cases h
                · cases h
              · rename_i ys' hcont hdst
                simp only [Option.some.injEq, Prod.mk.injEq] at h
                obtain ⟨rfl, rfl⟩ := h
                obtain ⟨⟨rfl, hlen⟩, hroom⟩ := hp
                have hsrc := content_src s hsz hu hd1 hry hcont (fun k off ez i m hm => by rw [hm] at hlen; exact hlen) hd2
                obtain ⟨us, hlu, hone, hfc, hrel⟩ := hsrc.news
                have hrx := hρ x
                rw [hdst] at hrx
                have hxv := Rel.c_eq hrx
                obtain ⟨dd', hu', hnint⟩ := hsrc.notInt
                rw [hu] at hu'; cases hu'
                by_cases hm0 : ys'.length = 0
                · have hy0 : ys' = [] := List.eq_nil_of_length_eq_zero hm0
                  have hus : us = [] := List.eq_nil_of_length_eq_zero (by rw [hlu, hy0]; simp)
                  obtain ⟨s2, x2⟩ := s.empty hcl inf.size
                  refine OpOk.value (u := .slice none 0 0) (w' := w) ?_ ⟨_, by rw [Del.hp_new, hy0]; exact s2, by rw [Del.hp_new, hy0]; exact x2, ?_⟩
                  · have := run_app_room (P := P) w t u o.type el inf dd ht hu hnint hinf none 0 0 ys'.length (ρ y) us (hsrc.len w) (hfc w rfl) (by omega) w (fun b _ => by rw [hus]; rfl) (fun _ => rfl)
                    rw [hm0] at this
                    simp [execOp, hx, resolve, hc, toList_two ha, toList_two hty, invoke, builtin, hxv, this]
                  · rw [hy0]; exact .sl0 _ _ _ _ _
                · obtain ⟨h63, hby⟩ := room_of hroom
                  have hrun := run_app_grow (P := P) w t u o.type el inf z dd ht hu hnint hinf hz none 0 0 ys'.length (ρ y) [] us (hsrc.len w) rfl (hfc w.drew rfl) (by omega) (by omega) (growslice_fits (by omega) (by rw [Nat.zero_add]; exact hby))
                  have hge := grownCap_ge w (0 + ys'.length) 0 el
                  have sd : Sat g w.drew e R H := s.of_heap rfl
                  have xd : Ext w e H w.drew e H [] := Ext.of_heap rfl ⟨rfl, rfl⟩
                  obtain ⟨s2, x2⟩ := sd.make (([] : List Value).toArray ++ us.toArray ++ Builtin.zeroCells z.cells (grownCap w (0 + ys'.length) 0 el - (0 + ys'.length))) el (fun _ => grownCap w (0 + ys'.length) 0 el)
                    (obj := .arr inf.size ys') ⟨show ys'.length ≤ grownCap w (0 + ys'.length) 0 el from by omega, hsrc.wf⟩
                    (fun o ho => by
                      have ho' : o < grownCap w (0 + ys'.length) 0 el * inf.size := ho
                      simp only [Array.size_append, List.size_toArray, size_zeroCells, hzs, hlu, List.length_nil]
                      have : ys'.length * inf.size + (grownCap w (0 + ys'.length) 0 el - (0 + ys'.length)) * inf.size = grownCap w (0 + ys'.length) 0 el * inf.size := by
                        rw [← Nat.add_mul]; congr 1; omega
                      omega)
                    hcl (fun o v hh k hkey => absurd hkey (nosrc hsrc.wf hh k))
                    (fun o v hh => by
                      obtain ⟨u', h1, h2⟩ := rows_get (xs := []) (olds := []) (rest := (Builtin.zeroCells z.cells (grownCap w (0 + ys'.length) 0 el - (0 + ys'.length))).toList) (by simp) (by simp) hrel hh
                      refine ⟨u', ?_, h2.step (fun _ _ => ⟨rfl, rfl⟩) (fun b o v hc hn => ⟨hc, hn⟩)⟩
                      rw [← Array.getElem?_toList, Array.toList_append, Array.toList_append]; exact h1)
                  refine OpOk.value (u := .slice (some ⟨w.heap.size, 0, none⟩) (0 + ys'.length) (grownCap w (0 + ys'.length) 0 el)) ?_ ⟨_, by rw [Del.hp_new]; exact s2, by rw [Del.hp_new]; exact xd.trans x2 (Nat.le_refl _) (by simp), ?_⟩
                  · simp [execOp, hx, resolve, hc, toList_two ha, toList_two hty, invoke, builtin, hxv] at hrun ⊢
                    simp [hrun]
                  · have hs := Env.put_same e H.length (w.drew.heap.size, 0) (fun _ => grownCap w (0 + ys'.length) 0 el)
                    have key := Rel.sl (w := w.drew.alloc (.cells (([] : List Value).toArray ++ us.toArray ++ Builtin.zeroCells z.cells (grownCap w (0 + ys'.length) 0 el - (0 + ys'.length))) el)) (e := e.put H.length (w.drew.heap.size, 0) (fun _ => grownCap w (0 + ys'.length) 0 el))
                      (M := Mut (e.put H.length (w.drew.heap.size, 0) (fun _ => grownCap w (0 + ys'.length) 0 el)) R (H ++ [.arr inf.size ys'])) H.length 0 inf.size 0 (0 + ys'.length) (grownCap w (0 + ys'.length) 0 el) hge (by rw [hs.2]; show 0 + grownCap w (0 + ys'.length) 0 el ≤ grownCap w (0 + ys'.length) 0 el; omega)
                    rw [hs.1] at key
                    simp only [Nat.zero_mul, Nat.add_zero] at key
                    rw [Del.hp_new]
                    have h0 : (0 + ys'.length) = ys'.length := Nat.zero_add _
                    rw [h0] at key ⊢
                    exact key
              · cases h
            · cases h
          · cases h
        · cases h
      · cases h
    · cases h
  · cases h
end Sx
