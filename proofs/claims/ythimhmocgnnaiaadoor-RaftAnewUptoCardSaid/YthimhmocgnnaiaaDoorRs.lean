/- The library's sort, seen by the executor: a row that the sort has gone over. -/
import Derived.Test.YthimhmocgnnaiaaDoorSxZ
import Derived.Sort.Grow
import Derived.Sort.LotA
import Derived.Laws.Build
namespace Sx
open Go Go.Sort

theorem heap_putRow_other {α : Type} [Inhabited α] (enc : α → Value) (w : World) (blk off : Nat) (d : Array α) {b : Nat} (h : b ≠ blk) : (putRow enc w blk off d).heap[b]? = w.heap[b]? := by
  simp only [putRow, mapBlock, Array.getElem?_modify]
  rw [if_neg (Ne.symm h)]

theorem isSome_putRow {α : Type} [Inhabited α] (enc : α → Value) (w : World) (blk off : Nat) (d : Array α) (a : Addr) (h : (w.cell? a).isSome = true) : ((putRow enc w blk off d).cell? a).isSome = true := by
  simp only [putRow, mapBlock, World.cell?, Array.getElem?_modify] at h ⊢
  by_cases hk : blk = a.block
  · simp only [hk, if_true] at h ⊢
    cases hb : w.heap[a.block]? with
    | none => rw [hb] at h; exact h
    | some o =>
      rw [hb] at h
      cases o with
      | cells c e fr =>
        simp only [Option.map_some, onCells, putCells, Array.getElem?_mapIdx] at h ⊢
        split
        · rename_i hs
          simp [hs] at h
        · rename_i hs
          have h : (c[a.off]?).isSome = true := by simpa [hs] using h
          cases hc : c[a.off]? with
          | none => rw [hc] at h; cases h
          | some y => rfl
      | _ => exact h
  · simp only [hk, if_false]; exact h

theorem sat_sorted {g : Gl} {w : World} {e : Env} {R : Pl} {H : List O} (s : Sat g w e R H) {k : Nat} {kd : IntKind} {xs ys : List Int} (hk : H[k]? = some (.arr 1 (xs.map (rI kd)))) (hlen : ys.length = xs.length) (m : Nat) (os : Array Obj) :
    Sat g (grow (putRow (Value.int kd) (ahead w m) (e.β k).1 (e.β k).2 ys.toArray) os) e R (H.set k (.arr 1 (ys.map (rI kd)))) ∧
    Ext w e H (grow (putRow (Value.int kd) (ahead w m) (e.β k).1 (e.β k).2 ys.toArray) os) e (H.set k (.arr 1 (ys.map (rI kd)))) [] := by
  have hwf := s.wf k _ hk
  have hrow : ∀ (zs : List Int) (o : Nat) (v : C), Has (.arr 1 (zs.map (rI kd))) o v → ∃ z, zs[o]? = some z ∧ v = .c (.int kd z) := by
    rintro zs o v ⟨i, j, cs, h1, h2, h3⟩
    rw [List.getElem?_map, Option.map_eq_some_iff] at h1
    obtain ⟨z, h1, rfl⟩ := h1
    cases j with
    | zero =>
      simp only [rI, List.getElem?_cons_zero, Option.some.injEq] at h2
      exact ⟨z, by rw [h3]; simpa using h1, h2.symm⟩
    | succ j => simp [rI] at h2
  have hhas : ∀ (zs : List Int) (o : Nat) (z : Int), zs[o]? = some z → Has (.arr 1 (zs.map (rI kd))) o (.c (.int kd z)) := fun zs o z h => ⟨o, 0, rI kd z, by rw [List.getElem?_map, h]; rfl, rfl, by omega⟩
  have hholds : Holds (Value.int kd) (ahead w m) (e.β k).1 (e.β k).2 xs.toArray := by
    intro j hj
    simp only [List.size_toArray] at hj
    obtain ⟨u, h1, h2⟩ := s.has k _ j _ hk (hhas xs j xs[j] (List.getElem?_eq_getElem hj))
    have h3 := Rel.c_eq h2
    subst h3
    refine ⟨?_, (s.cov k _ j hk ?_).2⟩
    · rw [cell?_ahead, h1]; simp [hj]
    · show j < e.κ k 0 * 1
      have := hwf.1
      simp only [List.length_map] at this
      omega
  have s1 : Sat g (ahead w m) e R H := s.of_heap rfl
  have x1 : Ext w e H (ahead w m) e H [] := Ext.of_heap rfl ⟨rfl, rfl⟩
  have hsz : ys.toArray.size = xs.toArray.size := by simpa using hlen
  obtain ⟨s2, x2⟩ := s1.write (w' := putRow (Value.int kd) (ahead w m) (e.β k).1 (e.β k).2 ys.toArray) (obj' := .arr 1 (ys.map (rI kd))) hk (fun o => Iff.rfl)
    ⟨by have := hwf.1; simp only [List.length_map] at this ⊢; omega, fun i cs h => by
        rw [List.getElem?_map, Option.map_eq_some_iff] at h; obtain ⟨z, _, rfl⟩ := h; rfl, fun i cs j c h1 h2 => by
        rw [List.getElem?_map, Option.map_eq_some_iff] at h1; obtain ⟨z, _, rfl⟩ := h1
        cases j with
        | zero => simp only [rI, List.getElem?_cons_zero, Option.some.injEq] at h2; subst h2; rfl
        | succ j => simp [rI] at h2⟩
    (size_putRow _ _ _ _ _) (fun b hb => heap_putRow_other _ _ _ _ _ hb) ⟨rfl, rfl⟩
    (fun b o h => cell?_putRow_other _ _ _ _ _ _ (by
      by_cases hb : b = (e.β k).1
      · right
        by_cases ho : o < (e.β k).2
        · exact .inl ho
        · right
          apply Nat.le_of_not_lt
          intro hlt
          refine h ⟨hb, o - (e.β k).2, ?_, by omega⟩
          show o - (e.β k).2 < e.κ k 0 * 1
          have := hwf.1
          simp only [List.length_map] at this
          simp only [List.size_toArray] at hlt
          omega
      · exact .inl hb))
    (fun a h => isSome_putRow _ _ _ _ _ a h) (fun a => frozen?_putRow _ _ _ _ _ a)
    (fun h => by
      have hx : xs = [] := by
        refine List.eq_nil_of_length_eq_zero ?_
        have h0 := h 0
        have hw := hwf.1
        simp only [List.length_map] at hw
        have : ¬ (0 < e.κ k 0 * 1) := h0
        omega
      have hy : ys = [] := List.eq_nil_of_length_eq_zero (by rw [hlen, hx]; rfl)
      subst hx; subst hy
      exact putRow_self _ _ _ _ _ hholds)
    (fun o v hv => by
      obtain ⟨z, h1, rfl⟩ := hrow ys o v hv
      have ho := (List.getElem?_eq_some_iff.1 h1).1
      refine ⟨_, cell?_putRow _ _ _ _ _ _ hholds hsz o (by simpa using ho), ?_⟩
      have : ys.toArray[o]! = z := by
        rw [getElem!_pos _ _ (by simpa using ho)]
        simp only [List.getElem_toArray]
        rw [List.getElem?_eq_getElem ho] at h1
        exact Option.some.inj h1
      rw [this]; exact .c _)
  have hb : ∀ b, b < (putRow (Value.int kd) (ahead w m) (e.β k).1 (e.β k).2 ys.toArray).heap.size → (grow (putRow (Value.int kd) (ahead w m) (e.β k).1 (e.β k).2 ys.toArray) os).heap[b]? = (putRow (Value.int kd) (ahead w m) (e.β k).1 (e.β k).2 ys.toArray).heap[b]? := fun b hb => heap_grow_old _ _ hb
  have hsize : (putRow (Value.int kd) (ahead w m) (e.β k).1 (e.β k).2 ys.toArray).heap.size ≤ (grow (putRow (Value.int kd) (ahead w m) (e.β k).1 (e.β k).2 ys.toArray) os).heap.size := by rw [size_grow]; omega
  refine ⟨s2.frame hsize hb, (x1.trans x2 (Nat.le_refl _) (fun _ h => h)).trans ?_ (by simp) (fun _ h => h)⟩
  exact ⟨hsize, fun b hb' _ => hb b hb', fun b o hb' _ => ⟨World.cell?_of_block (hb b hb'), World.frozen?_of_block (hb b hb')⟩, fun _ _ h => .inl h, fun _ _ _ => ⟨rfl, rfl⟩, rfl, rfl⟩

/-! ### Descending -/
def insD (x : Int) : List Int → List Int
  | [] => [x]
  | y :: r => if x ≥ y then x :: y :: r else y :: insD x r
def sortD : List Int → List Int
  | [] => []
  | x :: r => insD x (sortD r)
theorem insD_perm (x : Int) : ∀ l, (insD x l).Perm (x :: l)
  | [] => List.Perm.refl _
  | y :: r => by
    unfold insD
    split
    · exact List.Perm.refl _
    · exact ((insD_perm x r).cons y).trans (List.Perm.swap x y r)
theorem sortD_perm : ∀ l, (sortD l).Perm l
  | [] => List.Perm.refl _
  | x :: r => (insD_perm x _).trans ((sortD_perm r).cons x)
theorem sortD_length (l : List Int) : (sortD l).length = l.length := (sortD_perm l).length_eq
theorem insD_sorted (x : Int) : ∀ l, l.Pairwise (· ≥ ·) → (insD x l).Pairwise (· ≥ ·)
  | [], _ => by simp [insD]
  | y :: r, h => by
    unfold insD
    rw [List.pairwise_cons] at h
    split
    · rename_i hxy
      rw [List.pairwise_cons, List.pairwise_cons]
      refine ⟨fun z hz => ?_, h.1, h.2⟩
      rcases List.mem_cons.1 hz with rfl | hz
      · exact hxy
      · have := h.1 z hz; omega
    · rename_i hxy
      rw [List.pairwise_cons]
      refine ⟨fun z hz => ?_, insD_sorted x r h.2⟩
      rcases List.mem_cons.1 ((insD_perm x r).mem_iff.1 hz) with rfl | hz
      · omega
      · exact h.1 z hz
theorem sortD_sorted : ∀ l, (sortD l).Pairwise (· ≥ ·)
  | [] => by simp [sortD]
  | x :: r => insD_sorted x _ (sortD_sorted r)

def gtI (x y : Int) : Bool := decide (x > y)
theorem swo_gtI : SWO gtI where
  irrefl x := by simp [gtI]
  trans x y z h1 h2 := by simp only [gtI, decide_eq_true_eq] at *; omega
  ntrans x y z h1 h2 := by simp only [gtI, decide_eq_false_iff_not] at *; omega

theorem sortD_of (d d' : Array Int) (hp : PermIn 0 d.size d d') (hs : SortedIn gtI 0 d.size d') : d' = (sortD d.toList).toArray := by
  obtain ⟨hsz, _, hperm⟩ := hp
  have e1 : d'.extract 0 d.size = d' := by rw [← hsz]; exact Array.extract_size
  rw [e1, Array.extract_size] at hperm
  have : d'.toList = sortD d.toList := by
    refine List.Perm.eq_of_pairwise (le := fun x y => x ≥ y) ?_ ?_ (sortD_sorted _) (hperm.trans (sortD_perm _).symm)
    · intro a b _ _ h1 h2; omega
    · rw [List.pairwise_iff_getElem]
      intro i j hi hj hij
      have hi' : i < d'.size := by simpa using hi
      have hj' : j < d'.size := by simpa using hj
      have := hs i j (Nat.zero_le _) hij (by omega)
      rw [getElem!_pos d' j hj', getElem!_pos d' i hi'] at this
      simp only [gtI, decide_eq_false_iff_not] at this
      simp only [Array.getElem_toList]
      omega
  rw [← this]

/-! ### The statement 'sort.Slice(l, func(i, k int) bool { .. })', l a variable that the closure has hold of -/
/-- What the sort does, at the world's own level. -/
def Sorts (P : Program) (sf lf : FuncId) (tS : TypeId) (kd : IntKind) (srt : List Int → List Int) : Prop :=
  ∀ (w : World) (a : Option Addr) (n c B Bo : Nat) (xs : List Int), xs.length = n → n < 4611686018427387904 → w.cell? ⟨B, Bo, none⟩ = some (.slice a n c) →
    (n ≠ 0 → ∃ blk off, a = some ⟨blk, off, none⟩ ∧ Holds (Value.int kd) w blk off xs.toArray ∧ blk < w.heap.size ∧ (B ≠ blk ∨ Bo < off ∨ off + n ≤ Bo) ∧ B < w.heap.size) →
    Calls P sf #[.iface tS (.slice a n c), .func (.func lf) #[] #[.pointer (some ⟨B, Bo, none⟩)]] w fun e w' =>
      e = .returned (.tuple #[]) ∧ ∃ m os, (n = 0 ∧ w' = grow w os) ∨ ∃ blk off, a = some ⟨blk, off, none⟩ ∧ w' = grow (putRow (Value.int kd) (ahead w m) blk off (srt xs).toArray) os

theorem wpOp_run {P : Program} {ops : Array Oper} {Q : Exit → Act → World → Prop} {i : Nat} {K : Act → World → Prop} {a : Act} {w w' : World} {o : Oper} {u : Value} (hi : ops[i]? = some o) (hg : o.guard = none)
    (h : (execOp a.eval o).run P w = .ok (.value u) w') (hK : K (a.put o.dst u) w') : wpOp P ops Q i K a w := by
  unfold wpOp
  rw [hi]
  simp only [Region.wanted, hg, if_true]
  left
  exact OpOk.value (K := fun u' w'' => u' = u ∧ w'' = w') h ⟨rfl, rfl⟩ a K Q rfl (fun _ _ ⟨h1, h2⟩ => by subst h1; subst h2; exact hK)

theorem wpOp_call {P : Program} {ops : Array Oper} {Q : Exit → Act → World → Prop} {i : Nat} {K : Act → World → Prop} {a : Act} {w : World} {o : Oper} {f : FuncId} {args : Array Value} {u : Value} {X : World → Prop} (hi : ops[i]? = some o) (hg : o.guard = none)
    (h : (execOp a.eval o).run P w = .ok (.enter f args) w) (hc : Calls P f args w fun e w' => e = .returned u ∧ X w') (hK : ∀ w', X w' → K (a.put o.dst u) w') : wpOp P ops Q i K a w := by
  unfold wpOp
  rw [hi]
  simp only [Region.wanted, hg, if_true]
  left
  exact OpOk.call (K := fun u' w'' => u' = u ∧ X w'') h (hc.mono fun e w' ⟨h1, h2⟩ => ⟨u, h1, rfl, h2⟩) a K Q rfl (fun _ _ ⟨h1, h2⟩ => by subst h1; exact hK _ h2)

theorem Del.app_x (s : St) (d : Nat) : ({ val := T.x } : Del).app (some d) s = { s with tm := s.tm.set d T.x } := by
  simp [Del.app, killTs, putT, Del.hp_val, addMv]

theorem StOk.step_x {g : Gl} {R : Pl} {w0 : World} {e0 : Env} {H0 : List O} {w : World} {a : Act} {e : Env} {s : St} (h : StOk g R w0 e0 H0 w a e s) (d : Nat) (u : Value) : ∃ e', StOk g R w0 e0 H0 w (a.put (some d) u) e' { s with tm := s.tm.set d T.x } := by
  obtain ⟨e', h'⟩ := h.step (d := { val := T.x }) (u := u) (w' := w) (by rfl) (some d) ⟨e, by rw [Del.hp_val]; exact h.sat, by rw [Del.hp_val]; exact Ext.refl _ _ _ _, .x _⟩
  rw [Del.app_x] at h'
  exact ⟨e', h'⟩

theorem sort_region {P : Program} {g : Gl} {sf lf : FuncId} {tS : TypeId} {kd : IntKind} {srt : List Int → List Int} (hs : Sorts P sf lf tS kd srt) (hsl : ∀ l, (srt l).length = l.length) (hcal : callable P sf = true) (hcon : P.concrete tS = true)
    (hag : aggOf P tS = some false)
    {id : Nat} {o0 o1 o2 o3 : Oper} {p d0 d1 d2 d3 : Nat} {aT : Array TypeId}
    (e0 : o0.op = .load tS (.tmp p) ∧ o0.dst = some d0 ∧ o0.guard = none) (e1 : o1.op = .makeInterface tS (.tmp d0) ∧ o1.dst = some d1 ∧ o1.guard = none)
    (e2 : o2.op = .makeFunc (.func lf) #[] #[.tmp p] ∧ o2.dst = some d2 ∧ o2.guard = none) (e3 : o3.op = .call ⟨.value (.func sf), #[.tmp d1, .tmp d2], aT⟩ ∧ o3.dst = some d3 ∧ o3.guard = none)
    (hd : d0 ≠ p ∧ d1 ≠ p ∧ d2 ≠ d1) (s : St) (hd0' : (decide (d0 < s.tm.length) && decide (d1 < s.tm.length) && decide (d2 < s.tm.length)) = true) {kb ka : Nat} {xs : List Int} (hp : s.tm[p]? = some (.a (.s (.ref kb 0)))) (hb : s.hp[kb]? = some (.cells [.one (.sl ka 0 1 0 (xs.map (rI kd)).length)]))
    (ha : s.hp[ka]? = some (.arr 1 (xs.map (rI kd)))) (hne : ka ≠ kb) (hlen : xs.length < 4611686018427387904) :
    Piece P g (.region id #[o0, o1, o2, o3] false) s .normal { s with tm := (((s.tm.set d0 T.x).set d1 T.x).set d2 T.x).set d3 T.x, hp := s.hp.set ka (.arr 1 ((srt xs).map (rI kd))) } := by
  have hd0 : d0 < s.tm.length ∧ d1 < s.tm.length ∧ d2 < s.tm.length := by
    simp only [Bool.and_eq_true, decide_eq_true_eq] at hd0'
    exact ⟨hd0'.1.1, hd0'.1.2, hd0'.2⟩
  intro R w0 e00 H0 Q w a e ho hQ
  refine wp_region ?_
  obtain ⟨u, hu, hru⟩ := ho.sat.has kb _ 0 _ hb (.inl ⟨rfl, rfl⟩)
  obtain ⟨sa, cap, rfl, hcap, hor⟩ := Rel.sl_inv hru
  simp only [List.length_map, Nat.add_zero] at hcap hor hu
  have hpt := ho.tms p _ hp
  have hpv : a.tmps.getD p undef = .pointer (some ⟨(e.β kb).1, (e.β kb).2, none⟩) := by
    have : RelA w e (Mut e R s.hp) (.s (.ref kb 0)) (a.tmps.getD p undef) := hpt
    cases hv : a.tmps.getD p undef <;> rw [hv] at this <;> cases this
    rfl
  have hsz : ∀ d, d < s.tm.length → d < a.tmps.size := fun d h => by rw [← ho.len]; exact h
  have gp : ∀ (b : Act) (d t : Nat) (v : Value), t ≠ d → (b.put (some d) v).tmps.getD t undef = b.tmps.getD t undef := fun b d t v h => by
    rw [getD_put, if_neg]; rintro ⟨h1, _⟩; exact h (Option.some.inj h1).symm
  have gs : ∀ (b : Act) (d : Nat) (v : Value), d < b.tmps.size → (b.put (some d) v).tmps.getD d undef = v := fun b d v h => by
    rw [getD_put, if_pos ⟨rfl, h⟩]
  show wpOps P _ Q [0, 1, 2, 3] a w
  rw [wpOps_cons]
  refine wpOp_run (o := o0) rfl e0.2.2 (u := .slice sa xs.length cap) (w' := w) ?_ ?_
  · have h := run_loadAt_one (P := P) hag w _ _ hu
    simp only [execOp, e0.1, Act.eval, hpv]
    simp [h]
  rw [e0.2.1, wpOps_cons]
  refine wpOp_run (o := o1) rfl e1.2.2 (u := .iface tS (.slice sa xs.length cap)) (w' := w) ?_ ?_
  · have : (a.put (some d0) (.slice sa xs.length cap)).tmps.getD d0 undef = .slice sa xs.length cap := gs _ _ _ (hsz _ hd0.1)
    have h := run_makeInterface (P := P) (w := w) tS (.slice sa xs.length cap) hcon
    simp only [execOp, e1.1, Act.eval, this]
    simp [h]
  rw [e1.2.1, wpOps_cons]
  refine wpOp_run (o := o2) rfl e2.2.2 (u := .func (.func lf) #[] #[.pointer (some ⟨(e.β kb).1, (e.β kb).2, none⟩)]) (w' := w) ?_ ?_
  · have : ((a.put (some d0) (.slice sa xs.length cap)).put (some d1) (.iface tS (.slice sa xs.length cap))).tmps.getD p undef = .pointer (some ⟨(e.β kb).1, (e.β kb).2, none⟩) := by rw [gp _ _ _ _ hd.2.1.symm, gp _ _ _ _ hd.1.symm, hpv]
    simp only [execOp, e2.1, List.map_toArray, List.map_cons, List.map_nil, Act.eval, this, Instr.makeFunc]
    rfl
  rw [e2.2.1, wpOps_cons]
  have hx1 : (((a.put (some d0) (.slice sa xs.length cap)).put (some d1) (.iface tS (.slice sa xs.length cap))).put (some d2) (.func (.func lf) #[] #[.pointer (some ⟨(e.β kb).1, (e.β kb).2, none⟩)])).tmps.getD d1 undef = .iface tS (.slice sa xs.length cap) := by
    rw [gp _ _ _ _ hd.2.2.symm, gs _ _ _ (by rw [put_size]; exact hsz _ hd0.2.1)]
  have hx2 : (((a.put (some d0) (.slice sa xs.length cap)).put (some d1) (.iface tS (.slice sa xs.length cap))).put (some d2) (.func (.func lf) #[] #[.pointer (some ⟨(e.β kb).1, (e.β kb).2, none⟩)])).tmps.getD d2 undef = .func (.func lf) #[] #[.pointer (some ⟨(e.β kb).1, (e.β kb).2, none⟩)] := by
    rw [gs _ _ _ (by rw [put_size, put_size]; exact hsz _ hd0.2.2)]
  have hwf := ho.sat.wf ka _ ha
  have hcells : ∀ j (hj : j < xs.length), w.cell? ⟨(e.β ka).1, (e.β ka).2 + j, none⟩ = some (.int kd xs[j]) ∧ w.frozen? ⟨(e.β ka).1, (e.β ka).2 + j, none⟩ = false ∧ Cov (e.κ ka) (.arr 1 (xs.map (rI kd))) j := by
    intro j hj
    obtain ⟨u, h1, h2⟩ := ho.sat.has ka _ j (.c (.int kd xs[j])) ha ⟨j, 0, rI kd xs[j], by rw [List.getElem?_map, List.getElem?_eq_getElem hj]; rfl, rfl, by omega⟩
    have h3 := Rel.c_eq h2
    subst h3
    have hcv : Cov (e.κ ka) (.arr 1 (xs.map (rI kd))) j := by
      show j < e.κ ka 0 * 1
      have := hwf.1
      simp only [List.length_map] at this
      omega
    exact ⟨h1, (ho.sat.cov ka _ j ha hcv).2, hcv⟩
  have hBlt : (e.β kb).1 < w.heap.size := lt_of_cell hu
  refine wpOp_call (o := o3) rfl e3.2.2 ?_ (hs w sa xs.length cap (e.β kb).1 (e.β kb).2 xs rfl hlen hu ?_) ?_
  · have h := run_callFunc hcal #[Value.iface tS (.slice sa xs.length cap), .func (.func lf) #[] #[.pointer (some ⟨(e.β kb).1, (e.β kb).2, none⟩)]] w
    simp only [execOp, e3.1, resolve, List.map_toArray, List.map_cons, List.map_nil, Act.eval, hx1, hx2, Deferred.ofValue, invoke]
    simp [h]
  · intro hn
    rcases hor with ⟨h0, _⟩ | ⟨h1, h2⟩
    · exact absurd h0 hn
    · refine ⟨(e.β ka).1, (e.β ka).2 + 0 * 1, h1, ?_, lt_of_cell (hcells 0 (Nat.pos_of_ne_zero hn)).1, ?_, hBlt⟩
      · intro j hj
        simp only [List.size_toArray] at hj
        obtain ⟨c1, c2, _⟩ := hcells j hj
        simp only [Nat.add_zero, Nat.zero_mul]
        refine ⟨by rw [c1]; simp [hj], c2⟩
      · apply Classical.byContradiction
        intro hc
        simp only [not_or, Nat.not_lt, Nat.not_le, ne_eq, Decidable.not_not] at hc
        obtain ⟨hc1, hc2, hc3⟩ := hc
        simp only [Nat.add_zero, Nat.zero_mul] at hc2 hc3
        have hj : (e.β kb).2 - (e.β ka).2 < xs.length := by omega
        have := ho.sat.dis ka kb _ _ ((e.β kb).2 - (e.β ka).2) 0 ha hb (hcells _ hj).2.2 (.inl rfl) hc1.symm (by omega)
        exact hne this
  · intro w' ⟨m, os, hw⟩
    rw [e3.2.1]
    show Q .normal _ w'
    have hpost : ∃ e', StOk g R w0 e00 H0 w' a e' { s with hp := s.hp.set ka (.arr 1 ((srt xs).map (rI kd))) } := by
      have key : ∃ m os, w' = grow (putRow (Value.int kd) (ahead w m) (e.β ka).1 (e.β ka).2 (srt xs).toArray) os := by
        rcases hw with ⟨h0, hw⟩ | ⟨blk, off, h1, hw⟩
        · have hx : xs = [] := List.eq_nil_of_length_eq_zero h0
          have hsx : srt xs = [] := List.eq_nil_of_length_eq_zero (by rw [hsl, h0])
          refine ⟨0, os, ?_⟩
          rw [hsx, ahead_zero, hw]
          congr 1
          exact (putRow_self (Value.int kd) w _ _ [].toArray (fun j hj => by simp at hj)).symm
        · by_cases h0 : xs.length = 0
          · have hsx : srt xs = [] := List.eq_nil_of_length_eq_zero (by rw [hsl, h0])
            rw [hsx] at hw ⊢
            refine ⟨m, os, ?_⟩
            rw [hw]
            congr 1
            rw [putRow_self (Value.int kd) (ahead w m) _ _ [].toArray (fun j hj => by simp at hj), putRow_self (Value.int kd) (ahead w m) _ _ [].toArray (fun j hj => by simp at hj)]
          · rcases hor with ⟨h2, _⟩ | ⟨h2, _⟩
            · exact absurd h2 h0
            · rw [h2] at h1
              simp only [Option.some.injEq, Addr.mk.injEq, and_true] at h1
              refine ⟨m, os, ?_⟩
              rw [hw, ← h1.1, ← h1.2]
              simp only [Nat.add_zero, Nat.zero_mul]
      obtain ⟨m, os, rfl⟩ := key
      obtain ⟨s2, x2⟩ := sat_sorted ho.sat ha (hsl xs) m os
      obtain ⟨e', h'⟩ := ho.step (d := { val := T.x, sets := [(ka, .arr 1 ((srt xs).map (rI kd)))] }) (u := undef) (w' := grow (putRow (Value.int kd) (ahead w m) (e.β ka).1 (e.β ka).2 (srt xs).toArray) os) (by rfl) none
        ⟨e, by rw [Del.hp_set]; exact s2, by rw [Del.hp_set]; exact x2, .x _⟩
      refine ⟨e', ?_⟩
      have : ({ val := T.x, sets := [(ka, .arr 1 ((srt xs).map (rI kd)))] } : Del).app none s = { s with hp := s.hp.set ka (.arr 1 ((srt xs).map (rI kd))) } := by
        simp [Del.app, killTs, putT, Del.hp_set, addMv]
      rw [this] at h'
      exact h'
    obtain ⟨e1', h1'⟩ := hpost
    obtain ⟨e2', h2'⟩ := h1'.step_x d0 (.slice sa xs.length cap)
    obtain ⟨e3', h3'⟩ := h2'.step_x d1 (.iface tS (.slice sa xs.length cap))
    obtain ⟨e4', h4'⟩ := h3'.step_x d2 (.func (.func lf) #[] #[.pointer (some ⟨(e.β kb).1, (e.β kb).2, none⟩)])
    obtain ⟨e5', h5'⟩ := h4'.step_x d3 (.tuple #[])
    exact hQ _ _ e5' h5'
end Sx
