/- Regions whose order is open, third part. -/
import Derived.Test.YthimhmocgnnaiaaDoorSxQ
namespace Sx
open Go

def disj (a b : List Nat) : Bool := a.all fun k => !b.contains k

theorem disj_ok {a b : List Nat} (h : disj a b = true) : ∀ k ∈ a, k ∉ b := by
  intro k hk hb
  have := List.all_eq_true.1 h k hk
  rw [List.contains_iff_mem.2 hb] at this; cases this

def notDst (dst : Option Tmp) (l : List Operand) : Bool :=
  match dst with
  | none => true
  | some d => l.all fun | .tmp t => t != d | _ => true

theorem notDst_ok {dst : Option Tmp} {l : List Operand} (h : notDst dst l = true) : ∀ x ∈ l, ∀ t, x = .tmp t → dst ≠ some t := by
  intro x hx t ht hd
  subst ht
  rw [hd] at h
  have := List.all_eq_true.1 h _ hx
  simp at this

def maker (o : Op) (it : Itm) : Bool := (match o with | .alloc _ => true | .box _ _ => true | _ => false) && (match it with | .i _ => true | _ => false)
def onesQ : List Slot → List C
  | [] => []
  | .one c :: r => c :: onesQ r
  | _ :: r => onesQ r
def O.keyless (o : O) : Bool := match o with | .cells ss => (onesQ ss).all fun c => c.key.isNone | _ => true
def rhoOf : Itm → List Nat
  | .call cl => cl.ρ
  | _ => []
/-- Something new is made, then a tight call. -/
def mkTight (ops : Array Oper) (hs : List (Nat × Hn)) (i j : Nat) (oi oj : Oper) (ri rj : Rec) : Bool :=
  maker oi.op (lookH hs i).it && tight (lookH hs j).it && (rhoOf (lookH hs j).it).all (fun k => decide (k < ri.len)) && rj.d.ok ri.len && ri.d.new.all O.keyless && (looks ops oi).all (fun x => disj (keysT (ri.τ x)) rj.d.kill) &&
    disj (keysT ri.d.val) rj.d.kill && decide (rj.len ≤ ri.len) && (match oj.op with | .call _ => true | _ => false)
/-- A tight call, then something new is made. -/
def tightMk (ops : Array Oper) (hs : List (Nat × Hn)) (i j : Nat) (_ oj : Oper) (ri rj : Rec) : Bool :=
  tight (lookH hs i).it && maker oj.op (lookH hs j).it && (rhoOf (lookH hs i).it).all (fun k => decide (k < ri.len)) && rj.d.new.all O.keyless && (ri.d.kill.isEmpty || (looks ops oj).all (fun x => (rj.τ x).known)) && disj (keysT rj.d.val) ri.d.kill

/-- The step told of first, and the one told of second, may change places. -/
def ncB (ops : Array Oper) (hs : List (Nat × Hn)) (i j : Nat) (oi oj : Oper) (ri rj : Rec) : Bool :=
  notDst oi.dst (looks ops oj) && notDst oj.dst (looks ops oi) && (oi.dst.isNone || oi.dst != oj.dst) &&
  (match clsOf hs i oi, clsOf hs j oj with
   | 2, 2 => mkTight ops hs i j oi oj ri rj || tightMk ops hs i j oi oj ri rj
   | 2, c =>
     (ri.d.kill.isEmpty || (c == 0 && (looks ops oj).all (fun x => (rj.τ x).known) && disj (keysT rj.d.val) ri.d.kill)) &&
     (c == 0 || (((looks ops oj).all fun x => (keysT (rj.τ x)).all fun k => !(ri.d.sets.map (·.1)).contains k && decide (k < ri.len)) && (rdOf (lookH hs j).it).all fun k => !(ri.d.sets.map (·.1)).contains k && decide (k < ri.len))) && rj.d.val.lt ri.len
   | c, 2 =>
     (rj.d.kill.isEmpty || (c == 0 && (looks ops oi).all (fun x => disj (keysT (ri.τ x)) rj.d.kill) && disj (keysT ri.d.val) rj.d.kill)) &&
     (c == 0 || (((looks ops oi).all fun x => (keysT (ri.τ x)).all fun k => !(rj.d.sets.map (·.1)).contains k && decide (k < rj.len)) && (rdOf (lookH hs i).it).all fun k => !(rj.d.sets.map (·.1)).contains k && decide (k < rj.len)))
   | _, _ => true)

theorem clsOf_le (hs : List (Nat × Hn)) (i : Nat) (o : Oper) : clsOf hs i o ≤ 2 := by
  unfold clsOf
  split
  · unfold cls
    split
    · exact Nat.le_refl _
    · omega
    · omega
    · split <;> first | omega | (split <;> omega)
  · omega

theorem killTs_getD {ks : List Nat} {tm : List T} {t : Nat} : ((killTs ks tm)[t]?).getD T.x = if ks = [] then (tm[t]?).getD T.x else killT ks ((tm[t]?).getD T.x) := by
  cases ks with
  | nil => rfl
  | cons k r =>
    simp only [killTs, List.getElem?_map]
    cases tm[t]? with
    | none => simp [T.x, killT, killA, killC, C.key]
    | some v => simp

theorem eva_app {ops : Array Oper} {s : St} {d : Del} {dst : Option Tmp} {x : Operand} (h : ∀ t, x = .tmp t → dst ≠ some t) :
    eva (d.app dst s).tm x = (match x with | .tmp _ => if d.kill = [] then eva s.tm x else killT d.kill (eva s.tm x) | _ => eva s.tm x) := by
  have := ops
  cases x with
  | tmp t =>
    simp only [Del.app]
    rw [eva_tmp]
    have hne := h t rfl
    have : (putT (killTs d.kill s.tm) dst d.val)[t]? = (killTs d.kill s.tm)[t]? := by
      cases dst with
      | none => rfl
      | some q => exact List.getElem?_set_ne (fun e => hne (by rw [e]))
    rw [this, killTs_getD]; rfl
  | _ => rfl

theorem putT_comm {tm : List T} {a b : Option Tmp} {v u : T} (h : a.isNone = true ∨ a ≠ b) : putT (putT tm a v) b u = putT (putT tm b u) a v := by
  cases a with
  | none => rfl
  | some x =>
    cases b with
    | none => rfl
    | some y =>
      have hne : x ≠ y := fun e => by rcases h with h | h; cases h; exact h (by rw [e])
      simp only [putT]
      exact List.set_comm _ _ hne

theorem killTs_put {ks : List Nat} {tm : List T} {dst : Option Tmp} {v : T} (h : ks = [] ∨ killT ks v = v) : killTs ks (putT tm dst v) = putT (killTs ks tm) dst v := by
  cases ks with
  | nil => rfl
  | cons k r =>
    cases dst with
    | none => rfl
    | some q =>
      simp only [killTs, putT, List.map_set]
      rw [h.resolve_left (by simp)]

theorem T.lt_mono {n m : Nat} {t : T} (h : t.lt n = true) (hm : n ≤ m) : t.lt m = true := by
  unfold T.lt at h ⊢
  rw [List.all_eq_true] at h ⊢
  intro c hc
  have := h c hc
  unfold C.lt at this ⊢
  cases hk : c.key with
  | none => rfl
  | some k => rw [hk] at this; simp at this ⊢; omega

theorem Del.ok_quiet {d : Del} (h : d.sets = [] ∧ d.new = [] ∧ d.kill = []) (n : Nat) : d.ok n = d.val.lt n := by
  simp [Del.ok, h.1, h.2.1]

theorem hp_get_other {d : Del} {H : List O} {k : Nat} (hk : d.kill = []) (hs : k ∉ d.sets.map (·.1)) (hlt : k < H.length) : (d.hp H)[k]? = H[k]? := by
  unfold Del.hp
  rw [hk, killN, List.getElem?_append_left (by rw [setAll_length]; exact hlt), setAll_other _ _ _ hs]

theorem step_ok {P : Program} {g : Gl} {ops : Array Oper} {hs : List (Nat × Hn)} {i : Nat} {o : Oper} {r : Rec} {s : St} (h : At P g ops hs i o r s) (hrun : (lookH hs i).run = true) :
    r.d.ok s.hp.length = true := by
  have hst := h.step
  unfold stepAt at hst
  rw [h.op] at hst
  simp only at hst
  split at hst
  · cases hst
  · rw [if_pos hrun] at hst
    split at hst
    · split at hst
      · rename_i hok
        simp only [Option.some.injEq, Prod.mk.injEq] at hst
        rw [← hst.1]; exact hok
      · cases hst
    · cases hst

theorem rd_cls {o : Op} {it : Itm} {k : Nat} (h : k ∈ rdOf it) : cls o it = 1 := by
  cases it with
  | look rs res => rfl
  | _ => exact absurd h (by simp [rdOf])

theorem slotsLt_mono {n m : Nat} (hm : n ≤ m) : ∀ {ss : List Slot}, slotsLt n ss = true → slotsLt m ss = true
  | [], _ => rfl
  | .one c :: r, h => by
    simp only [slotsLt, Bool.and_eq_true] at h ⊢
    refine ⟨?_, slotsLt_mono hm h.2⟩
    have := h.1
    unfold C.lt at this ⊢
    cases hk : c.key with
    | none => rfl
    | some k => rw [hk] at this; simp at this ⊢; omega
  | .row _ _ _ :: r, h => slotsLt_mono hm (ss := r) h
  | .hole _ :: r, h => slotsLt_mono hm (ss := r) h
theorem O.lt_mono {n m : Nat} (hm : n ≤ m) {o : O} (h : o.lt n = true) : o.lt m = true := by
  cases o with
  | cells ss => exact slotsLt_mono hm h
  | _ => rfl
theorem Del.ok_mono {n m : Nat} (hm : n ≤ m) {d : Del} (h : d.ok n = true) : d.ok m = true := by
  simp only [Del.ok, Bool.and_eq_true, List.all_eq_true] at h ⊢
  exact ⟨⟨T.lt_mono h.1.1 (by omega), fun x hx => O.lt_mono (by omega) (h.1.2 x hx)⟩, fun x hx => O.lt_mono (by omega) (h.2 x hx)⟩

theorem slotsLt_ones {n : Nat} : ∀ {ss : List Slot}, slotsLt n ss = true → ∀ c ∈ onesQ ss, C.lt n c = true
  | [], _, c, h => by simp [onesQ] at h
  | .one d :: r, h, c, hc => by
    simp only [slotsLt, Bool.and_eq_true] at h
    simp only [onesQ, List.mem_cons] at hc
    rcases hc with rfl | hc
    · exact h.1
    · exact slotsLt_ones h.2 c hc
  | .row _ _ _ :: r, h, c, hc => slotsLt_ones (ss := r) h c hc
  | .hole _ :: r, h, c, hc => slotsLt_ones (ss := r) h c hc

theorem renS_fout {ρ : List Nat} {len : Nat} : ∀ {ss : List Slot}, slotsLt ρ.length ss = true → renS (fout ρ len) ss = renS (ρ[·]?) ss
  | [], _ => rfl
  | .one d :: r, h => by
    simp only [slotsLt, Bool.and_eq_true] at h
    simp only [renS]
    rw [renC_fout h.1, renS_fout h.2]
  | .row _ _ _ :: r, h => by simp only [renS]; rw [renS_fout (ss := r) h]
  | .hole _ :: r, h => by simp only [renS]; rw [renS_fout (ss := r) h]
theorem renO_fout {ρ : List Nat} {len : Nat} {o : O} (h : o.lt ρ.length = true) : renO (fout ρ len) o = renO (ρ[·]?) o := by
  cases o with
  | cells ss => simp only [renO]; rw [renS_fout h]
  | _ => rfl

theorem lendAll_nil {H : Nat → Option O} : ∀ {cs : List C}, lendAll H [] cs
  | [] => trivial
  | c :: r => ⟨by unfold lendOk; split <;> trivial, lendAll_nil⟩
theorem argsOk_nil {H : Nat → Option O} {τ : Operand → T} : ∀ {l : List Operand}, argsOk H [] τ l
  | [] => trivial
  | _ :: _ => ⟨lendAll_nil, argsOk_nil⟩

/-- A tight call's outcome. -/
theorem tight_spec {P : Program} {g : Gl} {o : Oper} {τ : Operand → T} {H : Nat → Option O} {len : Nat} {it : Itm} {d : Del} {p : Prop} (ht : tight it = true) (h : core P g o τ H len it = some (d, p)) :
    d.new = [] ∧ (∀ k ∈ d.sets.map (·.1), k ∈ rhoOf it) ∧ ∀ (H' : Nat → Option O) (len' : Nat), (∀ k ∈ rhoOf it, H k = H' k) → core P g o τ H' len' it = some (d, p) := by
  cases it with
  | call cl =>
    simp only [tight, tightCl, Bool.and_eq_true, beq_iff_eq] at ht
    obtain ⟨⟨⟨t1, t2⟩, t3⟩, t4⟩ := ht
    have hfr : cl.fr = [] := by cases hh : cl.fr with | nil => rfl | cons a b => rw [hh] at t1; cases t1
    have hnew : ∀ n, (cl.del n).new = [] := fun n => by
      show (cl.H'.drop cl.ρ.length).map _ = []
      rw [List.drop_of_length_le (by omega)]; rfl
    have hdel : ∀ n m, cl.del n = cl.del m := by
      intro n m
      have h1 : renT (fout cl.ρ n) cl.res = renT (fout cl.ρ m) cl.res := by rw [renT_fout t3, renT_fout t3]
      have h2 : ∀ n m, (cl.H'.take cl.ρ.length).map (renO (fout cl.ρ n)) = (cl.H'.take cl.ρ.length).map (renO (fout cl.ρ m)) := fun n m => List.map_congr_left fun x hx => by
        have := List.all_eq_true.1 t4 x (List.mem_of_mem_take hx)
        rw [renO_fout this, renO_fout this]
      have h3 : (cl.del n).new = (cl.del m).new := by rw [hnew, hnew]
      simp only [Claim.del] at h3 ⊢
      rw [h1, h2 n m, h3]
    simp only [core, coCall] at h ⊢
    cases hop : o.op with
    | call c =>
      rw [hop] at h
      simp only at h
      split at h
      · rename_i f hcal
        split at h
        · rename_i hcond
          split at h
          · rename_i Hs hsub
            simp only [Option.some.injEq, Prod.mk.injEq] at h
            obtain ⟨rfl, rfl⟩ := h
            refine ⟨hnew _, fun k hk => ?_, fun H' len' hH => ?_⟩
            · simp only [Claim.del, hfr, List.map_nil, List.append_nil, List.mem_map] at hk
              obtain ⟨x, hx, rfl⟩ := hk
              exact (List.of_mem_zip (b := x.2) hx).1
            · have hs : subOf cl.ρ H' cl.ρ = some Hs := by rw [← subOf_congr cl.ρ hH]; exact hsub
              simp only [hcal]
              rw [if_pos hcond, hs, hdel len' len, hfr]
              simp only [Option.some.injEq, Prod.mk.injEq, true_and]
              have e1 : argsOk H' [] τ c.args.toList = argsOk H [] τ c.args.toList := propext ⟨fun _ => argsOk_nil, fun _ => argsOk_nil⟩
              rw [e1]
          · cases h
        · cases h
      · cases h
    | _ => rw [hop] at h; cases h
  | _ => cases ht

theorem maker_spec {P : Program} {g : Gl} {o : Oper} {τ : Operand → T} {H : Nat → Option O} {len : Nat} {it : Itm} {d : Del} {p : Prop} (hm : maker o.op it = true) (h : core P g o τ H len it = some (d, p)) :
    d.sets = [] ∧ d.kill = [] ∧ ∀ (H' : Nat → Option O), core P g o τ H' len it = some (d, p) := by
  simp only [maker, Bool.and_eq_true] at hm
  cases it with
  | i it =>
    obtain ⟨h1, _⟩ := hm
    simp only [core] at h ⊢
    cases hop : o.op <;> simp only [hop] at h1 h ⊢ <;> try (cases h1; done)
    · have hd := noProp_some h
      unfold coNew at hd
      rw [hop] at hd
      simp only at hd
      split at hd
      · split at hd
        · simp only [Option.map_eq_some_iff] at hd
          obtain ⟨ss, _, rfl⟩ := hd
          exact ⟨rfl, rfl, fun _ => h⟩
        · cases hd
      · cases hd
    · have hd := noProp_some h
      unfold coNew at hd
      rw [hop] at hd
      simp only at hd
      split at hd
      · split at hd
        · simp only [Option.map_eq_some_iff] at hd
          obtain ⟨ss, _, rfl⟩ := hd
          exact ⟨rfl, rfl, fun _ => h⟩
        · cases hd
      · cases hd
  | _ => simp at hm

theorem run_core {P : Program} {g : Gl} {ops : Array Oper} {hs : List (Nat × Hn)} {i : Nat} {o : Oper} {r : Rec} {s : St} (h : At P g ops hs i o r s) (hrun : (lookH hs i).run = true) :
    ∃ p, core P g o (eva s.tm) (fun k => s.hp[k]?) s.hp.length (lookH hs i).it = some (r.d, p) := by
  have hst := h.step
  unfold stepAt at hst
  rw [h.op] at hst
  simp only at hst
  split at hst
  · cases hst
  · rw [if_pos hrun] at hst
    split at hst
    · rename_i d p hc
      split at hst
      · simp only [Option.some.injEq, Prod.mk.injEq] at hst
        exact ⟨p, by rw [← hst.1]; exact hc⟩
      · cases hst
    · cases hst

theorem killS_keyless {ks : List Nat} : ∀ {ss : List Slot}, (onesQ ss).all (fun c => c.key.isNone) = true → killS ks ss = ss
  | [], _ => rfl
  | .one c :: r, h => by
    simp only [onesQ, List.all_cons, Bool.and_eq_true] at h
    simp only [killS]
    rw [killS_keyless h.2, killC_id (fun k hk => by rw [hk] at h; simp at h)]
  | .row _ _ _ :: r, h => by simp only [killS]; rw [killS_keyless (ss := r) h]
  | .hole _ :: r, h => by simp only [killS]; rw [killS_keyless (ss := r) h]
theorem killO_keyless {ks : List Nat} {o : O} (h : o.keyless = true) : killO ks o = o := by
  cases o with
  | cells ss => simp only [killO]; rw [killS_keyless h]
  | _ => rfl
theorem killH_keyless {ks : List Nat} : ∀ {N : List O}, N.all O.keyless = true → killH ks N = N
  | [], _ => rfl
  | o :: r, h => by
    simp only [List.all_cons, Bool.and_eq_true] at h
    simp only [killH]
    rw [killO_keyless h.1, killH_keyless h.2]
theorem killH_append {ks : List Nat} {N : List O} : ∀ (H : List O), killH ks (H ++ N) = killH ks H ++ killH ks N
  | [] => rfl
  | o :: r => by simp only [List.cons_append, killH]; rw [killH_append r]
theorem killN_append {ks : List Nat} {H N : List O} (h : N.all O.keyless = true) : killN ks (H ++ N) = killN ks H ++ N := by
  cases ks with
  | nil => rfl
  | cons a r => simp only [killN]; rw [killH_append, killH_keyless h]
theorem setAll_append_left {N : List O} : ∀ (l : List (Nat × O)) (H : List O), (∀ k ∈ l.map (·.1), k < H.length) → setAll l (H ++ N) = setAll l H ++ N
  | [], H, _ => rfl
  | (k, o) :: r, H, h => by
    simp only [setAll]
    rw [List.set_append_left _ _ (h k (by simp)), setAll_append_left r (H.set k o) (fun j hj => by rw [List.length_set]; exact h j (by simp only [List.map_cons, List.mem_cons]; exact .inr hj))]

/-- Something new, and a tight call, in either order. -/
theorem hp_comm {a b : Del} {H : List O} (ha : a.sets = [] ∧ a.kill = []) (hk : a.new.all O.keyless = true) (hb : b.new = []) (hs : ∀ k ∈ b.sets.map (·.1), k < H.length) : a.hp (b.hp H) = b.hp (a.hp H) := by
  unfold Del.hp
  rw [ha.1, ha.2, hb]
  show setAll b.sets (killN b.kill H) ++ [] ++ a.new = setAll b.sets (killN b.kill (H ++ a.new)) ++ []
  rw [List.append_nil, List.append_nil, killN_append hk, setAll_append_left _ _ (fun k hk' => by rw [killN_length]; exact hs k hk')]

theorem swap22 {P : Program} {g : Gl} {ops : Array Oper} {hs : List (Nat × Hn)} {i j : Nat} {oi oj : Oper} {ri rj : Rec} {s : St}
    (h1 : At P g ops hs i oi ri s) (h2 : At P g ops hs j oj rj (ri.d.app oi.dst s)) (nc : ncB ops hs i j oi oj ri rj = true) (ci : clsOf hs i oi = 2) (cj : clsOf hs j oj = 2) :
    At P g ops hs j oj rj s ∧ At P g ops hs i oi ri (rj.d.app oj.dst s) ∧ ri.d.app oi.dst (rj.d.app oj.dst s) = rj.d.app oj.dst (ri.d.app oi.dst s) := by
  unfold ncB at nc
  simp only [Bool.and_eq_true] at nc
  obtain ⟨⟨⟨n1, n2⟩, n3⟩, n4⟩ := nc
  rw [ci, cj] at n4
  simp only [Bool.or_eq_true] at n4
  have a1 := notDst_ok n1
  have a2 := notDst_ok n2
  have a3 : oi.dst.isNone = true ∨ oi.dst ≠ oj.dst := by
    simp only [Bool.or_eq_true, bne_iff_ne, ne_eq] at n3; exact n3
  have evj : ∀ x ∈ looks ops oj, eva (ri.d.app oi.dst s).tm x = (match x with | .tmp _ => if ri.d.kill = [] then eva s.tm x else killT ri.d.kill (eva s.tm x) | _ => eva s.tm x) := fun x hx => (eva_app (ops := ops) (fun t ht => a1 x hx t ht)).trans (by cases x <;> rfl)
  have evi : ∀ x ∈ looks ops oi, eva (rj.d.app oj.dst s).tm x = (match x with | .tmp _ => if rj.d.kill = [] then eva s.tm x else killT rj.d.kill (eva s.tm x) | _ => eva s.tm x) := fun x hx => (eva_app (ops := ops) (fun t ht => a2 x hx t ht)).trans (by cases x <;> rfl)
  have opsub : ∀ (o : Oper) (x : Operand), x ∈ o.op.operands → x ∈ looks ops o := fun o x hx => by simp only [looks, List.mem_append]; exact .inl (by simpa using hx)
  have lenApp : ∀ (d : Del) (dst : Option Tmp) (s : St), (d.app dst s).tm.length = s.tm.length := fun d dst s => by simp only [Del.app, putT_length, killTs_length]
  have runi : (lookH hs i).run = true := by
    unfold clsOf at ci
    split at ci
    · assumption
    · omega
  have runj : (lookH hs j).run = true := by
    unfold clsOf at cj
    split at cj
    · assumption
    · omega
  obtain ⟨pi, hci⟩ := run_core h1 runi
  obtain ⟨pj, hcj⟩ := run_core h2 runj
  rcases n4 with n4 | n4
  · -- something new first
    simp only [mkTight, Bool.and_eq_true, decide_eq_true_eq] at n4
    obtain ⟨⟨⟨⟨⟨⟨⟨⟨m1, m2⟩, m3⟩, m4⟩, m5⟩, m6⟩, m7⟩, m8⟩, _⟩ := n4
    have hlen : s.hp.length = ri.len := (h1.len ci).2 (by
      cases hh : (lookH hs i).it with
      | call cl => rw [hh] at m1; simp [maker] at m1
      | _ => rfl)
    obtain ⟨s1, s2, s3⟩ := maker_spec m1 hci
    obtain ⟨t1, t2, t3⟩ := tight_spec m2 hcj
    have hrho : ∀ k ∈ rhoOf (lookH hs j).it, k < s.hp.length := fun k hk => by rw [hlen]; simpa using List.all_eq_true.1 m3 k hk
    have hH : ∀ k ∈ rhoOf (lookH hs j).it, (ri.d.app oi.dst s).hp[k]? = s.hp[k]? := fun k hk => hp_get_other s2 (by rw [s1]; simp) (hrho k hk)
    have k1 : ∀ x ∈ looks ops oj, eva s.tm x = rj.τ x := fun x hx => by
      have := evj x hx
      rw [h2.eva x hx] at this
      cases x <;> simp_all
    have k2 : ∀ x ∈ looks ops oi, eva (rj.d.app oj.dst s).tm x = ri.τ x := fun x hx => by
      rw [evi x hx, ← h1.eva x hx]
      have hd := List.all_eq_true.1 m6 x hx
      rw [← h1.eva x hx] at hd
      cases x with
      | tmp t =>
        by_cases hk : rj.d.kill = []
        · simp [hk]
        · simp only [if_neg hk]; exact killT_id (disj_ok hd)
      | _ => rfl
    have hlj : (rj.d.app oj.dst s).hp.length = s.hp.length := by simp only [Del.app, hp_length, t1, List.length_nil, Nat.add_zero]
    refine ⟨⟨h2.op, ?_, k1, fun hc => ⟨fun _ => by rw [hlen]; exact m8, fun hf => by rw [m2] at hf; cases hf⟩⟩, ⟨h1.op, ?_, k2, fun hc => ?_⟩, ?_⟩
    · refine stepAt_congr (s := ri.d.app oi.dst s) h2.op h2.step (lenApp _ _ _).symm (fun x hx => by rw [k1 x hx, h2.eva x hx]) (fun _ => ?_) (fun _ => by rw [hlen]; exact m4)
      rw [hcj]
      exact t3 _ _ hH
    · refine stepAt_congr (s := s) h1.op h1.step (lenApp _ _ _) (fun x hx => by rw [k2 x hx, h1.eva x hx]) (fun _ => ?_) (fun hr => by rw [hlj]; exact step_ok h1 hr)
      rw [hci, hlj]
      exact s3 _
    · rw [hlj]; exact h1.len hc
    · have htm : putT (killTs ri.d.kill (putT (killTs rj.d.kill s.tm) oj.dst rj.d.val)) oi.dst ri.d.val = putT (killTs rj.d.kill (putT (killTs ri.d.kill s.tm) oi.dst ri.d.val)) oj.dst rj.d.val := by
        rw [killTs_put (.inl s2), killTs_put (.inr (killT_id (disj_ok m7))), s2]
        exact (putT_comm a3).symm
      simp only [Del.app]
      rw [htm, hp_comm ⟨s1, s2⟩ m5 t1 (fun k hk => hrho k (t2 k hk)), s2]
      rfl
  · -- a tight call first
    simp only [tightMk, Bool.and_eq_true] at n4
    obtain ⟨⟨⟨⟨⟨m1, m2⟩, m3⟩, m4⟩, m5⟩, m6⟩ := n4
    obtain ⟨t1, t2, t3⟩ := tight_spec m1 hci
    obtain ⟨s1, s2, s3⟩ := maker_spec m2 hcj
    have htj : tight (lookH hs j).it = false := by
      cases hh : (lookH hs j).it with
      | call cl => rw [hh] at m2; simp [maker] at m2
      | _ => rfl
    have hrho : ∀ k ∈ rhoOf (lookH hs i).it, k < s.hp.length := fun k hk => Nat.lt_of_lt_of_le (by simpa using List.all_eq_true.1 m3 k hk) (h1.le ci)
    have hli : (ri.d.app oi.dst s).hp.length = s.hp.length := by simp only [Del.app, hp_length, t1, List.length_nil, Nat.add_zero]
    have hlen : s.hp.length = rj.len := by rw [← hli]; exact (h2.len cj).2 htj
    have k1 : ∀ x ∈ looks ops oj, eva s.tm x = rj.τ x := fun x hx => by
      have hx2 := evj x hx
      rw [h2.eva x hx] at hx2
      cases x with
      | tmp t =>
        by_cases hk : ri.d.kill = []
        · simp only [hk, if_true] at hx2; exact hx2.symm
        · have hk' : ri.d.kill.isEmpty = false := by cases hh : ri.d.kill with | nil => exact absurd hh hk | cons a b => rfl
          simp only [Bool.or_eq_true] at m5
          have hkn := List.all_eq_true.1 (m5.resolve_left (by rw [hk']; simp)) _ hx
          simp only [if_neg hk] at hx2
          rw [hx2] at hkn ⊢
          exact (killT_known hkn).symm
      | _ => exact hx2.symm
    have k2 : ∀ x ∈ looks ops oi, eva (rj.d.app oj.dst s).tm x = ri.τ x := fun x hx => by
      rw [evi x hx, ← h1.eva x hx]
      cases x <;> simp [s2]
    have hH : ∀ k ∈ rhoOf (lookH hs i).it, s.hp[k]? = (rj.d.app oj.dst s).hp[k]? := fun k hk => (hp_get_other s2 (by rw [s1]; simp) (hrho k hk)).symm
    refine ⟨⟨h2.op, ?_, k1, fun hc => ⟨fun hf => by (rw [htj] at hf; cases hf), fun _ => hlen⟩⟩, ⟨h1.op, ?_, k2, fun hc => ⟨fun ht => ?_, fun hf => by rw [m1] at hf; cases hf⟩⟩, ?_⟩
    · refine stepAt_congr (s := ri.d.app oi.dst s) h2.op h2.step (lenApp _ _ _).symm (fun x hx => by rw [k1 x hx, h2.eva x hx]) (fun _ => ?_) (fun hr => by have := step_ok h2 hr; rw [hli] at this; exact this)
      rw [hcj]
      have := s3 (fun k => s.hp[k]?)
      rw [hli] at this
      exact this
    · refine stepAt_congr (s := s) h1.op h1.step (lenApp _ _ _) (fun x hx => by rw [k2 x hx, h1.eva x hx]) (fun _ => ?_) (fun hr => Del.ok_mono (by simp only [Del.app, hp_length]; omega) (step_ok h1 hr))
      rw [hci]
      exact t3 _ _ hH
    · have := (h1.len hc).1 ht
      simp only [Del.app, hp_length]; omega
    · have htm : putT (killTs ri.d.kill (putT (killTs rj.d.kill s.tm) oj.dst rj.d.val)) oi.dst ri.d.val = putT (killTs rj.d.kill (putT (killTs ri.d.kill s.tm) oi.dst ri.d.val)) oj.dst rj.d.val := by
        rw [killTs_put (.inr (killT_id (disj_ok m6))), killTs_put (.inl s2), s2]
        exact (putT_comm a3).symm
      simp only [Del.app]
      rw [htm, hp_comm ⟨s1, s2⟩ m4 t1 (fun k hk => hrho k (t2 k hk)), s2]
      rfl

theorem swap {P : Program} {g : Gl} {ops : Array Oper} {hs : List (Nat × Hn)} {i j : Nat} {oi oj : Oper} {ri rj : Rec} {s : St}
    (h1 : At P g ops hs i oi ri s) (h2 : At P g ops hs j oj rj (ri.d.app oi.dst s)) (nc : ncB ops hs i j oi oj ri rj = true) :
    At P g ops hs j oj rj s ∧ At P g ops hs i oi ri (rj.d.app oj.dst s) ∧ ri.d.app oi.dst (rj.d.app oj.dst s) = rj.d.app oj.dst (ri.d.app oi.dst s) := by
  have nc0 := nc
  unfold ncB at nc
  simp only [Bool.and_eq_true] at nc
  obtain ⟨⟨⟨n1, n2⟩, n3⟩, n4⟩ := nc
  have a1 := notDst_ok n1
  have a2 := notDst_ok n2
  have a3 : oi.dst.isNone = true ∨ oi.dst ≠ oj.dst := by
    simp only [Bool.or_eq_true, bne_iff_ne, ne_eq] at n3; exact n3
  have li := clsOf_le hs i oi
  have lj := clsOf_le hs j oj
  by_cases h22 : clsOf hs i oi = 2 ∧ clsOf hs j oj = 2
  · exact swap22 h1 h2 nc0 h22.1 h22.2
  -- the three cases
  have hcases : (clsOf hs i oi ≤ 1 ∧ clsOf hs j oj ≤ 1) ∨ (clsOf hs i oi = 2 ∧ clsOf hs j oj ≤ 1) ∨ (clsOf hs i oi ≤ 1 ∧ clsOf hs j oj = 2) := by
    by_cases hi : clsOf hs i oi = 2
    · by_cases hj : clsOf hs j oj = 2
      · exact absurd ⟨hi, hj⟩ h22
      · exact .inr (.inl ⟨hi, by omega⟩)
    · by_cases hj : clsOf hs j oj = 2
      · exact .inr (.inr ⟨by omega, hj⟩)
      · exact .inl ⟨by omega, by omega⟩
  have evj : ∀ x ∈ looks ops oj, eva (ri.d.app oi.dst s).tm x = (match x with | .tmp _ => if ri.d.kill = [] then eva s.tm x else killT ri.d.kill (eva s.tm x) | _ => eva s.tm x) := fun x hx => (eva_app (ops := ops) (fun t ht => a1 x hx t ht)).trans (by cases x <;> rfl)
  have evi : ∀ x ∈ looks ops oi, eva (rj.d.app oj.dst s).tm x = (match x with | .tmp _ => if rj.d.kill = [] then eva s.tm x else killT rj.d.kill (eva s.tm x) | _ => eva s.tm x) := fun x hx => (eva_app (ops := ops) (fun t ht => a2 x hx t ht)).trans (by cases x <;> rfl)
  have crun : ∀ (i : Nat) (o : Oper), (lookH hs i).run = true → clsOf hs i o = cls o.op (lookH hs i).it := fun i o h => by unfold clsOf; rw [if_pos h]
  have opsub : ∀ (o : Oper) (x : Operand), x ∈ o.op.operands → x ∈ looks ops o := fun o x hx => by simp only [looks, List.mem_append]; exact .inl (by simpa using hx)
  have lenApp : ∀ (d : Del) (dst : Option Tmp) (s : St), (d.app dst s).tm.length = s.tm.length := fun d dst s => by simp only [Del.app, putT_length, killTs_length]
  -- what each needs of the others
  have key : (∀ x ∈ looks ops oj, eva s.tm x = rj.τ x) ∧ (∀ x ∈ looks ops oi, eva (rj.d.app oj.dst s).tm x = ri.τ x) ∧
      (ri.d.kill = [] ∨ killT ri.d.kill rj.d.val = rj.d.val) ∧ (rj.d.kill = [] ∨ killT rj.d.kill ri.d.val = ri.d.val) := by
    have simple : ri.d.kill = [] → (∀ x ∈ looks ops oj, eva s.tm x = rj.τ x) := fun hk x hx => by
      have := evj x hx
      rw [h2.eva x hx] at this
      cases x <;> simp_all
    have simple' : rj.d.kill = [] → (∀ x ∈ looks ops oi, eva (rj.d.app oj.dst s).tm x = ri.τ x) := fun hk x hx => by
      rw [evi x hx, ← h1.eva x hx]
      cases x <;> simp [hk]
    rcases hcases with ⟨c1, c2⟩ | ⟨c1, c2⟩ | ⟨c1, c2⟩
    · have q1 := (h1.quiet c1).2.2
      have q2 := (h2.quiet c2).2.2
      exact ⟨simple q1, simple' q2, .inl q1, .inl q2⟩
    · have q2 := (h2.quiet c2).2.2
      rw [c1] at n4
      have n5 : ri.d.kill.isEmpty = true ∨ ((looks ops oj).all (fun x => (rj.τ x).known) = true ∧ disj (keysT rj.d.val) ri.d.kill = true) := by
        rcases (by omega : clsOf hs j oj = 0 ∨ clsOf hs j oj = 1) with h | h <;> rw [h] at n4 <;> simp only [Bool.and_eq_true, Bool.or_eq_true, beq_self_eq_true, true_and] at n4
        · exact n4.1.1.imp id (fun h => ⟨h.1, h.2⟩)
        · rcases n4.1.1 with h | ⟨⟨h, _⟩, _⟩
          · exact .inl h
          · cases h
      by_cases hk : ri.d.kill = []
      · exact ⟨simple hk, simple' q2, .inl hk, .inl q2⟩
      · have hk' : ri.d.kill.isEmpty = false := by cases hh : ri.d.kill with | nil => exact absurd hh hk | cons a b => rfl
        obtain ⟨m1, m2⟩ := n5.resolve_left (by rw [hk']; simp)
        refine ⟨fun x hx => ?_, simple' q2, .inr (killT_id (disj_ok m2)), .inl q2⟩
        have hx2 := evj x hx
        rw [h2.eva x hx] at hx2
        have hkn := List.all_eq_true.1 m1 x hx
        cases x with
        | tmp t =>
          simp only [if_neg hk] at hx2
          rw [hx2] at hkn ⊢
          exact (killT_known hkn).symm
        | _ => exact hx2.symm
    · have q1 := (h1.quiet c1).2.2
      rw [c2] at n4
      have n5 : rj.d.kill.isEmpty = true ∨ ((looks ops oi).all (fun x => disj (keysT (ri.τ x)) rj.d.kill) = true ∧ disj (keysT ri.d.val) rj.d.kill = true) := by
        rcases (by omega : clsOf hs i oi = 0 ∨ clsOf hs i oi = 1) with h | h <;> rw [h] at n4 <;> simp only [Bool.and_eq_true, Bool.or_eq_true, beq_self_eq_true, true_and] at n4
        · exact n4.1.imp id (fun h => ⟨h.1, h.2⟩)
        · rcases n4.1 with h | ⟨⟨h, _⟩, _⟩
          · exact .inl h
          · cases h
      by_cases hk : rj.d.kill = []
      · exact ⟨simple q1, simple' hk, .inl q1, .inl hk⟩
      · have hk' : rj.d.kill.isEmpty = false := by cases hh : rj.d.kill with | nil => exact absurd hh hk | cons a b => rfl
        obtain ⟨m1, m2⟩ := n5.resolve_left (by rw [hk']; simp)
        refine ⟨simple q1, fun x hx => ?_, .inl q1, .inr (killT_id (disj_ok m2))⟩
        rw [evi x hx, ← h1.eva x hx]
        have hd := List.all_eq_true.1 m1 x hx
        rw [← h1.eva x hx] at hd
        cases x with
        | tmp t => simp only [if_neg hk]; exact killT_id (disj_ok hd)
        | _ => rfl
  obtain ⟨k1, k2, k3, k4⟩ := key
  refine ⟨⟨h2.op, ?_, k1, ?_⟩, ⟨h1.op, ?_, k2, ?_⟩, ?_⟩
  · -- j in s
    have hst := h2.step
    refine stepAt_congr (s := ri.d.app oi.dst s) h2.op hst (lenApp _ _ _).symm (fun x hx => by rw [k1 x hx, h2.eva x hx]) (fun hrun => ?_) (fun hrun => ?_)
    · rcases hcases with ⟨c1, c2⟩ | ⟨c1, c2⟩ | ⟨c1, c2⟩
      · have hq := Del.hp_quiet (h1.quiet c1) s.hp
        simp only [Del.app, hq]
      · have hcj : cls oj.op (lookH hs j).it ≤ 1 := by rw [← crun j oj hrun]; exact c2
        refine core_congr hcj (fun _ _ => rfl) (fun hc1 x hx k hk => ?_) (fun k hk => ?_)
        · have hcj1 : clsOf hs j oj = 1 := by rw [crun j oj hrun]; exact hc1
          rw [c1, hcj1] at n4
          simp only [Bool.and_eq_true, Bool.or_eq_true] at n4
          have hkill : ri.d.kill = [] := by
            rcases n4.1.1 with h | ⟨⟨h, _⟩, _⟩
            · simpa using h
            · cases h
          have hall := (n4.1.2.resolve_left (by simp)).1
          rw [h2.eva x (opsub oj x hx)] at hk
          have := List.all_eq_true.1 (List.all_eq_true.1 hall x (opsub oj x hx)) k hk
          simp only [Bool.and_eq_true, Bool.not_eq_true', decide_eq_true_eq] at this
          have hlt : k < s.hp.length := Nat.lt_of_lt_of_le this.2 (h1.le c1)
          show s.hp[k]? = (ri.d.hp s.hp)[k]?
          rw [hp_get_other hkill (fun hm => by rw [List.contains_iff_mem.2 hm] at this; simp at this) hlt]
        · have hcj1 : clsOf hs j oj = 1 := by rw [crun j oj hrun]; exact rd_cls hk
          rw [c1, hcj1] at n4
          simp only [Bool.and_eq_true, Bool.or_eq_true] at n4
          have hkill : ri.d.kill = [] := by
            rcases n4.1.1 with h | ⟨⟨h, _⟩, _⟩
            · simpa using h
            · cases h
          have hall := (n4.1.2.resolve_left (by simp)).2
          have := List.all_eq_true.1 hall k hk
          simp only [Bool.and_eq_true, Bool.not_eq_true', decide_eq_true_eq] at this
          have hlt : k < s.hp.length := Nat.lt_of_lt_of_le this.2 (h1.le c1)
          show s.hp[k]? = (ri.d.hp s.hp)[k]?
          rw [hp_get_other hkill (fun hm => by rw [List.contains_iff_mem.2 hm] at this; simp at this) hlt]
      · have hq := Del.hp_quiet (h1.quiet c1) s.hp
        simp only [Del.app, hq]
    · have hok := step_ok h2 hrun
      rcases hcases with ⟨c1, c2⟩ | ⟨c1, c2⟩ | ⟨c1, c2⟩
      · have hq := Del.hp_quiet (h1.quiet c1) s.hp
        simp only [Del.app, hq] at hok; exact hok
      · rw [Del.ok_quiet (h2.quiet c2)]
        refine T.lt_mono (n := ri.len) ?_ (h1.le c1)
        rw [c1] at n4
        rcases (by omega : clsOf hs j oj = 0 ∨ clsOf hs j oj = 1) with h | h <;> rw [h] at n4 <;> simp only [Bool.and_eq_true] at n4 <;> exact n4.2
      · have hq := Del.hp_quiet (h1.quiet c1) s.hp
        simp only [Del.app, hq] at hok; exact hok
  · intro hc
    have := h2.len hc
    rcases hcases with ⟨c1, c2⟩ | ⟨c1, c2⟩ | ⟨c1, c2⟩
    · omega
    · omega
    · have hq := Del.hp_quiet (h1.quiet c1) s.hp
      simp only [Del.app, hq] at this; exact this
  · -- i behind j
    have hst := h1.step
    refine stepAt_congr (s := s) h1.op hst (lenApp _ _ _) (fun x hx => by rw [k2 x hx, h1.eva x hx]) (fun hrun => ?_) (fun hrun => ?_)
    · rcases hcases with ⟨c1, c2⟩ | ⟨c1, c2⟩ | ⟨c1, c2⟩
      · have hq := Del.hp_quiet (h2.quiet c2) s.hp
        simp only [Del.app, hq]
      · have hq := Del.hp_quiet (h2.quiet c2) s.hp
        simp only [Del.app, hq]
      · have hci : cls oi.op (lookH hs i).it ≤ 1 := by rw [← crun i oi hrun]; exact c1
        refine core_congr hci (fun _ _ => rfl) (fun hc1 x hx k hk => ?_) (fun k hk => ?_)
        · have hci1 : clsOf hs i oi = 1 := by rw [crun i oi hrun]; exact hc1
          rw [c2, hci1] at n4
          simp only [Bool.and_eq_true, Bool.or_eq_true] at n4
          have hkill : rj.d.kill = [] := by
            rcases n4.1 with h | ⟨⟨h, _⟩, _⟩
            · simpa using h
            · cases h
          have hall := (n4.2.resolve_left (by simp)).1
          rw [h1.eva x (opsub oi x hx)] at hk
          have := List.all_eq_true.1 (List.all_eq_true.1 hall x (opsub oi x hx)) k hk
          simp only [Bool.and_eq_true, Bool.not_eq_true', decide_eq_true_eq] at this
          have hq := Del.hp_quiet (h1.quiet c1) s.hp
          have hlen := h2.le c2
          simp only [Del.app, hq] at hlen
          have hlt : k < s.hp.length := Nat.lt_of_lt_of_le this.2 hlen
          show (rj.d.hp s.hp)[k]? = s.hp[k]?
          rw [hp_get_other hkill (fun hm => by rw [List.contains_iff_mem.2 hm] at this; simp at this) hlt]
        · have hci1 : clsOf hs i oi = 1 := by rw [crun i oi hrun]; exact rd_cls hk
          rw [c2, hci1] at n4
          simp only [Bool.and_eq_true, Bool.or_eq_true] at n4
          have hkill : rj.d.kill = [] := by
            rcases n4.1 with h | ⟨⟨h, _⟩, _⟩
            · simpa using h
            · cases h
          have hall := (n4.2.resolve_left (by simp)).2
          have := List.all_eq_true.1 hall k hk
          simp only [Bool.and_eq_true, Bool.not_eq_true', decide_eq_true_eq] at this
          have hq := Del.hp_quiet (h1.quiet c1) s.hp
          have hlen := h2.le c2
          simp only [Del.app, hq] at hlen
          have hlt : k < s.hp.length := Nat.lt_of_lt_of_le this.2 hlen
          show (rj.d.hp s.hp)[k]? = s.hp[k]?
          rw [hp_get_other hkill (fun hm => by rw [List.contains_iff_mem.2 hm] at this; simp at this) hlt]
    · have hok := step_ok h1 hrun
      rcases hcases with ⟨c1, c2⟩ | ⟨c1, c2⟩ | ⟨c1, c2⟩
      · have hq := Del.hp_quiet (h2.quiet c2) s.hp
        simp only [Del.app, hq]; exact hok
      · have hq := Del.hp_quiet (h2.quiet c2) s.hp
        simp only [Del.app, hq]; exact hok
      · rw [Del.ok_quiet (h1.quiet c1)] at hok ⊢
        refine T.lt_mono hok ?_
        simp only [Del.app, hp_length]; omega
  · intro hc
    have := h1.len hc
    rcases hcases with ⟨c1, c2⟩ | ⟨c1, c2⟩ | ⟨c1, c2⟩
    · omega
    · have hq := Del.hp_quiet (h2.quiet c2) s.hp
      simp only [Del.app, hq]; exact this
    · omega
  · -- the same state
    have htm : putT (killTs ri.d.kill (putT (killTs rj.d.kill s.tm) oj.dst rj.d.val)) oi.dst ri.d.val = putT (killTs rj.d.kill (putT (killTs ri.d.kill s.tm) oi.dst ri.d.val)) oj.dst rj.d.val := by
      rw [killTs_put k3, killTs_put k4]
      have hkk : killTs ri.d.kill (killTs rj.d.kill s.tm) = killTs rj.d.kill (killTs ri.d.kill s.tm) := by
        rcases hcases with ⟨c1, c2⟩ | ⟨c1, c2⟩ | ⟨c1, c2⟩
        · rw [(h1.quiet c1).2.2]; rfl
        · rw [(h2.quiet c2).2.2]; rfl
        · rw [(h1.quiet c1).2.2]; rfl
      rw [hkk]
      exact (putT_comm a3).symm
    have hhp : ri.d.hp (rj.d.hp s.hp) = rj.d.hp (ri.d.hp s.hp) := by
      rcases hcases with ⟨c1, c2⟩ | ⟨c1, c2⟩ | ⟨c1, c2⟩
      · rw [Del.hp_quiet (h1.quiet c1), Del.hp_quiet (h1.quiet c1)]
      · rw [Del.hp_quiet (h2.quiet c2), Del.hp_quiet (h2.quiet c2)]
      · rw [Del.hp_quiet (h1.quiet c1), Del.hp_quiet (h1.quiet c1)]
    have hmv : addMv ri.d.kill (addMv rj.d.kill s.mv) = addMv rj.d.kill (addMv ri.d.kill s.mv) := by
      rcases hcases with ⟨c1, c2⟩ | ⟨c1, c2⟩ | ⟨c1, c2⟩
      · rw [(h1.quiet c1).2.2]; rfl
      · rw [(h2.quiet c2).2.2]; rfl
      · rw [(h1.quiet c1).2.2]; rfl
    simp only [Del.app]
    rw [htm, hhp, hmv]
end Sx
