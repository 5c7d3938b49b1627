/- A state of temporaries and objects, and its steps. -/
import Derived.Test.YthimhmocgnnaiaaDoorSxN
namespace Sx
open Go

structure St where
  tm : List T
  hp : List O
  mv : List Nat := []

def killA (ks : List Nat) : A → A
  | .s c => .s (killC ks c)
  | .g cs => .g (cs.map (killC ks))
def killT (ks : List Nat) : T → T
  | .a v => .a (killA ks v)
  | .t vs => .t (vs.map (killA ks))
def killTs (ks : List Nat) (tm : List T) : List T := match ks with | [] => tm | k :: r => tm.map (killT (k :: r))

def putT (tm : List T) (dst : Option Tmp) (v : T) : List T := match dst with | some d => tm.set d v | none => tm

def addMv (ks mv : List Nat) : List Nat := ks.foldl (fun m k => if m.contains k then m else k :: m) mv

def Del.app (d : Del) (dst : Option Tmp) (s : St) : St := { tm := putT (killTs d.kill s.tm) dst d.val, hp := d.hp s.hp, mv := addMv d.kill s.mv }

def C.lt (n : Nat) (c : C) : Bool := match c.key with | some k => decide (k < n) | none => true
def T.lt (n : Nat) (t : T) : Bool := t.cs.all (C.lt n)
def slotsLt (n : Nat) : List Slot → Bool
  | [] => true
  | .one c :: r => c.lt n && slotsLt n r
  | _ :: r => slotsLt n r
def O.lt (n : Nat) : O → Bool
  | .cells ss => slotsLt n ss
  | _ => true
def Del.ok (d : Del) (len : Nat) : Bool :=
  d.val.lt (len + d.new.length) && d.sets.all (fun x => x.2.lt (len + d.new.length)) && d.new.all (O.lt (len + d.new.length))

theorem addMv_mem (ks : List Nat) : ∀ (mv : List Nat) (k : Nat), (k ∈ ks ∨ k ∈ mv) → k ∈ addMv ks mv := by
  induction ks with
  | nil => intro mv k h; rcases h with h | h; simp at h; exact h
  | cons a r ih =>
    intro mv k h
    simp only [addMv, List.foldl_cons]
    refine ih _ k ?_
    rcases h with h | h
    · rcases List.mem_cons.1 h with rfl | h
      · right
        split
        · rename_i hc; exact List.contains_iff_mem.1 hc
        · exact List.mem_cons_self
      · exact .inl h
    · right
      split
      · exact h
      · exact List.mem_cons_of_mem _ h

theorem T.lt_below {n : Nat} {t : T} (h : t.lt n = true) : t.below n := by
  intro c hc k hk
  have := List.all_eq_true.1 h c hc
  simp [C.lt, hk] at this; exact this

theorem O.lt_has {n : Nat} {κ : Nat → Nat} {obj : O} (h : obj.lt n = true) (hw : Wf κ obj) {o : Nat} {v : C} (hh : Has obj o v) (k : Nat) (hk : v.key = some k) : k < n := by
  cases obj with
  | dead => exact hh.elim
  | arr esz xs => exact absurd hk (nosrc hw.2 hh k)
  | cells ss =>
    have : ∀ (ss : List Slot) s, SWf κ ss s → slotsLt n ss = true → SHas ss s o v → k < n := by
      intro ss
      induction ss with
      | nil => intro s _ _ h; exact h.elim
      | cons a r ih =>
        intro s hw hl h
        cases a with
        | one c =>
          simp only [slotsLt, Bool.and_eq_true] at hl
          rcases h with ⟨_, rfl⟩ | h
          · have := hl.1; simp [C.lt, hk] at this; exact this
          · exact ih _ hw hl.2 h
        | row m esz xs =>
          rcases h with ⟨i, j, cs, h1, h2, _⟩ | h
          · have := C.key_of_free (hw.1.2.2.2 i cs j v h1 h2); rw [this] at hk; cases hk
          · exact ih _ hw.2 hl h
        | hole m => exact ih _ hw hl h
    exact this ss 0 hw h hh

theorem setAll_cases : ∀ (l : List (Nat × O)) (H : List O) (k : Nat) (o : O), (setAll l H)[k]? = some o → (∃ k', (k', o) ∈ l) ∨ H[k]? = some o := by
  intro l
  induction l with
  | nil => intro H k o h; exact .inr h
  | cons x r ih =>
    intro H k o h
    obtain ⟨k', o'⟩ := x
    rcases ih _ k o h with ⟨k2, h⟩ | h
    · exact .inl ⟨k2, List.mem_cons_of_mem _ h⟩
    · rcases set_get H k' k o' o h with ⟨_, rfl⟩ | ⟨_, h⟩
      · exact .inl ⟨k', List.mem_cons_self⟩
      · exact .inr h

theorem hp_length (d : Del) (H : List O) : (d.hp H).length = H.length + d.new.length := by
  simp [Del.hp, setAll_length, killN_length]

theorem Closed.step {g : Gl} {w w' : World} {e e' : Env} {R : Pl} {H : List O} {d : Del} (hcl : Closed H) (s0 : Sat g w e R H) (s : Sat g w' e' R (d.hp H)) (hok : d.ok H.length = true) : Closed (d.hp H) := by
  simp only [Del.ok, Bool.and_eq_true, List.all_eq_true] at hok
  obtain ⟨⟨_, h2⟩, h3⟩ := hok
  intro k obj o v hk hh j hj
  rw [hp_length]
  have hw := s.wf k obj hk
  unfold Del.hp at hk
  rcases Nat.lt_or_ge k H.length with hlt | hge
  · rw [List.getElem?_append_left (by rw [setAll_length, killN_length]; exact hlt)] at hk
    rcases setAll_cases _ _ k obj hk with ⟨k', hm⟩ | hk
    · exact O.lt_has (h2 _ hm) hw hh j hj
    · obtain ⟨q, h4, h5⟩ := killH_nil_get _ H k obj hk
      rcases h5 with ⟨rfl, _⟩ | rfl
      · exact Nat.lt_of_lt_of_le (hcl k _ o v h4 hh j hj) (Nat.le_add_right _ _)
      · rcases Has_kill _ _ q o v (s0.wf k q h4) hh with rfl | ⟨h6, _⟩
        · cases hj
        · exact Nat.lt_of_lt_of_le (hcl k q o v h4 h6 j hj) (Nat.le_add_right _ _)
  · rw [List.getElem?_append_right (by rw [setAll_length, killN_length]; exact hge)] at hk
    exact O.lt_has (h3 _ (List.mem_of_getElem? hk)) hw hh j hj

structure StOk (g : Gl) (R : Pl) (w0 : World) (e0 : Env) (H0 : List O) (w : World) (a : Act) (e : Env) (s : St) : Prop where
  sat : Sat g w e R s.hp
  closed : Closed s.hp
  tms : ∀ (t : Nat) (v : T), s.tm[t]? = some v → RelT w e (Mut e R s.hp) v (a.tmps.getD t undef)
  below : ∀ (t : Nat) (v : T), s.tm[t]? = some v → v.below s.hp.length
  len : s.tm.length = a.tmps.size
  defers : a.defers = []
  ext : Ext w0 e0 H0 w e s.hp s.mv
  hl : H0.length ≤ s.hp.length

theorem killC_key (ks : List Nat) (c : C) (k : Nat) (h : (killC ks c).key = some k) : c.key = some k ∧ k ∉ ks := by
  rcases killC_cases ks c with h' | ⟨h', hk⟩
  · rw [h'] at h; cases h
  · rw [h'] at h; exact ⟨h, hk k h⟩

theorem Rel.killStep {w w' : World} {e e' : Env} {M M' : Pl} {c : C} {u : Value} {ks : List Nat} {n : Nat} (h : Rel w e M c u) (hb : ∀ k, c.key = some k → k < n)
    (hp : ∀ k, k < n → k ∉ ks → e'.β k = e.β k ∧ e'.κ k = e.κ k)
    (hm : ∀ b o v, w.cell? ⟨b, o, none⟩ = some v → ¬ M b o → w'.cell? ⟨b, o, none⟩ = some v ∧ ¬ M' b o) : Rel w' e' M' (killC ks c) u := by
  rcases killC_cases ks c with h' | ⟨h', hk⟩
  · rw [h']; exact .x u
  · rw [h']; exact h.step (fun k hkk => hp k (hb k hkk) (hk k hkk)) hm

theorem RelA.killStep {w w' : World} {e e' : Env} {M M' : Pl} {v : A} {u : Value} {ks : List Nat} {n : Nat} (h : RelA w e M v u) (hb : ∀ c ∈ (match v with | .s c => [c] | .g cs => cs), ∀ k, c.key = some k → k < n)
    (hp : ∀ k, k < n → k ∉ ks → e'.β k = e.β k ∧ e'.κ k = e.κ k)
    (hm : ∀ b o v, w.cell? ⟨b, o, none⟩ = some v → ¬ M b o → w'.cell? ⟨b, o, none⟩ = some v ∧ ¬ M' b o) : RelA w' e' M' (killA ks v) u := by
  cases v with
  | s c => exact Rel.killStep h (hb c (by simp)) hp hm
  | g cs =>
    obtain ⟨us, h1, h2, h3⟩ := h
    refine ⟨us, h1, by simpa using h2, fun j c hj => ?_⟩
    simp only [List.getElem?_map, Option.map_eq_some_iff] at hj
    obtain ⟨c0, hj, rfl⟩ := hj
    obtain ⟨x, h4, h5⟩ := h3 j c0 hj
    exact ⟨x, h4, h5.killStep (hb c0 (List.mem_of_getElem? hj)) hp hm⟩

theorem RelT.killStep {w w' : World} {e e' : Env} {M M' : Pl} {t : T} {u : Value} {ks : List Nat} {n : Nat} (h : RelT w e M t u) (hb : t.below n)
    (hp : ∀ k, k < n → k ∉ ks → e'.β k = e.β k ∧ e'.κ k = e.κ k)
    (hm : ∀ b o v, w.cell? ⟨b, o, none⟩ = some v → ¬ M b o → w'.cell? ⟨b, o, none⟩ = some v ∧ ¬ M' b o) : RelT w' e' M' (killT ks t) u := by
  cases t with
  | a v => exact RelA.killStep h (fun c hc => hb c (by cases v <;> exact hc)) hp hm
  | t vs =>
    obtain ⟨us, h1, h2, h3⟩ := h
    refine ⟨us, h1, by simpa using h2, fun j v hj => ?_⟩
    simp only [List.getElem?_map, Option.map_eq_some_iff] at hj
    obtain ⟨v0, hj, rfl⟩ := hj
    obtain ⟨x, h4, h5⟩ := h3 j v0 hj
    refine ⟨x, h4, RelA.killStep h5 (fun c hc => hb c ?_) hp hm⟩
    simp only [T.cs, List.mem_flatMap]
    exact ⟨v0, List.mem_of_getElem? hj, by cases v0 <;> exact hc⟩

theorem killT_below {ks : List Nat} {t : T} {n : Nat} (h : t.below n) : (killT ks t).below n := by
  intro c hc k hk
  have key : ∀ (cs : List C), (∀ c ∈ cs, ∀ k, c.key = some k → k < n) → ∀ c ∈ cs.map (killC ks), ∀ k, c.key = some k → k < n := by
    intro cs hcs c hc k hk
    obtain ⟨c0, h0, rfl⟩ := List.mem_map.1 hc
    exact hcs c0 h0 k (killC_key ks c0 k hk).1
  cases t with
  | a v =>
    cases v with
    | s c0 => simp only [killT, killA, T.cs, List.mem_singleton] at hc; subst hc; exact h c0 (by simp [T.cs]) k (killC_key ks c0 k hk).1
    | g cs => exact key cs (fun c hc => h c hc) c hc k hk
  | t vs =>
    simp only [killT, T.cs, List.mem_flatMap, List.mem_map] at hc
    obtain ⟨v1, ⟨v0, hv0, rfl⟩, hc⟩ := hc
    cases v0 with
    | s c0 => simp only [killA, List.mem_singleton] at hc; subst hc; exact h c0 (by simp only [T.cs, List.mem_flatMap]; exact ⟨.s c0, hv0, by simp⟩) k (killC_key ks c0 k hk).1
    | g cs => exact key cs (fun c hc => h c (by simp only [T.cs, List.mem_flatMap]; exact ⟨.g cs, hv0, hc⟩)) c hc k hk

theorem getD_put (a : Act) (dst : Option Tmp) (v : Value) (t : Nat) : (a.put dst v).tmps.getD t undef = if dst = some t ∧ t < a.tmps.size then v else a.tmps.getD t undef := by
  cases dst with
  | none => simp [Act.put]
  | some d =>
    simp only [Act.put, Array.getD_eq_getD_getElem?, Array.getElem?_setIfInBounds, Option.some.injEq]
    by_cases h : d = t
    · subst h
      by_cases hlt : d < a.tmps.size
      · simp [hlt]
      · simp [hlt]
    · simp [h]

theorem putT_get {tm : List T} {dst : Option Tmp} {v : T} {t : Nat} {x : T} (h : (putT tm dst v)[t]? = some x) : (dst = some t ∧ t < tm.length ∧ x = v) ∨ (dst ≠ some t ∧ tm[t]? = some x) := by
  cases dst with
  | none => exact .inr ⟨by simp, h⟩
  | some d =>
    rcases set_get tm d t v x h with ⟨rfl, rfl⟩ | ⟨hne, h'⟩
    · left
      refine ⟨rfl, ?_, rfl⟩
      have := (List.getElem?_eq_some_iff.1 h).1
      simpa [putT] using this
    · exact .inr ⟨fun e => hne (Option.some.inj e).symm, h'⟩

theorem killTs_get {ks : List Nat} {tm : List T} {t : Nat} {x : T} (h : (killTs ks tm)[t]? = some x) : ∃ y, tm[t]? = some y ∧ (x = y ∧ ks = [] ∨ x = killT ks y) := by
  cases ks with
  | nil => exact ⟨x, h, .inl ⟨rfl, rfl⟩⟩
  | cons k r =>
    simp only [killTs, List.getElem?_map, Option.map_eq_some_iff] at h
    obtain ⟨y, h1, h2⟩ := h
    exact ⟨y, h1, .inr h2.symm⟩

theorem putT_length (tm : List T) (dst : Option Tmp) (v : T) : (putT tm dst v).length = tm.length := by cases dst <;> simp [putT]
theorem killTs_length (ks : List Nat) (tm : List T) : (killTs ks tm).length = tm.length := by cases ks <;> simp [killTs]
theorem put_size (a : Act) (dst : Option Tmp) (v : Value) : (a.put dst v).tmps.size = a.tmps.size := by cases dst <;> simp [Act.put]
theorem put_defers (a : Act) (dst : Option Tmp) (v : Value) : (a.put dst v).defers = a.defers := by cases dst <;> rfl

/-- One operation's effect on the state. -/
theorem StOk.step {g : Gl} {R : Pl} {w0 : World} {e0 : Env} {H0 : List O} {w : World} {a : Act} {e : Env} {s : St} (h : StOk g R w0 e0 H0 w a e s) {d : Del} (hok : d.ok s.hp.length = true) (dst : Option Tmp) {u : Value} {w' : World}
    (hp : Post g w e R s.hp d u w') : ∃ e', StOk g R w0 e0 H0 w' (a.put dst u) e' (d.app dst s) := by
  obtain ⟨e', s', x', hr⟩ := hp
  have hmem := x'.mem (R := R)
  have hval : d.val.below (d.hp s.hp).length := by
    rw [hp_length]
    simp only [Del.ok, Bool.and_eq_true] at hok
    exact T.lt_below hok.1.1
  refine ⟨e', s', h.closed.step h.sat s' hok, ?_, ?_, ?_, ?_, ?_, ?_⟩
  · intro t v ht
    simp only [Del.app] at ht
    rw [getD_put]
    rcases putT_get ht with ⟨h1, h2, rfl⟩ | ⟨h1, h2⟩
    · rw [killTs_length, h.len] at h2
      rw [if_pos ⟨h1, h2⟩]; exact hr
    · rw [if_neg (fun hh => h1 hh.1)]
      obtain ⟨y, h3, h4⟩ := killTs_get h2
      have hy := h.tms t y h3
      have hb := h.below t y h3
      have hpins := x'.pins
      rcases h4 with ⟨rfl, hnil⟩ | rfl
      · rw [hnil] at hpins
        have := RelT.killStep (ks := []) hy hb (fun k hk hn => hpins k hk hn) hmem
        have hid : killT [] v = v := by
          have hc : ∀ c : C, killC [] c = c := fun c => by unfold killC; cases c.key <;> rfl
          have hc' : killC [] = id := funext hc
          have hA : killA [] = id := funext fun v => by cases v <;> simp [killA, hc']
          cases v <;> simp [killT, hA]
        rw [hid] at this
        exact this
      · exact RelT.killStep hy hb (fun k hk hn => hpins k hk hn) hmem
  · intro t v ht
    simp only [Del.app] at ht ⊢
    rcases putT_get ht with ⟨_, _, rfl⟩ | ⟨h1, h2⟩
    · exact hval
    · obtain ⟨y, h3, h4⟩ := killTs_get h2
      have hb : y.below (d.hp s.hp).length := fun c hc k hk => by rw [hp_length]; exact Nat.lt_of_lt_of_le (h.below t y h3 c hc k hk) (Nat.le_add_right _ _)
      rcases h4 with ⟨rfl, _⟩ | rfl
      · exact hb
      · exact killT_below hb
  · simp only [Del.app, putT_length, killTs_length, put_size]; exact h.len
  · rw [put_defers]; exact h.defers
  · exact (h.ext.weaken (mv' := addMv d.kill s.mv) (fun k hk => addMv_mem _ _ k (.inr hk))).trans (x'.weaken (mv' := addMv d.kill s.mv) (fun k hk => addMv_mem _ _ k (.inl hk))) h.hl (fun k hk => hk)
  · simp only [Del.app, hp_length]; exact Nat.le_trans h.hl (Nat.le_add_right _ _)

/-- What the steps of a region are told, operation by operation. -/
structure Hn where
  run : Bool := true
  it : Itm := .i .d

def lookH : List (Nat × Hn) → Nat → Hn
  | [], _ => {}
  | (j, h) :: r, i => if j = i then h else lookH r i

def guardTmp (ops : Array Oper) (o : Oper) : Option Tmp := match o.guard with
  | some (j, _) => (ops[j]?).bind (·.dst)
  | none => none

/-- Does an operation run? -/
def guardProp (o : Oper) (run : Bool) (v : Option T) : Option Prop :=
  match o.guard with
  | none => if run then some True else none
  | some (_, want) => match v with
    | some (.a (.s (.c (.bool b)))) => some (b = (if run then want else !want))
    | some (.a (.s (.c (.tuple _)))) => if run then none else some True
    | _ => none

def stepAt (P : Program) (g : Gl) (ops : Array Oper) (hs : List (Nat × Hn)) (i : Nat) (s : St) : Option (Del × Prop) :=
  match ops[i]? with
  | none => none
  | some o => match guardProp o (lookH hs i).run ((guardTmp ops o).bind (s.tm[·]?)) with
    | none => none
    | some gp =>
      if (lookH hs i).run then
        match core P g o (eva s.tm) (fun k => s.hp[k]?) s.hp.length (lookH hs i).it with
        | some (d, p) => if d.ok s.hp.length then some (d, gp ∧ p) else none
        | none => none
      else some ({ val := .c undef }, gp)

def dstOf (ops : Array Oper) (i : Nat) : Option Tmp := (ops[i]?).bind (·.dst)

def runL (P : Program) (g : Gl) (ops : Array Oper) (hs : List (Nat × Hn)) : List Nat → St → Option (St × Prop)
  | [], s => some (s, True)
  | i :: r, s => match stepAt P g ops hs i s with
    | some (d, p) => match runL P g ops hs r (d.app (dstOf ops i) s) with
      | some (s', q) => some (s', p ∧ q)
      | none => none
    | none => none

theorem stepAt_ok {P : Program} {g : Gl} {ops : Array Oper} {hs : List (Nat × Hn)} {i : Nat} {s : St} {d : Del} {p : Prop} (h : stepAt P g ops hs i s = some (d, p)) (hp : p)
    {R : Pl} {w0 : World} {e0 : Env} {H0 : List O} {w : World} {a : Act} {e : Env} (ho : StOk g R w0 e0 H0 w a e s) {Q : Exit → Act → World → Prop} {K : Act → World → Prop}
    (hK : ∀ a' w' e', StOk g R w0 e0 H0 w' a' e' (d.app (dstOf ops i) s) → K a' w') : wpOp P ops Q i K a w := by
  unfold stepAt at h
  unfold wpOp
  cases hi : ops[i]? with
  | none => rw [hi] at h; cases h
  | some o =>
    rw [hi] at h
    simp only at h ⊢
    have hdst : dstOf ops i = o.dst := by simp [dstOf, hi]
    split at h
    · cases h
    · rename_i gp hg
      -- what the guard's temporary holds
      have hwant : gp → Region.wanted o (yielded ops a.tmps) = (lookH hs i).run := by
        intro hgp
        unfold guardProp at hg
        unfold Region.wanted
        cases hgd : o.guard with
        | none =>
          rw [hgd] at hg
          simp only at hg ⊢
          split at hg
          · rename_i hr; rw [hr]
          · cases hg
        | some gw =>
          obtain ⟨j, want⟩ := gw
          rw [hgd] at hg
          simp only at hg ⊢
          have hgt : guardTmp ops o = (ops[j]?).bind (·.dst) := by simp [guardTmp, hgd]
          have hy : ∀ v, (guardTmp ops o).bind (s.tm[·]?) = some v → ∃ t, (ops[j]?).bind (·.dst) = some t ∧ RelT w e (Mut e R s.hp) v (a.tmps.getD t undef) ∧ a.tmps[t]? = some (a.tmps.getD t undef) := by
            intro v hv
            rw [hgt] at hv
            cases ht : (ops[j]?).bind (·.dst) with
            | none => rw [ht] at hv; cases hv
            | some t =>
              rw [ht] at hv
              have hv' : s.tm[t]? = some v := hv
              refine ⟨t, rfl, ho.tms t v hv', ?_⟩
              have hlt := (List.getElem?_eq_some_iff.1 hv').1
              rw [ho.len] at hlt
              simp [Array.getElem?_eq_getElem hlt]
          split at hg
          · rename_i b hb
            simp only [Option.some.injEq] at hg
            subst hg
            obtain ⟨t, h1, h2, h3⟩ := hy _ hb
            have h4 := Rel.c_eq h2
            have : yielded ops a.tmps j = some b := by
              unfold yielded
              rw [h1]
              simp only [Option.bind_some]
              rw [h3, h4]
            rw [this, hgp]
            cases (lookH hs i).run <;> cases want <;> rfl
          · rename_i vs hb
            obtain ⟨t, h1, h2, h3⟩ := hy _ hb
            have h4 := Rel.c_eq h2
            split at hg
            · cases hg
            · rename_i hr
              have : yielded ops a.tmps j = none := by
                unfold yielded
                rw [h1]
                simp only [Option.bind_some]
                rw [h3, h4]
              rw [this]
              simp only [Bool.not_eq_true] at hr
              rw [hr]; rfl
          · cases hg
      split at h
      · rename_i hrun
        split at h
        · rename_i d' p' hcore
          split at h
          · rename_i hdok
            simp only [Option.some.injEq, Prod.mk.injEq] at h
            obtain ⟨rfl, rfl⟩ := h
            rw [hwant hp.1, hrun, if_pos rfl]
            left
            have hdoes := core_ok ho.sat ho.closed (fun x => eva_rel ho.tms x) (fun x => by
              cases x with
              | tmp t =>
                simp only [eva]
                cases ht : s.tm[t]? with
                | none => intro c hc k hk; simp [T.x, T.cs] at hc; subst hc; cases hk
                | some v => exact ho.below t v ht
              | const v => intro c hc k hk; simp [eva, T.c, T.cs] at hc; subst hc; cases hk
              | global gg => intro c hc k hk; simp [eva, T.c, T.cs] at hc; subst hc; cases hk
              | func f => intro c hc k hk; simp [eva, T.c, T.cs] at hc; subst hc; cases hk) (fun f => rfl) hcore hp.2
            refine hdoes a K Q rfl (fun u w' hpost => ?_)
            obtain ⟨e', ho'⟩ := ho.step hdok o.dst hpost
            exact hK _ _ e' (by rw [hdst]; exact ho')
          · cases h
        · cases h
      · rename_i hrun
        simp only [Option.some.injEq, Prod.mk.injEq] at h
        obtain ⟨rfl, rfl⟩ := h
        simp only [Bool.not_eq_true] at hrun
        rw [hwant hp, hrun]
        simp only [Bool.false_eq_true, if_false]
        obtain ⟨e', ho'⟩ := ho.step (d := { val := .c undef }) (u := undef) (w' := w) (by rfl) o.dst ⟨e, by rw [Del.hp_val]; exact ho.sat, by rw [Del.hp_val]; exact Ext.refl _ _ _ _, .c _⟩
        exact hK _ _ e' (by rw [hdst]; exact ho')

theorem runL_ok {P : Program} {g : Gl} {ops : Array Oper} {hs : List (Nat × Hn)} {R : Pl} {w0 : World} {e0 : Env} {H0 : List O} {Q : Exit → Act → World → Prop} : ∀ (l : List Nat) (s s' : St) (p : Prop), runL P g ops hs l s = some (s', p) → p →
    ∀ (w : World) (a : Act) (e : Env), StOk g R w0 e0 H0 w a e s → (∀ a' w' e', StOk g R w0 e0 H0 w' a' e' s' → Q .normal a' w') → wpOps P ops Q l a w := by
  intro l
  induction l with
  | nil =>
    intro s s' p h hp w a e ho hQ
    simp only [runL, Option.some.injEq, Prod.mk.injEq] at h
    obtain ⟨rfl, rfl⟩ := h
    exact hQ a w e ho
  | cons i r ih =>
    intro s s' p h hp w a e ho hQ
    simp only [runL] at h
    split at h
    · rename_i d q hs'
      split at h
      · rename_i s2 q2 hr
        simp only [Option.some.injEq, Prod.mk.injEq] at h
        obtain ⟨rfl, rfl⟩ := h
        rw [wpOps_cons]
        exact stepAt_ok hs' hp.1 ho (fun a' w' e' ho' => ih _ _ _ hr hp.2 w' a' e' ho' hQ)
      · cases h
    · cases h
end Sx
