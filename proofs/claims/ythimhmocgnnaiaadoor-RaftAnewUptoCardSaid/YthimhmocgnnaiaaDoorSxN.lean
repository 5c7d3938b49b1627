/- All operations in one; a state of temporaries and objects, and one step of it. -/
import Derived.Test.YthimhmocgnnaiaaDoorSxM
import Derived.Laws.BytesString
namespace Sx
open Go

/-! ### Calls that only read -/
def C.isLit : C → Bool
  | .c _ => true
  | _ => false

def coLend (P : Program) (g : Gl) (o : Oper) (ρo : Operand → T) (H : Nat → Option O) (fr : List (Nat × List (List C))) (res : T) : Option (Del × Prop) :=
  match o.op with
  | .call c => match c.callee with
    | .value (.func f) =>
      if callable P f && res.cs.all C.isLit then
        some ({ val := res }, argsOk H fr ρo c.args.toList ∧ FT P g f (c.args.toList.map fun x => renT (fun _ => none) (lendT fr (ρo x))) [] [] res [])
      else none
    | _ => none
  | _ => none

theorem Rel.lit {w w' : World} {e e' : Env} {M M' : Pl} {c : C} {u : Value} (h : Rel w e M c u) (hl : c.isLit = true) : Rel w' e' M' c u := by
  cases c <;> first | (cases hl; done) | skip
  have := Rel.c_eq h
  subst this; exact .c _

theorem RelA.lit {w w' : World} {e e' : Env} {M M' : Pl} {v : A} {u : Value} (h : RelA w e M v u) (hl : ∀ c ∈ (match v with | .s c => [c] | .g cs => cs), c.isLit = true) : RelA w' e' M' v u := by
  cases v with
  | s c => exact Rel.lit h (hl c (by simp))
  | g cs =>
    obtain ⟨us, h1, h2, h3⟩ := h
    refine ⟨us, h1, h2, fun j c hj => ?_⟩
    obtain ⟨x, h4, h5⟩ := h3 j c hj
    exact ⟨x, h4, h5.lit (hl c (List.mem_of_getElem? hj))⟩

theorem RelT.lit {w w' : World} {e e' : Env} {M M' : Pl} {t : T} {u : Value} (h : RelT w e M t u) (hl : t.cs.all C.isLit = true) : RelT w' e' M' t u := by
  rw [List.all_eq_true] at hl
  cases t with
  | a v => exact RelA.lit h (fun c hc => hl c (by cases v <;> exact hc))
  | t vs =>
    obtain ⟨us, h1, h2, h3⟩ := h
    refine ⟨us, h1, h2, fun j v hj => ?_⟩
    obtain ⟨x, h4, h5⟩ := h3 j v hj
    refine ⟨x, h4, RelA.lit h5 fun c hc => hl c ?_⟩
    simp only [T.cs, List.mem_flatMap]
    exact ⟨v, List.mem_of_getElem? hj, by cases v <;> exact hc⟩

theorem coLend_ok {P : Program} {g : Gl} {o : Oper} {τ : Operand → T} {ρ : Operand → Value} {w : World} {e : Env} {R : Pl} {H : List O} {d : Del} {p : Prop} {fr : List (Nat × List (List C))} {res : T} (s : Sat g w e R H)
    (hρ : ∀ x, RelT w e (Mut e R H) (τ x) (ρ x)) (hfn : ∀ f, ρ (.func f) = .func (.func f) #[] #[]) (h : coLend P g o τ (fun k => H[k]?) fr res = some (d, p)) (hp : p) : Does P g o ρ w e R H d := by
  unfold coLend at h
  split at h
  · rename_i c hx
    split at h
    · rename_i f hcallee
      split at h
      · rename_i hcond
        simp only [Bool.and_eq_true] at hcond
        obtain ⟨hcall, hlit⟩ := hcond
        simp only [Option.some.injEq, Prod.mk.injEq] at h
        obtain ⟨rfl, rfl⟩ := h
        obtain ⟨hargs, hft⟩ := hp
        let Rc : Pl := fun b q => R b q ∨ ∃ (k : Nat) (obj : O) (i : Nat), k ∉ fr.map (·.1) ∧ H[k]? = some obj ∧ b = (e.β k).1 ∧ q = (e.β k).2 + i ∧ Cov (e.κ k) obj i
        have hfp0 : ∀ b q, ¬ FP e [] b q := by rintro b q ⟨k, obj, i, h1, _⟩; simp at h1
        have hMc : ∀ b q, Mut e Rc [] b q → Mut e R H b q := by
          rintro b q ((h | ⟨k, obj, i, _, h1, h2, h3, h4⟩) | h)
          · exact .inl h
          · exact .inr ⟨k, obj, i, h1, h2, h3, h4⟩
          · exact absurd h (hfp0 b q)
        have sc : Sat g w e Rc [] := by
          refine ⟨fun k obj h => by simp at h, fun k obj q v h => by simp at h, fun k obj q h => by simp at h, fun k k' obj obj' q q' h => by simp at h, fun b q hr => ⟨hfp0 b q, ?_⟩, fun b q h => s.low b q (hMc b q h), s.glob⟩
          rcases hr with h | ⟨k, obj, i, _, h1, rfl, rfl, h4⟩
          · exact (s.rest b q h).2
          · obtain ⟨⟨u, hu⟩, _⟩ := s.cov k obj i h1 h4
            exact lt_of_cell hu
        have hRc0 : ∀ k ys, fr.find? (·.1 == k) = some ys → ∀ (obj : O) (i : Nat), H[k]? = some obj → Cov (e.κ k) obj i → ¬ Mut e Rc [] (e.β k).1 ((e.β k).2 + i) := by
          intro k ys hk obj i h1 h2 hm
          have hkm : k ∈ fr.map (·.1) := by
            have h3 := List.mem_of_find?_eq_some hk
            have h4 := List.find?_some hk
            simp only [beq_iff_eq] at h4
            exact List.mem_map.2 ⟨ys, h3, h4⟩
          rcases hm with (hr | ⟨k', obj', i', a1, a3, h2', h3', h4'⟩) | hf
          · exact (s.rest _ _ hr).1 ⟨k, obj, i, h1, rfl, rfl, h2⟩
          · have := s.dis k k' obj obj' i i' h1 a3 h2 h4' h2' h3'
            exact a1 (this ▸ hkm)
          · exact hfp0 _ _ hf
        have hvs : RelTs w e (Mut e Rc []) (c.args.toList.map fun x => renT (fun _ => none) (lendT fr (τ x))) (c.args.toList.map ρ) := by
          refine ⟨by simp, fun j t hj => ?_⟩
          simp only [List.getElem?_map, Option.map_eq_some_iff] at hj
          obtain ⟨x, hj, rfl⟩ := hj
          exact ⟨ρ x, by simp [hj], RelT.ren (lend_relT s (hρ x) (argsOk_mem hargs x (List.mem_of_getElem? hj)) hMc hRc0) (fun k j h => by cases h)⟩
        have hC := hft w e Rc _ sc hvs
        have hmapargs : Array.map ρ c.args = (c.args.toList.map ρ).toArray := by apply Array.ext'; simp
        have hrun : (execOp ρ o).run P w = .ok (.enter f (c.args.toList.map ρ).toArray) w := by
          simp [execOp, hx, resolve, hcallee, hfn, Deferred.ofValue, invoke, run_callFunc hcall, hmapargs]
        refine OpOk.call hrun (hC.mono ?_)
        rintro en w' ⟨u, rfl, ec', s', x', hres⟩
        have hb : ∀ b, b < w.heap.size → w'.heap[b]? = w.heap[b]? := fun b hb => x'.block b hb (fun o => hfp0 b o)
        refine ⟨u, rfl, e, by rw [Del.hp_val]; exact s.frame x'.size hb, by
          rw [Del.hp_val]
          exact ⟨x'.size, fun b hb' _ => hb b hb', fun b o hb' _ => ⟨World.cell?_of_block (hb b hb'), World.frozen?_of_block (hb b hb')⟩, fun _ _ h => .inl h, fun _ _ _ => ⟨rfl, rfl⟩, x'.os⟩, hres.lit hlit⟩
      · cases h
    · cases h
  · cases h

/-! ### A text of bytes -/
def strOf (ns : List Int) : ByteArray := ns.foldl (fun r n => r.push (UInt8.ofNat n.toNat)) ByteArray.empty

def coStr (P : Program) (o : Oper) (ρ : Operand → T) (H : Nat → Option O) (it : It) : Option (Del × Prop) :=
  match o.op, it with
  | .convert src dst x, .st ns => match P.underlying src, P.underlying dst with
    | some (.slice e), some .string => match P.underlying e with
      | some (.int .u8) => if fits (.slice e) (ρ x) = true then
          some ({ val := .c (.string (strOf ns)) }, content H 1 (ρ x) = some (ns.map fun n => [.c (.int .u8 n)]) ∧ lenOk (ρ x) ns.length)
        else none
      | _ => none
    | _, _ => none
  | _, _ => none

theorem coStr_ok {P : Program} {g : Gl} {o : Oper} {τ : Operand → T} {ρ : Operand → Value} {w : World} {e : Env} {R : Pl} {H : List O} {d : Del} {p : Prop} {it : It} (s : Sat g w e R H)
    (hρ : ∀ x, RelT w e (Mut e R H) (τ x) (ρ x)) (h : coStr P o τ (fun k => H[k]?) it = some (d, p)) (hp : p) : Does P g o ρ w e R H d := by
  unfold coStr at h
  split at h
  · rename_i src dst x ns hx
    split at h
    · rename_i el hs hd
      split at h
      · rename_i he
        split at h
        · rename_i hfit
          simp only [Option.some.injEq, Prod.mk.injEq] at h
          obtain ⟨rfl, rfl⟩ := h
          obtain ⟨hc, hlen⟩ := hp
          have hr := hρ x
          obtain ⟨q1, q2⟩ := fits_src hfit hr
          have hsrc := content_src (u := src) (d := .slice el) s (Nat.zero_lt_one) hs q1 hr hc (fun k off ez i n hm => by rw [hm] at hlen; simpa [lenOk] using hlen) q2
          obtain ⟨us, h1, _, h3, h4⟩ := hsrc.news
          have hus : us = ns.map (Value.int .u8) := by
            refine List.ext_getElem? fun i => ?_
            rcases Nat.lt_or_ge i ns.length with hi | hi
            · have hn := List.getElem?_eq_getElem hi
              obtain ⟨u, h5, h6⟩ := h4 i [.c (.int .u8 ns[i])] 0 (.c (.int .u8 ns[i])) (by simp [hn]) rfl
              have := Rel.c_eq h6
              subst this
              simp only [Nat.mul_one, Nat.add_zero] at h5
              rw [h5]; simp [hn]
            · rw [List.getElem?_eq_none (by simp at h1; omega), List.getElem?_eq_none (by simpa using hi)]
          have hl := hsrc.len w
          have hf := h3 w rfl
          have hlen' : (ns.map fun n => ([.c (.int .u8 n)] : List C)).length = ns.length := by simp
          rw [hlen'] at hl hf
          have hval : ∃ a n c, ρ x = .slice a n c := by
            cases hv : ρ x with
            | slice a n c => exact ⟨a, n, c, rfl⟩
            | string b => exact absurd hv (q2.1 ⟨el, rfl⟩ b)
            | _ => rw [hv] at hl; cases hl
          obtain ⟨a, n, c, hv⟩ := hval
          rw [hv] at hl hf
          have hn : n = ns.length := by
            have : (Builtin.lenOf (.slice a n c)).run P w = .ok n w := rfl
            rw [this] at hl; cases hl; rfl
          have hrun : (Conv.bytesToString (.slice a n c)).run P w = .ok (.string (strOf ns)) w := by
            cases a with
            | none =>
              have h0 : us.toArray = #[] := by
                have : (Builtin.firstCells 1 ns.length (.slice none n c)).run P w = .ok #[] w := rfl
                rw [this] at hf; cases hf; rfl
              have h00 : ns = [] := by
                have : us = [] := by simpa using h0
                rw [this] at hus
                exact List.map_eq_nil_iff.1 hus.symm
              subst h00
              rfl
            | some b =>
              have hld : (loadCells b n).run P w = .ok (ns.map (Value.int .u8)).toArray w := by
                have : (Builtin.firstCells 1 ns.length (.slice (some b) n c)) = loadCells b (ns.length * 1) := rfl
                rw [this, Nat.mul_one] at hf
                rw [hn, hf, hus]
              exact run_bytesToString w b n c ns hld
          refine Does.val s (u := .string (strOf ns)) ?_ (.c _)
          simp [execOp, hx, hv, run_convert_bytes_string w src dst el a n c hs he hd, hrun]
        · cases h
      · cases h
    · cases h
  · cases h

/-! ### Calls that leave the objects as they are -/
def inner (ρ : List Nat) (o : O) : Bool := match o with
  | .cells ss => ss.all fun | .one c => (match c.key with | some k => ρ.contains k | none => true) | _ => true
  | _ => true

theorem renS_back {ρ : List Nat} {len : Nat} (hn : ρ.Nodup) : ∀ (ss : List Slot), (ss.all fun | .one c => (match c.key with | some k => ρ.contains k | none => true) | _ => true) = true → renS (fout ρ len) (renS (posOf ρ) ss) = ss := by
  have key : ∀ k, ρ.contains k = true → ∃ j, posOf ρ k = some j ∧ fout ρ len j = some k := by
    intro k hk
    obtain ⟨j, hj⟩ := List.getElem?_of_mem (List.contains_iff_mem.1 hk)
    refine ⟨j, posOf_of_get hn hj, ?_⟩
    unfold fout
    rw [if_pos (List.getElem?_eq_some_iff.1 hj).1]; exact hj
  intro ss
  induction ss with
  | nil => intro _; rfl
  | cons a r ih =>
    intro h
    rw [List.all_cons, Bool.and_eq_true] at h
    cases a with
    | one c =>
      simp only [renS, ih h.2]
      congr 2
      cases c with
      | ref k off => obtain ⟨j, h1, h2⟩ := key k h.1; simp [renC, h1, h2]
      | el k off esz i sub => obtain ⟨j, h1, h2⟩ := key k h.1; simp [renC, h1, h2]
      | sl k off esz i n => obtain ⟨j, h1, h2⟩ := key k h.1; simp [renC, h1, h2]
      | mp k => obtain ⟨j, h1, h2⟩ := key k h.1; simp [renC, h1, h2]
      | _ => rfl
    | row n esz xs => simp only [renS, ih h.2]
    | hole n => simp only [renS, ih h.2]

theorem renO_back {ρ : List Nat} {len : Nat} (hn : ρ.Nodup) {o : O} (h : inner ρ o = true) : renO (fout ρ len) (renO (posOf ρ) o) = o := by
  cases o with
  | cells ss => simp only [renO]; rw [renS_back hn ss h]
  | _ => rfl

def inAt (ρ : List Nat) (x : Option O) : Bool := match x with | some o => inner ρ o | none => false
def allIn (ρ : List Nat) (H : Nat → Option O) : Bool := ρ.all fun k => inAt ρ (H k)

def coLook (P : Program) (g : Gl) (o : Oper) (ρo : Operand → T) (H : Nat → Option O) (ρ : List Nat) (res : T) : Option (Del × Prop) :=
  match o.op with
  | .call c => match c.callee with
    | .value (.func f) =>
      if callable P f && nodupB ρ && allIn ρ H && res.cs.all (fun c => match c.key with | some k => decide (k < ρ.length) | none => true) then
        match subOf ρ H ρ with
        | some Hs => some ({ val := renT (ρ[·]?) res }, argsOk H [] ρo c.args.toList ∧ FT P g f (c.args.toList.map fun x => renT (posOf ρ) (lendT [] (ρo x))) Hs [] res Hs)
        | none => none
      else none
    | _ => none
  | _ => none

theorem renC_fout {ρ : List Nat} {len : Nat} {c : C} (h : (match c.key with | some k => decide (k < ρ.length) | none => true) = true) : renC (fout ρ len) c = renC (ρ[·]?) c := by
  have key : ∀ k, decide (k < ρ.length) = true → fout ρ len k = ρ[k]? := fun k hk => by unfold fout; rw [if_pos (by simpa using hk)]
  cases c with
  | ref k off => simp only [renC, key k h]
  | el k off esz i sub => simp only [renC, key k h]
  | sl k off esz i n => simp only [renC, key k h]
  | mp k => simp only [renC, key k h]
  | _ => rfl

def acs : A → List C
  | .s c => [c]
  | .g cs => cs

theorem renT_fout {ρ : List Nat} {len : Nat} {t : T} (h : t.cs.all (fun c => match c.key with | some k => decide (k < ρ.length) | none => true) = true) : renT (fout ρ len) t = renT (ρ[·]?) t := by
  rw [List.all_eq_true] at h
  have hA : ∀ v : A, (∀ c ∈ acs v, (match c.key with | some k => decide (k < ρ.length) | none => true) = true) → renA (fout ρ len) v = renA (ρ[·]?) v := by
    intro v hv
    cases v with
    | s c => simp only [renA]; rw [renC_fout (hv c (by simp [acs]))]
    | g cs => simp only [renA]; congr 1; exact List.map_congr_left fun c hc => renC_fout (hv c hc)
  cases t with
  | a v => simp only [renT]; rw [hA v (fun c hc => h c (by cases v <;> exact hc))]
  | t vs =>
    simp only [renT]
    congr 1
    refine List.map_congr_left fun v hv => hA v fun c hc => h c ?_
    simp only [T.cs, List.mem_flatMap]
    exact ⟨v, hv, by cases v <;> exact hc⟩

theorem coLook_ok {P : Program} {g : Gl} {o : Oper} {τ : Operand → T} {ρ : Operand → Value} {w : World} {e : Env} {R : Pl} {H : List O} {d : Del} {p : Prop} {rs : List Nat} {res : T} (s : Sat g w e R H) (hcl : Closed H)
    (hρ : ∀ x, RelT w e (Mut e R H) (τ x) (ρ x)) (hfn : ∀ f, ρ (.func f) = .func (.func f) #[] #[]) (h : coLook P g o τ (fun k => H[k]?) rs res = some (d, p)) (hp : p) : Does P g o ρ w e R H d := by
  unfold coLook at h
  split at h
  · rename_i c hx
    split at h
    · rename_i f hcallee
      split at h
      · rename_i hcond
        simp only [Bool.and_eq_true] at hcond
        obtain ⟨⟨⟨hcall, hnd⟩, hin⟩, hres⟩ := hcond
        split at h
        · rename_i Hs hsub
          simp only [Option.some.injEq, Prod.mk.injEq] at h
          obtain ⟨rfl, rfl⟩ := h
          obtain ⟨hsl, hsg⟩ := subOf_get hsub
          have hnod := nodupB_ok hnd
          have hco : coCall P g o τ (fun k => H[k]?) H.length { ρ := rs, res := res, H' := Hs } = some (Claim.del { ρ := rs, res := res, H' := Hs } H.length, argsOk (fun k => H[k]?) [] τ c.args.toList ∧ FT P g f (c.args.toList.map fun x => renT (posOf rs) (lendT [] (τ x))) Hs [] res Hs) := by
            unfold coCall
            rw [hx]
            simp only [hcallee]
            rw [if_pos (by simp [hcall, hnd, hsl]), hsub]
          have hdoes := coCall_ok s hcl hρ hfn hco hp
          have hhp : (Claim.del { ρ := rs, res := res, H' := Hs } H.length).hp H = H := by
            have htake : Hs.take rs.length = Hs := by rw [← hsl]; exact List.take_length
            have hdrop : Hs.drop rs.length = [] := by rw [← hsl]; exact List.drop_length
            simp only [Claim.del, Del.hp, htake, hdrop, List.map_nil, List.append_nil, List.filterMap_nil, killN]
            refine List.ext_getElem? fun k => ?_
            by_cases hk : k ∈ rs
            · obtain ⟨j, hj⟩ := List.getElem?_of_mem hk
              obtain ⟨ob, h1, h2⟩ := hsg j k hj
              have hkl : k < H.length := (List.getElem?_eq_some_iff.1 h1).1
              have hi : inAt rs H[k]? = true := List.all_eq_true.1 hin k hk
              rw [show H[k]? = some ob from h1] at hi
              have hi : inner rs ob = true := hi
              rw [setAll_zip rs _ H j k ob hnod hj (by rw [List.getElem?_map, h2]; simp only [Option.map_some]; rw [renO_back hnod hi]) hkl]
              exact h1.symm
            · rw [setAll_other]
              intro hm
              simp only [List.mem_map] at hm
              obtain ⟨⟨x, y⟩, hxy, rfl⟩ := hm
              exact hk (List.of_mem_zip hxy).1
          have hval : (Claim.del { ρ := rs, res := res, H' := Hs } H.length).val = renT (rs[·]?) res := renT_fout hres
          intro a next Q he hn
          refine hdoes a next Q he fun u w' hu => hn u w' ?_
          obtain ⟨e', k1, k2, k3⟩ := hu
          rw [hhp] at k1 k2 k3
          rw [hval] at k3
          refine ⟨e', by rw [Del.hp_val]; exact k1, by rw [Del.hp_val]; exact k2, by rw [Del.hp_val]; exact k3⟩
        · cases h
      · cases h
    · cases h
  · cases h

inductive Itm where
  | i (x : It)
  | call (cl : Claim)
  | lend (fr : List (Nat × List (List C))) (res : T)
  | look (ρ : List Nat) (res : T)

def noProp (d : Option Del) : Option (Del × Prop) := d.map fun d => (d, True)

def core (P : Program) (g : Gl) (o : Oper) (ρ : Operand → T) (H : Nat → Option O) (len : Nat) (it : Itm) : Option (Del × Prop) :=
  match it with
  | .call cl => coCall P g o ρ H len cl
  | .lend fr res => coLend P g o ρ H fr res
  | .look rs res => coLook P g o ρ H rs res
  | .i it => match o.op with
    | .move _ | .assign _ => noProp (coMove o ρ)
    | .pick _ _ _ => coPick o ρ it
    | .extract _ _ => match coExtract o ρ with
      | some d => some (d, True)
      | none => noProp (coPure P o ρ)
    | .nilCheck _ => match coNil o ρ with
      | some d => some (d, True)
      | none => noProp (coPure P o ρ)
    | .binOp _ _ _ _ _ => match it with
      | .ar => coArith P o ρ
      | _ => if ptrType P o.op then (match coNil o ρ with
          | some d => some (d, True)
          | none => noProp (coPure P o ρ))
        else match coEq P o ρ with
          | some d => some (d, True)
          | none => noProp (coPure P o ρ)
    | .index _ _ _ => match it with
      | .ar => coArith P o ρ
      | _ => noProp (coPure P o ρ)
    | .fieldAddr _ _ _ => noProp (coAddr P o ρ)
    | .field _ _ _ => match coField P o ρ with
      | some d => some (d, True)
      | none => noProp (coPure P o ρ)
    | .indexAddr _ _ _ => coIndexAddr P o ρ it
    | .load _ _ => coLoad P o ρ H it
    | .store _ _ _ => coStore P o ρ H it
    | .alloc _ | .box _ _ => noProp (coNew P o ρ len it)
    | .build _ _ | .buildSlice _ _ _ => noProp (coBuild P o ρ len)
    | .slice _ _ _ _ _ => coSlice P o ρ H
    | .call c => match c.callee with
      | .builtin .len => match coLen P o ρ with
        | some d => some (d, True)
        | none => noProp (coPure P o ρ)
      | .builtin .append => coAppend P o ρ H len it
      | .builtin .clear => coClear P o ρ H
      | .builtin _ => noProp (coPure P o ρ)
      | _ => none
    | .unOp _ _ _ => noProp (coPure P o ρ)
    | .convert _ _ _ => match it with
      | .st _ => coStr P o ρ H it
      | _ => noProp (coPure P o ρ)
    | _ => none

theorem noProp_some {d : Option Del} {x : Del} {p : Prop} (h : noProp d = some (x, p)) : d = some x := by
  unfold noProp at h
  simp only [Option.map_eq_some_iff, Prod.mk.injEq] at h
  obtain ⟨y, hy, rfl, _⟩ := h
  exact hy

theorem core_ok {P : Program} {g : Gl} {o : Oper} {τ : Operand → T} {ρ : Operand → Value} {w : World} {e : Env} {R : Pl} {H : List O} {d : Del} {p : Prop} {it : Itm} (s : Sat g w e R H) (hcl : Closed H)
    (hρ : ∀ x, RelT w e (Mut e R H) (τ x) (ρ x)) (hτ : ∀ x, (τ x).below H.length) (hfn : ∀ f, ρ (.func f) = .func (.func f) #[] #[])
    (h : core P g o τ (fun k => H[k]?) H.length it = some (d, p)) (hp : p) : Does P g o ρ w e R H d := by
  have two : ∀ (c : Option Del), (match c with | some d => some (d, True) | none => noProp (coPure P o τ)) = some (d, p) → c = some d ∨ coPure P o τ = some d := by
    intro c hc
    cases c with
    | some d' => simp only [Option.some.injEq, Prod.mk.injEq] at hc; exact .inl (congrArg some hc.1)
    | none => exact .inr (noProp_some hc)
  unfold core at h
  split at h
  · exact coCall_ok s hcl hρ hfn h hp
  · exact coLend_ok s hρ hfn h hp
  · exact coLook_ok s hcl hρ hfn h hp
  · rename_i it
    split at h
    · exact coMove_ok s hρ (noProp_some h)
    · exact coMove_ok s hρ (noProp_some h)
    · exact coPick_ok s hρ h hp
    · rcases two _ h with h | h
      · exact coExtract_ok s hρ h
      · exact coPure_ok s hρ h
    · rename_i x hx
      rcases two _ h with h | h
      · exact coNil_ok s hρ h (by rw [hx]; rfl)
      · exact coPure_ok s hρ h
    · split at h
      · exact coArith_ok s hρ h hp
      · split at h
        · rename_i ht
          rcases two _ h with h | h
          · exact coNil_ok s hρ h ht
          · exact coPure_ok s hρ h
        · rcases two _ h with h | h
          · exact coEq_ok s hρ h
          · exact coPure_ok s hρ h
    · split at h
      · exact coArith_ok s hρ h hp
      · exact coPure_ok s hρ (noProp_some h)
    · exact coAddr_ok s hρ (noProp_some h)
    · rcases two _ h with h | h
      · exact coField_ok s hρ h
      · exact coPure_ok s hρ h
    · exact coIndexAddr_ok s hρ h hp
    · exact coLoad_ok s hρ h hp
    · exact coStore_ok s hρ h hp
    · exact coNew_ok s hcl hρ hτ (noProp_some h)
    · exact coNew_ok s hcl hρ hτ (noProp_some h)
    · exact coBuild_ok s hcl hρ (noProp_some h)
    · exact coBuild_ok s hcl hρ (noProp_some h)
    · exact coSlice_ok s hρ h hp
    · split at h
      · rcases two _ h with h | h
        · exact coLen_ok s hρ h
        · exact coPure_ok s hρ h
      · exact coAppend_ok s hcl hρ h hp
      · exact coClear_ok s hρ h hp
      · exact coPure_ok s hρ (noProp_some h)
      · cases h
    · exact coPure_ok s hρ (noProp_some h)
    · split at h
      · exact coStr_ok s hρ h hp
      · exact coPure_ok s hρ (noProp_some h)
    · cases h
end Sx
