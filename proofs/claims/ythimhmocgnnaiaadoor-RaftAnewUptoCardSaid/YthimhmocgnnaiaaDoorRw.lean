/- What holds of an answer if there is one (`Wq`); a log whose entries are sound one behind the other (`Chn`). -/
import Derived.Test.YthimhmocgnnaiaaDoorRv
namespace Sx
open Go Go.Proofs

def Wq {α : Type} (x : Option α) (Q : α → Prop) : Prop := ∀ a, x = some a → Q a
theorem Wq.ret {α : Type} {a : α} {Q : α → Prop} (h : Q a) : Wq (some a) Q := fun b hb => by injection hb with hb; exact hb ▸ h
theorem Wq.ite {α : Type} {b : Bool} {x y : Option α} {Q : α → Prop} (h1 : b = true → Wq x Q) (h2 : b = false → Wq y Q) : Wq (iteB b x y) Q := by
  cases b
  · exact h2 rfl
  · exact h1 rfl
theorem Wq.ifp {α : Type} {p : Prop} [Decidable p] {x : Option α} {Q : α → Prop} (h : p → Wq x Q) : Wq (ifP p x) Q := by
  unfold ifP
  split
  · rename_i hp; exact h hp
  · intro a ha; cases ha
theorem Wq.bind {α β : Type} {x : Option α} {f : α → Option β} {R : α → Prop} {Q : β → Prop} (h1 : Wq x R) (h2 : ∀ a, R a → Wq (f a) Q) : Wq (Option.bind x f) Q := by
  intro b hb
  cases x with
  | none => cases hb
  | some a => exact h2 a (h1 a rfl) b hb
theorem Wq.any {α : Type} {x : Option α} : Wq x (fun a => x = some a) := fun _ h => h
theorem Wq.triv {α : Type} {x : Option α} : Wq x (fun _ => True) := fun _ _ => trivial
theorem Wq.sum {A B γ : Type} {s : A ⊕ B} {x : A → Option γ} {y : B → Option γ} {Q : γ → Prop} (h1 : ∀ a, s = .inl a → Wq (x a) Q) (h2 : ∀ b, s = .inr b → Wq (y b) Q) : Wq (sumC s x y) Q := by
  cases s
  · exact h1 _ rfl
  · exact h2 _ rfl
theorem Wq.mono {α : Type} {x : Option α} {Q R : α → Prop} (h : Wq x Q) (h1 : ∀ a, Q a → R a) : Wq x R := fun a ha => h1 a (h a ha)
theorem Sp.wq {α : Type} {x : Option α} {Q : α → Prop} (h : Sp x Q) : Wq x Q := fun a ha => by
  obtain ⟨b, hb, hq⟩ := h
  rw [hb] at ha; injection ha with ha; exact ha ▸ hq
theorem Sp.and {α : Type} {x : Option α} {Q R : α → Prop} (h : Sp x Q) (k : Wq x R) : Sp x (fun a => Q a ∧ R a) := by
  obtain ⟨a, ha, hq⟩ := h
  exact ⟨a, ha, hq, k a ha⟩
theorem Wq.and {α : Type} {x : Option α} {Q R : α → Prop} (h : Wq x Q) (k : Wq x R) : Wq x (fun a => Q a ∧ R a) := fun a ha => ⟨h a ha, k a ha⟩

/-! ### Soundness of an entry does not hang on the fuel -/
theorem rdNumL1_ind (r : Reader) (m : Nat) (hm : IntKind.wrap .i64 (((ByteArray.get! r.s 0).toNat : Nat) : Int) = m) (h8 : m ≤ 8) :
    ∀ (f f' k : Nat) (a : Int), k ≤ m + 1 → m + 1 < f + k → m + 1 < f' + k → rdNumL1 r f a k = rdNumL1 r f' a k
  | 0, f', k, a, h1, h2, h3 => by omega
  | f + 1, 0, k, a, h1, h2, h3 => by omega
  | f + 1, f' + 1, k, a, h1, h2, h3 => by
    rw [rdNumL1, rdNumL1, hm]
    by_cases h : (k : Int) ≤ m
    · simp only [h, decide_true, iteB_t]
      rw [wi (x := (k : Int) + 1) (by omega) (by omega)]
      have e : (k : Int) + 1 = ((k + 1 : Nat) : Int) := by omega
      rw [e, rdNumL1_ind r m hm h8 f f' (k + 1) _ (by omega) (by omega) (by omega)]
    · simp only [h, decide_false, iteB_f]
theorem rdNum_ind (s : ByteArray) (b : Bool) (f : Nat) (hf : 12 ≤ f) : rdNum f ⟨s, b⟩ = rdNum 20 ⟨s, b⟩ := by
  have hb : (ByteArray.get! s 0).toNat < 256 := UInt8.toNat_lt _
  have hw : IntKind.wrap .i64 (((ByteArray.get! s 0).toNat : Nat) : Int) = ((ByteArray.get! s 0).toNat : Nat) := wi (by omega) (by omega)
  unfold rdNum
  by_cases h : (ByteArray.get! s 0).toNat ≤ 8
  · have hq : ∀ a : Int, rdNumL1 ⟨s, b⟩ f a (1 : Int) = rdNumL1 ⟨s, b⟩ 20 a (1 : Int) := fun a => by
      have := rdNumL1_ind ⟨s, b⟩ _ hw h f 20 1 a (by omega) (by omega) (by omega)
      simpa using this
    simp only [hq]
  · have h' : decide ((IntKind.wrap .i64 (((ByteArray.get! s 0).toNat : Nat) : Int)) > 8) = true := decide_eq_true (by rw [hw]; omega)
    simp only [h', iteB_t]
theorem configOf_ind (s : ByteArray) (f : Nat) (hf : 12 ≤ f) : configOf f s = configOf 20 s := by
  unfold configOf rdFrom
  simp only [Option.bind_some]
  rw [rdNum_ind s false f hf]
theorem lSound_ind (f : Nat) (hf : 12 ≤ f) (e : Entry) (i t : Int) : lSound f e i t = lSound 20 e i t := by
  unfold lSound
  rw [configOf_ind e.data f hf]

def Snd (e : Entry) (i t : Int) : Prop := lSound 20 e i t = some true
theorem Snd.facts {e : Entry} {i t : Int} (h : Snd e i t) : e.index = i ∧ e.data.size ≤ 32768 ∧ i ≠ 0 ∧ t ≤ e.term := by
  have h1 := (lSound_sp 20 (by omega) e i t).wq true h rfl
  refine ⟨h1.1, h1.2.1, h1.2.2, ?_⟩
  have hw : Wq (lSound 20 e i t) (fun b => b = true → t ≤ e.term) := by
    unfold lSound
    refine Wq.ite (fun _ => Wq.ret (fun h => by cases h)) (fun _ => Wq.ite (fun _ => Wq.ret (fun h => by cases h)) (fun _ => Wq.ite (fun _ => Wq.ret (fun h => by cases h)) (fun h2 => ?_)))
    have h2 := of_decide_eq_false h2
    exact fun _ _ _ => by omega
  exact hw true h rfl

/-- The term ahead of place j. -/
def prevT (t : Int) (l : List Entry) : Nat → Int
  | 0 => t
  | j + 1 => ((l[j]?).map (·.term)).getD 0
def Chn (i t : Int) (l : List Entry) : Prop := ∀ (j : Nat) (e : Entry), l[j]? = some e → Snd e (i + 1 + j) (prevT t l j)
theorem prevT_get {t : Int} {l : List Entry} {j : Nat} {e : Entry} (h : l[j]? = some e) : prevT t l (j + 1) = e.term := by simp [prevT, h]
theorem cut0_get {l : List Entry} {n j : Nat} (h : j < n) : (cut l 0 n)[j]? = l[j]? := by simp [cut, h]
theorem prevT_cut0 {t : Int} {l : List Entry} {n j : Nat} (h : j ≤ n) : prevT t (cut l 0 n) j = prevT t l j := by
  cases j with
  | zero => rfl
  | succ j => simp only [prevT]; rw [cut0_get (by omega)]
theorem Chn.cut0 {i t : Int} {l : List Entry} (h : Chn i t l) (n : Nat) : Chn i t (cut l 0 n) := fun j e he => by
  have h1 : j < n := by
    unfold cut at he
    rw [List.getElem?_take] at he
    split at he
    · assumption
    · cases he
  rw [cut0_get h1] at he
  rw [prevT_cut0 (by omega)]
  exact h j e he
theorem Chn.cutk {i t : Int} {l : List Entry} (h : Chn i t l) (k n : Nat) : Chn (i + k) (prevT t l k) (cut l k n) := fun j e he => by
  have h1 := h _ _ (get_cut he)
  have h2 : prevT t l (k + j) = prevT (prevT t l k) (cut l k n) j := by
    cases j with
    | zero => rfl
    | succ j =>
      have hjn : j + 1 < n := by
        unfold cut at he
        rw [List.getElem?_take] at he
        split at he
        · assumption
        · cases he
      have h3 : (cut l k n)[j]? = l[k + j]? := by
        unfold cut
        rw [List.getElem?_take, if_pos (by omega), List.getElem?_drop]
      show ((l[k + j]?).map (·.term)).getD 0 = (((cut l k n)[j]?).map (·.term)).getD 0
      rw [h3]
  rw [← h2]
  have h4 : i + 1 + ((k + j : Nat) : Int) = i + k + 1 + j := by omega
  rw [← h4]; exact h1
theorem Chn.app {i t : Int} {a b : List Entry} (h : Chn i t a) (k : Chn (i + a.length) (prevT t a a.length) b) : Chn i t (a ++ b) := fun j e he => by
  rw [List.getElem?_append] at he
  have hp : ∀ n, n ≤ a.length → prevT t (a ++ b) n = prevT t a n := fun n hn => by
    cases n with
    | zero => rfl
    | succ n => simp only [prevT]; rw [List.getElem?_append_left (by omega)]
  split at he
  · rename_i hj
    rw [hp j (by omega)]; exact h j e he
  · rename_i hj
    have h1 := k _ _ he
    have h2 : i + a.length + 1 + ((j - a.length : Nat) : Int) = i + 1 + j := by omega
    rw [h2] at h1
    have h3 : prevT t (a ++ b) j = prevT (prevT t a a.length) b (j - a.length) := by
      rcases Nat.eq_or_lt_of_le (Nat.le_of_not_lt hj) with h4 | h4
      · rw [← h4, Nat.sub_self]; exact hp _ (Nat.le_refl _)
      · obtain ⟨d, hd⟩ : ∃ d, j = a.length + d + 1 := ⟨j - a.length - 1, by omega⟩
        subst hd
        have h5 : a.length + d + 1 - a.length = d + 1 := by omega
        rw [h5]
        simp only [prevT]
        rw [List.getElem?_append_right (by omega)]
        have h6 : a.length + d - a.length = d := by omega
        rw [h6]
    rw [h3]; exact h1
theorem Chn.up {i t : Int} {l : List Entry} (h : Chn i t l) : ∀ (k : Nat), k ≤ l.length → ∀ j, j ≤ k → prevT t l j ≤ prevT t l k
  | 0, _, j, hj => by
    have : j = 0 := by omega
    subst this; exact Int.le_refl _
  | k + 1, hk, j, hj => by
    rcases Nat.eq_or_lt_of_le hj with rfl | hlt
    · exact Int.le_refl _
    · have h1 := Chn.up h k (by omega) j (by omega)
      have he : l[k]? = some l[k] := List.getElem?_eq_getElem (by omega)
      have h2 := (h k _ he).facts.2.2.2
      rw [prevT_get he]; omega

/-! ### The log's functions -/
theorem lLast_ch {g : Log} (hl : g.entries.length ≤ big) (h : Chn g.index g.term g.entries) : Sp (lLast g) (fun o => o = (g.index + g.entries.length, prevT g.term g.entries g.entries.length)) := by
  unfold big at hl
  unfold lLast
  simp only [List.length_map]
  refine Sp.ite (fun h1 => ?_) (fun h1 => ?_)
  · have h1 := of_decide_eq_true h1
    rw [wi (by omega) (by omega)]
    refine Sp.ifp (by omega) (Sp.bind (Sp.get (by omega)) (fun e he => Sp.ret ?_))
    have h2 := (h _ _ he).facts.1
    obtain ⟨n, hn⟩ : ∃ n, g.entries.length = n + 1 := ⟨g.entries.length - 1, by omega⟩
    have h3 : 0 + ((g.entries.length : Int) - 1).toNat = n := by omega
    rw [h3] at he h2
    have h4 := prevT_get (t := g.term) he
    rw [hn, h4, h2]
    congr 1; omega
  · have h1 := of_decide_eq_false h1
    have h2 : g.entries.length = 0 := by omega
    exact Sp.ret (by rw [h2]; simp [prevT])
theorem lGet_ch {n : Nat} {g : Log} (h : LI n g) (hn : n ≤ big) (m : Int) (ht : g.index < 18446744073709551615) : Sp (lGet g (IntKind.wrap .u64 (g.index + 1)) m) (fun l => ∃ q, l = cut g.entries 0 q) := by
  have hle := h.len; have hi0 := h.i0
  rw [wu (by omega) (by omega)]
  unfold lGet
  refine Sp.bind (lAt_sp h hn (g.index + 1)) (fun o ho => ?_)
  obtain ⟨ha, hb, hc, _⟩ := ho
  unfold big at hn
  simp only [List.length_map]
  refine Sp.ite (fun _ => Sp.ret ⟨0, by simp [cut]⟩) (fun h1 => ?_)
  have h1 := of_decide_eq_false h1
  refine Sp.ite (fun _ => Sp.ret ⟨0, by simp [cut]⟩) (fun h2 => ?_)
  have h2 := of_decide_eq_false h2
  have ho0 : o = 0 := by have := hc (by omega) (by omega); omega
  subst ho0
  have hk : ∃ k : Nat, (if (g.entries.length : Int) < m then (g.entries.length : Int) else m) = (k : Int) ∧ k ≤ g.entries.length := by
    split
    · exact ⟨_, rfl, Nat.le_refl _⟩
    · exact ⟨m.toNat, by omega, by omega⟩
  obtain ⟨k, hk, hkl⟩ := hk
  rw [hk, wi (x := 0 + (k : Int)) (by omega) (by omega)]
  have hq : ∃ q : Nat, (if 0 + (k : Int) < (g.entries.length : Int) then 0 + (k : Int) else (g.entries.length : Int)) = (q : Int) ∧ q ≤ g.entries.length := by
    split
    · exact ⟨k, by omega, by omega⟩
    · exact ⟨g.entries.length, rfl, Nat.le_refl _⟩
  obtain ⟨q, hq, hq2⟩ := hq
  rw [hq]
  refine Sp.ifp (by omega) (Sp.ifp (by rw [len_cut]; omega) (Sp.ifp (by rw [len_cut]; omega) (Sp.ret ⟨_, rfl⟩)))
end Sx
