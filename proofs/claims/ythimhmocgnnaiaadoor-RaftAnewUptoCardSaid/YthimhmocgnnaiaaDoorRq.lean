/- From the executor's contract of a law to what its row asks. -/
import Derived.Test.YthimhmocgnnaiaaDoorRd
import Derived.ChangeSame
namespace Sx
open Go Go.WideShapes Go.ChangeShapes Go.RowKit

/-- The world as the executor left it, seen by what it holds. -/
def AsWas (W W' : World) : Prop := ∃ W'', W''.heap = W'.heap ∧ W''.os = W'.os ∧ W''.output = W'.output ∧ Below W.heap.size W W''

theorem noM (e : Env) : NoM (Mut e (fun _ _ => False) []) := by
  rintro b o (h | ⟨k, obj, i, h, _⟩)
  · exact h
  · simp at h

theorem FT.law {P : Program} {g : Gl} {f : FuncId} {args : List T} {mv : List Nat} {v : Value} {H' : List O} (h : FT P g f args [] mv (.a (.s (.c v))) H') {W : World} (hg : g.N ≤ W.heap.size ∧ ∀ b, b < g.N → W.heap[b]? = g.G b) {vs : List Value}
    (hvs : ∀ (e : Env) (M : Pl), NoM M → RelTs W e M args vs) : Calls P f vs.toArray W fun en W' => en = .returned v ∧ AsWas W W' := by
  let e : Env := { β := fun _ => (0, 0), κ := fun _ _ => 0 }
  have hs : Sat g W e (fun _ _ => False) [] :=
    ⟨fun k obj h => by simp at h, fun k obj o v h => by simp at h, fun k obj o h => by simp at h, fun k k' obj obj' o o' h => by simp at h, fun b o h => h.elim, fun b o h => (noM e b o h).elim, hg⟩
  refine (h W e _ vs hs (hvs e _ (noM e))).mono ?_
  rintro en w' ⟨u, rfl, e', s', x', hr⟩
  have hu : u = v := Rel.c_eq hr
  subst hu
  refine ⟨rfl, { w' with tape := W.tape }, rfl, rfl, rfl, x'.os.1, rfl, x'.os.2, x'.size, fun b hb => ?_⟩
  exact x'.block b hb (fun o hf => by
    obtain ⟨k, obj, i, h, _⟩ := hf
    simp at h)

section
variable {H : Type} {enc : TypeId × Value → H} {P : Program}

theorem trodAll_keep (hl : laidOutB P = true) {W W' : World} (hb : Below W.heap.size W W') : ∀ {ts : List TypeId} {vs : List Value} {ds : List (DataW H)} {ps : List MemPlace}, (ts.all fun t => P.readableRec t && decide (t < P.types.size)) = true →
    DataW.TrodAll enc P W 0 (fun _ => true) true ts vs ds ps → (∀ x ∈ ps, x.block < W.heap.size) → DataW.TrodAll enc P W' 0 (fun b => decide (b < W.heap.size)) true ts vs ds ps
  | [], [], [], _, _, h, _ => h
  | t :: ts, v :: vs, d :: ds, ps, ht, h, hlt => by
    obtain ⟨p, q, h1, h2, rfl⟩ := h
    simp only [List.all_cons, Bool.and_eq_true, decide_eq_true_eq] at ht
    exact ⟨p, q, Below.trod hl ht.1.1 ht.1.2 h1 hb (fun x hx => hlt x (List.mem_append_left _ hx)), trodAll_keep hl hb ht.2 h2 (fun x hx => hlt x (List.mem_append_right _ hx)), rfl⟩
  | [], _ :: _, _, _, _, h, _ => h.elim
  | [], [], _ :: _, _, _, h, _ => h.elim
  | _ :: _, [], _, _, _, h, _ => h.elim
  | _ :: _, _ :: _, [], _, _, h, _ => h.elim

theorem trodAll_heap {W W' : World} (hh : W.heap = W'.heap) {base : Nat} {sp : Nat → Bool} {held : Bool} : ∀ {ts : List TypeId} {vs : List Value} {ds : List (DataW H)} {ps : List MemPlace},
    DataW.TrodAll enc P W base sp held ts vs ds ps → DataW.TrodAll enc P W' base sp held ts vs ds ps
  | [], [], [], _, h => h
  | t :: ts, v :: vs, d :: ds, ps, h => by
    obtain ⟨p, q, ⟨n, h1⟩, h2, rfl⟩ := h
    exact ⟨p, q, ⟨n, by rw [← DataW.trod_heap hh]; exact h1⟩, trodAll_heap hh h2, rfl⟩
  | [], _ :: _, _, _, h => h.elim
  | [], [], _ :: _, _, h => h.elim
  | _ :: _, [], _, _, h => h.elim
  | _ :: _, _ :: _, [], _, h => h.elim

/-- What the row asks behind the call, of a law that has answered true and left all as it was. -/
theorem law_post {fn : Func} {s : ChangeSpec} {W W' : World} {args : Array Value} {ds gs : List (DataW H)} {before : List MemPlace} {tb : TypeId} (hl : laidOutB P = true)
    (hread : (fn.params.toList.all fun t => P.readableRec t && decide (t < P.types.size)) = true) (hvars : s.vars = []) (hres : fn.resultTypes = #[tb]) (hb : P.underlying tb = some .bool)
    (hW : DataW.Whole enc P fn.params.toList s.vars false W args.toList ds gs before) (hspec : s.fn H (ds ++ gs) = { results := [.lit (.bool true)], args := ds }) (h : AsWas W W') :
    s.post enc P fn false true false false W args (.bool true) W' := by
  have hW' := hW
  have hlt := hW.lt
  obtain ⟨p, q, hA, hV, rfl, hfz, hnd⟩ := hW
  obtain ⟨W'', h1, h2, h3, h4⟩ := h
  have hq : q = [] ∧ gs = [] := by
    rw [hvars] at hV
    cases gs with
    | nil => exact ⟨hV, rfl⟩
    | cons g r => exact hV.elim
  obtain ⟨rfl, rfl⟩ := hq
  refine ⟨ds, [], p ++ [], [], p, [], hW', ?_, ?_, ?_, ?_, fun h => by cases h⟩
  · rw [hspec, hres]
    exact trodAll_mk1 (shut_bool hb true)
  · rw [hspec]
    exact trodAll_heap h1 (trodAll_keep hl h4 hread hA (fun x hx => hlt x (List.mem_append_left _ hx)))
  · rw [hspec, hvars]; rfl
  · have := h4.frame (fun p_1 => p_1 ∈ p ++ [] ∧ (p_1 ∈ ([] : List MemPlace) ∨ p_1 ∈ p ∨ p_1 ∈ ([] : List MemPlace)))
    obtain ⟨k1, k2, k3⟩ := this
    exact ⟨by rw [← h2]; exact k1, by rw [← h3]; exact k2, by rw [← h1]; exact k3⟩
end
end Sx
