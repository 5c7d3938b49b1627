/- RaftAlone: a node that is the only member leads at its first election, and commits all at once: for every id and all texts the law answers true. No condition beyond the row's own. -/
import Derived.Test.YthimhmocgnnaiaaDoorCs
import Derived.Test.YthimhmocgnnaiaaDoorRc
namespace Go.Proofs.YthimhmocgnnaiaaDoor.cAlone
open Sx Go Go.Proofs Go.Proofs.Tryd Go.ChangeShapes Go.WideShapes Go.ChangeAt Go.RowKit

/-! ### The row -/
theorem rdInt : Rdz @Rows.uptoBulk prog 3 (rI .i64) (okI .i64) (fun _ => 1) := Rdz.int meas underlying3
theorem rdStrings : Rdz @Rows.uptoBulk prog 22 (fun l : List ByteArray => [.ssl (prog.cellsOf 9) (l.map rS)]) (fun l => ∀ s ∈ l, s.size ≤ maxLen) (fun l => (l.map fun s => s.size + 1).sum + 1) :=
  Rdz.slice meas underlying22 (Rdz.str meas underlying9) (Nat.lt_of_lt_of_eq (by decide : 0 < 1) (by kernel_rfl)) (fun _ => by kernel_rfl) (fun _ => rfl)
theorem sca_rel {W : World} {e : Env} {M : Pl} {c : C} {v : Value} (h : RelL W e M [c] [v]) : RelT W e M (.a (.s c)) v := by
  obtain ⟨u, h1, h2⟩ := h.2 0 c rfl
  simp only [List.getElem?_cons_zero, Option.some.injEq] at h1
  subst h1; exact h2
theorem own : ownKnob prog.godebug = none := by kernel_rfl
theorem laidOut : laidOutB prog = true := by kernel_rfl
theorem table {W : World} (h : laidMetH prog Rows.raftAloneRow.laid W) : Lib.TabIs prog W "math/bits.deBruijn64tab" .u8 tabZ :=
  Lib.tabIs_of_head (rest := []) gTab gTabType underlying115 underlying5 cells5 cells115 h

set_option maxRecDepth 100000 in
theorem contract (H : Type) (enc : TypeId × Value → H) (W : World) (base : Nat) (args : Array Value) (ds gs : List (DataW H)) (before : List MemPlace)
    (hval : ∀ (j : Nat) t v, f3.params[j]? = some t → args[j]? = some v → Value.okWide prog W .any base t v)
    (hW : DataW.Whole enc prog f3.params.toList Rows.raftAloneSpec.vars false W args.toList ds gs before) (hL : laidMetH prog Rows.raftAloneRow.laid W) :
    Calls prog 3 args W fun e W' => ∃ v, e = .returned v ∧ Rows.raftAloneSpec.post enc prog f3 false true false false W args v W' := by
  have hW' := hW
  obtain ⟨p, q, hA0, hV, rfl, hfz, hnd⟩ := hW
  have hA : DataW.TrodAll enc prog W 0 (fun _ => true) true f3.params.toList args.toList ds p := hA0
  rw [params3] at hA hval
  obtain ⟨v0, vs0, d0, ds0, p0, q0, hargs, rfl, rfl, h0, r0⟩ := trodAll_cons hA
  obtain ⟨v1, vs1, d1, ds1, p1, q1, rfl, rfl, rfl, h1, r1⟩ := trodAll_cons r0
  obtain ⟨rfl, rfl, rfl⟩ := trodAll_nil r1
  have ha : args = #[v0, v1] := Array.ext' hargs
  subst ha
  obtain ⟨rfl, rfl⟩ := trodVars_none hV
  obtain ⟨k0, rfl, _⟩ := okWide_int underlying3 (hval 0 3 v0 rfl rfl)
  obtain ⟨a1, l1, c1, rfl⟩ := okWide_slice underlying22 (hval 1 22 v1 rfl rfl)
  obtain ⟨n0, h0⟩ := h0
  obtain ⟨n1, h1⟩ := h1
  obtain ⟨z, _, _, hz⟩ := rdInt enc W _ _ _ _ _ _ _ h0
  obtain ⟨x, hx0, _, hx⟩ := rdStrings enc W _ _ _ _ _ _ _ h1
  obtain ⟨ht, hg⟩ := tab_of (table hL)
  have hft := lawAlone_ok ⟨glOf W, ht⟩ (2 * x.length + 70) z x true (alone_true z x hx0)
  have hc := hft.law hg (vs := [.int .i64 k0, .slice a1 l1 c1]) (fun e M hM => ⟨rfl, fun j t hj => by
    match j, hj with
    | 0, hj => simp only [List.getElem?_cons_zero, Option.some.injEq] at hj; subst hj; exact ⟨_, rfl, sca_rel (hz e M hM)⟩
    | 1, hj => simp only [List.getElem?_cons_succ, List.getElem?_cons_zero, Option.some.injEq] at hj; subst hj; exact ⟨_, rfl, sca_rel (hx e M hM)⟩
    | j + 2, hj => simp at hj⟩)
  exact hc.mono fun e W' ⟨he, hw⟩ => ⟨_, he, law_post (tb := 4) laidOut (by kernel_rfl) rfl (by kernel_rfl) underlying4 hW' rfl hw⟩

/-! ### A world for the witness -/
noncomputable def laidWorld (os : Os) : World :=
  { World.holding prog os ⟨#[], #[], []⟩ with heap := (World.holding prog os ⟨#[], #[], []⟩).heap.modify 0 fun
      | .cells _ t frozen => .cells (tabZ.map fun n => Value.int .u8 n).toArray t frozen
      | o => o }
def args0 : Array Value := #[.int .i64 0, .slice none 0 0]
theorem laid_met (os : Os) : laidMet prog Rows.raftAloneRow.laid ((laidWorld os).forCall (fun _ _ => 0) ⟨#[], args0, []⟩).memory :=
  laidMet_of_run' 8 (by kernel_rfl) (by kernel_rfl)
def data0 {H : Type} : List (DataW H) := [.lit (.int .i64 0), .nil]
theorem reads (os : Os) {H : Type} (enc : TypeId × Value → H) : ∃ places, DataW.whole enc prog ((laidWorld os).forCall (fun _ _ => 0) ⟨#[], args0, []⟩).memory f3.params.toList Rows.raftAloneSpec.vars false args0.toList 8 = some (data0, [], places) :=
  ⟨[], by kernel_rfl⟩

set_option maxRecDepth 100000 in
theorem lifted (os : Os) (started : os.Started) (H : Type) (enc : TypeId × Value → H) (F : Stop.Interp) :
    ReturnsInHanded {} checked os 3 .any ((OpenSpec.ofChange Rows.raftAloneSpec).preRow enc prog f3 Rows.raftAloneRow.domain false Rows.raftAloneRow.laid) (((OpenSpec.ofChange Rows.raftAloneSpec).at F).post enc prog f3 false true false false) := by
  obtain ⟨places, hx⟩ := reads os enc
  refine returnsInHanded_of_row (C := checked) (s := OpenSpec.ofChange Rows.raftAloneSpec) own started (by kernel_rfl) func3
    (witness_row_at (enc := enc) (C := checked) false (laidWorld os) args0 rfl (by kernel_rfl) (by kernel_rfl) (by kernel_rfl)
      (OpenSpec.preRow_of_cond 8 hx (by kernel_rfl) (fun k hk => by cases hk) (by kernel_rfl) (laid_met os))) ?_
  intro W base args ds gs before hval hW _ _ _ hL _ _
  exact contract H enc W base args ds gs before hval hW hL

theorem said : Rows.RaftAloneSaid :=
  OpenClaim.holds_of_cond 3 f3 rfl rfl rfl rfl rfl rfl rfl ⟨rfl, rfl, rfl, rfl, rfl⟩ rfl rfl rfl rfl rfl (by kernel_rfl) func3 (by kernel_rfl)
    (of_decide_eq_true (by kernel_rfl)) (by unfold Func.isWrapper; first | (rw [if_pos (by decide +kernel)]; kernel_rfl) | (rw [if_neg (by decide +kernel)]; exact ⟨rfl, rfl⟩))
    (fun os started H enc _ F => by rw [OpenClaim.pre_eq_preRow]; exact lifted os started H enc F)

set_option maxRecDepth 100000 in
theorem plain (f : FuncId) (fn : Func) (hf : Tryd.pinned.checked.prog.funcNamed "tontine/tontinelaw12.RaftAlone" = some f) (hfn : Tryd.pinned.checked.prog.funcs[f]? = some fn) :
    false = Tryd.pinned.checked.prog.looks [] ∧ ∀ (j : Nat) t, fn.params[j]? = some t → Tryd.pinned.checked.prog.wantsStandIn t = false := by
  obtain rfl : f = 3 := Option.some.inj ((show prog.funcNamed "tontine/tontinelaw12.RaftAlone" = some 3 by kernel_rfl).symm.trans hf) |>.symm
  obtain rfl : fn = f3 := (Option.some.inj (func3.symm.trans hfn)).symm
  refine ⟨by kernel_rfl, fun j t ht => ?_⟩
  rw [params3] at ht
  match j, ht with
  | 0, ht => obtain rfl : t = 3 := by simpa using ht.symm
             exact (show prog.wantsStandIn 3 = false by kernel_rfl)
  | 1, ht => obtain rfl : t = 22 := by simpa using ht.symm
             exact (show prog.wantsStandIn 22 = false by kernel_rfl)
  | j + 2, ht => simp at ht

theorem card : Rows.RaftAloneCardSaid :=
  Claim7.holds_tied_plain_at .later [] _ _ _ _ said (fun _ h => by cases h) (by kernel_rfl) (fun _ h => by cases h) raftAlone_row_tie rfl ⟨rfl, rfl⟩ (by kernel_rfl) rfl plain (by kernel_rfl)
#print axioms card
end Go.Proofs.YthimhmocgnnaiaaDoor.cAlone
