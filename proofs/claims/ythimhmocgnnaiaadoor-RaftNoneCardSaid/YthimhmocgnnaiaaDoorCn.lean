/- RaftNone: a node that is none does nothing, and what is no beginning is refused: for every beginning and every letter the law answers true. No condition beyond the row's own. -/
import Derived.Test.YthimhmocgnnaiaaDoorCs
import Derived.Test.YthimhmocgnnaiaaDoorRlNone
namespace Go.Proofs.YthimhmocgnnaiaaDoor.cNone
open Sx Go Go.Proofs Go.Proofs.Tryd Go.ChangeShapes Go.WideShapes Go.ChangeAt Go.RowKit

/-! ### The law, in plain words -/
set_option maxRecDepth 100000 in
theorem begun_true : lawBegun 70 = some true := by kernel_rfl
theorem new_nil (id : Int) (h : Sx.Hard) : rNew_nil id h = some () := by
  unfold rNew_nil
  simp only [iteB]
  repeat' split
  all_goals rfl
theorem law_true (z : Sx.Start) (x : Sx.Letter) : Sx.lawNone 70 z x = some true := by
  unfold Sx.lawNone
  rw [begun_true]
  simp only [Option.bind, iteB, new_nil]
  rfl

/-! ### The row -/
theorem own : ownKnob prog.godebug = none := by kernel_rfl
theorem laidOut : laidOutB prog = true := by kernel_rfl
theorem table {W : World} (h : laidMetH prog Rows.raftNoneRow.laid W) : Lib.TabIs prog W "math/bits.deBruijn64tab" .u8 tabZ :=
  Lib.tabIs_of_head (rest := []) gTab gTabType underlying115 underlying5 cells5 cells115 h

set_option maxRecDepth 100000 in
theorem contract (H : Type) (enc : TypeId × Value → H) (W : World) (base : Nat) (args : Array Value) (ds gs : List (DataW H)) (before : List MemPlace)
    (hval : ∀ (j : Nat) t v, f8.params[j]? = some t → args[j]? = some v → Value.okWide prog W .any base t v)
    (hW : DataW.Whole enc prog f8.params.toList Rows.raftNoneSpec.vars false W args.toList ds gs before) (hL : laidMetH prog Rows.raftNoneRow.laid W) :
    Calls prog 8 args W fun e W' => ∃ v, e = .returned v ∧ Rows.raftNoneSpec.post enc prog f8 false true false false W args v W' := by
  have hW' := hW
  obtain ⟨p, q, hA0, hV, rfl, hfz, hnd⟩ := hW
  have hA : DataW.TrodAll enc prog W 0 (fun _ => true) true f8.params.toList args.toList ds p := hA0
  rw [params8] at hA hval
  obtain ⟨v0, vs0, d0, ds0, p0, q0, hargs, rfl, rfl, h0, r0⟩ := trodAll_cons hA
  obtain ⟨v1, vs1, d1, ds1, p1, q1, rfl, rfl, rfl, h1, r1⟩ := trodAll_cons r0
  obtain ⟨rfl, rfl, rfl⟩ := trodAll_nil r1
  have ha : args = #[v0, v1] := Array.ext' hargs
  subst ha
  obtain ⟨rfl, rfl⟩ := trodVars_none hV
  obtain ⟨cs0, rfl, _⟩ := okWide_struct underlying45 (hval 0 45 v0 rfl rfl)
  obtain ⟨cs1, rfl, _⟩ := okWide_struct underlying49 (hval 1 49 v1 rfl rfl)
  obtain ⟨n0, h0⟩ := h0
  obtain ⟨n1, h1⟩ := h1
  obtain ⟨z, _, _, hz⟩ := rdStart enc W _ _ _ _ _ _ _ h0
  obtain ⟨x, _, _, hx⟩ := rdLetter enc W _ _ _ _ _ _ _ h1
  obtain ⟨ht, hg⟩ := tab_of (table hL)
  have hft := lawNone_ok ⟨glOf W, ht⟩ 70 z x true (law_true z x)
  have hc := hft.law hg (vs := [.agg cs0, .agg cs1]) (fun e M hM => ⟨rfl, fun j t hj => by
    match j, hj with
    | 0, hj => simp only [List.getElem?_cons_zero, Option.some.injEq] at hj; subst hj; exact ⟨_, rfl, agg_rel (hz e M hM)⟩
    | 1, hj => simp only [List.getElem?_cons_succ, List.getElem?_cons_zero, Option.some.injEq] at hj; subst hj; exact ⟨_, rfl, agg_rel (hx e M hM)⟩
    | j + 2, hj => simp at hj⟩)
  exact hc.mono fun e W' ⟨he, hw⟩ => ⟨_, he, law_post (tb := 4) laidOut (by kernel_rfl) rfl (by kernel_rfl) underlying4 hW' rfl hw⟩

/-! ### A world for the witness -/
noncomputable def laidWorld (os : Os) : World :=
  { World.holding prog os ⟨#[], #[], []⟩ with heap := (World.holding prog os ⟨#[], #[], []⟩).heap.modify 0 fun
      | .cells _ t frozen => .cells (tabZ.map fun n => Value.int .u8 n).toArray t frozen
      | o => o }
def args0 : Array Value := #[.agg #[.int .i64 0, .int .u64 0, .int .i64 0, .int .u64 0, .int .u64 0, .int .u64 0, .string .empty, .slice none 0 0],
  .agg #[.int .i64 0, .int .i64 0, .int .i64 0, .int .u64 0, .int .u64 0, .int .u64 0, .int .u64 0, .bool false, .slice none 0 0, .string .empty]]
theorem laid_met (os : Os) : laidMet prog Rows.raftNoneRow.laid ((laidWorld os).forCall (fun _ _ => 0) ⟨#[], args0, []⟩).memory :=
  laidMet_of_run' 8 (by kernel_rfl) (by kernel_rfl)
def data0 {H : Type} : List (DataW H) := [.agg [.lit (.int .i64 0), .agg [.lit (.int .u64 0), .lit (.int .i64 0)], .agg [.lit (.int .u64 0), .lit (.int .u64 0), .lit (.int .u64 0), .lit (.string [])], .nil],
  .agg [.lit (.int .i64 0), .lit (.int .i64 0), .lit (.int .i64 0), .lit (.int .u64 0), .lit (.int .u64 0), .lit (.int .u64 0), .lit (.int .u64 0), .lit (.bool false), .nil, .lit (.string [])]]
theorem reads (os : Os) {H : Type} (enc : TypeId × Value → H) : ∃ places, DataW.whole enc prog ((laidWorld os).forCall (fun _ _ => 0) ⟨#[], args0, []⟩).memory f8.params.toList Rows.raftNoneSpec.vars false args0.toList 8 = some (data0, [], places) :=
  ⟨[], by kernel_rfl⟩

set_option maxRecDepth 100000 in
theorem lifted (os : Os) (started : os.Started) (H : Type) (enc : TypeId × Value → H) (F : Stop.Interp) :
    ReturnsInHanded {} checked os 8 .any ((OpenSpec.ofChange Rows.raftNoneSpec).preRow enc prog f8 Rows.raftNoneRow.domain false Rows.raftNoneRow.laid) (((OpenSpec.ofChange Rows.raftNoneSpec).at F).post enc prog f8 false true false false) := by
  obtain ⟨places, hx⟩ := reads os enc
  refine returnsInHanded_of_row (C := checked) (s := OpenSpec.ofChange Rows.raftNoneSpec) own started (by kernel_rfl) func8
    (witness_row_at (enc := enc) (C := checked) false (laidWorld os) args0 rfl (by kernel_rfl) (by kernel_rfl) (by kernel_rfl)
      (OpenSpec.preRow_of_cond 8 hx (by kernel_rfl) (fun k hk => by cases hk) (by kernel_rfl) (laid_met os))) ?_
  intro W base args ds gs before hval hW _ _ _ hL _ _
  exact contract H enc W base args ds gs before hval hW hL

theorem said : Rows.RaftNoneSaid :=
  OpenClaim.holds_of_cond 8 f8 rfl rfl rfl rfl rfl rfl rfl ⟨rfl, rfl, rfl, rfl, rfl⟩ rfl rfl rfl rfl rfl (by kernel_rfl) func8 (by kernel_rfl)
    (of_decide_eq_true (by kernel_rfl)) (by unfold Func.isWrapper; first | (rw [if_pos (by decide +kernel)]; kernel_rfl) | (rw [if_neg (by decide +kernel)]; exact ⟨rfl, rfl⟩))
    (fun os started H enc _ F => by rw [OpenClaim.pre_eq_preRow]; exact lifted os started H enc F)

set_option maxRecDepth 100000 in
theorem plain (f : FuncId) (fn : Func) (hf : Tryd.pinned.checked.prog.funcNamed "tontine/tontinelaw12.RaftNone" = some f) (hfn : Tryd.pinned.checked.prog.funcs[f]? = some fn) :
    false = Tryd.pinned.checked.prog.looks [] ∧ ∀ (j : Nat) t, fn.params[j]? = some t → Tryd.pinned.checked.prog.wantsStandIn t = false := by
  obtain rfl : f = 8 := Option.some.inj ((show prog.funcNamed "tontine/tontinelaw12.RaftNone" = some 8 by kernel_rfl).symm.trans hf) |>.symm
  obtain rfl : fn = f8 := (Option.some.inj (func8.symm.trans hfn)).symm
  refine ⟨by kernel_rfl, fun j t ht => ?_⟩
  rw [params8] at ht
  match j, ht with
  | 0, ht => obtain rfl : t = 45 := by simpa using ht.symm
             exact (show prog.wantsStandIn 45 = false by kernel_rfl)
  | 1, ht => obtain rfl : t = 49 := by simpa using ht.symm
             exact (show prog.wantsStandIn 49 = false by kernel_rfl)
  | j + 2, ht => simp at ht

theorem card : Rows.RaftNoneCardSaid :=
  Claim7.holds_tied_plain_at .later [] _ _ _ _ said (fun _ h => by cases h) (by kernel_rfl) (fun _ h => by cases h) raftNone_row_tie rfl ⟨rfl, rfl⟩ (by kernel_rfl) rfl plain (by kernel_rfl)
#print axioms card
end Go.Proofs.YthimhmocgnnaiaaDoor.cNone
