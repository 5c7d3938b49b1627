/- RaftAnew: a node made anew of what it gave out votes as it did: for every beginning, all calls and every asker of bulk at most 1048576 the law answers true. The one condition is the statement's own: the bulk of what is read. -/
import Derived.Test.YthimhmocgnnaiaaDoorCt
import Derived.Test.YthimhmocgnnaiaaDoorRz
namespace Go.Proofs.YthimhmocgnnaiaaDoor.cAnew
open Sx Go Go.Proofs Go.Proofs.Tryd Go.ChangeShapes Go.WideShapes Go.ChangeAt Go.RowKit

/-! ### How much is asked -/
theorem cw_szCalls : ∀ l : List Sx.Call, Sx.cw l + 32 ≤ 32 * szCalls l
  | [] => by simp [Sx.cw, szCalls]
  | x :: r => by
    have h := cw_szCalls r
    have h1 : Sx.cw (x :: r) = x.letter_entries.length + 31 + Sx.cw r := by unfold Sx.cw; rw [List.map_cons, List.sum_cons]
    have h2 : szCalls (x :: r) = szCall x + szCalls r := by unfold szCalls; rw [List.map_cons, List.sum_cons]; omega
    have h3 : x.letter_entries.length + 1 ≤ szCall x := by
      have := szEntries_len x.letter_entries
      simp only [szCall, Call.letter, szLetter]; omega
    omega

/-! ### The row -/
theorem rdInt : Rdz @Rows.uptoBulk prog 3 (rI .i64) (okI .i64) (fun _ => 1) := Rdz.int meas underlying3
theorem own : ownKnob prog.godebug = none := by kernel_rfl
theorem laidOut : laidOutB prog = true := by kernel_rfl
theorem table {W : World} (h : laidMetH prog Rows.raftAnewUptoRow.laid W) : Lib.TabIs prog W "math/bits.deBruijn64tab" .u8 tabZ :=
  Lib.tabIs_of_head (rest := []) gTab gTabType underlying115 underlying5 cells5 cells115 h

set_option maxRecDepth 100000 in
theorem contract (H : Type) (enc : TypeId × Value → H) (W : World) (base : Nat) (args : Array Value) (ds gs : List (DataW H)) (before : List MemPlace)
    (hval : ∀ (j : Nat) t v, f4.params[j]? = some t → args[j]? = some v → Value.okWide prog W .any base t v)
    (hW : DataW.Whole enc prog f4.params.toList Rows.raftAnewSpec.vars false W args.toList ds gs before) (hB : Rows.uptoSmall H (ds ++ gs) = true) (hL : laidMetH prog Rows.raftAnewUptoRow.laid W) :
    Calls prog 4 args W fun e W' => ∃ v, e = .returned v ∧ Rows.raftAnewSpec.post enc prog f4 false true false false W args v W' := by
  have hW' := hW
  obtain ⟨p, q, hA0, hV, rfl, hfz, hnd⟩ := hW
  have hA : DataW.TrodAll enc prog W 0 (fun _ => true) true f4.params.toList args.toList ds p := hA0
  rw [params4] at hA hval
  obtain ⟨v0, vs0, d0, ds0, p0, q0, hargs, rfl, rfl, h0, r0⟩ := trodAll_cons hA
  obtain ⟨v1, vs1, d1, ds1, p1, q1, rfl, rfl, rfl, h1, r1⟩ := trodAll_cons r0
  obtain ⟨v2, vs2, d2, ds2, p2, q2, rfl, rfl, rfl, h2, r2⟩ := trodAll_cons r1
  obtain ⟨rfl, rfl, rfl⟩ := trodAll_nil r2
  have ha : args = #[v0, v1, v2] := Array.ext' hargs
  subst ha
  obtain ⟨rfl, rfl⟩ := trodVars_none hV
  obtain ⟨cs0, rfl, _⟩ := okWide_struct underlying45 (hval 0 45 v0 rfl rfl)
  obtain ⟨a1, l1, c1, rfl⟩ := okWide_slice underlying46 (hval 1 46 v1 rfl rfl)
  obtain ⟨k2, rfl, _⟩ := okWide_int underlying3 (hval 2 3 v2 rfl rfl)
  obtain ⟨n0, h0⟩ := h0
  obtain ⟨n1, h1⟩ := h1
  obtain ⟨n2, h2⟩ := h2
  obtain ⟨z, hz0, hzs, hz⟩ := rdStart enc W _ _ _ _ _ _ _ h0
  obtain ⟨x, hx0, hxs, hx⟩ := rdCalls enc W _ _ _ _ _ _ _ h1
  obtain ⟨k, _, _, hk⟩ := rdInt enc W _ _ _ _ _ _ _ h2
  have hB' := of_decide_eq_true hB
  simp only [List.append_nil, Rows.uptoBulkAll] at hB'
  have hzl : z.l.length ≤ szStart z := by
    have := szEntries_len z.l
    unfold szStart; omega
  have hxl := szCalls_len x
  have hcw := cw_szCalls x
  have hlaw := anew_true z x k (okU hz0.2.2.2.1) (okU hz0.2.1) (fun c hc => ⟨(okU (hx0 c hc).2.1.2.2.2.2.1).1, (okU (hx0 c hc).2.1.2.2.2.1).2⟩) (by omega) (by omega) (by omega)
  obtain ⟨ht, hg⟩ := tab_of (table hL)
  have hft := lawAnew_ok ⟨glOf W, ht⟩ _ z x k true hlaw
  have hc := hft.law hg (vs := [.agg cs0, .slice a1 l1 c1, .int .i64 k2]) (fun e M hM => ⟨rfl, fun j t hj => by
    match j, hj with
    | 0, hj => simp only [List.getElem?_cons_zero, Option.some.injEq] at hj; subst hj; exact ⟨_, rfl, agg_rel (hz e M hM)⟩
    | 1, hj => simp only [List.getElem?_cons_succ, List.getElem?_cons_zero, Option.some.injEq] at hj; subst hj; exact ⟨_, rfl, sca_rel (hx e M hM)⟩
    | 2, hj => simp only [List.getElem?_cons_succ, List.getElem?_cons_zero, Option.some.injEq] at hj; subst hj; exact ⟨_, rfl, sca_rel (hk e M hM)⟩
    | j + 3, hj => simp at hj⟩)
  exact hc.mono fun e W' ⟨he, hw⟩ => ⟨_, he, law_post (tb := 4) laidOut (by kernel_rfl) rfl (by kernel_rfl) underlying4 hW' rfl hw⟩

/-! ### A world for the witness -/
noncomputable def laidWorld (os : Os) : World :=
  { World.holding prog os ⟨#[], #[], []⟩ with heap := (World.holding prog os ⟨#[], #[], []⟩).heap.modify 0 fun
      | .cells _ t frozen => .cells (tabZ.map fun n => Value.int .u8 n).toArray t frozen
      | o => o }
def args0 : Array Value := #[.agg #[.int .i64 0, .int .u64 0, .int .i64 0, .int .u64 0, .int .u64 0, .int .u64 0, .string .empty, .slice none 0 0], .slice none 0 0, .int .i64 0]
theorem laid_met (os : Os) : laidMet prog Rows.raftAnewUptoRow.laid ((laidWorld os).forCall (fun _ _ => 0) ⟨#[], args0, []⟩).memory :=
  laidMet_of_run' 8 (by kernel_rfl) (by kernel_rfl)
def data0 {H : Type} : List (DataW H) := [.agg [.lit (.int .i64 0), .agg [.lit (.int .u64 0), .lit (.int .i64 0)], .agg [.lit (.int .u64 0), .lit (.int .u64 0), .lit (.int .u64 0), .lit (.string [])], .nil], .nil, .lit (.int .i64 0)]
theorem reads (os : Os) {H : Type} (enc : TypeId × Value → H) : ∃ places, DataW.whole enc prog ((laidWorld os).forCall (fun _ _ => 0) ⟨#[], args0, []⟩).memory f4.params.toList Rows.raftAnewSpec.vars false args0.toList 8 = some (data0, [], places) :=
  ⟨[], by kernel_rfl⟩

set_option maxRecDepth 100000 in
theorem lifted (os : Os) (started : os.Started) (H : Type) (enc : TypeId × Value → H) (F : Stop.Interp) :
    ReturnsInHanded {} checked os 4 .any ((Rows.OpenSpec.upto Rows.raftAnewSpec).preRow enc prog f4 Rows.raftAnewUptoRow.domain false Rows.raftAnewUptoRow.laid) (((Rows.OpenSpec.upto Rows.raftAnewSpec).at F).post enc prog f4 false true false false) := by
  obtain ⟨places, hx⟩ := reads os enc
  refine returnsInHanded_of_row (C := checked) (s := Rows.OpenSpec.upto Rows.raftAnewSpec) own started (by kernel_rfl) func4
    (witness_row_at (enc := enc) (C := checked) false (laidWorld os) args0 rfl (by kernel_rfl) (by kernel_rfl) (by kernel_rfl)
      (OpenSpec.preRow_of_cond 8 hx (by kernel_rfl) (fun k hk => by cases hk; rfl) (by kernel_rfl) (laid_met os))) ?_
  intro W base args ds gs before hval hW _ hcond _ hL _ _
  exact contract H enc W base args ds gs before hval hW (hcond _ rfl) hL

theorem said : Rows.RaftAnewUptoSaid :=
  OpenClaim.holds_of_cond 4 f4 rfl rfl rfl rfl rfl rfl rfl ⟨rfl, rfl, rfl, rfl, rfl⟩ rfl rfl rfl rfl rfl (by kernel_rfl) func4 (by kernel_rfl)
    (of_decide_eq_true (by kernel_rfl)) (by unfold Func.isWrapper; first | (rw [if_pos (by decide +kernel)]; kernel_rfl) | (rw [if_neg (by decide +kernel)]; exact ⟨rfl, rfl⟩))
    (fun os started H enc _ F => by rw [OpenClaim.pre_eq_preRow]; exact lifted os started H enc F)

set_option maxRecDepth 100000 in
theorem plain (f : FuncId) (fn : Func) (hf : Tryd.pinned.checked.prog.funcNamed "tontine/tontinelaw12.RaftAnew" = some f) (hfn : Tryd.pinned.checked.prog.funcs[f]? = some fn) :
    false = Tryd.pinned.checked.prog.looks [] ∧ ∀ (j : Nat) t, fn.params[j]? = some t → Tryd.pinned.checked.prog.wantsStandIn t = false := by
  obtain rfl : f = 4 := Option.some.inj ((show prog.funcNamed "tontine/tontinelaw12.RaftAnew" = some 4 by kernel_rfl).symm.trans hf) |>.symm
  obtain rfl : fn = f4 := (Option.some.inj (func4.symm.trans hfn)).symm
  refine ⟨by kernel_rfl, fun j t ht => ?_⟩
  rw [params4] at ht
  match j, ht with
  | 0, ht => obtain rfl : t = 45 := by simpa using ht.symm
             exact (show prog.wantsStandIn 45 = false by kernel_rfl)
  | 1, ht => obtain rfl : t = 46 := by simpa using ht.symm
             exact (show prog.wantsStandIn 46 = false by kernel_rfl)
  | 2, ht => obtain rfl : t = 3 := by simpa using ht.symm
             exact (show prog.wantsStandIn 3 = false by kernel_rfl)
  | j + 3, ht => simp at ht

theorem card : Rows.RaftAnewUptoCardSaid :=
  Claim7.holds_tied_plain_at .later [] _ _ _ _ said (fun _ h => by cases h) (by kernel_rfl) (fun _ h => by cases h) raftAnewUpto_row_tie rfl ⟨rfl, rfl⟩ (by kernel_rfl) rfl plain (by kernel_rfl)
#print axioms card
end Go.Proofs.YthimhmocgnnaiaaDoor.cAnew
