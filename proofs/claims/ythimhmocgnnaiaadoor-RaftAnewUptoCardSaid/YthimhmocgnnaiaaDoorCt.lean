/- The readings of calls, and how much they may be under the bulk's bound. -/
import Derived.Test.YthimhmocgnnaiaaDoorCs
namespace Sx
open Go Go.Proofs Go.Proofs.Tryd Go.WideShapes Go.ChangeShapes Go.RowKit Go.ChangeAt
open Go.Proofs.YthimhmocgnnaiaaDoor (Rows.uptoBulk Rows.uptoBulkAll)

def Call.letter (c : Call) : Letter := ⟨c.letter_kind, c.letter_from_, c.letter_to, c.letter_term, c.letter_index, c.letter_prev, c.letter_commit, c.letter_ok, c.letter_entries, c.letter_data⟩
def okCall (c : Call) : Prop := okI .i64 c.kind ∧ okLetter c.letter ∧ okS c.data ∧ okI .i64 c.id ∧ okI .u64 c.index
def szCall (c : Call) : Nat := szLetter c.letter + c.data.size + 1
theorem rdCall : Rdz @Rows.uptoBulk prog 51 Call.row okCall szCall :=
  Rdz.struct meas underlying51 (RdF.cons 0 1 (Rdz.int meas underlying3) rfl (by kernel_rfl) (RdF.cons 1 10 rdLetter rfl (by kernel_rfl) (RdF.cons 11 1 (Rdz.str meas underlying9) rfl (by kernel_rfl)
    (RdF.cons 12 1 (Rdz.int meas underlying3) rfl (by kernel_rfl) (RdF.cons 13 1 (Rdz.int meas underlying28) rfl (by kernel_rfl) (RdF.cons 14 1 (Rdz.bool meas underlying4) rfl (by kernel_rfl) (RdF.nil 15))))))) (by kernel_rfl)
    (fun x => ⟨x.1, x.2.1.kind, x.2.1.from_, x.2.1.to, x.2.1.term, x.2.1.index, x.2.1.prev, x.2.1.commit, x.2.1.ok, x.2.1.entries, x.2.1.data, x.2.2.1, x.2.2.2.1, x.2.2.2.2.1, x.2.2.2.2.2.1⟩) (fun _ => by kernel_rfl)
    (fun _ h => ⟨h.1, h.2.1, h.2.2.1, h.2.2.2.1, h.2.2.2.2.1⟩) (fun x => by simp only [szCall, Call.letter, szLetter]; omega)
def okCalls (l : List Call) : Prop := ∀ x ∈ l, okCall x
def szCalls (l : List Call) : Nat := (l.map szCall).sum + 1
theorem rdCalls : Rdz @Rows.uptoBulk prog 46 (fun l : List Call => [.ssl (prog.cellsOf 51) (l.map Call.row)]) okCalls szCalls :=
  Rdz.slice meas underlying46 rdCall (Nat.lt_of_lt_of_eq (by decide : 0 < 15) (by kernel_rfl)) (fun _ => by kernel_rfl) (fun _ => rfl)
theorem sca_rel {W : World} {e : Env} {M : Pl} {c : C} {v : Value} (h : RelL W e M [c] [v]) : RelT W e M (.a (.s c)) v := by
  obtain ⟨u, h1, h2⟩ := h.2 0 c rfl
  simp only [List.getElem?_cons_zero, Option.some.injEq] at h1
  subst h1; exact h2
theorem okU {n : Int} (h : okI .u64 n) : 0 ≤ n ∧ n < 18446744073709551616 := by
  have h1 : IntKind.min .u64 = 0 := rfl
  have h2 : IntKind.max .u64 = 18446744073709551615 := rfl
  unfold okI at h
  simp only [Lit.wf, Bool.and_eq_true, decide_eq_true_eq, h1, h2] at h
  omega
theorem szEntries_len : ∀ l : List Entry, l.length ≤ szEntries l
  | [] => Nat.zero_le _
  | x :: r => by
    have := szEntries_len r
    unfold szEntries szEntry at this ⊢
    simp only [List.map_cons, List.sum_cons, List.length_cons]; omega
theorem szCalls_len : ∀ l : List Call, l.length ≤ szCalls l
  | [] => Nat.zero_le _
  | x :: r => by
    have := szCalls_len r
    unfold szCalls szCall at this ⊢
    simp only [List.map_cons, List.sum_cons, List.length_cons]; omega
end Sx
