/- What the claims of this seat share: the readings of the laws' arguments, the table, from a law's contract to its row's. -/
import Derived.Test.YthimhmocgnnaiaaDoorRq
import Derived.Test.YthimhmocgnnaiaaDoorRf0
import Derived.Test.YthimhmocgnnaiaaDoorCards
import Derived.Test.YthimhmocgnnaiaaDoorTie
import Derived.ProofKit
import Derived.OpenShut
import Derived.Deep.DeepHandedRow
import Derived.Lib.LaidTab
namespace Sx
open Go Go.Proofs Go.Proofs.Tryd Go.WideShapes Go.ChangeShapes Go.RowKit Go.ChangeAt
open Go.Proofs.YthimhmocgnnaiaaDoor (Rows.uptoBulk Rows.uptoBulkAll)

theorem bulkAll {H : Type} : ∀ (l : List (DataW H)), Rows.uptoBulkAll l = (l.map Rows.uptoBulk).sum
  | [] => by simp [Rows.uptoBulkAll]
  | x :: r => by simp only [Rows.uptoBulkAll, List.map_cons, List.sum_cons, bulkAll r]
theorem meas : Meas @Rows.uptoBulk where
  one d := by
    cases d with
    | lit l => cases l <;> simp [Rows.uptoBulk]
    | nil => simp [Rows.uptoBulk]
    | ptr d => simp [Rows.uptoBulk]
    | slice elems spare => simp [Rows.uptoBulk]
    | agg parts => simp [Rows.uptoBulk]
    | iface t d => simp [Rows.uptoBulk]
    | map entries => simp [Rows.uptoBulk]
    | held h => simp [Rows.uptoBulk]
  str bs := by simp [Rows.uptoBulk]
  slice es sp := by simp only [Rows.uptoBulk, bulkAll]; omega
  agg ps := by simp only [Rows.uptoBulk, bulkAll]; omega

/-! ### What a reading gives -/
def okI (k : IntKind) (n : Int) : Prop := (Lit.int k n).wf = true
def okS (s : ByteArray) : Prop := s.size ≤ maxLen
def okEntry (x : Entry) : Prop := okI .u64 x.term ∧ okI .u64 x.index ∧ okI .i64 x.kind ∧ okS x.data
def szEntry (x : Entry) : Nat := x.data.size + 1
theorem rdEntry : Rdz @Rows.uptoBulk prog 72 Entry.row okEntry szEntry :=
  Rdz.struct meas underlying72 (RdF.cons 0 1 (Rdz.int meas underlying28) rfl (by kernel_rfl) (RdF.cons 1 1 (Rdz.int meas underlying28) rfl (by kernel_rfl) (RdF.cons 2 1 (Rdz.int meas underlying3) rfl (by kernel_rfl)
    (RdF.cons 3 1 (Rdz.str meas underlying9) rfl (by kernel_rfl) (RdF.nil 4))))) (by kernel_rfl)
    (fun x => ⟨x.1, x.2.1, x.2.2.1, x.2.2.2.1⟩) (fun _ => rfl) (fun _ h => ⟨h.1, h.2.1, h.2.2.1, h.2.2.2.1⟩) (fun x => by simp only [szEntry]; omega)
def okEntries (l : List Entry) : Prop := ∀ x ∈ l, okEntry x
def szEntries (l : List Entry) : Nat := (l.map szEntry).sum + 1
theorem rdEntries : Rdz @Rows.uptoBulk prog 38 (fun l : List Entry => [.ssl (prog.cellsOf 72) (l.map Entry.row)]) okEntries szEntries :=
  Rdz.slice meas underlying38 rdEntry (Nat.lt_of_lt_of_eq (by decide : 0 < 4) (by kernel_rfl)) (fun _ => by kernel_rfl) (fun _ => rfl)
def okHard (x : Hard) : Prop := okI .u64 x.term ∧ okI .i64 x.vote
theorem rdHard : Rdz @Rows.uptoBulk prog 35 Hard.row okHard (fun _ => 0) :=
  Rdz.struct meas underlying35 (RdF.cons 0 1 (Rdz.int meas underlying28) rfl (by kernel_rfl) (RdF.cons 1 1 (Rdz.int meas underlying3) rfl (by kernel_rfl) (RdF.nil 2))) (by kernel_rfl)
    (fun x => ⟨x.1, x.2.1⟩) (fun _ => rfl) (fun _ h => ⟨h.1, h.2.1⟩) (fun x => Nat.zero_le _)
def okSnapshot (x : Snapshot) : Prop := okI .u64 x.index ∧ okI .u64 x.term ∧ okI .u64 x.config ∧ okS x.data
def szSnapshot (x : Snapshot) : Nat := x.data.size + 1
theorem rdSnapshot : Rdz @Rows.uptoBulk prog 30 Snapshot.row okSnapshot szSnapshot :=
  Rdz.struct meas underlying30 (RdF.cons 0 1 (Rdz.int meas underlying28) rfl (by kernel_rfl) (RdF.cons 1 1 (Rdz.int meas underlying28) rfl (by kernel_rfl) (RdF.cons 2 1 (Rdz.int meas underlying28) rfl (by kernel_rfl)
    (RdF.cons 3 1 (Rdz.str meas underlying9) rfl (by kernel_rfl) (RdF.nil 4))))) (by kernel_rfl)
    (fun x => ⟨x.1, x.2.1, x.2.2.1, x.2.2.2.1⟩) (fun _ => rfl) (fun _ h => ⟨h.1, h.2.1, h.2.2.1, h.2.2.2.1⟩) (fun x => by simp only [szSnapshot]; omega)
def okStart (z : Start) : Prop := okI .i64 z.id ∧ okI .u64 z.hard_term ∧ okI .i64 z.hard_vote ∧ okI .u64 z.snap_index ∧ okI .u64 z.snap_term ∧ okI .u64 z.snap_config ∧ okS z.snap_data ∧ okEntries z.l
def szStart (z : Start) : Nat := z.snap_data.size + szEntries z.l
theorem rdStart : Rdz @Rows.uptoBulk prog 45 Start.row okStart szStart :=
  Rdz.struct meas underlying45 (RdF.cons 0 1 (Rdz.int meas underlying3) rfl (by kernel_rfl) (RdF.cons 1 2 rdHard rfl (by kernel_rfl) (RdF.cons 3 4 rdSnapshot rfl (by kernel_rfl)
    (RdF.cons 7 1 rdEntries rfl (by kernel_rfl) (RdF.nil 8))))) (by kernel_rfl)
    (fun x => ⟨x.1, x.2.1.term, x.2.1.vote, x.2.2.1.index, x.2.2.1.term, x.2.2.1.config, x.2.2.1.data, x.2.2.2.1⟩) (fun _ => by kernel_rfl)
    (fun _ h => ⟨h.1, h.2.1.1, h.2.1.2, h.2.2.1.1, h.2.2.1.2.1, h.2.2.1.2.2.1, h.2.2.1.2.2.2, h.2.2.2.1⟩) (fun x => by simp only [szStart, szSnapshot]; omega)
def okLetter (x : Letter) : Prop := okI .i64 x.kind ∧ okI .i64 x.from_ ∧ okI .i64 x.to ∧ okI .u64 x.term ∧ okI .u64 x.index ∧ okI .u64 x.prev ∧ okI .u64 x.commit ∧ okEntries x.entries ∧ okS x.data
def szLetter (x : Letter) : Nat := szEntries x.entries + x.data.size + 1
theorem rdLetter : Rdz @Rows.uptoBulk prog 49 Letter.row okLetter szLetter :=
  Rdz.struct meas underlying49 (RdF.cons 0 1 (Rdz.int meas underlying3) rfl (by kernel_rfl) (RdF.cons 1 1 (Rdz.int meas underlying3) rfl (by kernel_rfl) (RdF.cons 2 1 (Rdz.int meas underlying3) rfl (by kernel_rfl)
    (RdF.cons 3 1 (Rdz.int meas underlying28) rfl (by kernel_rfl) (RdF.cons 4 1 (Rdz.int meas underlying28) rfl (by kernel_rfl) (RdF.cons 5 1 (Rdz.int meas underlying28) rfl (by kernel_rfl)
    (RdF.cons 6 1 (Rdz.int meas underlying28) rfl (by kernel_rfl) (RdF.cons 7 1 (Rdz.bool meas underlying4) rfl (by kernel_rfl) (RdF.cons 8 1 rdEntries rfl (by kernel_rfl) (RdF.cons 9 1 (Rdz.str meas underlying9) rfl (by kernel_rfl) (RdF.nil 10))))))))))) (by kernel_rfl)
    (fun x => ⟨x.1, x.2.1, x.2.2.1, x.2.2.2.1, x.2.2.2.2.1, x.2.2.2.2.2.1, x.2.2.2.2.2.2.1, x.2.2.2.2.2.2.2.1, x.2.2.2.2.2.2.2.2.1, x.2.2.2.2.2.2.2.2.2.1⟩) (fun _ => by kernel_rfl)
    (fun _ h => ⟨h.1, h.2.1, h.2.2.1, h.2.2.2.1, h.2.2.2.2.1, h.2.2.2.2.2.1, h.2.2.2.2.2.2.1, h.2.2.2.2.2.2.2.2.1, h.2.2.2.2.2.2.2.2.2.1⟩) (fun x => by simp only [szLetter]; omega)

/-! ### The table -/
theorem gTab : prog.globalNamed "math/bits.deBruijn64tab" = some 0 := by kernel_rfl
theorem gTabType : (prog.globals[0]?).map (·.type) = some 115 := by kernel_rfl
theorem cells115 : prog.cellsOf 115 = 64 := by kernel_rfl
theorem cells5 : prog.cellsOf 5 = 1 := by kernel_rfl
def tabZ : List Int := Lib.deBruijn64tab.map fun n : Nat => (n : Int)

/-- What a world is told of the table, as the executor wants it. -/
def glOf (W : World) : Gl := { N := 1, G := fun b => W.heap[b]? }
theorem tab_of {W : World} (h : Lib.TabIs prog W "math/bits.deBruijn64tab" .u8 tabZ) : TabOk (glOf W) ∧ ((glOf W).N ≤ W.heap.size ∧ ∀ b, b < (glOf W).N → W.heap[b]? = (glOf W).G b) := by
  have hcell : ∀ j, j < 64 → W.cell? ⟨0, j, none⟩ = some (.int .u8 (Lib.deBruijn64tab.getD j 0)) := by
    intro j hj
    have := h.cell gTab j (by simpa [tabZ, Lib.deBruijn64tab] using hj)
    rw [this]
    congr 2
    have hl : j < Lib.deBruijn64tab.length := by simpa [Lib.deBruijn64tab] using hj
    simp [tabZ, List.getD_eq_getElem?_getD, hl]
  have h0 := lt_of_cell (hcell 0 (by omega))
  refine ⟨fun w hw j hj => ?_, by simp only [glOf]; omega, fun b _ => rfl⟩
  have hj' : j < 64 := by simpa [Lib.deBruijn64tab] using hj
  rw [← hcell j hj']
  exact World.cell?_of_block (hw.2 0 (by simp [glOf]))

theorem agg_rel {W : World} {e : Env} {M : Pl} {row : List C} {cs : Array Value} (h : RelL W e M row cs.toList) : RelT W e M (.a (.g row)) (.agg cs) := ⟨cs.toList, by simp, h⟩
end Sx
