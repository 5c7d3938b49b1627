/- What is known of the globals; the contracts that lean on it or on the library: bits.TrailingZeros64, the sort of quorum.Reached. -/
import Derived.Test.YthimhmocgnnaiaaDoorRh
import Derived.Test.YthimhmocgnnaiaaDoorRs
import Derived.Test.YthimhmocgnnaiaaDoorSh
import Derived.Deep.QuietTactic
import Derived.WalkKit
import Derived.Shelf.Spec.TrailingZeros
namespace Sx
open Go Go.Proofs Go.Proofs.Tryd Go.RowKit Go.Sort

/-! ### The table of bits.TrailingZeros64 -/
def TabOk (g : Gl) : Prop := ∀ w : World, (g.N ≤ w.heap.size ∧ ∀ b, b < g.N → w.heap[b]? = g.G b) → TabAt 0 Lib.deBruijn64tab w
def GT := { g : Gl // TabOk g }

set_option maxHeartbeats 1000000 in
theorem tz_core (x k idx : Nat) (w : World) (hx0 : ((x : Int) == 0) = false)
    (key : IntKind.u64.wrap (bits BinOp.and IntKind.u64 (x : Int) (IntKind.u64.wrap (-(x : Int))) * 285870213051353865) / 288230376151711744 = (idx : Int))
    (hi : idx < 64) (_ : k < 64) (hcell : w.cell? ⟨0, idx, none⟩ = some (.int .u8 k)) :
    Calls prog 48 #[.int .u64 x] w fun e w' => e = .returned (.int .i64 k) ∧ w' = w := by
  go_enter func48, ntmps48
  go_wp2_with (simp only [key])
  go_ret
  exact ⟨rfl, rfl⟩
theorem tz_zero (w : World) : Calls prog 48 #[.int .u64 0] w fun e w' => e = .returned (.int .i64 64) ∧ w' = w := by
  go_enter func48, ntmps48
  go_wp2
  go_ret
  exact ⟨rfl, rfl⟩
theorem tz_any (x : Nat) (hx : x < 18446744073709551616) (w : World) (hT : TabAt 0 Lib.deBruijn64tab w) : Calls prog 48 #[.int .u64 x] w fun e w' => e = .returned (.int .i64 (Lib.ctz 64 x)) ∧ w' = w := by
  by_cases hx0 : x = 0
  · subst hx0; exact tz_zero w
  · obtain ⟨hlow, hk⟩ := Lib.lowest_bit 64 x hx0 hx
    obtain ⟨hi, htab⟩ := Lib.deBruijn64_at _ hk
    have hcell := hT _ hi
    rw [htab] at hcell
    exact tz_core x _ _ w (by simp; omega) (tz64_key x _ hx hx0 hlow) hi hk hcell

def bTz (x : Int) : Option Int := ifP (0 ≤ x ∧ x < 18446744073709551616) (some (Lib.ctz 64 x.toNat : Nat))
theorem bTz_ok (g : GT) (x : Int) : FTO prog g.1 48 [.a (.s (.c (.int .u64 x)))] [] (bTz x) (fun o => ([], .a (.s (.c (.int .i64 o))), [])) := by
  intro a ha
  obtain ⟨⟨h1, h2⟩, h3⟩ := ifP_some ha
  cases h3
  intro w e R vs hs hvs
  have hv : vs = [.int .u64 x] := by
    obtain ⟨hl, hv⟩ := hvs
    obtain ⟨v, h4, h5⟩ := hv 0 _ rfl
    have h6 : v = .int .u64 x := Rel.c_eq h5
    subst h6
    match vs, hl, h4 with
    | [y], _, h4 => simp only [List.getElem?_cons_zero, Option.some.injEq] at h4; rw [h4]
  subst hv
  have hx : ((x.toNat : Nat) : Int) = x := Int.toNat_of_nonneg h1
  have := tz_any x.toNat (by omega) w (g.2 w hs.glob)
  rw [hx] at this
  refine this.mono fun en w' ⟨h4, h5⟩ => ?_
  subst h5
  exact ⟨_, h4, e, hs, Ext.refl _ _ _ _, .c _⟩

/-! ### The sort -/
set_option maxHeartbeats 2000000 in
theorem less_u64 (blk off c Bs Bo size : Nat) (W : World) (G : Nat → Int) (hs : W.cell? ⟨Bs, Bo, none⟩ = some (.slice (some ⟨blk, off, none⟩) size c))
    (hc : ∀ t, t < size → W.cell? ⟨blk, off + t, none⟩ = some (.int .u64 (G t))) (i j : Nat) (hi : i < size) (hj : j < size) :
    Calls prog 66 #[.int .i64 i, .int .i64 j, .pointer (some ⟨Bs, Bo, none⟩)] W fun e w' => e = .returned (.bool (decide (G i > G j))) ∧ ∃ q, w' = W.drewN q := by
  have ci := hc i hi
  have cj := hc j hj
  go_enter func66, ntmps66
  go_wp2
  go_quiet (fail)
  go_wp2
  go_ret
  exact ⟨rfl, nq, rfl⟩

noncomputable def siT : TypeInfo := (prog.info? 101).get (by kernel_rfl)
noncomputable def siE : TypeInfo := (prog.info? 28).get (by kernel_rfl)
theorem siK (n : Nat) (h2 : 2 ≤ n) : Lib.swapperK n siE 11 = 5 := by
  have a : siE.hasPointers = false := by kernel_rfl
  have b : siE.bytes = 8 := by kernel_rfl
  have c : (n == 0) = false := by simp; omega
  have d : (n == 1) = false := by simp; omega
  simp [Lib.swapperK, a, b, c, d]

set_option maxHeartbeats 2000000 in
theorem sorts_u64 : Sorts prog 65 66 101 .u64 sortD := by
  intro w a n c B Bo xs hn hlt hB hrow
  by_cases h2 : 2 ≤ n
  · obtain ⟨blk, off, rfl, hH, hblk, hne, hBl⟩ := hrow (by omega)
    have hsz : xs.toArray.size = n := by simpa using hn
    have hless : LessReads prog 66 #[.pointer (some ⟨B, Bo, none⟩)] (Value.int .u64) gtI blk off xs.toArray.size w := by
      intro m os dk hs i j hi hj
      have e : sortWorld (Value.int .u64) w blk off m dk os = putRow (Value.int .u64) (grow (ahead w m) os) blk off dk := by
        unfold sortWorld; rw [putRow_grow _ (ahead w m) _ blk off _ hblk]
      have hHg : Holds (Value.int .u64) (grow (ahead w m) os) blk off xs.toArray := holds_grow _ _ _ blk off _ hblk (holds_ahead _ _ _ _ _ _ hH)
      rw [hsz] at hi hj hs
      refine less_u64 blk off c B Bo n _ (fun t => dk[t]!) ?_ (fun t ht => ?_) i j hi hj
      · rw [e, cell?_putRow_other _ _ blk off dk _ (by rw [hs]; exact hne), cell?_grow _ _ _ (by exact hBl)]
        exact hB
      · rw [e]; exact cell?_putRow _ _ blk off xs.toArray dk hHg (by rw [hs, hsz]) t (by omega)
    have hS := Any.sort_Slice_sorted Tryd.laysGg6 101 28 siT siE (by kernel_rfl) (by kernel_rfl) (by kernel_rfl) (by kernel_rfl) 11 (fun _ => by kernel_rfl) (by kernel_rfl) (fun _ => by kernel_rfl) (Value.int .u64) (fun _ => rfl) gtI swo_gtI 66 _
      (enters_of func66 (by kernel_rfl) rfl) blk off c xs.toArray (by omega) (by omega) 76 (by rw [siK _ (by omega)]; kernel_rfl) true
      (fun args W => run_callFunc_extern func76 (by kernel_rfl) (by kernel_rfl) (by kernel_rfl) (e := Extern.ReflectliteSwapper.swap true) (by kernel_rfl) args W) w hless hH hblk
    rw [hsz] at hS
    refine Calls.mono hS ?_
    rintro e w' ⟨rfl, d', m, os, hp, hso, rfl⟩
    rw [← hsz] at hp hso
    rw [sortD_of _ _ hp hso]
    exact ⟨rfl, m, os, .inr ⟨blk, off, rfl, rfl⟩⟩
  · have hK : Lib.swapperK n siE 11 = n + 1 := by
      rcases Nat.eq_zero_or_pos n with h | h
      · subst h; simp [Lib.swapperK]
      · obtain rfl : n = 1 := by omega
        simp [Lib.swapperK]
    have hS := Any.sort_Slice_tiny Tryd.laysGg6 101 28 siT siE (by kernel_rfl) (by kernel_rfl) (by kernel_rfl) (by kernel_rfl) 11 (fun _ => by kernel_rfl) a n c (by omega) (72 + n) (by
      rw [hK]
      rcases Nat.eq_zero_or_pos n with h | h
      · subst h; kernel_rfl
      · obtain rfl : n = 1 := by omega
        kernel_rfl) (.func 66) #[] #[.pointer (some ⟨B, Bo, none⟩)] w
    refine Calls.mono hS ?_
    rintro e w' ⟨rfl, os, rfl⟩
    refine ⟨rfl, 0, os, ?_⟩
    by_cases h0 : n = 0
    · exact .inl ⟨h0, rfl⟩
    · obtain ⟨blk, off, rfl, hH, hblk, hne, hBl⟩ := hrow h0
      refine .inr ⟨blk, off, rfl, ?_⟩
      have hx : sortD xs = xs := by
        match xs, hn with
        | [x], _ => rfl
        | [], hn => simp at hn; omega
        | _ :: _ :: _, hn => simp at hn; omega
      rw [hx, ahead_zero, putRow_self _ _ _ _ _ hH]
end Sx
