/- Walks: the law of Decimal. No conditions. -/
import Derived.Test.YtnilpooheaaleaaDoorWd1
import Derived.Lib.AppendIntMem
import Derived.LaidSub
import Derived.MakeChecks
import Derived.ProofKit
namespace Go.Proofs.YtnilpooheaaleaaDoor.dec
open Go.RowKit
set_option maxRecDepth 8000

theorem gT : Tryd.prog.globalNamed "internal/strconv.uint64pow10" = some 1 := by kernel_rfl
theorem gTType : (Tryd.prog.globals[1]?).map (·.type) = some 125 := by kernel_rfl

/-- The table of powers reads as the program lays it. -/
theorem tab_of_laid {W : World} {l : List (String × DataW Unit)} (h : laidMetH Tryd.prog l W) (hl : l.filter (fun x => x.1 == "internal/strconv.uint64pow10") = [("internal/strconv.uint64pow10", Lib.tabData .u64 Lib.pow10Tab)]) : Lib.TabIs Tryd.prog W "internal/strconv.uint64pow10" .u64 Lib.pow10Tab := by
  have h1 := h.filter (fun x => x.1 == "internal/strconv.uint64pow10")
  rw [hl, MakeChecks.laidMetH_plain _ _ _ (by kernel_rfl)] at h1
  exact Lib.tabIs_of_head gT gTType Tryd.underlying125 Tryd.underlying89 (by kernel_rfl) (by kernel_rfl) h1

theorem spec_dec (n : Int) (h0 : -9223372036854775808 ≤ n) (h1 : n ≤ 9223372036854775807) (w : World) :
    Calls Tryd.prog 38 #[.int .i64 n] w fun e w' => e = .returned (.string ⟨(Lib.itoa n).toArray⟩) ∧ Below w.heap.size w w' := by
  unfold Lib.itoa
  by_cases hn : n < 0
  · rw [if_pos hn]
    have h := dec_neg n.natAbs (by omega) (by omega) w
    rw [show -((n.natAbs : Nat) : Int) = n by omega] at h
    exact h
  · rw [if_neg hn]
    have h := dec_pos n.toNat (by omega) w
    rw [show ((n.toNat : Nat) : Int) = n by omega] at h
    exact h

theorem below_grow (w : World) (k : Nat) (os : Array Obj) : Below w.heap.size w (Sort.grow (w.drewN k) os) := by
  refine Below.trans (below_drewN (Below.refl _ _) k) ⟨rfl, rfl, rfl, ?_, fun i hi => ?_⟩
  · simp [Sort.grow]
  · have : (w.drewN k).heap.size = w.heap.size := by simp
    show ((w.drewN k).heap ++ os)[i]? = _
    rw [Array.getElem?_append_left (by omega)]

set_option maxHeartbeats 400000 in
theorem impl_Decimal (n : Int) (h0 : -9223372036854775808 ≤ n) (h1 : n ≤ 9223372036854775807) (w : World) (ht : Lib.TabIs Tryd.prog w "internal/strconv.uint64pow10" .u64 Lib.pow10Tab) :
    Calls Tryd.prog 12 #[.int .i64 n] w fun e w' => e = .returned (.string ⟨(Lib.itoa n).toArray⟩) ∧ Below w.heap.size w w' := by
  have hcon := Any.strconv_FormatInt_10 Tryd.laysM173 n h0 h1 w ht
  change Calls Tryd.prog 39 _ _ _ at hcon
  generalize (⟨(Lib.itoa n).toArray⟩ : ByteArray) = r at *
  clear ht
  go_enter Tryd.func12, Tryd.ntmps12
  go_wp2_with (first | (go_at_call 39; refine hcon.mono ?_; rintro e w' ⟨rfl, k, os, rfl⟩) | go_in)
  go_ret
  exact ⟨rfl, below_grow _ _ _⟩

theorem wf_bounds {n : Int} (h : (Lit.int .i64 n).wf = true) : -9223372036854775808 ≤ n ∧ n ≤ 9223372036854775807 := by
  have m1 : IntKind.i64.min = -9223372036854775808 := by decide
  have m2 : IntKind.i64.max = 9223372036854775807 := by decide
  simpa only [Lit.wf, Bool.and_eq_true, decide_eq_true_eq, m1, m2] using h

set_option maxHeartbeats 400000 in
theorem law_Decimal (n : Int) (wn : (Lit.int .i64 n).wf = true) (w : World) (hL : laidMetH Tryd.prog Rows.fnExactDecimalRow.laid w) :
    Calls Tryd.prog 3 #[.int .i64 n] w fun e w' => e = .returned (.bool true) ∧ Below w.heap.size w w' := by
  obtain ⟨h0, h1⟩ := wf_bounds wn
  have ht := Lib.tabBelow_of_tabIs (tab_of_laid hL (by rfl))
  have HS := fun w' => spec_dec n h0 h1 w'
  have HI := fun w' ht' => impl_Decimal n h0 h1 w' ht'
  generalize (⟨(Lib.itoa n).toArray⟩ : ByteArray) = r at *
  clear hL wn h0 h1
  go_enter Tryd.func3, Tryd.ntmps3
  go_wp2_with (first | (go_at_call 38; refine (HS _).mono ?_; rintro e w' ⟨rfl, hB⟩) | (go_at_call 12; refine (HI _ (ht _ hB)).mono ?_; rintro e w'' ⟨rfl, hB2⟩) | go_in)
  go_ret
  exact ⟨rfl, hB.trans (hB2.mono hB.size)⟩

end Go.Proofs.YtnilpooheaaleaaDoor.dec
