/- Walks: lists of 64-bit numbers: copied, held against one another, opened. No conditions. -/
import Derived.Test.YtnilpooheaaleaaDoorFm
import Derived.Test.YtnilpooheaaleaaDoorRows
import Derived.OwnWalk
import Derived.Laws.OwnMore
import Derived.Lib.Hide
import Derived.ChangeOld
import Derived.Deep.Slices
import Derived.Laws.Cover2
import Derived.Lib.SmallJoins
import Derived.Deep.QuietTactic
import Derived.BigQuiet
namespace Go.Proofs.YtnilpooheaaleaaDoor.li
open Go.RowKit Go.ChangeShapes

theorem info_i64 : (Tryd.prog.info? 2).map (fun i => (i.zero, i.size, i.bytes)) = some (some (.int .i64 0), 1, 8) := by kernel_rfl

theorem make_i64 (n : Nat) (hn : n ≤ 1048576) (w : World) : (Instr.makeSlice 25 (.int .i64 n) (.int .i64 n)).run Tryd.prog w = .ok (.slice (some ⟨w.heap.size, 0, none⟩) n n) (w.alloc (.cells (madeCells #[.int .i64 0] n) 2)) := by
  obtain ⟨i0, hi, hz0, hz1, hz2⟩ := info_parts info_i64
  have h := run_make (P := Tryd.prog) w 25 2 i0 (.int .i64 0) Tryd.underlying25 hi hz0 .i64 .i64 n n (by omega) (Int.le_refl _) (by rw [hz2]; omega) (by omega)
  rw [hz1] at h
  simpa [Value.cells] using h

/-- What a copy of a list is: a new row that holds the same. -/
def Copied (n : Nat) (val : Nat → Value) (w : World) (e : Ending) (w' : World) : Prop :=
  e = .returned (.slice (some ⟨w.heap.size, 0, none⟩) n n) ∧ Made w' w.heap.size 2 n n val ∧ Below w.heap.size w w'

theorem make_i64_0 (w : World) : (Instr.makeSlice 25 (.int .i64 0) (.int .i64 0)).run Tryd.prog w = .ok (.slice (some ⟨w.heap.size, 0, none⟩) 0 0) (w.alloc (.cells (madeCells #[.int .i64 0] 0) 2)) := by
  simpa using make_i64 0 (by omega) w

set_option maxHeartbeats 400000 in
theorem copy_i64_0 (w : World) (zs : Nat → Int) (a : Option Addr) (cap : Nat) :
    Calls Tryd.prog 16 #[.slice a 0 cap] w (Copied 0 (fun i => .int .i64 (zs i)) w) := by
  have hmk := make_i64_0
  go_enter Tryd.func16, Tryd.ntmps16
  go_wp2
  go_loopw [4] (fun i wr => i = .int .i64 0 ∧ wr = w.alloc (.cells (madeCells #[.int .i64 0] 0) 2)) (fun _ _ => 0)
  case atStart => exact ⟨rfl, rfl⟩
  case round =>
    obtain ⟨rfl, rfl⟩ := hrel
    go_wp2
    go_ret
    exact ⟨rfl, Made.start w _ _ 0 _, (Below.refl _ _).alloc (Nat.le_refl _) _⟩

set_option maxHeartbeats 400000 in
theorem copy_i64 (v : Value) (n : Nat) (hn : n ≤ 1048576) (zs : Nat → Int) (w : World) (h : Leads w v n (fun i => .int .i64 (zs i))) :
    Calls Tryd.prog 16 #[v] w (Copied n (fun i => .int .i64 (zs i)) w) := by
  obtain ⟨_, h⟩ := h
  rcases h with ⟨rfl, rfl⟩ | ⟨a, cap, rfl, rfl⟩ | ⟨a, cap, rfl, hb, hc⟩
  · exact copy_i64_0 w zs none 0
  · exact copy_i64_0 w zs (some a) cap
  · have hmk := make_i64 n hn
    have HC := Lib.hid hc
    clear hc
    go_enter Tryd.func16, Tryd.ntmps16
    go_wp2
    go_loopw [4] (fun i wr => ∃ k : Nat, k ≤ n ∧ i = .int .i64 k ∧ Made wr w.heap.size 2 n k (fun i => .int .i64 (zs i)) ∧ Below w.heap.size w wr) (fun i _ => n - (intOf i).toNat)
    case atStart => exact ⟨0, Nat.zero_le _, rfl, Made.start w _ _ n _, (Below.refl _ _).alloc (Nat.le_refl _) _⟩
    case round =>
      obtain ⟨k, hk, rfl, hM, hB⟩ := hrel
      clear hmk
      by_cases hlt : k < n
      · have h1 := (hB.cell (p := a.add k) (by rw [add_block]; exact hb)).trans (HC.out k hlt)
        obtain ⟨v0, h2⟩ := hM.some hlt
        have h3 := hM.free k
        have HM := Lib.hid hM
        have HB := Lib.hid hB
        clear hM hB
        go_wp2
        go_roundw
        case rel => exact ⟨k + 1, by omega, by go_num, HM.out.store hlt, HB.out.setCell (Nat.le_refl _) _⟩
        case measure => simp [intOf]; omega
      · have : k = n := by omega
        subst this
        have HM := Lib.hid hM
        have HB := Lib.hid hB
        clear hM hB
        go_wp2
        go_ret
        exact ⟨rfl, HM.out, HB.out⟩

set_option maxHeartbeats 1000000 in
theorem eq_i64 (n : Nat) (hn : n ≤ 1048576) (xs : Nat → Int) (b c capb capc : Nat) (w : World)
    (hb : ∀ i, i < n → w.cell? ⟨b, i, none⟩ = some (.int .i64 (xs i))) (hc : ∀ i, i < n → w.cell? ⟨c, i, none⟩ = some (.int .i64 (xs i))) :
    Calls Tryd.prog 18 #[.slice (some ⟨b, 0, none⟩) n capb, .slice (some ⟨c, 0, none⟩) n capc] w fun e w' => e = .returned (.bool true) ∧ ∃ m, w' = w.drewN m := by
  have HB := Lib.hid hb
  have HC := Lib.hid hc
  clear hb hc
  have en : ((n : Int) != n) = false := by simp
  go_enter Tryd.func18, Tryd.ntmps18
  go_wp2
  go_loopw [5] (fun i wr => ∃ k m : Nat, k ≤ n ∧ i = .int .i64 k ∧ wr = w.drewN m) (fun i _ => n - (intOf i).toNat)
  case atStart => exact ⟨0, 0, Nat.zero_le _, rfl, rfl⟩
  case round =>
    obtain ⟨k, m, hk, rfl, rfl⟩ := hrel
    by_cases hlt : k < n
    · have cb := HB.out k hlt
      have cc := HC.out k hlt
      generalize xs k = x at *
      go_wp2
      go_quiet (fail)
      go_wp2
      go_roundw
      case rel => exact ⟨k + 1, _, by omega, by go_num, rfl⟩
      case measure => simp [intOf]; omega
    · go_wp2
      go_ret
      exact ⟨rfl, _, rfl⟩

section
variable {H : Type} {enc : TypeId × Value → H} {P : Program} {w : World} {base : Nat} {spare : Nat → Bool} {held : Bool}

/-- A list of 64-bit numbers that came in. -/
theorem leads_of_trod {t e : TypeId} {a : Option Addr} {n cap : Nat} {d : DataW H} {p : List MemPlace} (ht : P.underlying t = some (.slice e)) (he : P.underlying e = some (.int .i64)) (hc : P.cellsOf e = 1)
    (h : DataW.Trod enc P w base (fun _ => true) held t (.slice a n cap) d p) : ∃ xs : Nat → Int, (∀ i, i < n → (Lit.int .i64 (xs i)).wf = true) ∧ Leads w (.slice a n cap) n fun i => .int .i64 (xs i) := by
  obtain ⟨fuel, hf⟩ := h
  rcases Deep.open_slice1 ht hc hf with ⟨hcs, _⟩ | ⟨b, len, c, m, q, V, D, Pl, hcs, hb, hl, hm, hmm, hx, hall⟩
  · simp [Value.cells] at hcs
    obtain ⟨rfl, rfl, rfl⟩ := hcs
    exact ⟨fun _ => 0, fun i hi => absurd hi (Nat.not_lt_zero i), Nat.zero_le _, .inl ⟨rfl, rfl⟩⟩
  · simp [Value.cells] at hcs
    obtain ⟨rfl, rfl, rfl⟩ := hcs
    have each : ∀ i, ∃ z, i < n → w.cell? (b.add i) = some (.int .i64 z) ∧ (Lit.int .i64 z).wf = true := fun i => by
      by_cases hi : i < n
      · have hi' : i < m := by simp at hmm; omega
        obtain ⟨h1, h2⟩ := hall i hi'
        obtain ⟨z, hz, _, hw⟩ := DataW.trod_int he h2
        injection hz with hz _
        exact ⟨z, fun _ => ⟨by rw [h1, hz], hw⟩⟩
      · exact ⟨0, fun h => absurd h hi⟩
    obtain ⟨xs, hxs⟩ := Classical.axiomOfChoice each
    refine ⟨xs, fun i hi => (hxs i hi).2, Nat.le_trans hl hm, ?_⟩
    by_cases hn : n = 0
    · exact .inr (.inl ⟨b, cap, rfl, hn⟩)
    · refine .inr (.inr ⟨b, cap, rfl, ?_, fun i hi => (hxs i hi).1⟩)
      have h0 := (hxs 0 (by omega)).1
      have e : b.add 0 = b := by simp [Addr.add]
      rw [e] at h0
      rcases Nat.lt_or_ge b.block w.heap.size with h | h
      · exact h
      · have : w.heap[b.block]? = none := Array.getElem?_eq_none h
        simp [World.cell?, this] at h0
end
end Go.Proofs.YtnilpooheaaleaaDoor.li
