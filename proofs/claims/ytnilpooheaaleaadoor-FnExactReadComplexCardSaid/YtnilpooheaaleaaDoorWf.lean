/- Walks: lists of 32-bit numbers: copied, held against one another, added. No conditions. -/
import Derived.Test.YtnilpooheaaleaaDoorFm
import Derived.Test.YtnilpooheaaleaaDoorRw
import Derived.Test.YtnilpooheaaleaaDoorWs
namespace Go.Proofs.YtnilpooheaaleaaDoor
set_option maxRecDepth 8000
open Go.RowKit

theorem info_f32 : (Tryd.prog.info? 55).map (fun i => (i.zero, i.size, i.bytes)) = some (some (.float .f32 0), 1, 4) := by kernel_rfl

theorem make_f32 (n : Nat) (hn : n ≤ 1048576) (w : World) : (Instr.makeSlice 31 (.int .i64 n) (.int .i64 n)).run Tryd.prog w = .ok (.slice (some ⟨w.heap.size, 0, none⟩) n n) (w.alloc (.cells (madeCells #[.float .f32 0] n) 55)) := by
  obtain ⟨i0, hi, hz0, hz1, hz2⟩ := info_parts info_f32
  have h := run_make (P := Tryd.prog) w 31 55 i0 (.float .f32 0) Tryd.underlying31 hi hz0 .i64 .i64 n n (by omega) (Int.le_refl _) (by rw [hz2]; omega) (by omega)
  rw [hz1] at h
  simpa [Value.cells] using h

/-- What a copy of a list is: a new row that holds the same. -/
def Copied (n : Nat) (val : Nat → Value) (w : World) (e : Ending) (w' : World) : Prop :=
  e = .returned (.slice (some ⟨w.heap.size, 0, none⟩) n n) ∧ Made w' w.heap.size 55 n n val ∧ Below w.heap.size w w'

theorem make_f32_0 (w : World) : (Instr.makeSlice 31 (.int .i64 0) (.int .i64 0)).run Tryd.prog w = .ok (.slice (some ⟨w.heap.size, 0, none⟩) 0 0) (w.alloc (.cells (madeCells #[.float .f32 0] 0) 55)) := by
  simpa using make_f32 0 (by omega) w

set_option maxHeartbeats 400000 in
theorem copy_f32_0 (w : World) (zs : Nat → Nat) (a : Option Addr) (cap : Nat) :
    Calls Tryd.prog 20 #[.slice a 0 cap] w (Copied 0 (fun i => .float .f32 (zs i)) w) := by
  have hmk := make_f32_0
  go_enter Tryd.func20, Tryd.ntmps20
  go_wp2
  go_loopw [4] (fun i wr => i = .int .i64 0 ∧ wr = w.alloc (.cells (madeCells #[.float .f32 0] 0) 55)) (fun _ _ => 0)
  case atStart => exact ⟨rfl, rfl⟩
  case round =>
    obtain ⟨rfl, rfl⟩ := hrel
    go_wp2
    go_ret
    exact ⟨rfl, Made.start w _ _ 0 _, (Below.refl _ _).alloc (Nat.le_refl _) _⟩

set_option maxHeartbeats 400000 in
theorem copy_f32 (v : Value) (n : Nat) (hn : n ≤ 1048576) (zs : Nat → Nat) (w : World) (h : Leads w v n (fun i => .float .f32 (zs i))) :
    Calls Tryd.prog 20 #[v] w (Copied n (fun i => .float .f32 (zs i)) w) := by
  obtain ⟨_, h⟩ := h
  rcases h with ⟨rfl, rfl⟩ | ⟨a, cap, rfl, rfl⟩ | ⟨a, cap, rfl, hb, hc⟩
  · exact copy_f32_0 w zs none 0
  · exact copy_f32_0 w zs (some a) cap
  · have hmk := make_f32 n hn
    have HC := Lib.hid hc
    clear hc
    go_enter Tryd.func20, Tryd.ntmps20
    go_wp2
    go_loopw [4] (fun i wr => ∃ k : Nat, k ≤ n ∧ i = .int .i64 k ∧ Made wr w.heap.size 55 n k (fun i => .float .f32 (zs i)) ∧ Below w.heap.size w wr) (fun i _ => n - (intOf i).toNat)
    case atStart => exact ⟨0, Nat.zero_le _, rfl, Made.start w _ _ n _, (Below.refl _ _).alloc (Nat.le_refl _) _⟩
    case round =>
      obtain ⟨k, hk, rfl, hM, hB⟩ := hrel
      clear hmk
      by_cases hlt : k < n
      · have h1 := (hB.cell (p := a.add k) (by rw [add_block]; exact hb)).trans (HC.out k hlt)
        obtain ⟨v0, h2⟩ := hM.some hlt
        have h3 := hM.free k
        have HM := Lib.hid hM
        have HB := Lib.hid hB
        clear hM hB
        go_wp2
        go_roundw
        case rel => exact ⟨k + 1, by omega, by go_num, HM.out.store hlt, HB.out.setCell (Nat.le_refl _) _⟩
        case measure => simp [intOf]; omega
      · have : k = n := by omega
        subst this
        have HM := Lib.hid hM
        have HB := Lib.hid hB
        clear hM hB
        go_wp2
        go_ret
        exact ⟨rfl, HM.out, HB.out⟩

theorem wide_ab {x : Nat} {X : Option Nat} (h : Ab .f32 x X) : ∃ r, Ab .f64 r (wideA X) := by
  cases X with
  | none => exact ⟨9221120237041090561, Ab.nan (by decide) (by decide)⟩
  | some b => exact ⟨wideW b, Ab.lit (wide_not_nan h.of_some.2).1 (encode_lt _ _)⟩

set_option maxHeartbeats 1000000 in
theorem eq_f32 (n : Nat) (hn : n ≤ 1048576) (xs ys : Nat → Nat) (Z : Nat → Option Nat) (hx : ∀ i, i < n → Ab .f32 (xs i) (Z i)) (hy : ∀ i, i < n → Ab .f32 (ys i) (Z i)) (b c capb capc : Nat) (w : World)
    (hb : ∀ i, i < n → w.cell? ⟨b, i, none⟩ = some (.float .f32 (xs i))) (hc : ∀ i, i < n → w.cell? ⟨c, i, none⟩ = some (.float .f32 (ys i))) :
    Calls Tryd.prog 22 #[.slice (some ⟨b, 0, none⟩) n capb, .slice (some ⟨c, 0, none⟩) n capc] w fun e w' => e = .returned (.bool true) ∧ ∃ m, w' = w.drewN m := by
  have HB := Lib.hid hb
  have HC := Lib.hid hc
  have HX := Lib.hid hx
  have HY := Lib.hid hy
  clear hb hc hx hy
  have en : ((n : Int) != n) = false := by simp
  go_enter Tryd.func22, Tryd.ntmps22
  go_wp2
  go_loopw [5] (fun i wr => ∃ k m : Nat, k ≤ n ∧ i = .int .i64 k ∧ wr = w.drewN m) (fun i _ => n - (intOf i).toNat)
  case atStart => exact ⟨0, 0, Nat.zero_le _, rfl, rfl⟩
  case round =>
    obtain ⟨k, m, hk, rfl, rfl⟩ := hrel
    by_cases hlt : k < n
    · have hxk := HX.out k hlt
      have hyk := HY.out k hlt
      have cb := HB.out k hlt
      have cc := HC.out k hlt
      go_wp2
      refine Rg.region (fun w' => ∃ j, w' = w.drewN j) (Rg.pick [Rg.one (.slice (some ⟨b, 0, none⟩) n capb), Rg.one (.int .i64 k), Rg.one (.pointer (some ⟨b, k, none⟩)), Rg.one (.float .f32 (xs k)), Rg.fl .f64 (wideA (Z k)),
        Rg.one (.slice (some ⟨c, 0, none⟩) n capc), Rg.one (.int .i64 k), Rg.one (.pointer (some ⟨c, k, none⟩)), Rg.one (.float .f32 (ys k)), Rg.fl .f64 (wideA (Z k)), Rg.one (.bool true), Rg.one (.bool false)]) (by kernel_rfl) (by kernel_rfl) ⟨m + 1, rfl⟩
        (Rg.pick_ne (by simp [Rg.one_ne, Rg.fl_ne (wide_ab hxk)])) ?_
      (refine Rg.line_step rfl rfl (Rg.good_one fun w' hw' => (by obtain ⟨j, rfl⟩ := hw'; go_simp)) ?_; rintro _ rfl; go_simp)
      (refine Rg.line_step rfl rfl (Rg.good_one fun w' hw' => (by obtain ⟨j, rfl⟩ := hw'; go_simp)) ?_; rintro _ rfl; go_simp)
      (refine Rg.line_step rfl rfl (Rg.good_one fun w' hw' => (by obtain ⟨j, rfl⟩ := hw'; go_simp)) ?_; rintro _ rfl; go_simp)
      (refine Rg.line_step rfl rfl (Rg.good_one fun w' hw' => (by obtain ⟨j, rfl⟩ := hw'; go_simp)) ?_; rintro _ rfl; go_simp)
      (refine Rg.line_step rfl rfl (Rg.good_wide (Rg.drawn_class _) _ _ _ rfl _ rfl rfl rfl hxk) ?_; rintro _ ⟨r1, rfl, hr1⟩; go_simp)
      (refine Rg.line_step rfl rfl (Rg.good_one fun w' hw' => (by obtain ⟨j, rfl⟩ := hw'; go_simp)) ?_; rintro _ rfl; go_simp)
      (refine Rg.line_step rfl rfl (Rg.good_one fun w' hw' => (by obtain ⟨j, rfl⟩ := hw'; go_simp)) ?_; rintro _ rfl; go_simp)
      (refine Rg.line_step rfl rfl (Rg.good_one fun w' hw' => (by obtain ⟨j, rfl⟩ := hw'; go_simp)) ?_; rintro _ rfl; go_simp)
      (refine Rg.line_step rfl rfl (Rg.good_one fun w' hw' => (by obtain ⟨j, rfl⟩ := hw'; go_simp)) ?_; rintro _ rfl; go_simp)
      (refine Rg.line_step rfl rfl (Rg.good_wide (Rg.drawn_class _) _ _ _ rfl _ rfl rfl rfl hyk) ?_; rintro _ ⟨r2, rfl, hr2⟩; go_simp)
      refine Rg.line_step rfl rfl (Rg.good_call (f := 51) (args := #[.float .f64 r1, .float .f64 r2]) (fun w' hw' => (by go_simp)) fun w' hw' => ?_) ?_
      · obtain ⟨j, rfl⟩ := hw'
        refine (same_float _ _ _ hr1 hr2 _).mono ?_
        rintro e w' ⟨rfl, j2, rfl⟩
        exact ⟨_, rfl, rfl, j + j2, World.drewN_drewN _ _ _⟩
      rintro _ rfl
      go_simp
      (refine Rg.line_step rfl rfl (Rg.good_one fun w' hw' => (by obtain ⟨j, rfl⟩ := hw'; go_simp)) ?_; rintro _ rfl; go_simp)
      intro j
      go_wp2
      go_roundw
      case rel => exact ⟨k + 1, _, by omega, by go_num, rfl⟩
      case measure => simp [intOf]; omega
    · go_wp2
      go_ret
      exact ⟨rfl, _, rfl⟩

end Go.Proofs.YtnilpooheaaleaaDoor
