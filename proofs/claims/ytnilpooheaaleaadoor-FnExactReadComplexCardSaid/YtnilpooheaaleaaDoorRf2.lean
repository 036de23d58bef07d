/- Walks: rows of 32-bit numbers held against one another, marked, asked for their marks. No conditions. -/
import Derived.Test.YtnilpooheaaleaaDoorRf1
import Derived.Test.YtnilpooheaaleaaDoorNt1
namespace Go.Proofs.YtnilpooheaaleaaDoor.fl
open Go.RowKit
open row (marks marked marks_length marks_at marked_length marked_zero marked_all)
set_option maxRecDepth 8000

abbrev Row (w : World) (base : Nat) (v : Value) (xs : List Nat) : Prop := row.Row 55 (Value.float .f32) w base v xs
theorem eq_empty (a b : Option Addr) (c d : Nat) (w : World) :
    Calls Tryd.prog 22 #[.slice a 0 c, .slice b 0 d] w fun e w' => e = .returned (.bool true) ∧ ∃ m, w' = w.drewN m := by
  go_enter Tryd.func22, Tryd.ntmps22
  go_wp2
  go_loopw [5] (fun i wr => i = .int .i64 0 ∧ wr = w) (fun _ _ => 0)
  case atStart => exact ⟨rfl, rfl⟩
  case round =>
    obtain ⟨rfl, rfl⟩ := hrel
    go_wp2
    go_ret
    exact ⟨rfl, 0, rfl⟩
theorem getD_at (xs : List Nat) (i : Nat) (h : i < xs.length) : xs.getD i 0 = xs[i] := by simp [List.getD, h]

theorem eq_rows {w : World} {b1 b2 : Nat} {v1 v2 : Value} {xs : List Nat} (hn : xs.length ≤ 1048576) (hx : ∀ x ∈ xs, x < 4294967296) (h1 : Row w b1 v1 xs) (h2 : Row w b2 v2 xs) :
    Calls Tryd.prog 22 #[v1, v2] w fun e w' => e = .returned (.bool true) ∧ ∃ m, w' = w.drewN m := by
  cases xs with
  | nil =>
    obtain ⟨a, c, rfl⟩ := h1.empty
    obtain ⟨b, d, rfl⟩ := h2.empty
    exact eq_empty a b c d w
  | cons x xs =>
    rcases h1.shape with ⟨_, h⟩ | ⟨g1, c1, rfl⟩
    · cases h
    · rcases h2.shape with ⟨_, h⟩ | ⟨g2, c2, rfl⟩
      · cases h
      · have hab : ∀ i, i < (x :: xs).length → Ab .f32 ((x :: xs).getD i 0) (ab .f32 ((x :: xs).getD i 0)) := fun i hi => Ab.self (by
          rw [getD_at _ _ hi]
          exact hx _ (List.getElem_mem hi))
        exact eq_f32 _ hn (fun i => (x :: xs).getD i 0) (fun i => (x :: xs).getD i 0) (fun i => ab .f32 ((x :: xs).getD i 0)) hab hab g1 g2 c1 c2 w (fun i hi => by rw [h1.cell i hi, getD_at _ _ hi]) (fun i hi => by rw [h2.cell i hi, getD_at _ _ hi])

/-- The mark of the i-th place. -/
def mk (i : Nat) : Nat := floatOfInt .f32 ((i : Int) + 1)
theorem mk_ab (i : Nat) : Ab .f32 (floatOfInt .f32 ((i : Int) + 1)) (some (floatOfInt .f32 ((i : Int) + 1))) := Ab.ofInt .f32 _

set_option maxHeartbeats 1000000 in
theorem mark_row {w : World} {base : Nat} {v : Value} {xs : List Nat} (hn : xs.length ≤ 1048576) (h : Row w base v xs) :
    Calls Tryd.prog 31 #[v, .int .i64 1] w fun e w' => e = .returned (.int .i64 ((xs.length : Int) + 1)) ∧ Row w' base v (marks mk xs.length) ∧ w.grownBy w' v.ownBlock := by
  rcases h.shape with ⟨rfl, rfl⟩ | ⟨g, cap, rfl⟩
  · go_enter Tryd.func31, Tryd.ntmps31
    go_wp2
    go_loopw [1, 5] (fun k i wr => k = .int .i64 1 ∧ i = .int .i64 0 ∧ wr = w) (fun _ _ _ => 0)
    case atStart => exact ⟨rfl, rfl, rfl⟩
    case round =>
      obtain ⟨rfl, rfl, rfl⟩ := hrel
      go_wp2
      go_ret
      exact ⟨rfl, by simpa [marks] using h, World.grownBy.refl _ _⟩
  · go_enter Tryd.func31, Tryd.ntmps31
    go_wp2
    go_loopw [1, 5] (fun q i wr => ∃ k : Nat, k ≤ xs.length ∧ q = .int .i64 ((k : Int) + 1) ∧ i = .int .i64 k ∧ Row wr base (.slice (some ⟨g, 0, none⟩) xs.length cap) (marked mk xs k) ∧ w.grownBy wr (some g)) (fun _ i _ => xs.length - (intOf i).toNat)
    case atStart => exact ⟨0, Nat.zero_le _, rfl, rfl, by rw [marked_zero]; exact h, World.grownBy.refl _ _⟩
    case round =>
      obtain ⟨k, hk, rfl, rfl, hR, hG⟩ := hrel
      by_cases hlt : k < xs.length
      · have hc := row.Row.cell hR k (by rw [marked_length]; exact hlt)
        have hf := row.Row.free hR k
        have HN := Lib.hid (row.Row.store hR rfl)
        have HG := Lib.hid (re.grown_trans hG (re.grown_set wr g k (.float .f32 (mk k))))
        clear hR hG
        go_wp2
        go_roundw
        case rel => exact ⟨k + 1, by omega, by go_num, by go_num, HN.out, HG.out⟩
        case measure => simp [intOf]; omega
      · obtain rfl : k = xs.length := by omega
        rw [marked_all] at hR
        have HR := Lib.hid hR
        clear hR
        go_wp2
        go_ret
        exact ⟨rfl, HR.out, hG⟩

set_option maxHeartbeats 1000000 in
theorem held_row {w : World} {base : Nat} {v : Value} {n : Nat} (hn : n ≤ 1048576) (h : Row w base v (marks mk n)) :
    Calls Tryd.prog 32 #[v, .int .i64 1] w fun e w' => e = .returned (.int .i64 ((n : Int) + 1)) ∧ w' = w := by
  rcases h.shape with ⟨rfl, h0⟩ | ⟨g, cap, rfl⟩
  · obtain rfl : n = 0 := by rw [← marks_length mk n, h0]; rfl
    go_enter Tryd.func32, Tryd.ntmps32
    go_wp2
    go_loop [1, 5] (fun k i => k = .int .i64 1 ∧ i = .int .i64 0) (fun _ _ => 0)
    case atStart => exact ⟨rfl, rfl⟩
    case round =>
      obtain ⟨rfl, rfl⟩ := hrel
      go_wp2
      go_ret
      exact ⟨rfl, rfl⟩
  · rw [marks_length] at *
    go_enter Tryd.func32, Tryd.ntmps32
    go_wp2
    go_loop [1, 5] (fun q i => ∃ k : Nat, k ≤ n ∧ q = .int .i64 ((k : Int) + 1) ∧ i = .int .i64 k) (fun _ i => n - (intOf i).toNat)
    case atStart => exact ⟨0, Nat.zero_le _, rfl, rfl⟩
    case round =>
      obtain ⟨k, hk, rfl, rfl⟩ := hrel
      by_cases hlt : k < n
      · have hc := row.Row.cell h k (by rw [marks_length]; exact hlt)
        rw [marks_at mk n k hlt] at hc
        unfold mk at hc
        have hab := mk_ab k
        have e1 : cmpA .neq .f32 (some (floatOfInt .f32 ((k : Int) + 1))) (some (floatOfInt .f32 ((k : Int) + 1))) = false := by
          rw [neq_self hab]; rfl
        go_wp2_with (first | (refine fl_arith rfl _ _ _ _ _ rfl rfl _ _ _ rfl rfl ?_; intro r n hr0; have hr := hr0 _ _ (by first | assumption | exact Ab.lit rfl (by decide)) (by first | assumption | exact Ab.lit rfl (by decide)); clear hr0) | (refine fl_cmp rfl _ _ _ _ _ rfl rfl _ _ _ rfl rfl ?_; intro b hb0; have hb := hb0 _ _ (by first | assumption | exact Ab.lit rfl (by decide)) (by first | assumption | exact Ab.lit rfl (by decide)); clear hb0; (try simp only [*] at hb); subst hb) | (refine fl_same rfl _ _ _ rfl _ _ rfl rfl rfl ?_) | (refine fl_wide rfl _ _ _ rfl _ rfl rfl rfl ?_; intro r n hr0; have hr := hr0 _ (by first | assumption | exact Ab.lit rfl (by decide)); clear hr0) | (refine fl_narrow rfl _ _ _ rfl _ rfl rfl rfl ?_; intro r n hl hr0; have hr := hr0 _ (by first | assumption | exact Ab.lit rfl (by decide)) (by assumption); clear hr0 hl) | (refine fl_neg rfl _ _ rfl _ _ rfl ?_; intro r hr0; have hr := hr0 _ (by first | assumption | exact Ab.lit rfl (by decide)); clear hr0))
        exact ⟨⟨k + 1, by omega, by go_num, by go_num⟩, by simp [intOf]; omega⟩
      · obtain rfl : k = n := by omega
        go_wp2
        go_ret
        exact ⟨rfl, rfl⟩
end Go.Proofs.YtnilpooheaaleaaDoor.fl
