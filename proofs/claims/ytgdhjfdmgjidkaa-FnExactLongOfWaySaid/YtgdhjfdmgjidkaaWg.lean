/- Walks: sums and products of lists. No conditions. -/
import Derived.Test.YtgdhjfdmgjidkaaWf
namespace Go.Proofs.Ytgdhjfdmgjidkaa
open Go.RowKit

/-- The sum of the first n numbers, from the left. -/
def sumA (Z : Nat → Option Nat) : Nat → Option Nat
  | 0 => some 0
  | k + 1 => opA .add .f32 (sumA Z k) (Z k)

/-- A call that returns a number that reads as X, in its own world, drawn on. -/
def Gives (X : Option Nat) (w : World) (e : Ending) (w' : World) : Prop := ∃ r m, e = .returned (.float .f32 r) ∧ Ab .f32 r X ∧ w' = w.drewN m

set_option maxHeartbeats 1000000 in
theorem spec_sum (n : Nat) (hn : n ≤ 1048576) (xs : Nat → Nat) (Z : Nat → Option Nat) (hx : ∀ i, i < n → Ab .f32 (xs i) (Z i)) (b cap : Nat) (w : World)
    (hb : ∀ i, i < n → w.cell? ⟨b, i, none⟩ = some (.float .f32 (xs i))) :
    Calls Try.prog 70 #[.slice (some ⟨b, 0, none⟩) n cap] w (Gives (sumA Z n) w) := by
  have HB := Lib.hid hb
  have HX := Lib.hid hx
  clear hb hx
  go_enter Try.func70, Try.ntmps70
  go_wp2
  go_loopw [3, 4] (fun s i wr => ∃ k m r : Nat, k ≤ n ∧ s = .float .f32 r ∧ i = .int .i64 k ∧ Ab .f32 r (sumA Z k) ∧ wr = w.drewN m) (fun _ i _ => n - (intOf i).toNat)
  case atStart => exact ⟨0, 0, 0, Nat.zero_le _, rfl, rfl, Ab.lit rfl (by decide), rfl⟩
  case round =>
    obtain ⟨k, m, r0, hk, rfl, rfl, hs, rfl⟩ := hrel
    by_cases hlt : k < n
    · have hxk := HX.out k hlt
      have cb := HB.out k hlt
      go_wp2_with (first | (refine fl_arith rfl _ _ _ _ _ rfl rfl _ _ _ rfl rfl ?_; intro r n hr0; have hr := hr0 _ _ (by first | assumption | exact Ab.lit rfl (by decide)) (by first | assumption | exact Ab.lit rfl (by decide)); clear hr0) | (refine fl_cmp rfl _ _ _ _ _ rfl rfl _ _ _ rfl rfl ?_; intro b hb0; have hb := hb0 _ _ (by first | assumption | exact Ab.lit rfl (by decide)) (by first | assumption | exact Ab.lit rfl (by decide)); clear hb0; (try simp only [*] at hb); subst hb) | (refine fl_same rfl _ _ _ rfl _ _ rfl rfl rfl ?_) | (refine fl_wide rfl _ _ _ rfl _ rfl rfl rfl ?_; intro r n hr0; have hr := hr0 _ (by first | assumption | exact Ab.lit rfl (by decide)); clear hr0) | (refine fl_narrow rfl _ _ _ rfl _ rfl rfl rfl ?_; intro r n hl hr0; have hr := hr0 _ (by first | assumption | exact Ab.lit rfl (by decide)) (by assumption); clear hr0 hl) | (refine fl_neg rfl _ _ rfl _ _ rfl ?_; intro r hr0; have hr := hr0 _ (by first | assumption | exact Ab.lit rfl (by decide)); clear hr0) | go_in)
      go_roundw
      case rel => exact ⟨k + 1, _, _, by omega, rfl, by go_num, hr, rfl⟩
      case measure => simp [intOf]; omega
    · have : k = n := by omega
      subst this
      go_wp2_with (first | (refine fl_arith rfl _ _ _ _ _ rfl rfl _ _ _ rfl rfl ?_; intro r n hr0; have hr := hr0 _ _ (by first | assumption | exact Ab.lit rfl (by decide)) (by first | assumption | exact Ab.lit rfl (by decide)); clear hr0) | (refine fl_cmp rfl _ _ _ _ _ rfl rfl _ _ _ rfl rfl ?_; intro b hb0; have hb := hb0 _ _ (by first | assumption | exact Ab.lit rfl (by decide)) (by first | assumption | exact Ab.lit rfl (by decide)); clear hb0; (try simp only [*] at hb); subst hb) | (refine fl_same rfl _ _ _ rfl _ _ rfl rfl rfl ?_) | (refine fl_wide rfl _ _ _ rfl _ rfl rfl rfl ?_; intro r n hr0; have hr := hr0 _ (by first | assumption | exact Ab.lit rfl (by decide)); clear hr0) | (refine fl_narrow rfl _ _ _ rfl _ rfl rfl rfl ?_; intro r n hl hr0; have hr := hr0 _ (by first | assumption | exact Ab.lit rfl (by decide)) (by assumption); clear hr0 hl) | (refine fl_neg rfl _ _ rfl _ _ rfl ?_; intro r hr0; have hr := hr0 _ (by first | assumption | exact Ab.lit rfl (by decide)); clear hr0) | go_in)
      go_ret
      exact ⟨_, _, rfl, hs, rfl⟩

set_option maxHeartbeats 1000000 in
theorem impl_sum (n : Nat) (hn : n ≤ 1048576) (xs : Nat → Nat) (Z : Nat → Option Nat) (hx : ∀ i, i < n → Ab .f32 (xs i) (Z i)) (b cap : Nat) (w : World)
    (hb : ∀ i, i < n → w.cell? ⟨b, i, none⟩ = some (.float .f32 (xs i))) :
    Calls Try.prog 71 #[.slice (some ⟨b, 0, none⟩) n cap] w (Gives (sumA Z n) w) := by
  have HB := Lib.hid hb
  have HX := Lib.hid hx
  clear hb hx
  go_enter Try.func71, Try.ntmps71
  go_wp2
  go_loopw [3, 5, 8] (fun s _ i wr => ∃ k m r : Nat, k ≤ n ∧ s = .float .f32 r ∧ i = .int .i64 k ∧ Ab .f32 r (sumA Z k) ∧ wr = w.drewN m) (fun _ _ i _ => n - (intOf i).toNat)
  case atStart => exact ⟨0, 0, 0, Nat.zero_le _, rfl, rfl, Ab.lit rfl (by decide), rfl⟩
  case round =>
    obtain ⟨k, m, r0, hk, rfl, rfl, hs, rfl⟩ := hrel
    by_cases hlt : k < n
    · have hxk := HX.out k hlt
      have cb := HB.out k hlt
      go_wp2_with (first | (refine fl_arith rfl _ _ _ _ _ rfl rfl _ _ _ rfl rfl ?_; intro r n hr0; have hr := hr0 _ _ (by first | assumption | exact Ab.lit rfl (by decide)) (by first | assumption | exact Ab.lit rfl (by decide)); clear hr0) | (refine fl_cmp rfl _ _ _ _ _ rfl rfl _ _ _ rfl rfl ?_; intro b hb0; have hb := hb0 _ _ (by first | assumption | exact Ab.lit rfl (by decide)) (by first | assumption | exact Ab.lit rfl (by decide)); clear hb0; (try simp only [*] at hb); subst hb) | (refine fl_same rfl _ _ _ rfl _ _ rfl rfl rfl ?_) | (refine fl_wide rfl _ _ _ rfl _ rfl rfl rfl ?_; intro r n hr0; have hr := hr0 _ (by first | assumption | exact Ab.lit rfl (by decide)); clear hr0) | (refine fl_narrow rfl _ _ _ rfl _ rfl rfl rfl ?_; intro r n hl hr0; have hr := hr0 _ (by first | assumption | exact Ab.lit rfl (by decide)) (by assumption); clear hr0 hl) | (refine fl_neg rfl _ _ rfl _ _ rfl ?_; intro r hr0; have hr := hr0 _ (by first | assumption | exact Ab.lit rfl (by decide)); clear hr0) | go_in)
      go_roundw
      case rel => exact ⟨k + 1, _, _, by omega, rfl, by go_num, hr, rfl⟩
      case measure => simp [intOf]; omega
    · have : k = n := by omega
      subst this
      go_wp2_with (first | (refine fl_arith rfl _ _ _ _ _ rfl rfl _ _ _ rfl rfl ?_; intro r n hr0; have hr := hr0 _ _ (by first | assumption | exact Ab.lit rfl (by decide)) (by first | assumption | exact Ab.lit rfl (by decide)); clear hr0) | (refine fl_cmp rfl _ _ _ _ _ rfl rfl _ _ _ rfl rfl ?_; intro b hb0; have hb := hb0 _ _ (by first | assumption | exact Ab.lit rfl (by decide)) (by first | assumption | exact Ab.lit rfl (by decide)); clear hb0; (try simp only [*] at hb); subst hb) | (refine fl_same rfl _ _ _ rfl _ _ rfl rfl rfl ?_) | (refine fl_wide rfl _ _ _ rfl _ rfl rfl rfl ?_; intro r n hr0; have hr := hr0 _ (by first | assumption | exact Ab.lit rfl (by decide)); clear hr0) | (refine fl_narrow rfl _ _ _ rfl _ rfl rfl rfl ?_; intro r n hl hr0; have hr := hr0 _ (by first | assumption | exact Ab.lit rfl (by decide)) (by assumption); clear hr0 hl) | (refine fl_neg rfl _ _ rfl _ _ rfl ?_; intro r hr0; have hr := hr0 _ (by first | assumption | exact Ab.lit rfl (by decide)); clear hr0) | go_in)
      go_ret
      exact ⟨_, _, rfl, hs, rfl⟩

theorem spec_few (n : Nat) (v : Option Addr) (cap : Nat) (w : World) : Calls Try.prog 67 #[.slice v n cap] w fun e w' => e = .returned (.bool (decide (n ≤ 256))) ∧ w = w' := by
  go_enter Try.func67, Try.ntmps67
  go_wp2
  go_ret
  exact ⟨by simp; omega, rfl⟩

theorem impl_few (n : Nat) (v : Option Addr) (cap : Nat) (w : World) : Calls Try.prog 69 #[.slice v n cap] w fun e w' => e = .returned (.bool (decide (n ≤ 256))) ∧ w = w' := by
  go_enter Try.func69, Try.ntmps69
  go_wp2
  go_ret
  exact ⟨by simp; omega, rfl⟩

/-- What SumNumbers returns. -/
def GivesIf (ok : Bool) (X : Option Nat) (w : World) (e : Ending) (w' : World) : Prop :=
  ∃ r m, e = .returned (.tuple #[.float .f32 r, .bool ok]) ∧ Ab .f32 r (if ok = true then X else some 0) ∧ w' = w.drewN m

set_option maxHeartbeats 400000 in
theorem spec_SumNumbers (n : Nat) (hn : n ≤ 1048576) (xs : Nat → Nat) (Z : Nat → Option Nat) (hx : ∀ i, i < n → Ab .f32 (xs i) (Z i)) (b cap : Nat) (w : World)
    (hb : ∀ i, i < n → w.cell? ⟨b, i, none⟩ = some (.float .f32 (xs i))) :
    Calls Try.prog 37 #[.slice (some ⟨b, 0, none⟩) n cap] w (GivesIf (decide (n ≤ 256)) (sumA Z n) w) := by
  have HS := fun w' hb' => spec_sum n hn xs Z hx b cap w' hb'
  have HB := Lib.hid hb
  clear hb
  by_cases hle : n ≤ 256
  · go_enter Try.func37, Try.ntmps37
    go_wp2_with (first | (go_at_call 67; refine (spec_few _ _ _ _).mono ?_; rintro e w' ⟨rfl, rfl⟩) | (go_at_call 70; refine (HS _ HB.out).mono ?_; rintro e w' ⟨r, m, rfl, hr, rfl⟩))
    go_ret2
    exact ⟨r, m, by simp [hle], by simpa [hle] using hr, rfl⟩
  · go_enter Try.func37, Try.ntmps37
    go_wp2_with ((go_at_call 67; refine (spec_few _ _ _ _).mono ?_; rintro e w' ⟨rfl, rfl⟩))
    go_ret2
    exact ⟨0, 0, by simp [hle], by simpa [hle] using Ab.lit rfl (by decide), rfl⟩

set_option maxHeartbeats 400000 in
theorem impl_SumNumbers (n : Nat) (hn : n ≤ 1048576) (xs : Nat → Nat) (Z : Nat → Option Nat) (hx : ∀ i, i < n → Ab .f32 (xs i) (Z i)) (b cap : Nat) (w : World)
    (hb : ∀ i, i < n → w.cell? ⟨b, i, none⟩ = some (.float .f32 (xs i))) :
    Calls Try.prog 38 #[.slice (some ⟨b, 0, none⟩) n cap] w (GivesIf (decide (n ≤ 256)) (sumA Z n) w) := by
  have HS := fun w' hb' => impl_sum n hn xs Z hx b cap w' hb'
  have HB := Lib.hid hb
  clear hb
  by_cases hle : n ≤ 256
  · go_enter Try.func38, Try.ntmps38
    go_wp2_with (first | (go_at_call 69; refine (impl_few _ _ _ _).mono ?_; rintro e w' ⟨rfl, rfl⟩) | (go_at_call 71; refine (HS _ HB.out).mono ?_; rintro e w' ⟨r, m, rfl, hr, rfl⟩))
    go_ret2
    exact ⟨r, m, by simp [hle], by simpa [hle] using hr, rfl⟩
  · go_enter Try.func38, Try.ntmps38
    go_wp2_with ((go_at_call 69; refine (impl_few _ _ _ _).mono ?_; rintro e w' ⟨rfl, rfl⟩))
    go_ret2
    exact ⟨0, 0, by simp [hle], by simpa [hle] using Ab.lit rfl (by decide), rfl⟩

/-- The sum of the first n products, from the left. -/
def dotA (Z Y : Nat → Option Nat) : Nat → Option Nat
  | 0 => some 0
  | k + 1 => opA .add .f32 (dotA Z Y k) (opA .mul .f32 (Z k) (Y k))

set_option maxHeartbeats 1000000 in
theorem spec_dot (n : Nat) (hn : n ≤ 1048576) (xs ys : Nat → Nat) (Z Y : Nat → Option Nat) (hx : ∀ i, i < n → Ab .f32 (xs i) (Z i)) (hy : ∀ i, i < n → Ab .f32 (ys i) (Y i)) (b c capb capc : Nat) (w : World)
    (hb : ∀ i, i < n → w.cell? ⟨b, i, none⟩ = some (.float .f32 (xs i))) (hc : ∀ i, i < n → w.cell? ⟨c, i, none⟩ = some (.float .f32 (ys i))) :
    Calls Try.prog 68 #[.slice (some ⟨b, 0, none⟩) n capb, .slice (some ⟨c, 0, none⟩) n capc] w (Gives (dotA Z Y n) w) := by
  have HB := Lib.hid hb
  have HC := Lib.hid hc
  have HX := Lib.hid hx
  have HY := Lib.hid hy
  clear hb hc hx hy
  go_enter Try.func68, Try.ntmps68
  go_wp2
  go_loopw [5, 6] (fun s i wr => ∃ k m r : Nat, k ≤ n ∧ s = .float .f32 r ∧ i = .int .i64 k ∧ Ab .f32 r (dotA Z Y k) ∧ wr = w.drewN m) (fun _ i _ => n - (intOf i).toNat)
  case atStart => exact ⟨0, 0, 0, Nat.zero_le _, rfl, rfl, Ab.lit rfl (by decide), rfl⟩
  case round =>
    obtain ⟨k, m, r0, hk, rfl, rfl, hs, rfl⟩ := hrel
    by_cases hlt : k < n
    · have hxk := HX.out k hlt
      have hyk := HY.out k hlt
      have cb := HB.out k hlt
      have cc := HC.out k hlt
      obtain ⟨q1, hq1⟩ := Rg.fl_op (P := Try.prog) (op := .mul) rfl 0 w hxk hyk
      have hq2 := Rg.fl_op (P := Try.prog) (op := .add) rfl 0 w hs hq1
      go_wp2_with (first | (refine fl_arith rfl _ _ _ _ _ rfl rfl _ _ _ rfl rfl ?_; intro r n hr0; have hr := hr0 _ _ (by first | assumption | exact Ab.lit rfl (by decide)) (by first | assumption | exact Ab.lit rfl (by decide)); clear hr0) | (refine fl_cmp rfl _ _ _ _ _ rfl rfl _ _ _ rfl rfl ?_; intro b hb0; have hb := hb0 _ _ (by first | assumption | exact Ab.lit rfl (by decide)) (by first | assumption | exact Ab.lit rfl (by decide)); clear hb0; (try simp only [*] at hb); subst hb) | (refine fl_same rfl _ _ _ rfl _ _ rfl rfl rfl ?_) | (refine fl_wide rfl _ _ _ rfl _ rfl rfl rfl ?_; intro r n hr0; have hr := hr0 _ (by first | assumption | exact Ab.lit rfl (by decide)); clear hr0) | (refine fl_narrow rfl _ _ _ rfl _ rfl rfl rfl ?_; intro r n hl hr0; have hr := hr0 _ (by first | assumption | exact Ab.lit rfl (by decide)) (by assumption); clear hr0 hl) | (refine fl_neg rfl _ _ rfl _ _ rfl ?_; intro r hr0; have hr := hr0 _ (by first | assumption | exact Ab.lit rfl (by decide)); clear hr0) | go_in)
      refine Rg.region (fun w' => ∃ j, w' = w.drewN j) (Rg.pick [Rg.one (.float .f32 r0), Rg.one (.slice (some ⟨b, 0, none⟩) n capb), Rg.one (.int .i64 k), Rg.one (.pointer (some ⟨b, k, none⟩)), Rg.one (.float .f32 (xs k)),
        Rg.one (.slice (some ⟨c, 0, none⟩) n capc), Rg.one (.int .i64 k), Rg.one (.pointer (some ⟨c, k, none⟩)), Rg.one (.float .f32 (ys k)), Rg.fl .f32 (opA .mul .f32 (Z k) (Y k)), Rg.fl .f32 (dotA Z Y (k + 1)), Rg.fl .f32 (dotA Z Y (k + 1))]) (by kernel_rfl) (by kernel_rfl) ⟨m + 1, rfl⟩
        (Rg.pick_ne (by simp [Rg.one_ne, Rg.fl_ne ⟨_, hq1⟩, Rg.fl_ne (X := dotA Z Y (k + 1)) hq2])) ?_
      (refine Rg.line_step rfl rfl (Rg.good_one fun w' hw' => (by obtain ⟨j, rfl⟩ := hw'; go_simp)) ?_; rintro _ rfl; go_simp)
      (refine Rg.line_step rfl rfl (Rg.good_one fun w' hw' => (by obtain ⟨j, rfl⟩ := hw'; go_simp)) ?_; rintro _ rfl; go_simp)
      (refine Rg.line_step rfl rfl (Rg.good_one fun w' hw' => (by obtain ⟨j, rfl⟩ := hw'; go_simp)) ?_; rintro _ rfl; go_simp)
      (refine Rg.line_step rfl rfl (Rg.good_one fun w' hw' => (by obtain ⟨j, rfl⟩ := hw'; go_simp)) ?_; rintro _ rfl; go_simp)
      (refine Rg.line_step rfl rfl (Rg.good_one fun w' hw' => (by obtain ⟨j, rfl⟩ := hw'; go_simp)) ?_; rintro _ rfl; go_simp)
      (refine Rg.line_step rfl rfl (Rg.good_one fun w' hw' => (by obtain ⟨j, rfl⟩ := hw'; go_simp)) ?_; rintro _ rfl; go_simp)
      (refine Rg.line_step rfl rfl (Rg.good_one fun w' hw' => (by obtain ⟨j, rfl⟩ := hw'; go_simp)) ?_; rintro _ rfl; go_simp)
      (refine Rg.line_step rfl rfl (Rg.good_one fun w' hw' => (by obtain ⟨j, rfl⟩ := hw'; go_simp)) ?_; rintro _ rfl; go_simp)
      (refine Rg.line_step rfl rfl (Rg.good_one fun w' hw' => (by obtain ⟨j, rfl⟩ := hw'; go_simp)) ?_; rintro _ rfl; go_simp)
      (refine Rg.line_step rfl rfl (Rg.good_arith (Rg.drawn_class _) _ _ _ _ _ rfl rfl _ _ _ rfl rfl hxk hyk) ?_; rintro _ ⟨r1, rfl, hr1⟩; go_simp)
      (refine Rg.line_step rfl rfl (Rg.good_arith (Rg.drawn_class _) _ _ _ _ _ rfl rfl _ _ _ rfl rfl hs hr1) ?_; rintro _ ⟨r2, rfl, hr2⟩; go_simp)
      (refine Rg.line_step rfl rfl (Rg.good_val ⟨_, rfl, hr2⟩ fun w' hw' => (by obtain ⟨j, rfl⟩ := hw'; go_simp)) ?_; rintro _ ⟨r3, rfl, hr3⟩; go_simp)
      intro j
      go_wp2_with (first | (refine fl_arith rfl _ _ _ _ _ rfl rfl _ _ _ rfl rfl ?_; intro r n hr0; have hr := hr0 _ _ (by first | assumption | exact Ab.lit rfl (by decide)) (by first | assumption | exact Ab.lit rfl (by decide)); clear hr0) | (refine fl_cmp rfl _ _ _ _ _ rfl rfl _ _ _ rfl rfl ?_; intro b hb0; have hb := hb0 _ _ (by first | assumption | exact Ab.lit rfl (by decide)) (by first | assumption | exact Ab.lit rfl (by decide)); clear hb0; (try simp only [*] at hb); subst hb) | (refine fl_same rfl _ _ _ rfl _ _ rfl rfl rfl ?_) | (refine fl_wide rfl _ _ _ rfl _ rfl rfl rfl ?_; intro r n hr0; have hr := hr0 _ (by first | assumption | exact Ab.lit rfl (by decide)); clear hr0) | (refine fl_narrow rfl _ _ _ rfl _ rfl rfl rfl ?_; intro r n hl hr0; have hr := hr0 _ (by first | assumption | exact Ab.lit rfl (by decide)) (by assumption); clear hr0 hl) | (refine fl_neg rfl _ _ rfl _ _ rfl ?_; intro r hr0; have hr := hr0 _ (by first | assumption | exact Ab.lit rfl (by decide)); clear hr0) | go_in)
      go_roundw
      case rel => exact ⟨k + 1, _, _, by omega, rfl, by go_num, hr3, rfl⟩
      case measure => simp [intOf]; omega
    · have : k = n := by omega
      subst this
      go_wp2_with (first | (refine fl_arith rfl _ _ _ _ _ rfl rfl _ _ _ rfl rfl ?_; intro r n hr0; have hr := hr0 _ _ (by first | assumption | exact Ab.lit rfl (by decide)) (by first | assumption | exact Ab.lit rfl (by decide)); clear hr0) | (refine fl_cmp rfl _ _ _ _ _ rfl rfl _ _ _ rfl rfl ?_; intro b hb0; have hb := hb0 _ _ (by first | assumption | exact Ab.lit rfl (by decide)) (by first | assumption | exact Ab.lit rfl (by decide)); clear hb0; (try simp only [*] at hb); subst hb) | (refine fl_same rfl _ _ _ rfl _ _ rfl rfl rfl ?_) | (refine fl_wide rfl _ _ _ rfl _ rfl rfl rfl ?_; intro r n hr0; have hr := hr0 _ (by first | assumption | exact Ab.lit rfl (by decide)); clear hr0) | (refine fl_narrow rfl _ _ _ rfl _ rfl rfl rfl ?_; intro r n hl hr0; have hr := hr0 _ (by first | assumption | exact Ab.lit rfl (by decide)) (by assumption); clear hr0 hl) | (refine fl_neg rfl _ _ rfl _ _ rfl ?_; intro r hr0; have hr := hr0 _ (by first | assumption | exact Ab.lit rfl (by decide)); clear hr0) | go_in)
      go_ret
      exact ⟨_, _, rfl, hs, rfl⟩

set_option maxHeartbeats 400000 in
theorem spec_DotNumbers (n n2 : Nat) (hn : n ≤ 1048576) (hn2 : n2 ≤ 1048576) (xs ys : Nat → Nat) (Z Y : Nat → Option Nat) (hx : ∀ i, i < n → Ab .f32 (xs i) (Z i)) (hy : ∀ i, i < n2 → Ab .f32 (ys i) (Y i)) (b c capb capc : Nat) (w : World)
    (hb : ∀ i, i < n → w.cell? ⟨b, i, none⟩ = some (.float .f32 (xs i))) (hc : ∀ i, i < n2 → w.cell? ⟨c, i, none⟩ = some (.float .f32 (ys i))) :
    Calls Try.prog 33 #[.slice (some ⟨b, 0, none⟩) n capb, .slice (some ⟨c, 0, none⟩) n2 capc] w (GivesIf (decide (n ≤ 256 ∧ n = n2)) (dotA Z Y n) w) := by
  by_cases hle : n ≤ 256
  · by_cases he : n = n2
    · subst he
      have HS := fun w' hb' hc' => spec_dot n hn xs ys Z Y hx hy b c capb capc w' hb' hc'
      have HB := Lib.hid hb
      have HC := Lib.hid hc
      clear hb hc
      go_enter Try.func33, Try.ntmps33
      go_wp2_with (first | (go_at_call 67; refine (spec_few _ _ _ _).mono ?_; rintro e w' ⟨rfl, rfl⟩) | (go_at_call 68; refine (HS _ HB.out HC.out).mono ?_; rintro e w' ⟨r, m, rfl, hr, rfl⟩))
      go_ret2
      exact ⟨r, m, by simp [hle], by simpa [hle] using hr, rfl⟩
    · have HB := Lib.hid hb
      have HC := Lib.hid hc
      clear hb hc
      go_enter Try.func33, Try.ntmps33
      go_wp2_with ((go_at_call 67; refine (spec_few _ _ _ _).mono ?_; rintro e w' ⟨rfl, rfl⟩))
      go_ret2
      exact ⟨0, 0, by simp [he], by simpa [he] using Ab.lit rfl (by decide), rfl⟩
  · have HB := Lib.hid hb
    have HC := Lib.hid hc
    clear hb hc
    go_enter Try.func33, Try.ntmps33
    go_wp2_with ((go_at_call 67; refine (spec_few _ _ _ _).mono ?_; rintro e w' ⟨rfl, rfl⟩))
    go_ret2
    exact ⟨0, 0, by simp [hle], by simpa [hle] using Ab.lit rfl (by decide), rfl⟩

set_option maxHeartbeats 1000000 in
theorem impl_DotNumbers (n n2 : Nat) (hn : n ≤ 1048576) (hn2 : n2 ≤ 1048576) (xs ys : Nat → Nat) (Z Y : Nat → Option Nat) (hx : ∀ i, i < n → Ab .f32 (xs i) (Z i)) (hy : ∀ i, i < n2 → Ab .f32 (ys i) (Y i)) (b c capb capc : Nat) (w : World)
    (hb : ∀ i, i < n → w.cell? ⟨b, i, none⟩ = some (.float .f32 (xs i))) (hc : ∀ i, i < n2 → w.cell? ⟨c, i, none⟩ = some (.float .f32 (ys i))) :
    Calls Try.prog 35 #[.slice (some ⟨b, 0, none⟩) n capb, .slice (some ⟨c, 0, none⟩) n2 capc] w (GivesIf (decide (n ≤ 256 ∧ n = n2)) (dotA Z Y n) w) := by
  have HB := Lib.hid hb
  have HC := Lib.hid hc
  have HX := Lib.hid hx
  have HY := Lib.hid hy
  clear hb hc hx hy
  by_cases hle : n ≤ 256
  · by_cases he : n = n2
    · subst he
      have en : ((n : Int) != n) = false := by simp
      have HL := Lib.hid hle
      go_enter Try.func35, Try.ntmps35
      go_wp2_with ((go_at_call 69; refine (impl_few _ _ _ _).mono ?_; rintro e w' ⟨rfl, rfl⟩))
      go_loopw [6, 7, 8, 21] (fun s _ _ i wr => ∃ k m r : Nat, k ≤ n ∧ s = .float .f32 r ∧ i = .int .i64 k ∧ Ab .f32 r (dotA Z Y k) ∧ wr = w.drewN m) (fun _ _ _ i _ => n - (intOf i).toNat)
      case atStart => exact ⟨0, 0, 0, Nat.zero_le _, rfl, rfl, Ab.lit rfl (by decide), rfl⟩
      case round =>
        obtain ⟨k, m, r0, hk, rfl, rfl, hs, rfl⟩ := hrel
        by_cases hlt : k < n
        · have hxk := HX.out k hlt
          have hyk := HY.out k hlt
          have cb := HB.out k hlt
          have cc := HC.out k hlt
          go_wp2_with (first | (refine fl_arith rfl _ _ _ _ _ rfl rfl _ _ _ rfl rfl ?_; intro r n hr0; have hr := hr0 _ _ (by first | assumption | exact Ab.lit rfl (by decide)) (by first | assumption | exact Ab.lit rfl (by decide)); clear hr0) | (refine fl_cmp rfl _ _ _ _ _ rfl rfl _ _ _ rfl rfl ?_; intro b hb0; have hb := hb0 _ _ (by first | assumption | exact Ab.lit rfl (by decide)) (by first | assumption | exact Ab.lit rfl (by decide)); clear hb0; (try simp only [*] at hb); subst hb) | (refine fl_same rfl _ _ _ rfl _ _ rfl rfl rfl ?_) | (refine fl_wide rfl _ _ _ rfl _ rfl rfl rfl ?_; intro r n hr0; have hr := hr0 _ (by first | assumption | exact Ab.lit rfl (by decide)); clear hr0) | (refine fl_narrow rfl _ _ _ rfl _ rfl rfl rfl ?_; intro r n hl hr0; have hr := hr0 _ (by first | assumption | exact Ab.lit rfl (by decide)) (by assumption); clear hr0 hl) | (refine fl_neg rfl _ _ rfl _ _ rfl ?_; intro r hr0; have hr := hr0 _ (by first | assumption | exact Ab.lit rfl (by decide)); clear hr0) | go_in)
          go_roundw
          case rel => exact ⟨k + 1, _, _, by omega, rfl, by go_num, hr, rfl⟩
          case measure => simp [intOf]; omega
        · have : k = n := by omega
          subst this
          go_wp2_with (first | (refine fl_arith rfl _ _ _ _ _ rfl rfl _ _ _ rfl rfl ?_; intro r n hr0; have hr := hr0 _ _ (by first | assumption | exact Ab.lit rfl (by decide)) (by first | assumption | exact Ab.lit rfl (by decide)); clear hr0) | (refine fl_cmp rfl _ _ _ _ _ rfl rfl _ _ _ rfl rfl ?_; intro b hb0; have hb := hb0 _ _ (by first | assumption | exact Ab.lit rfl (by decide)) (by first | assumption | exact Ab.lit rfl (by decide)); clear hb0; (try simp only [*] at hb); subst hb) | (refine fl_same rfl _ _ _ rfl _ _ rfl rfl rfl ?_) | (refine fl_wide rfl _ _ _ rfl _ rfl rfl rfl ?_; intro r n hr0; have hr := hr0 _ (by first | assumption | exact Ab.lit rfl (by decide)); clear hr0) | (refine fl_narrow rfl _ _ _ rfl _ rfl rfl rfl ?_; intro r n hl hr0; have hr := hr0 _ (by first | assumption | exact Ab.lit rfl (by decide)) (by assumption); clear hr0 hl) | (refine fl_neg rfl _ _ rfl _ _ rfl ?_; intro r hr0; have hr := hr0 _ (by first | assumption | exact Ab.lit rfl (by decide)); clear hr0) | go_in)
          go_ret2
          exact ⟨r0, m, by simp [HL.out], by simpa [HL.out] using hs, rfl⟩
    · go_enter Try.func35, Try.ntmps35
      go_wp2_with ((go_at_call 69; refine (impl_few _ _ _ _).mono ?_; rintro e w' ⟨rfl, rfl⟩))
      go_ret2
      exact ⟨0, 0, by simp [he], by simpa [he] using Ab.lit rfl (by decide), rfl⟩
  · go_enter Try.func35, Try.ntmps35
    go_wp2_with ((go_at_call 69; refine (impl_few _ _ _ _).mono ?_; rintro e w' ⟨rfl, rfl⟩))
    go_ret2
    exact ⟨0, 0, by simp [hle], by simpa [hle] using Ab.lit rfl (by decide), rfl⟩

end Go.Proofs.Ytgdhjfdmgjidkaa
