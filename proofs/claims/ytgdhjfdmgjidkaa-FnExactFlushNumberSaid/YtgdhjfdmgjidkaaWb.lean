/- Walks: numbers from bits, places from steps, numbers flushed. No conditions. -/
import Derived.Test.YtgdhjfdmgjidkaaWr
import Derived.Test.YtgdhjfdmgjidkaaWu
namespace Go.Proofs.Ytgdhjfdmgjidkaa
open Go.RowKit

/-- What 'FromBits' hands back. -/
def fromW (n : Int) : Nat := if 0 ≤ n ∧ n ≤ 4294967295 then n.toNat else 0
def fromOk (n : Int) : Bool := decide (0 ≤ n ∧ n ≤ 4294967295)

theorem from_lt (n : Int) : fromW n < 2 ^ FloatKind.f32.format.width := by
  have e : 2 ^ FloatKind.f32.format.width = 4294967296 := by decide
  rw [e]
  unfold fromW
  split <;> omega

set_option maxHeartbeats 400000 in
theorem spec_FromBits (n : Int) (w : World) :
    Calls Try.prog 15 #[.int .i64 n] w fun e w' => e = .returned (.tuple #[.float .f32 (fromW n), .bool (fromOk n)]) ∧ w = w' := by
  by_cases h0 : 0 ≤ n
  · by_cases h1 : n ≤ 4294967295
    · have e1 := Lib.hid (show fromW n = n.toNat by simp [fromW, h0, h1])
      have e2 := Lib.hid (show fromOk n = true by simp [fromOk, h0, h1])
      go_enter Try.func15, Try.ntmps15
      go_wp2
      go_ret2
      exact ⟨by rw [e1.out, e2.out]; rfl, rfl⟩
    · have e1 := Lib.hid (show fromW n = 0 by simp [fromW, h1])
      have e2 := Lib.hid (show fromOk n = false by simp [fromOk, h1])
      go_enter Try.func15, Try.ntmps15
      go_wp2
      go_ret2
      exact ⟨by rw [e1.out, e2.out]; rfl, rfl⟩
  · have e1 := Lib.hid (show fromW n = 0 by simp [fromW, h0])
    have e2 := Lib.hid (show fromOk n = false by simp [fromOk, h0])
    go_enter Try.func15, Try.ntmps15
    go_wp2
    go_ret2
    exact ⟨by rw [e1.out, e2.out]; rfl, rfl⟩

set_option maxHeartbeats 400000 in
theorem impl_FromBits (n : Int) (w : World) :
    Calls Try.prog 16 #[.int .i64 n] w fun e w' => e = .returned (.tuple #[.float .f32 (fromW n), .bool (fromOk n)]) ∧ w = w' := by
  by_cases h0 : 0 ≤ n
  · by_cases h1 : n ≤ 4294967295
    · have e1 := Lib.hid (show fromW n = n.toNat by simp [fromW, h0, h1])
      have e2 := Lib.hid (show fromOk n = true by simp [fromOk, h0, h1])
      go_enter Try.func16, Try.ntmps16
      go_wp2
      go_ret2
      exact ⟨by rw [e1.out, e2.out]; rfl, rfl⟩
    · have e1 := Lib.hid (show fromW n = 0 by simp [fromW, h1])
      have e2 := Lib.hid (show fromOk n = false by simp [fromOk, h1])
      go_enter Try.func16, Try.ntmps16
      go_wp2
      go_ret2
      exact ⟨by rw [e1.out, e2.out]; rfl, rfl⟩
  · have e1 := Lib.hid (show fromW n = 0 by simp [fromW, h0])
    have e2 := Lib.hid (show fromOk n = false by simp [fromOk, h0])
    go_enter Try.func16, Try.ntmps16
    go_wp2
    go_ret2
    exact ⟨by rw [e1.out, e2.out]; rfl, rfl⟩

set_option maxHeartbeats 400000 in
theorem law_FromBits (n : Int) (_wn : (Lit.int .i64 n).wf = true) (w : World) :
    Calls Try.prog 3 #[.int .i64 n] w fun e w' => e = .returned (.bool true) ∧ Below w.heap.size w w' := by
  have hx := Ab.self (from_lt n)
  have e2 := same_bool (fromOk n)
  go_enter Try.func3, Try.ntmps3
  go_wp2_with (first | (refine fl_arith rfl _ _ _ _ _ rfl rfl _ _ _ rfl rfl ?_; intro r n hr0; have hr := hr0 _ _ (by first | assumption | exact Ab.lit rfl (by decide)) (by first | assumption | exact Ab.lit rfl (by decide)); clear hr0) | (refine fl_cmp rfl _ _ _ _ _ rfl rfl _ _ _ rfl rfl ?_; intro b hb0; have hb := hb0 _ _ (by first | assumption | exact Ab.lit rfl (by decide)) (by first | assumption | exact Ab.lit rfl (by decide)); clear hb0; (try simp only [*] at hb); subst hb) | (refine fl_same rfl _ _ _ rfl _ _ rfl rfl rfl ?_) | (refine fl_wide rfl _ _ _ rfl _ rfl rfl rfl ?_; intro r n hr0; have hr := hr0 _ (by first | assumption | exact Ab.lit rfl (by decide)); clear hr0) | (refine fl_narrow rfl _ _ _ rfl _ rfl rfl rfl ?_; intro r n hl hr0; have hr := hr0 _ (by first | assumption | exact Ab.lit rfl (by decide)) (by assumption); clear hr0 hl) | (refine fl_neg rfl _ _ rfl _ _ rfl ?_; intro r hr0; have hr := hr0 _ (by first | assumption | exact Ab.lit rfl (by decide)); clear hr0) | (go_at_call 15; refine (spec_FromBits _ _).mono ?_; rintro e w' ⟨rfl, rfl⟩) | (go_at_call 16; refine (impl_FromBits _ _).mono ?_; rintro e w' ⟨rfl, rfl⟩) | (go_at_call 17; refine (same_float _ _ _ (by assumption) (by assumption) _).mono ?_; rintro e w' ⟨rfl, n, rfl⟩))
  go_ret
  exact ⟨rfl, below_drewN (Below.refl _ _) _⟩

def stepsOk (a b : Int) : Bool := decide (-4194304 ≤ a ∧ a ≤ 4194304 ∧ -8388608 ≤ b ∧ b ≤ 8388607)
def stepA (a b n : Int) : Option Nat := if stepsOk a b then opA .quo .f32 (some (floatOfInt .f32 n)) (some 1266679808) else some 0

/-- A place and whether there is one; the place lies in a new block. -/
def PlaceRes (ok : Bool) (A B : Option Nat) (w : World) (e : Ending) (w' : World) : Prop :=
  ∃ x y n, e = .returned (.tuple #[.agg #[.float .f32 x, .float .f32 y], .bool ok]) ∧ Ab .f32 x A ∧ Ab .f32 y B ∧ w' = (w.alloc (.cells #[.float .f32 x, .float .f32 y] 29)).drewN n

set_option maxHeartbeats 400000 in
theorem spec_PlaceOfSteps (a b : Int) (w : World) :
    Calls Try.prog 18 #[.int .i64 a, .int .i64 b] w (PlaceRes (stepsOk a b) (stepA a b a) (stepA a b b) w) := by
  by_cases h0 : -4194304 ≤ a
  · by_cases h1 : a ≤ 4194304
    · by_cases h2 : -8388608 ≤ b
      · by_cases h3 : b ≤ 8388607
        · have e0 : stepsOk a b = true := by simp [stepsOk, h0, h1, h2, h3]
          have e1 := Lib.hid (show stepA a b a = opA .quo .f32 (some (floatOfInt .f32 a)) (some 1266679808) by simp [stepA, e0])
          have e2 := Lib.hid (show stepA a b b = opA .quo .f32 (some (floatOfInt .f32 b)) (some 1266679808) by simp [stepA, e0])
          have e3 := Lib.hid e0
          clear e0
          have fa := Ab.ofInt .f32 a
          have fb := Ab.ofInt .f32 b
          go_enter Try.func18, Try.ntmps18
          go_wp2_with (first | (refine fl_arith rfl _ _ _ _ _ rfl rfl _ _ _ rfl rfl ?_; intro r n hr0; have hr := hr0 _ _ (by first | assumption | exact Ab.lit rfl (by decide)) (by first | assumption | exact Ab.lit rfl (by decide)); clear hr0) | (refine fl_cmp rfl _ _ _ _ _ rfl rfl _ _ _ rfl rfl ?_; intro b hb0; have hb := hb0 _ _ (by first | assumption | exact Ab.lit rfl (by decide)) (by first | assumption | exact Ab.lit rfl (by decide)); clear hb0; (try simp only [*] at hb); subst hb) | (refine fl_same rfl _ _ _ rfl _ _ rfl rfl rfl ?_) | (refine fl_wide rfl _ _ _ rfl _ rfl rfl rfl ?_; intro r n hr0; have hr := hr0 _ (by first | assumption | exact Ab.lit rfl (by decide)); clear hr0) | (refine fl_narrow rfl _ _ _ rfl _ rfl rfl rfl ?_; intro r n hl hr0; have hr := hr0 _ (by first | assumption | exact Ab.lit rfl (by decide)) (by assumption); clear hr0 hl) | (refine fl_neg rfl _ _ rfl _ _ rfl ?_; intro r hr0; have hr := hr0 _ (by first | assumption | exact Ab.lit rfl (by decide)); clear hr0) | go_in)
          rename_i x _ hx
          exact bodyPost_ret (v := .tuple #[.agg #[.float .f32 x, .float .f32 r], .bool true]) (by simp [results, Try.results18, go_sem]) rfl ⟨x, r, _, by rw [e3.out], by rw [e1.out]; assumption, by rw [e2.out]; assumption, rfl⟩
        · have e0 : stepsOk a b = false := by simp [stepsOk, h3]
          have e1 := Lib.hid (show stepA a b a = some 0 by simp [stepA, e0])
          have e2 := Lib.hid (show stepA a b b = some 0 by simp [stepA, e0])
          have e3 := Lib.hid e0
          clear e0
          go_enter Try.func18, Try.ntmps18
          go_wp2
          exact bodyPost_ret (v := .tuple #[.agg #[.float .f32 0, .float .f32 0], .bool false]) (by simp [results, Try.results18, go_sem]) rfl ⟨0, 0, 0, by rw [e3.out], by rw [e1.out]; exact Ab.lit rfl (by decide), by rw [e2.out]; exact Ab.lit rfl (by decide), rfl⟩
      · have e0 : stepsOk a b = false := by simp [stepsOk, h2]
        have e1 := Lib.hid (show stepA a b a = some 0 by simp [stepA, e0])
        have e2 := Lib.hid (show stepA a b b = some 0 by simp [stepA, e0])
        have e3 := Lib.hid e0
        clear e0
        go_enter Try.func18, Try.ntmps18
        go_wp2
        exact bodyPost_ret (v := .tuple #[.agg #[.float .f32 0, .float .f32 0], .bool false]) (by simp [results, Try.results18, go_sem]) rfl ⟨0, 0, 0, by rw [e3.out], by rw [e1.out]; exact Ab.lit rfl (by decide), by rw [e2.out]; exact Ab.lit rfl (by decide), rfl⟩
    · have e0 : stepsOk a b = false := by simp [stepsOk, h1]
      have e1 := Lib.hid (show stepA a b a = some 0 by simp [stepA, e0])
      have e2 := Lib.hid (show stepA a b b = some 0 by simp [stepA, e0])
      have e3 := Lib.hid e0
      clear e0
      go_enter Try.func18, Try.ntmps18
      go_wp2
      exact bodyPost_ret (v := .tuple #[.agg #[.float .f32 0, .float .f32 0], .bool false]) (by simp [results, Try.results18, go_sem]) rfl ⟨0, 0, 0, by rw [e3.out], by rw [e1.out]; exact Ab.lit rfl (by decide), by rw [e2.out]; exact Ab.lit rfl (by decide), rfl⟩
  · have e0 : stepsOk a b = false := by simp [stepsOk, h0]
    have e1 := Lib.hid (show stepA a b a = some 0 by simp [stepA, e0])
    have e2 := Lib.hid (show stepA a b b = some 0 by simp [stepA, e0])
    have e3 := Lib.hid e0
    clear e0
    go_enter Try.func18, Try.ntmps18
    go_wp2
    exact bodyPost_ret (v := .tuple #[.agg #[.float .f32 0, .float .f32 0], .bool false]) (by simp [results, Try.results18, go_sem]) rfl ⟨0, 0, 0, by rw [e3.out], by rw [e1.out]; exact Ab.lit rfl (by decide), by rw [e2.out]; exact Ab.lit rfl (by decide), rfl⟩

set_option maxHeartbeats 400000 in
theorem impl_PlaceOfSteps (a b : Int) (w : World) :
    Calls Try.prog 19 #[.int .i64 a, .int .i64 b] w (PlaceRes (stepsOk a b) (stepA a b a) (stepA a b b) w) := by
  by_cases h0 : -4194304 ≤ a
  · by_cases h1 : a ≤ 4194304
    · by_cases h2 : -8388608 ≤ b
      · by_cases h3 : b ≤ 8388607
        · have e0 : stepsOk a b = true := by simp [stepsOk, h0, h1, h2, h3]
          have e1 := Lib.hid (show stepA a b a = opA .quo .f32 (some (floatOfInt .f32 a)) (some 1266679808) by simp [stepA, e0])
          have e2 := Lib.hid (show stepA a b b = opA .quo .f32 (some (floatOfInt .f32 b)) (some 1266679808) by simp [stepA, e0])
          have e3 := Lib.hid e0
          clear e0
          have fa := Ab.ofInt .f32 a
          have fb := Ab.ofInt .f32 b
          go_enter Try.func19, Try.ntmps19
          go_wp2_with (first | (refine fl_arith rfl _ _ _ _ _ rfl rfl _ _ _ rfl rfl ?_; intro r n hr0; have hr := hr0 _ _ (by first | assumption | exact Ab.lit rfl (by decide)) (by first | assumption | exact Ab.lit rfl (by decide)); clear hr0) | (refine fl_cmp rfl _ _ _ _ _ rfl rfl _ _ _ rfl rfl ?_; intro b hb0; have hb := hb0 _ _ (by first | assumption | exact Ab.lit rfl (by decide)) (by first | assumption | exact Ab.lit rfl (by decide)); clear hb0; (try simp only [*] at hb); subst hb) | (refine fl_same rfl _ _ _ rfl _ _ rfl rfl rfl ?_) | (refine fl_wide rfl _ _ _ rfl _ rfl rfl rfl ?_; intro r n hr0; have hr := hr0 _ (by first | assumption | exact Ab.lit rfl (by decide)); clear hr0) | (refine fl_narrow rfl _ _ _ rfl _ rfl rfl rfl ?_; intro r n hl hr0; have hr := hr0 _ (by first | assumption | exact Ab.lit rfl (by decide)) (by assumption); clear hr0 hl) | (refine fl_neg rfl _ _ rfl _ _ rfl ?_; intro r hr0; have hr := hr0 _ (by first | assumption | exact Ab.lit rfl (by decide)); clear hr0) | go_in)
          rename_i x _ hx
          exact bodyPost_ret (v := .tuple #[.agg #[.float .f32 x, .float .f32 r], .bool true]) (by simp [results, Try.results19, go_sem]) rfl ⟨x, r, _, by rw [e3.out], by rw [e1.out]; assumption, by rw [e2.out]; assumption, rfl⟩
        · have e0 : stepsOk a b = false := by simp [stepsOk, h3]
          have e1 := Lib.hid (show stepA a b a = some 0 by simp [stepA, e0])
          have e2 := Lib.hid (show stepA a b b = some 0 by simp [stepA, e0])
          have e3 := Lib.hid e0
          clear e0
          go_enter Try.func19, Try.ntmps19
          go_wp2
          exact bodyPost_ret (v := .tuple #[.agg #[.float .f32 0, .float .f32 0], .bool false]) (by simp [results, Try.results19, go_sem]) rfl ⟨0, 0, 0, by rw [e3.out], by rw [e1.out]; exact Ab.lit rfl (by decide), by rw [e2.out]; exact Ab.lit rfl (by decide), rfl⟩
      · have e0 : stepsOk a b = false := by simp [stepsOk, h2]
        have e1 := Lib.hid (show stepA a b a = some 0 by simp [stepA, e0])
        have e2 := Lib.hid (show stepA a b b = some 0 by simp [stepA, e0])
        have e3 := Lib.hid e0
        clear e0
        go_enter Try.func19, Try.ntmps19
        go_wp2
        exact bodyPost_ret (v := .tuple #[.agg #[.float .f32 0, .float .f32 0], .bool false]) (by simp [results, Try.results19, go_sem]) rfl ⟨0, 0, 0, by rw [e3.out], by rw [e1.out]; exact Ab.lit rfl (by decide), by rw [e2.out]; exact Ab.lit rfl (by decide), rfl⟩
    · have e0 : stepsOk a b = false := by simp [stepsOk, h1]
      have e1 := Lib.hid (show stepA a b a = some 0 by simp [stepA, e0])
      have e2 := Lib.hid (show stepA a b b = some 0 by simp [stepA, e0])
      have e3 := Lib.hid e0
      clear e0
      go_enter Try.func19, Try.ntmps19
      go_wp2
      exact bodyPost_ret (v := .tuple #[.agg #[.float .f32 0, .float .f32 0], .bool false]) (by simp [results, Try.results19, go_sem]) rfl ⟨0, 0, 0, by rw [e3.out], by rw [e1.out]; exact Ab.lit rfl (by decide), by rw [e2.out]; exact Ab.lit rfl (by decide), rfl⟩
  · have e0 : stepsOk a b = false := by simp [stepsOk, h0]
    have e1 := Lib.hid (show stepA a b a = some 0 by simp [stepA, e0])
    have e2 := Lib.hid (show stepA a b b = some 0 by simp [stepA, e0])
    have e3 := Lib.hid e0
    clear e0
    go_enter Try.func19, Try.ntmps19
    go_wp2
    exact bodyPost_ret (v := .tuple #[.agg #[.float .f32 0, .float .f32 0], .bool false]) (by simp [results, Try.results19, go_sem]) rfl ⟨0, 0, 0, by rw [e3.out], by rw [e1.out]; exact Ab.lit rfl (by decide), by rw [e2.out]; exact Ab.lit rfl (by decide), rfl⟩


set_option maxHeartbeats 400000 in
theorem eq_place (x y x' y' : Nat) (A B : Option Nat) (hx : Ab .f32 x A) (hy : Ab .f32 y B) (hx' : Ab .f32 x' A) (hy' : Ab .f32 y' B) (w : World) :
    Calls Try.prog 20 #[.agg #[.float .f32 x, .float .f32 y], .agg #[.float .f32 x', .float .f32 y']] w (Told w) := by
  go_enter Try.func20, Try.ntmps20
  go_wp2_with (first | (refine fl_arith rfl _ _ _ _ _ rfl rfl _ _ _ rfl rfl ?_; intro r n hr0; have hr := hr0 _ _ (by first | assumption | exact Ab.lit rfl (by decide)) (by first | assumption | exact Ab.lit rfl (by decide)); clear hr0) | (refine fl_cmp rfl _ _ _ _ _ rfl rfl _ _ _ rfl rfl ?_; intro b hb0; have hb := hb0 _ _ (by first | assumption | exact Ab.lit rfl (by decide)) (by first | assumption | exact Ab.lit rfl (by decide)); clear hb0; (try simp only [*] at hb); subst hb) | (refine fl_same rfl _ _ _ rfl _ _ rfl rfl rfl ?_) | (refine fl_wide rfl _ _ _ rfl _ rfl rfl rfl ?_; intro r n hr0; have hr := hr0 _ (by first | assumption | exact Ab.lit rfl (by decide)); clear hr0) | (refine fl_narrow rfl _ _ _ rfl _ rfl rfl rfl ?_; intro r n hl hr0; have hr := hr0 _ (by first | assumption | exact Ab.lit rfl (by decide)) (by assumption); clear hr0 hl) | (refine fl_neg rfl _ _ rfl _ _ rfl ?_; intro r hr0; have hr := hr0 _ (by first | assumption | exact Ab.lit rfl (by decide)); clear hr0) | (go_at_call 17; refine (same_float _ _ _ (by assumption) (by assumption) _).mono ?_; rintro e w' ⟨rfl, n, rfl⟩))
  go_ret
  exact ⟨rfl, below_drewN (((Below.refl _ _).alloc (Nat.le_refl _) _).alloc (by simp) _) _⟩

set_option maxHeartbeats 400000 in
theorem law_PlaceOfSteps (a b : Int) (_wa : (Lit.int .i64 a).wf = true) (_wb : (Lit.int .i64 b).wf = true) (w : World) :
    Calls Try.prog 4 #[.int .i64 a, .int .i64 b] w (Told w) := by
  have e2 := same_bool (stepsOk a b)
  go_enter Try.func4, Try.ntmps4
  go_wp2_with (first | (refine fl_arith rfl _ _ _ _ _ rfl rfl _ _ _ rfl rfl ?_; intro r n hr0; have hr := hr0 _ _ (by first | assumption | exact Ab.lit rfl (by decide)) (by first | assumption | exact Ab.lit rfl (by decide)); clear hr0) | (refine fl_cmp rfl _ _ _ _ _ rfl rfl _ _ _ rfl rfl ?_; intro b hb0; have hb := hb0 _ _ (by first | assumption | exact Ab.lit rfl (by decide)) (by first | assumption | exact Ab.lit rfl (by decide)); clear hb0; (try simp only [*] at hb); subst hb) | (refine fl_same rfl _ _ _ rfl _ _ rfl rfl rfl ?_) | (refine fl_wide rfl _ _ _ rfl _ rfl rfl rfl ?_; intro r n hr0; have hr := hr0 _ (by first | assumption | exact Ab.lit rfl (by decide)); clear hr0) | (refine fl_narrow rfl _ _ _ rfl _ rfl rfl rfl ?_; intro r n hl hr0; have hr := hr0 _ (by first | assumption | exact Ab.lit rfl (by decide)) (by assumption); clear hr0 hl) | (refine fl_neg rfl _ _ rfl _ _ rfl ?_; intro r hr0; have hr := hr0 _ (by first | assumption | exact Ab.lit rfl (by decide)); clear hr0) | (go_at_call 18; refine (spec_PlaceOfSteps _ _ _).mono ?_; rintro e w' ⟨x, y, n, rfl, hx, hy, rfl⟩) | (go_at_call 19; refine (impl_PlaceOfSteps _ _ _).mono ?_; rintro e w' ⟨x', y', n', rfl, hx', hy', rfl⟩) | (go_at_call 20; refine (eq_place _ _ _ _ _ _ (by assumption) (by assumption) (by assumption) (by assumption) _).mono ?_; rintro e w' ⟨rfl, hb⟩))
  go_ret
  exact ⟨rfl, (below_drewN (((((Below.refl _ _).alloc (Nat.le_refl _) _).alloc (by simp) _).alloc (by simp; omega) _).alloc (by simp; omega) _) _).trans (hb.mono (by simp; omega))⟩

theorem sub_flush {x : Nat} {X : Option Nat} (h : Ab .f32 x X) (hs : subA X = false) : flushA X = X := by
  cases X with
  | none => rfl
  | some b =>
    obtain ⟨rfl, hn⟩ := h.of_some
    show some (flushW x) = some x
    unfold flushW
    split
    · rename_i hr
      have e := sub_same h
      rw [show bitsA (some x) = (x : Int) from rfl, exp_zero (width32 h), decide_eq_true hr] at e
      unfold subA at hs
      rw [e, Bool.and_true] at hs
      have hf : finW .f32 x = true := decide_eq_true (Nat.lt_trans hr (by decide))
      have h2 : (FloatKind.f32.format.order x 0 != some .eq) = false := hs
      rw [order_fin hf (fin_zero .f32), V_zero] at h2
      have h3 : V .f32 x = 0 := by
        have h4 : (some (compareOfLessAndEq (V .f32 x) 0) != some Ordering.eq) = false := h2
        unfold compareOfLessAndEq at h4
        by_cases h5 : V .f32 x < 0
        · simp [h5] at h4
        · by_cases h6 : V .f32 x = 0
          · exact h6
          · simp [h5, h6] at h4
      have h4 := V_abs .f32 x
      rw [h3] at h4
      have h5 : rg Ieee.single x = 0 := vl_inj Ieee.single (by rw [vl_zero]; exact h4.symm)
      have h6 := word_of .f32 h.lt
      have h7 : x = Ieee.single.word (ng Ieee.single x) (rg Ieee.single x) := h6
      rw [h5] at h7
      rw [← h7]
    · rfl

theorem sub_flush2 {x : Nat} {X : Option Nat} (h : Ab .f32 x X) (hs : subA X = true) : ∃ b, X = some b ∧ flushA X = some (Ieee.single.word (ng Ieee.single b) 0) := by
  cases X with
  | none =>
    have e := sub_same h
    unfold subA at hs
    rw [e] at hs
    have e2 := exp_zero (b := 2143289344) (by decide)
    have e3 : bitsA none = ((2143289344 : Nat) : Int) := rfl
    rw [e3, e2] at hs
    exact absurd hs (by decide)
  | some b =>
    obtain ⟨rfl, hn⟩ := h.of_some
    have e := sub_same h
    unfold subA at hs
    rw [e, show bitsA (some x) = (x : Int) from rfl, exp_zero (width32 h)] at hs
    have h2 : rg Ieee.single x < 8388608 := by
      rcases Nat.lt_or_ge (rg Ieee.single x) 8388608 with h2 | h2
      · exact h2
      · rw [decide_eq_false (by omega), Bool.and_false] at hs; cases hs
    exact ⟨x, rfl, by show some (flushW x) = _; unfold flushW; rw [if_pos h2]⟩

set_option maxHeartbeats 400000 in
theorem copysign_any (y : Nat) (hy : y < 18446744073709551616) (w : World) :
    Calls Try.prog 52 #[.float .f64 0, .float .f64 y] w fun e w' => ∃ z, e = .returned (.float .f64 z) ∧ Ab .f64 z (some (Ieee.double.word (ng Ieee.double y) 0)) ∧ Fits (some (Ieee.double.word (ng Ieee.double y) 0)) ∧ w = w' := by
  have e := Lib.hid (copy_sign hy)
  clear hy
  go_enter Try.func52, Try.ntmps52
  go_wp2
  go_ret
  refine ⟨Ieee.double.word (ng Ieee.double y) 0, by rw [← e.out]; rfl, zero64 _, fun b hb => ?_, rfl⟩
  cases hb
  exact zero_fits _

theorem flush_val {x : Nat} (h : x < 4294967296) : (bits .and .i64 (x : Int) 2147483648 % 4294967296).toNat = Ieee.single.word (ng Ieee.single x) 0 := by
  rw [i64_and_sign h]
  have : Ieee.single.word (ng Ieee.single x) 0 < 4294967296 := by cases ng Ieee.single x <;> decide
  omega

set_option maxHeartbeats 400000 in
theorem impl_FlushNumber (x : Nat) (X : Option Nat) (hx : Ab .f32 x X) (w : World) :
    Calls Try.prog 22 #[.float .f32 x] w fun e w' => ∃ r n, e = .returned (.float .f32 r) ∧ Ab .f32 r (flushA X) ∧ w' = w.drewN n := by
  cases h : subA X with
  | true =>
    obtain ⟨b, rfl, e0⟩ := sub_flush2 hx h
    obtain ⟨rfl, hn⟩ := hx.of_some
    have e := Lib.hid e0
    clear e0
    go_enter Try.func22, Try.ntmps22
    go_wp2_with (first | (refine fl_arith rfl _ _ _ _ _ rfl rfl _ _ _ rfl rfl ?_; intro r n hr0; have hr := hr0 _ _ (by first | assumption | exact Ab.lit rfl (by decide)) (by first | assumption | exact Ab.lit rfl (by decide)); clear hr0) | (refine fl_cmp rfl _ _ _ _ _ rfl rfl _ _ _ rfl rfl ?_; intro b hb0; have hb := hb0 _ _ (by first | assumption | exact Ab.lit rfl (by decide)) (by first | assumption | exact Ab.lit rfl (by decide)); clear hb0; (try simp only [*] at hb); subst hb) | (refine fl_same rfl _ _ _ rfl _ _ rfl rfl rfl ?_) | (refine fl_wide rfl _ _ _ rfl _ rfl rfl rfl ?_; intro r n hr0; have hr := hr0 _ (by first | assumption | exact Ab.lit rfl (by decide)); clear hr0) | (refine fl_narrow rfl _ _ _ rfl _ rfl rfl rfl ?_; intro r n hl hr0; have hr := hr0 _ (by first | assumption | exact Ab.lit rfl (by decide)) (by assumption); clear hr0 hl) | (refine fl_neg rfl _ _ rfl _ _ rfl ?_; intro r hr0; have hr := hr0 _ (by first | assumption | exact Ab.lit rfl (by decide)); clear hr0) | (go_at_call 51; refine (impl_IsSubnormal _ _ hx _).mono ?_; rintro e w' ⟨rfl, n, rfl⟩) | (go_at_call 52; refine (copysign_any _ (width64 (by assumption)) _).mono ?_; rintro e w' ⟨z, rfl, hz, hF, rfl⟩))
    go_ret
    rename_i _ y _ hy
    refine ⟨_, _, rfl, ?_, rfl⟩
    have h1 : y = wideW x := hy.of_some.1
    have h2 := (wide_not_nan hn).2.2.2
    rw [← h1] at h2
    rw [h2] at hr
    rw [e.out]
    have h3 : narrowA (some (Ieee.double.word (ng Ieee.single x) 0)) = some (Ieee.single.word (ng Ieee.single x) 0) := by
      show some (FloatKind.f32.encode (FloatKind.f64.decode (Ieee.double.word (ng Ieee.single x) 0))) = _
      rw [narrow_zero]
    rw [h3] at hr
    exact hr
  | false =>
    have e := Lib.hid (sub_flush hx h)
    go_enter Try.func22, Try.ntmps22
    go_wp2_with (first | (refine fl_arith rfl _ _ _ _ _ rfl rfl _ _ _ rfl rfl ?_; intro r n hr0; have hr := hr0 _ _ (by first | assumption | exact Ab.lit rfl (by decide)) (by first | assumption | exact Ab.lit rfl (by decide)); clear hr0) | (refine fl_cmp rfl _ _ _ _ _ rfl rfl _ _ _ rfl rfl ?_; intro b hb0; have hb := hb0 _ _ (by first | assumption | exact Ab.lit rfl (by decide)) (by first | assumption | exact Ab.lit rfl (by decide)); clear hb0; (try simp only [*] at hb); subst hb) | (refine fl_same rfl _ _ _ rfl _ _ rfl rfl rfl ?_) | (refine fl_wide rfl _ _ _ rfl _ rfl rfl rfl ?_; intro r n hr0; have hr := hr0 _ (by first | assumption | exact Ab.lit rfl (by decide)); clear hr0) | (refine fl_narrow rfl _ _ _ rfl _ rfl rfl rfl ?_; intro r n hl hr0; have hr := hr0 _ (by first | assumption | exact Ab.lit rfl (by decide)) (by assumption); clear hr0 hl) | (refine fl_neg rfl _ _ rfl _ _ rfl ?_; intro r hr0; have hr := hr0 _ (by first | assumption | exact Ab.lit rfl (by decide)); clear hr0) | (go_at_call 51; refine (impl_IsSubnormal _ _ hx _).mono ?_; rintro e w' ⟨rfl, n, rfl⟩))
    go_ret
    exact ⟨_, _, rfl, by rw [e.out]; exact hx, rfl⟩

set_option maxHeartbeats 400000 in
theorem spec_l01Flush (x : Nat) (X : Option Nat) (hx : Ab .f32 x X) (w : World) :
    Calls Try.prog 50 #[.float .f32 x] w fun e w' => ∃ r, e = .returned (.float .f32 r) ∧ Ab .f32 r (flushA X) ∧ w = w' := by
  cases X with
  | none =>
    have e : (bits .and .i64 (bitsA none) 2139095040 == 0) = false := by
      have e2 := exp_zero (b := 2143289344) (by decide)
      have e3 : bitsA none = ((2143289344 : Nat) : Int) := rfl
      rw [e3, e2]; decide
    go_enter Try.func50, Try.ntmps50
    go_wp2_with (first | (refine fl_arith rfl _ _ _ _ _ rfl rfl _ _ _ rfl rfl ?_; intro r n hr0; have hr := hr0 _ _ (by first | assumption | exact Ab.lit rfl (by decide)) (by first | assumption | exact Ab.lit rfl (by decide)); clear hr0) | (refine fl_cmp rfl _ _ _ _ _ rfl rfl _ _ _ rfl rfl ?_; intro b hb0; have hb := hb0 _ _ (by first | assumption | exact Ab.lit rfl (by decide)) (by first | assumption | exact Ab.lit rfl (by decide)); clear hb0; (try simp only [*] at hb); subst hb) | (refine fl_same rfl _ _ _ rfl _ _ rfl rfl rfl ?_) | (refine fl_wide rfl _ _ _ rfl _ rfl rfl rfl ?_; intro r n hr0; have hr := hr0 _ (by first | assumption | exact Ab.lit rfl (by decide)); clear hr0) | (refine fl_narrow rfl _ _ _ rfl _ rfl rfl rfl ?_; intro r n hl hr0; have hr := hr0 _ (by first | assumption | exact Ab.lit rfl (by decide)) (by assumption); clear hr0 hl) | (refine fl_neg rfl _ _ rfl _ _ rfl ?_; intro r hr0; have hr := hr0 _ (by first | assumption | exact Ab.lit rfl (by decide)); clear hr0) | (go_at_call 77; refine (spec_l01Bits _ _ hx _).mono ?_; rintro e w' ⟨rfl, rfl⟩))
    go_ret
    exact ⟨_, rfl, hx, rfl⟩
  | some b =>
    obtain ⟨rfl, hn⟩ := hx.of_some
    have e := exp_zero (width32 hx)
    have e1 : bitsA (some x) = (x : Int) := rfl
    have e2 := Lib.hid (i64_and_sign (width32 hx))
    by_cases h : rg Ieee.single x < 8388608
    · rw [decide_eq_true h] at e
      have e3 := Lib.hid (show flushA (some x) = some (Ieee.single.word (ng Ieee.single x) 0) by show some (flushW x) = _; unfold flushW; rw [if_pos h])
      clear h
      go_enter Try.func50, Try.ntmps50
      go_wp2_with (first | (refine fl_arith rfl _ _ _ _ _ rfl rfl _ _ _ rfl rfl ?_; intro r n hr0; have hr := hr0 _ _ (by first | assumption | exact Ab.lit rfl (by decide)) (by first | assumption | exact Ab.lit rfl (by decide)); clear hr0) | (refine fl_cmp rfl _ _ _ _ _ rfl rfl _ _ _ rfl rfl ?_; intro b hb0; have hb := hb0 _ _ (by first | assumption | exact Ab.lit rfl (by decide)) (by first | assumption | exact Ab.lit rfl (by decide)); clear hb0; (try simp only [*] at hb); subst hb) | (refine fl_same rfl _ _ _ rfl _ _ rfl rfl rfl ?_) | (refine fl_wide rfl _ _ _ rfl _ rfl rfl rfl ?_; intro r n hr0; have hr := hr0 _ (by first | assumption | exact Ab.lit rfl (by decide)); clear hr0) | (refine fl_narrow rfl _ _ _ rfl _ rfl rfl rfl ?_; intro r n hl hr0; have hr := hr0 _ (by first | assumption | exact Ab.lit rfl (by decide)) (by assumption); clear hr0 hl) | (refine fl_neg rfl _ _ rfl _ _ rfl ?_; intro r hr0; have hr := hr0 _ (by first | assumption | exact Ab.lit rfl (by decide)); clear hr0) | (go_at_call 77; refine (spec_l01Bits _ _ hx _).mono ?_; rintro e w' ⟨rfl, rfl⟩) | go_in)
      go_ret
      exact ⟨Ieee.single.word (ng Ieee.single x) 0, by rw [← flush_val (width32 hx)]; rfl, by rw [e3.out]; exact zero32 _, rfl⟩
    · rw [decide_eq_false h] at e
      have e3 := Lib.hid (show flushA (some x) = some x by show some (flushW x) = _; unfold flushW; rw [if_neg h])
      clear h
      go_enter Try.func50, Try.ntmps50
      go_wp2_with (first | (refine fl_arith rfl _ _ _ _ _ rfl rfl _ _ _ rfl rfl ?_; intro r n hr0; have hr := hr0 _ _ (by first | assumption | exact Ab.lit rfl (by decide)) (by first | assumption | exact Ab.lit rfl (by decide)); clear hr0) | (refine fl_cmp rfl _ _ _ _ _ rfl rfl _ _ _ rfl rfl ?_; intro b hb0; have hb := hb0 _ _ (by first | assumption | exact Ab.lit rfl (by decide)) (by first | assumption | exact Ab.lit rfl (by decide)); clear hb0; (try simp only [*] at hb); subst hb) | (refine fl_same rfl _ _ _ rfl _ _ rfl rfl rfl ?_) | (refine fl_wide rfl _ _ _ rfl _ rfl rfl rfl ?_; intro r n hr0; have hr := hr0 _ (by first | assumption | exact Ab.lit rfl (by decide)); clear hr0) | (refine fl_narrow rfl _ _ _ rfl _ rfl rfl rfl ?_; intro r n hl hr0; have hr := hr0 _ (by first | assumption | exact Ab.lit rfl (by decide)) (by assumption); clear hr0 hl) | (refine fl_neg rfl _ _ rfl _ _ rfl ?_; intro r hr0; have hr := hr0 _ (by first | assumption | exact Ab.lit rfl (by decide)); clear hr0) | (go_at_call 77; refine (spec_l01Bits _ _ hx _).mono ?_; rintro e w' ⟨rfl, rfl⟩) | go_in)
      go_ret
      exact ⟨_, rfl, by rw [e3.out]; exact hx, rfl⟩

set_option maxHeartbeats 400000 in
theorem law_FlushNumber (x : Nat) (wx : (Lit.float .f32 x).wf = true) (w : World) :
    Calls Try.prog 5 #[.float .f32 x] w (Told w) := by
  have hx := Ab.of_wf wx
  generalize ab .f32 x = X at hx
  go_enter Try.func5, Try.ntmps5
  go_wp2_with (first | (refine fl_arith rfl _ _ _ _ _ rfl rfl _ _ _ rfl rfl ?_; intro r n hr0; have hr := hr0 _ _ (by first | assumption | exact Ab.lit rfl (by decide)) (by first | assumption | exact Ab.lit rfl (by decide)); clear hr0) | (refine fl_cmp rfl _ _ _ _ _ rfl rfl _ _ _ rfl rfl ?_; intro b hb0; have hb := hb0 _ _ (by first | assumption | exact Ab.lit rfl (by decide)) (by first | assumption | exact Ab.lit rfl (by decide)); clear hb0; (try simp only [*] at hb); subst hb) | (refine fl_same rfl _ _ _ rfl _ _ rfl rfl rfl ?_) | (refine fl_wide rfl _ _ _ rfl _ rfl rfl rfl ?_; intro r n hr0; have hr := hr0 _ (by first | assumption | exact Ab.lit rfl (by decide)); clear hr0) | (refine fl_narrow rfl _ _ _ rfl _ rfl rfl rfl ?_; intro r n hl hr0; have hr := hr0 _ (by first | assumption | exact Ab.lit rfl (by decide)) (by assumption); clear hr0 hl) | (refine fl_neg rfl _ _ rfl _ _ rfl ?_; intro r hr0; have hr := hr0 _ (by first | assumption | exact Ab.lit rfl (by decide)); clear hr0) | (go_at_call 50; refine (spec_l01Flush _ _ hx _).mono ?_; rintro e w' ⟨r, rfl, hr, rfl⟩) | (go_at_call 22; refine (impl_FlushNumber _ _ hx _).mono ?_; rintro e w' ⟨r, n, rfl, hr, rfl⟩) | (go_at_call 17; refine (same_float _ _ _ (by assumption) (by assumption) _).mono ?_; rintro e w' ⟨rfl, n, rfl⟩) | go_in)
  go_ret
  exact ⟨rfl, below_drewN (Below.refl _ _) _⟩

end Go.Proofs.Ytgdhjfdmgjidkaa
