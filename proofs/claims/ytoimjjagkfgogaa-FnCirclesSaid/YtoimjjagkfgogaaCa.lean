/- Walks: powers and products of complex numbers; gaps; choices by bytes. No conditions. -/
import Derived.Test.YtoimjjagkfgogaaWq
import Derived.Laws.ComplexArith
namespace Go.Proofs.Ytoimjjagkfgogaa.cir
open Go.RowKit
set_option maxRecDepth 8000

/-- Returns two words of 64 bits. -/
def Two64 (A B : Option Nat) (w : World) (e : Ending) (w' : World) : Prop := ∃ r s n, e = .returned (.tuple #[.float .f64 r, .float .f64 s]) ∧ Ab .f64 r A ∧ Ab .f64 s B ∧ w' = w.drewN n
/-- Returns a complex number. -/
def Cx (A B : Option Nat) (w : World) (e : Ending) (w' : World) : Prop := ∃ a b n, e = .returned (.complex .f32 a b) ∧ Ab .f32 a A ∧ Ab .f32 b B ∧ w' = w.drewN n
def One64 (A : Option Nat) (w : World) (e : Ending) (w' : World) : Prop := ∃ r n, e = .returned (.float .f64 r) ∧ Ab .f64 r A ∧ w' = w.drewN n
def One32 (A : Option Nat) (w : World) (e : Ending) (w' : World) : Prop := ∃ r n, e = .returned (.float .f32 r) ∧ Ab .f32 r A ∧ w' = w.drewN n

set_option maxHeartbeats 1000000 in
theorem parts_any (a b : Nat) (A B : Option Nat) (ha : Ab .f32 a A) (hb : Ab .f32 b B) (w : World) : Calls Try.prog 31 #[.complex .f32 a b] w (Two64 (wideA A) (wideA B) w) := by
  go_enter Try.func31, Try.ntmps31
  go_wp2_with (first | (refine fl_arith rfl _ _ _ _ _ rfl rfl _ _ _ rfl rfl ?_; intro r n hr0; have hr := hr0 _ _ (by first | assumption | exact Ab.lit rfl (by decide)) (by first | assumption | exact Ab.lit rfl (by decide)); clear hr0) | (refine fl_cmp rfl _ _ _ _ _ rfl rfl _ _ _ rfl rfl ?_; intro b hb0; have hb := hb0 _ _ (by first | assumption | exact Ab.lit rfl (by decide)) (by first | assumption | exact Ab.lit rfl (by decide)); clear hb0; (try simp only [*] at hb); subst hb) | (refine fl_same rfl _ _ _ rfl _ _ rfl rfl rfl ?_) | (refine fl_wide rfl _ _ _ rfl _ rfl rfl rfl ?_; intro r n hr0; have hr := hr0 _ (by first | assumption | exact Ab.lit rfl (by decide)); clear hr0) | (refine fl_narrow rfl _ _ _ rfl _ rfl rfl rfl ?_; intro r n hl hr0; have hr := hr0 _ (by first | assumption | exact Ab.lit rfl (by decide)) (by assumption); clear hr0 hl) | (refine fl_neg rfl _ _ rfl _ _ rfl ?_; intro r hr0; have hr := hr0 _ (by first | assumption | exact Ab.lit rfl (by decide)); clear hr0) | go_in)
  go_ret2
  exact ⟨_, _, _, rfl, by assumption, by assumption, rfl⟩

def powA (A B : Option Nat) : Option Nat := opA .add .f64 (opA .mul .f64 (wideA A) (wideA A)) (opA .mul .f64 (wideA B) (wideA B))
set_option maxHeartbeats 1000000 in
theorem power_any (a b : Nat) (A B : Option Nat) (ha : Ab .f32 a A) (hb : Ab .f32 b B) (w : World) : Calls Try.prog 20 #[.complex .f32 a b] w (One64 (powA A B) w) := by
  have HP := fun w' => parts_any a b A B ha hb w'
  clear ha hb
  go_enter Try.func20, Try.ntmps20
  go_wp2_with (first | (refine fl_arith rfl _ _ _ _ _ rfl rfl _ _ _ rfl rfl ?_; intro r n hr0; have hr := hr0 _ _ (by first | assumption | exact Ab.lit rfl (by decide)) (by first | assumption | exact Ab.lit rfl (by decide)); clear hr0) | (refine fl_cmp rfl _ _ _ _ _ rfl rfl _ _ _ rfl rfl ?_; intro b hb0; have hb := hb0 _ _ (by first | assumption | exact Ab.lit rfl (by decide)) (by first | assumption | exact Ab.lit rfl (by decide)); clear hb0; (try simp only [*] at hb); subst hb) | (refine fl_same rfl _ _ _ rfl _ _ rfl rfl rfl ?_) | (refine fl_wide rfl _ _ _ rfl _ rfl rfl rfl ?_; intro r n hr0; have hr := hr0 _ (by first | assumption | exact Ab.lit rfl (by decide)); clear hr0) | (refine fl_narrow rfl _ _ _ rfl _ rfl rfl rfl ?_; intro r n hl hr0; have hr := hr0 _ (by first | assumption | exact Ab.lit rfl (by decide)) (by assumption); clear hr0 hl) | (refine fl_neg rfl _ _ rfl _ _ rfl ?_; intro r hr0; have hr := hr0 _ (by first | assumption | exact Ab.lit rfl (by decide)); clear hr0) | (go_at_call 31; (with_reducible_and_instances refine Calls.mono (HP _) ?_); rintro e w' ⟨r, s, n, rfl, hr1, hr2, rfl⟩))
  go_ret
  exact ⟨_, _, rfl, by assumption, rfl⟩
set_option maxHeartbeats 1000000 in
theorem powerOf_any (a b : Nat) (A B : Option Nat) (ha : Ab .f32 a A) (hb : Ab .f32 b B) (hF : Fits (powA A B)) (w : World) : Calls Try.prog 9 #[.complex .f32 a b] w (One32 (narrowA (powA A B)) w) := by
  have HP := fun w' => power_any a b A B ha hb w'
  clear ha hb
  go_enter Try.func9, Try.ntmps9
  go_wp2_with (first | (refine fl_arith rfl _ _ _ _ _ rfl rfl _ _ _ rfl rfl ?_; intro r n hr0; have hr := hr0 _ _ (by first | assumption | exact Ab.lit rfl (by decide)) (by first | assumption | exact Ab.lit rfl (by decide)); clear hr0) | (refine fl_cmp rfl _ _ _ _ _ rfl rfl _ _ _ rfl rfl ?_; intro b hb0; have hb := hb0 _ _ (by first | assumption | exact Ab.lit rfl (by decide)) (by first | assumption | exact Ab.lit rfl (by decide)); clear hb0; (try simp only [*] at hb); subst hb) | (refine fl_same rfl _ _ _ rfl _ _ rfl rfl rfl ?_) | (refine fl_wide rfl _ _ _ rfl _ rfl rfl rfl ?_; intro r n hr0; have hr := hr0 _ (by first | assumption | exact Ab.lit rfl (by decide)); clear hr0) | (refine fl_narrow rfl _ _ _ rfl _ rfl rfl rfl ?_; intro r n hl hr0; have hr := hr0 _ (by first | assumption | exact Ab.lit rfl (by decide)) (by assumption); clear hr0 hl) | (refine fl_neg rfl _ _ rfl _ _ rfl ?_; intro r hr0; have hr := hr0 _ (by first | assumption | exact Ab.lit rfl (by decide)); clear hr0) | (go_at_call 20; (with_reducible_and_instances refine Calls.mono (HP _) ?_); rintro e w' ⟨r, n, rfl, hr1, rfl⟩))
  go_ret
  exact ⟨_, _, rfl, by assumption, rfl⟩

def mulRe (A B C D : Option Nat) : Option Nat := opA .sub .f64 (opA .mul .f64 (wideA A) (wideA C)) (opA .mul .f64 (wideA B) (wideA D))
def mulIm (A B C D : Option Nat) : Option Nat := opA .add .f64 (opA .mul .f64 (wideA A) (wideA D)) (opA .mul .f64 (wideA B) (wideA C))
set_option maxHeartbeats 2000000 in
theorem product_any (a b c d : Nat) (A B C D : Option Nat) (ha : Ab .f32 a A) (hb : Ab .f32 b B) (hc : Ab .f32 c C) (hd : Ab .f32 d D) (w : World) : Calls Try.prog 21 #[.complex .f32 a b, .complex .f32 c d] w (Two64 (mulRe A B C D) (mulIm A B C D) w) := by
  have HP := fun w' => parts_any a b A B ha hb w'
  have HQ := fun w' => parts_any c d C D hc hd w'
  clear ha hb hc hd
  go_enter Try.func21, Try.ntmps21
  go_wp2_with (first | (refine fl_arith rfl _ _ _ _ _ rfl rfl _ _ _ rfl rfl ?_; intro r n hr0; have hr := hr0 _ _ (by first | assumption | exact Ab.lit rfl (by decide)) (by first | assumption | exact Ab.lit rfl (by decide)); clear hr0) | (refine fl_cmp rfl _ _ _ _ _ rfl rfl _ _ _ rfl rfl ?_; intro b hb0; have hb := hb0 _ _ (by first | assumption | exact Ab.lit rfl (by decide)) (by first | assumption | exact Ab.lit rfl (by decide)); clear hb0; (try simp only [*] at hb); subst hb) | (refine fl_same rfl _ _ _ rfl _ _ rfl rfl rfl ?_) | (refine fl_wide rfl _ _ _ rfl _ rfl rfl rfl ?_; intro r n hr0; have hr := hr0 _ (by first | assumption | exact Ab.lit rfl (by decide)); clear hr0) | (refine fl_narrow rfl _ _ _ rfl _ rfl rfl rfl ?_; intro r n hl hr0; have hr := hr0 _ (by first | assumption | exact Ab.lit rfl (by decide)) (by assumption); clear hr0 hl) | (refine fl_neg rfl _ _ rfl _ _ rfl ?_; intro r hr0; have hr := hr0 _ (by first | assumption | exact Ab.lit rfl (by decide)); clear hr0) | (go_at_call 31; (with_reducible_and_instances refine Calls.mono (HP _) ?_); rintro e w' ⟨r1, s1, n1, rfl, hr1, hs1, rfl⟩) | (go_at_call 31; (with_reducible_and_instances refine Calls.mono (HQ _) ?_); rintro e w' ⟨r2, s2, n2, rfl, hr2, hs2, rfl⟩))
  go_ret2
  exact ⟨_, _, _, rfl, by assumption, by assumption, rfl⟩
set_option maxHeartbeats 1000000 in
theorem mulComplex_any (a b c d : Nat) (A B C D : Option Nat) (ha : Ab .f32 a A) (hb : Ab .f32 b B) (hc : Ab .f32 c C) (hd : Ab .f32 d D) (f1 : Fits (mulRe A B C D)) (f2 : Fits (mulIm A B C D)) (w : World) :
    Calls Try.prog 11 #[.complex .f32 a b, .complex .f32 c d] w (Cx (narrowA (mulRe A B C D)) (narrowA (mulIm A B C D)) w) := by
  have HP := fun w' => product_any a b c d A B C D ha hb hc hd w'
  clear ha hb hc hd
  go_enter Try.func11, Try.ntmps11
  go_wp2_with (first | (refine fl_arith rfl _ _ _ _ _ rfl rfl _ _ _ rfl rfl ?_; intro r n hr0; have hr := hr0 _ _ (by first | assumption | exact Ab.lit rfl (by decide)) (by first | assumption | exact Ab.lit rfl (by decide)); clear hr0) | (refine fl_cmp rfl _ _ _ _ _ rfl rfl _ _ _ rfl rfl ?_; intro b hb0; have hb := hb0 _ _ (by first | assumption | exact Ab.lit rfl (by decide)) (by first | assumption | exact Ab.lit rfl (by decide)); clear hb0; (try simp only [*] at hb); subst hb) | (refine fl_same rfl _ _ _ rfl _ _ rfl rfl rfl ?_) | (refine fl_wide rfl _ _ _ rfl _ rfl rfl rfl ?_; intro r n hr0; have hr := hr0 _ (by first | assumption | exact Ab.lit rfl (by decide)); clear hr0) | (refine fl_narrow rfl _ _ _ rfl _ rfl rfl rfl ?_; intro r n hl hr0; have hr := hr0 _ (by first | assumption | exact Ab.lit rfl (by decide)) (by assumption); clear hr0 hl) | (refine fl_neg rfl _ _ rfl _ _ rfl ?_; intro r hr0; have hr := hr0 _ (by first | assumption | exact Ab.lit rfl (by decide)); clear hr0) | (go_at_call 21; (with_reducible_and_instances refine Calls.mono (HP _) ?_); rintro e w' ⟨r1, s1, n1, rfl, hr1, hs1, rfl⟩))
  go_ret
  exact ⟨_, _, _, rfl, by assumption, by assumption, rfl⟩

def gapA (A B : Option Nat) : Option Nat := if cmpA .lss .f64 A B = true then opA .sub .f64 B A else opA .sub .f64 A B
set_option maxHeartbeats 1000000 in
theorem gap_any (x y : Nat) (X Y : Option Nat) (hx : Ab .f64 x X) (hy : Ab .f64 y Y) (w : World) : Calls Try.prog 8 #[.float .f64 x, .float .f64 y] w (One64 (gapA X Y) w) := by
  unfold gapA
  cases c : cmpA .lss .f64 X Y
  all_goals
    go_enter Try.func8, Try.ntmps8
    go_wp2_with (first | (refine fl_arith rfl _ _ _ _ _ rfl rfl _ _ _ rfl rfl ?_; intro r n hr0; have hr := hr0 _ _ (by first | assumption | exact Ab.lit rfl (by decide)) (by first | assumption | exact Ab.lit rfl (by decide)); clear hr0) | (refine fl_cmp rfl _ _ _ _ _ rfl rfl _ _ _ rfl rfl ?_; intro b hb0; have hb := hb0 _ _ (by first | assumption | exact Ab.lit rfl (by decide)) (by first | assumption | exact Ab.lit rfl (by decide)); clear hb0; (try simp only [*] at hb); subst hb) | (refine fl_same rfl _ _ _ rfl _ _ rfl rfl rfl ?_) | (refine fl_wide rfl _ _ _ rfl _ rfl rfl rfl ?_; intro r n hr0; have hr := hr0 _ (by first | assumption | exact Ab.lit rfl (by decide)); clear hr0) | (refine fl_narrow rfl _ _ _ rfl _ rfl rfl rfl ?_; intro r n hl hr0; have hr := hr0 _ (by first | assumption | exact Ab.lit rfl (by decide)) (by assumption); clear hr0 hl) | (refine fl_neg rfl _ _ rfl _ _ rfl ?_; intro r hr0; have hr := hr0 _ (by first | assumption | exact Ab.lit rfl (by decide)); clear hr0) | go_in)
    go_ret
    exact ⟨_, _, rfl, hr, rfl⟩

set_option maxHeartbeats 2000000 in
theorem near_any (a b c d m : Nat) (A B C D : Option Nat) (ha : Ab .f32 a A) (hb : Ab .f32 b B) (hc : Ab .f32 c C) (hd : Ab .f32 d D) (hm : Ab .f64 m (some m))
    (h1 : cmpA .leq .f64 (gapA (wideA A) (wideA C)) (some m) = true) (h2 : cmpA .leq .f64 (gapA (wideA B) (wideA D)) (some m) = true) (w : World) :
    Calls Try.prog 10 #[.complex .f32 a b, .complex .f32 c d, .float .f64 m] w fun e w' => e = .returned (.bool true) ∧ ∃ n, w' = w.drewN n := by
  have HG := fun x y X Y w' hx hy => gap_any x y X Y hx hy w'
  go_enter Try.func10, Try.ntmps10
  go_wp2_with (first | (refine fl_arith rfl _ _ _ _ _ rfl rfl _ _ _ rfl rfl ?_; intro r n hr0; have hr := hr0 _ _ (by first | assumption | exact Ab.lit rfl (by decide)) (by first | assumption | exact Ab.lit rfl (by decide)); clear hr0) | (refine fl_cmp rfl _ _ _ _ _ rfl rfl _ _ _ rfl rfl ?_; intro b hb0; have hb := hb0 _ _ (by first | assumption | exact Ab.lit rfl (by decide)) (by first | assumption | exact Ab.lit rfl (by decide)); clear hb0; (try simp only [*] at hb); subst hb) | (refine fl_same rfl _ _ _ rfl _ _ rfl rfl rfl ?_) | (refine fl_wide rfl _ _ _ rfl _ rfl rfl rfl ?_; intro r n hr0; have hr := hr0 _ (by first | assumption | exact Ab.lit rfl (by decide)); clear hr0) | (refine fl_narrow rfl _ _ _ rfl _ rfl rfl rfl ?_; intro r n hl hr0; have hr := hr0 _ (by first | assumption | exact Ab.lit rfl (by decide)) (by assumption); clear hr0 hl) | (refine fl_neg rfl _ _ rfl _ _ rfl ?_; intro r hr0; have hr := hr0 _ (by first | assumption | exact Ab.lit rfl (by decide)); clear hr0) | (go_at_call 8; (with_reducible_and_instances refine Calls.mono (HG _ _ _ _ _ (by assumption) (by assumption)) ?_); rintro e w' ⟨r6, m6, rfl, g6, rfl⟩))
  go_ret
  exact ⟨rfl, _, rfl⟩

/-- A list of bytes that came in. -/
def Bytes (w : World) (a : Option Addr) (n : Nat) : Prop := n = 0 ∨ ∃ (b : Addr) (zs : Nat → Int), a = some b ∧ ∀ i, i < n → 0 ≤ zs i ∧ zs i < 256 ∧ w.cell? (b.add i) = some (.int .u8 (zs i))

set_option maxHeartbeats 1000000 in
theorem long_any (a b : Option Addr) (n n2 cap cap2 : Nat) (w : World) : Calls Try.prog 4 #[.slice a n cap, .slice b n2 cap2] w fun e w' => e = .returned (.bool (decide (1048576 < n) || decide (1048576 < n2))) ∧ w = w' := by
  by_cases h1 : 1048576 < n
  · go_enter Try.func4, Try.ntmps4
    go_wp2
    go_ret
    exact ⟨by simp, rfl⟩
  · by_cases h2 : 1048576 < n2
    · go_enter Try.func4, Try.ntmps4
      go_wp2
      go_ret
      exact ⟨by simp [h1, h2]; omega, rfl⟩
    · go_enter Try.func4, Try.ntmps4
      go_wp2
      go_ret
      exact ⟨by simp [h1, h2]; omega, rfl⟩

set_option maxHeartbeats 4000000 in
/-- A choice by a byte, or by none. -/
theorem at_any (M i : Nat) (hM : M = 256 ∨ M = 200) (hi : i = 0 ∨ i = 1) (a : Option Addr) (n cap : Nat) (w : World) (hB : Bytes w a n) : ∃ k : Nat, k < M ∧ ∀ w', Below w.heap.size w w' → Calls Try.prog 5 #[.slice a n cap, .int .i64 (i : Int), .int .i64 (M : Int)] w' fun e w'' => e = .returned (.int .i64 (k : Int)) ∧ w' = w'' := by
  by_cases h0 : i < n
  · rcases hB with rfl | ⟨b, zs, rfl, hz⟩
    · omega
    · obtain ⟨z1, z2, z3⟩ := hz i h0
      generalize zs i = z at *
      clear hz
      have hM1 : (1 : Int) < (M : Int) := by omega
      refine ⟨(z % (M : Int)).toNat, by have := Int.emod_lt_of_pos z (show (0 : Int) < M by omega); have := Int.emod_nonneg z (show (M : Int) ≠ 0 by omega); omega, fun w' hB => ?_⟩
      have z4 : w'.cell? (b.add i) = some (.int .u8 z) := (hB.cell (p := b.add i) (World.block_lt_of_cell? _ _ z3)).trans z3
      clear hB z3
      have hi0 : (i : Int) < (n : Int) := by omega
      have e1 : ((z % (M : Int)).toNat : Int) = z % (M : Int) := by
        have := Int.emod_nonneg z (show (M : Int) ≠ 0 by omega)
        omega
      rw [e1]
      rcases hi with rfl | rfl
      · have e0 : b.add 0 = b := by simp [Addr.add]
        rw [e0] at z4
        have hi1 : (0 : Int) < (n : Int) := by omega
        clear hi0 h0
        rcases hM with rfl | rfl
        all_goals
          go_enter Try.func5, Try.ntmps5
          go_wp2
          go_ret
          exact ⟨rfl, rfl⟩
      · have e0 : b.add 1 = ⟨b.block, b.off + 1, none⟩ := rfl
        rw [e0] at z4
        have hi1 : (1 : Int) < (n : Int) := by omega
        clear hi0 h0
        rcases hM with rfl | rfl
        all_goals
          go_enter Try.func5, Try.ntmps5
          go_wp2
          go_ret
          exact ⟨rfl, rfl⟩
  · have h0 : ¬ (i : Int) < (n : Int) := by omega
    rcases hM with rfl | rfl <;> rcases hi with rfl | rfl
    · refine ⟨11, by decide, fun w' _ => ?_⟩
      go_enter Try.func5, Try.ntmps5
      go_wp2
      go_ret
      exact ⟨rfl, rfl⟩
    · refine ⟨48, by decide, fun w' _ => ?_⟩
      go_enter Try.func5, Try.ntmps5
      go_wp2
      go_ret
      exact ⟨rfl, rfl⟩
    · refine ⟨11, by decide, fun w' _ => ?_⟩
      go_enter Try.func5, Try.ntmps5
      go_wp2
      go_ret
      exact ⟨rfl, rfl⟩
    · refine ⟨48, by decide, fun w' _ => ?_⟩
      go_enter Try.func5, Try.ntmps5
      go_wp2
      go_ret
      exact ⟨rfl, rfl⟩

/-- The angle of a complex number. -/
theorem angleOf_any (a b : Nat) (A B : Option Nat) (ha : Ab .f32 a A) (hb : Ab .f32 b B) (w : World) : Calls Try.prog 7 #[.complex .f32 a b] w fun e w' => ∃ r, e = .returned (.float .f32 r) ∧ Ab .f32 r (angleA B A) ∧ Below w.heap.size w w' := by
  have HA := fun w' => impl_AngleTurns b a B A hb ha w'
  go_enter Try.func7, Try.ntmps7
  go_wp2_with (first | (refine fl_arith rfl _ _ _ _ _ rfl rfl _ _ _ rfl rfl ?_; intro r n hr0; have hr := hr0 _ _ (by first | assumption | exact Ab.lit rfl (by decide)) (by first | assumption | exact Ab.lit rfl (by decide)); clear hr0) | (refine fl_cmp rfl _ _ _ _ _ rfl rfl _ _ _ rfl rfl ?_; intro b hb0; have hb := hb0 _ _ (by first | assumption | exact Ab.lit rfl (by decide)) (by first | assumption | exact Ab.lit rfl (by decide)); clear hb0; (try simp only [*] at hb); subst hb) | (refine fl_same rfl _ _ _ rfl _ _ rfl rfl rfl ?_) | (refine fl_wide rfl _ _ _ rfl _ rfl rfl rfl ?_; intro r n hr0; have hr := hr0 _ (by first | assumption | exact Ab.lit rfl (by decide)); clear hr0) | (refine fl_narrow rfl _ _ _ rfl _ rfl rfl rfl ?_; intro r n hl hr0; have hr := hr0 _ (by first | assumption | exact Ab.lit rfl (by decide)) (by assumption); clear hr0 hl) | (refine fl_neg rfl _ _ rfl _ _ rfl ?_; intro r hr0; have hr := hr0 _ (by first | assumption | exact Ab.lit rfl (by decide)); clear hr0) | (go_at_call 19; (with_reducible_and_instances refine Calls.mono (HA _) ?_); rintro e w' ⟨r, rfl, hr, hB⟩))
  go_ret
  exact ⟨_, rfl, hr, hB⟩
end Go.Proofs.Ytoimjjagkfgogaa.cir
