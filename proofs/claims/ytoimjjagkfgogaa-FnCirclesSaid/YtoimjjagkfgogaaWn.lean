/- Walks: whether numbers are finite. No conditions. -/
import Derived.Test.YtoimjjagkfgogaaWs
import Derived.Test.YtoimjjagkfgogaaFx
namespace Go.Proofs.Ytoimjjagkfgogaa
open Go.RowKit
set_option maxRecDepth 8000

/-- A call that returns v and has drawn at most. -/
def Draws (v : Value) (w : World) (e : Ending) (w' : World) : Prop := e = .returned v ∧ ∃ n, w' = w.drewN n

set_option maxHeartbeats 400000 in
theorem impl_finite (x : Nat) (X : Option Nat) (hx : Ab .f32 x X) (w : World) : Calls Try.prog 22 #[.float .f32 x] w (Draws (.bool (finA .f32 X)) w) := by
  have e := finA_wide hx
  unfold finA at e ⊢
  go_enter Try.func22, Try.ntmps22
  go_wp2_with (first | (refine fl_arith rfl _ _ _ _ _ rfl rfl _ _ _ rfl rfl ?_; intro r n hr0; have hr := hr0 _ _ (by first | assumption | exact Ab.lit rfl (by decide)) (by first | assumption | exact Ab.lit rfl (by decide)); clear hr0) | (refine fl_cmp rfl _ _ _ _ _ rfl rfl _ _ _ rfl rfl ?_; intro b hb0; have hb := hb0 _ _ (by first | assumption | exact Ab.lit rfl (by decide)) (by first | assumption | exact Ab.lit rfl (by decide)); clear hb0; (try simp only [*] at hb); subst hb) | (refine fl_same rfl _ _ _ rfl _ _ rfl rfl rfl ?_) | (refine fl_wide rfl _ _ _ rfl _ rfl rfl rfl ?_; intro r n hr0; have hr := hr0 _ (by first | assumption | exact Ab.lit rfl (by decide)); clear hr0) | (refine fl_narrow rfl _ _ _ rfl _ rfl rfl rfl ?_; intro r n hl hr0; have hr := hr0 _ (by first | assumption | exact Ab.lit rfl (by decide)) (by assumption); clear hr0 hl) | (refine fl_neg rfl _ _ rfl _ _ rfl ?_; intro r hr0; have hr := hr0 _ (by first | assumption | exact Ab.lit rfl (by decide)); clear hr0) | go_in)
  go_ret
  exact ⟨rfl, _, rfl⟩

/-- Whether the first n numbers are finite. -/
def allA (Z : Nat → Option Nat) : Nat → Bool
  | 0 => true
  | k + 1 => allA Z k && finA .f32 (Z k)
theorem allA_stop {Z : Nat → Option Nat} {k : Nat} (hf : finA .f32 (Z k) = false) : ∀ n, k < n → allA Z n = false
  | 0, h => absurd h (Nat.not_lt_zero k)
  | n + 1, h => by
    rcases Nat.lt_or_ge k n with h' | h'
    · simp [allA, allA_stop hf n h']
    · obtain rfl : k = n := by omega
      simp [allA, hf]

set_option maxHeartbeats 1000000 in
theorem impl_areFinite (n : Nat) (hn : n ≤ 1048576) (xs : Nat → Nat) (Z : Nat → Option Nat) (hx : ∀ i, i < n → Ab .f32 (xs i) (Z i)) (b cap : Nat) (w : World)
    (hb : ∀ i, i < n → w.cell? ⟨b, i, none⟩ = some (.float .f32 (xs i))) :
    Calls Try.prog 29 #[.slice (some ⟨b, 0, none⟩) n cap] w (Draws (.bool (allA Z n)) w) := by
  have HB := Lib.hid hb
  have HX := Lib.hid hx
  clear hb hx
  go_enter Try.func29, Try.ntmps29
  go_wp2
  go_loopw [4, 7] (fun _ i wr => ∃ k m : Nat, k ≤ n ∧ i = .int .i64 k ∧ allA Z k = true ∧ wr = w.drewN m) (fun _ i _ => n - (intOf i).toNat)
  case atStart => exact ⟨0, 0, Nat.zero_le _, rfl, rfl, rfl⟩
  case round =>
    obtain ⟨k, m, hk, rfl, hs, rfl⟩ := hrel
    have hs' := Lib.hid hs
    clear hs
    by_cases hl : k < n
    · have hxk := HX.out k hl
      have cb := HB.out k hl
      cases hf : finA .f32 (Z k) with
      | false =>
        have ha := allA_stop hf n hl
        have hf' := Lib.hid hf
        rw [ha]
        go_wp2_with (first | (refine fl_arith rfl _ _ _ _ _ rfl rfl _ _ _ rfl rfl ?_; intro r n hr0; have hr := hr0 _ _ (by first | assumption | exact Ab.lit rfl (by decide)) (by first | assumption | exact Ab.lit rfl (by decide)); clear hr0) | (refine fl_cmp rfl _ _ _ _ _ rfl rfl _ _ _ rfl rfl ?_; intro b hb0; have hb := hb0 _ _ (by first | assumption | exact Ab.lit rfl (by decide)) (by first | assumption | exact Ab.lit rfl (by decide)); clear hb0; (try simp only [*] at hb); subst hb) | (refine fl_same rfl _ _ _ rfl _ _ rfl rfl rfl ?_) | (refine fl_wide rfl _ _ _ rfl _ rfl rfl rfl ?_; intro r n hr0; have hr := hr0 _ (by first | assumption | exact Ab.lit rfl (by decide)); clear hr0) | (refine fl_narrow rfl _ _ _ rfl _ rfl rfl rfl ?_; intro r n hl hr0; have hr := hr0 _ (by first | assumption | exact Ab.lit rfl (by decide)) (by assumption); clear hr0 hl) | (refine fl_neg rfl _ _ rfl _ _ rfl ?_; intro r hr0; have hr := hr0 _ (by first | assumption | exact Ab.lit rfl (by decide)); clear hr0) | (go_at_call 22; (with_reducible_and_instances refine Calls.mono (impl_finite _ _ hxk _) ?_); rintro e w' ⟨rfl, m2, rfl⟩))
        go_ret
        exact ⟨rfl, _, rfl⟩
      | true =>
        go_wp2_with (first | (refine fl_arith rfl _ _ _ _ _ rfl rfl _ _ _ rfl rfl ?_; intro r n hr0; have hr := hr0 _ _ (by first | assumption | exact Ab.lit rfl (by decide)) (by first | assumption | exact Ab.lit rfl (by decide)); clear hr0) | (refine fl_cmp rfl _ _ _ _ _ rfl rfl _ _ _ rfl rfl ?_; intro b hb0; have hb := hb0 _ _ (by first | assumption | exact Ab.lit rfl (by decide)) (by first | assumption | exact Ab.lit rfl (by decide)); clear hb0; (try simp only [*] at hb); subst hb) | (refine fl_same rfl _ _ _ rfl _ _ rfl rfl rfl ?_) | (refine fl_wide rfl _ _ _ rfl _ rfl rfl rfl ?_; intro r n hr0; have hr := hr0 _ (by first | assumption | exact Ab.lit rfl (by decide)); clear hr0) | (refine fl_narrow rfl _ _ _ rfl _ rfl rfl rfl ?_; intro r n hl hr0; have hr := hr0 _ (by first | assumption | exact Ab.lit rfl (by decide)) (by assumption); clear hr0 hl) | (refine fl_neg rfl _ _ rfl _ _ rfl ?_; intro r hr0; have hr := hr0 _ (by first | assumption | exact Ab.lit rfl (by decide)); clear hr0) | (go_at_call 22; (with_reducible_and_instances refine Calls.mono (impl_finite _ _ hxk _) ?_); rintro e w' ⟨rfl, m2, rfl⟩))
        go_roundw
        case rel => exact ⟨k + 1, _, by omega, by go_num, by simp [allA, hs'.out, hf], rfl⟩
        case measure => simp [intOf]; omega
    · have : k = n := by omega
      subst this
      go_wp2_with (first | (refine fl_arith rfl _ _ _ _ _ rfl rfl _ _ _ rfl rfl ?_; intro r n hr0; have hr := hr0 _ _ (by first | assumption | exact Ab.lit rfl (by decide)) (by first | assumption | exact Ab.lit rfl (by decide)); clear hr0) | (refine fl_cmp rfl _ _ _ _ _ rfl rfl _ _ _ rfl rfl ?_; intro b hb0; have hb := hb0 _ _ (by first | assumption | exact Ab.lit rfl (by decide)) (by first | assumption | exact Ab.lit rfl (by decide)); clear hb0; (try simp only [*] at hb); subst hb) | (refine fl_same rfl _ _ _ rfl _ _ rfl rfl rfl ?_) | (refine fl_wide rfl _ _ _ rfl _ rfl rfl rfl ?_; intro r n hr0; have hr := hr0 _ (by first | assumption | exact Ab.lit rfl (by decide)); clear hr0) | (refine fl_narrow rfl _ _ _ rfl _ rfl rfl rfl ?_; intro r n hl hr0; have hr := hr0 _ (by first | assumption | exact Ab.lit rfl (by decide)) (by assumption); clear hr0 hl) | (refine fl_neg rfl _ _ rfl _ _ rfl ?_; intro r hr0; have hr := hr0 _ (by first | assumption | exact Ab.lit rfl (by decide)); clear hr0) | go_in)
      go_ret
      exact ⟨by rw [hs'.out]; rfl, _, rfl⟩

/-- Two numbers, as a row. -/
def two {α : Type} (x y : α) : Nat → α
  | 0 => x
  | _ => y

end Go.Proofs.Ytoimjjagkfgogaa
