/- Walks: two words that read as one number are told to be the same. No conditions. -/
import Derived.Test.YtecdnpmafmfobaaFe
import Derived.Test.YtecdnpmafmfobaaFy
import Derived.Below
import Derived.Lib.Hide
namespace Go.Proofs.Ytecdnpmafmfobaa
open Go.RowKit

/-- The law's answer: true; nothing that was there has changed. -/
def Told (w : World) (e : Ending) (w' : World) : Prop := e = .returned (.bool true) ∧ Below w.heap.size w w'

theorem same_bool (b : Bool) : (b != b) = false := by cases b <;> rfl
theorem same_bool2 (b : Bool) : (b == b) = true := by cases b <;> rfl
theorem same_int (n : Int) : (n != n) = false := by simp

theorem ord_self {k : FloatKind} {x : Nat} (hn : nanW k x = false) : k.format.order x x = some .eq := by
  rcases kinds k x with ⟨h1, _, _⟩ | ⟨_, h1, _⟩ | ⟨_, _, h1⟩
  · exact order_self h1
  · show (k.decode x).order (k.decode x) = _
    rw [decode_inf h1]
    cases ng k.format x <;> rfl
  · rw [hn] at h1; cases h1

theorem neq_self {k : FloatKind} {X : Option Nat} {x : Nat} (hx : Ab k x X) : cmpA .neq k X X = decide (X = none) := by
  cases X with
  | none => rfl
  | some b =>
    obtain ⟨rfl, hn⟩ := hx.of_some
    show (k.format.order x x != some .eq) = _
    rw [ord_self hn]; rfl
theorem eql_self {k : FloatKind} {c x : Nat} (hx : Ab k x (some c)) : cmpA .eql k (some c) (some c) = true := by
  obtain ⟨rfl, hn⟩ := hx.of_some
  show (k.format.order x x == some .eq) = _
  rw [ord_self hn]; rfl

set_option maxRecDepth 4000 in
set_option maxHeartbeats 400000 in
theorem same_float (a b : Nat) (X : Option Nat) (ha : Ab .f64 a X) (hb : Ab .f64 b X) (w : World) :
    Calls Try.prog 11 #[.float .f64 a, .float .f64 b] w fun e w' => e = .returned (.bool true) ∧ ∃ n, w' = w.drewN n := by
  have e1 := neq_self ha
  cases X with
  | none =>
    have e1' : cmpA .neq .f64 none none = true := by rw [e1]; rfl
    clear e1
    go_enter Try.func11, Try.ntmps11
    go_wp2_with (first | (refine fl_arith rfl _ _ _ _ _ rfl rfl _ _ _ rfl rfl ?_; intro r n hr0; have hr := hr0 _ _ (by first | assumption | exact Ab.lit rfl (by decide)) (by first | assumption | exact Ab.lit rfl (by decide)); clear hr0) | (refine fl_cmp rfl _ _ _ _ _ rfl rfl _ _ _ rfl rfl ?_; intro b hb0; have hb := hb0 _ _ (by first | assumption | exact Ab.lit rfl (by decide)) (by first | assumption | exact Ab.lit rfl (by decide)); clear hb0; (try simp only [*] at hb); subst hb) | (refine fl_same rfl _ _ _ rfl _ _ rfl rfl rfl ?_) | (refine fl_wide rfl _ _ _ rfl _ rfl rfl rfl ?_; intro r n hr0; have hr := hr0 _ (by first | assumption | exact Ab.lit rfl (by decide)); clear hr0) | (refine fl_narrow rfl _ _ _ rfl _ rfl rfl rfl ?_; intro r n hl hr0; have hr := hr0 _ (by first | assumption | exact Ab.lit rfl (by decide)) (by assumption); clear hr0 hl) | (refine fl_neg rfl _ _ rfl _ _ rfl ?_; intro r hr0; have hr := hr0 _ (by first | assumption | exact Ab.lit rfl (by decide)); clear hr0))
    go_ret
    exact ⟨rfl, 0, rfl⟩
  | some c =>
    have e1' : cmpA .neq .f64 (some c) (some c) = false := by rw [e1]; rfl
    clear e1
    have e2 := eql_self ha
    cases h : cmpA .eql .f64 (some c) (some 0) with
    | true =>
      have e3 := same_bool2 (cmpA .gtr .f64 (opA .quo .f64 (some 4607182418800017408) (some c)) (some 0))
      go_enter Try.func11, Try.ntmps11
      go_wp2_with (first | (refine fl_arith rfl _ _ _ _ _ rfl rfl _ _ _ rfl rfl ?_; intro r n hr0; have hr := hr0 _ _ (by first | assumption | exact Ab.lit rfl (by decide)) (by first | assumption | exact Ab.lit rfl (by decide)); clear hr0) | (refine fl_cmp rfl _ _ _ _ _ rfl rfl _ _ _ rfl rfl ?_; intro b hb0; have hb := hb0 _ _ (by first | assumption | exact Ab.lit rfl (by decide)) (by first | assumption | exact Ab.lit rfl (by decide)); clear hb0; (try simp only [*] at hb); subst hb) | (refine fl_same rfl _ _ _ rfl _ _ rfl rfl rfl ?_) | (refine fl_wide rfl _ _ _ rfl _ rfl rfl rfl ?_; intro r n hr0; have hr := hr0 _ (by first | assumption | exact Ab.lit rfl (by decide)); clear hr0) | (refine fl_narrow rfl _ _ _ rfl _ rfl rfl rfl ?_; intro r n hl hr0; have hr := hr0 _ (by first | assumption | exact Ab.lit rfl (by decide)) (by assumption); clear hr0 hl) | (refine fl_neg rfl _ _ rfl _ _ rfl ?_; intro r hr0; have hr := hr0 _ (by first | assumption | exact Ab.lit rfl (by decide)); clear hr0))
      go_ret
      exact ⟨rfl, _, rfl⟩
    | false =>
      go_enter Try.func11, Try.ntmps11
      go_wp2_with (first | (refine fl_arith rfl _ _ _ _ _ rfl rfl _ _ _ rfl rfl ?_; intro r n hr0; have hr := hr0 _ _ (by first | assumption | exact Ab.lit rfl (by decide)) (by first | assumption | exact Ab.lit rfl (by decide)); clear hr0) | (refine fl_cmp rfl _ _ _ _ _ rfl rfl _ _ _ rfl rfl ?_; intro b hb0; have hb := hb0 _ _ (by first | assumption | exact Ab.lit rfl (by decide)) (by first | assumption | exact Ab.lit rfl (by decide)); clear hb0; (try simp only [*] at hb); subst hb) | (refine fl_same rfl _ _ _ rfl _ _ rfl rfl rfl ?_) | (refine fl_wide rfl _ _ _ rfl _ rfl rfl rfl ?_; intro r n hr0; have hr := hr0 _ (by first | assumption | exact Ab.lit rfl (by decide)); clear hr0) | (refine fl_narrow rfl _ _ _ rfl _ rfl rfl rfl ?_; intro r n hl hr0; have hr := hr0 _ (by first | assumption | exact Ab.lit rfl (by decide)) (by assumption); clear hr0 hl) | (refine fl_neg rfl _ _ rfl _ _ rfl ?_; intro r hr0; have hr := hr0 _ (by first | assumption | exact Ab.lit rfl (by decide)); clear hr0))
      go_ret
      exact ⟨rfl, 0, rfl⟩

end Go.Proofs.Ytecdnpmafmfobaa
