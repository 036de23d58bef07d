/- Walks: the laws of LogNumber, StretchNorth and TenthsOf. No conditions. -/
import Derived.Test.YtnkogheibofboaaWk2
import Derived.Test.YtnkogheibofboaaWo
namespace Go.Proofs.Ytnkogheibofboaa
open Go.RowKit
set_option maxRecDepth 8000

set_option maxHeartbeats 1000000 in
theorem law_LogNumber (x : Nat) (wx : (Lit.float .f32 x).wf = true) (w : World) : Calls Try.prog 3 #[.float .f32 x] w (Told w) := by
  obtain ⟨R, H⟩ := log_both x _ (Ab.of_wf wx)
  have HS := fun w' => (H w').1
  have HI := fun w' => (H w').2
  clear H
  go_enter Try.func3, Try.ntmps3
  go_wp2_with (first | (refine fl_arith rfl _ _ _ _ _ rfl rfl _ _ _ rfl rfl ?_; intro r n hr0; have hr := hr0 _ _ (by first | assumption | exact Ab.lit rfl (by decide)) (by first | assumption | exact Ab.lit rfl (by decide)); clear hr0) | (refine fl_cmp rfl _ _ _ _ _ rfl rfl _ _ _ rfl rfl ?_; intro b hb0; have hb := hb0 _ _ (by first | assumption | exact Ab.lit rfl (by decide)) (by first | assumption | exact Ab.lit rfl (by decide)); clear hb0; (try simp only [*] at hb); subst hb) | (refine fl_same rfl _ _ _ rfl _ _ rfl rfl rfl ?_) | (refine fl_wide rfl _ _ _ rfl _ rfl rfl rfl ?_; intro r n hr0; have hr := hr0 _ (by first | assumption | exact Ab.lit rfl (by decide)); clear hr0) | (refine fl_narrow rfl _ _ _ rfl _ rfl rfl rfl ?_; intro r n hl hr0; have hr := hr0 _ (by first | assumption | exact Ab.lit rfl (by decide)) (by assumption); clear hr0 hl) | (refine fl_neg rfl _ _ rfl _ _ rfl ?_; intro r hr0; have hr := hr0 _ (by first | assumption | exact Ab.lit rfl (by decide)); clear hr0) | (go_at_call 49; (with_reducible_and_instances refine Calls.mono (HS _) ?_); rintro e w' ⟨r1, m1, rfl, h1, rfl⟩) | (go_at_call 16; (with_reducible_and_instances refine Calls.mono (HI _) ?_); rintro e w' ⟨r2, m2, rfl, h2, rfl⟩) | (go_at_call 17; refine (same_float _ _ _ (by assumption) (by assumption) _).mono ?_; rintro e w' ⟨rfl, m3, rfl⟩) | go_in)
  go_ret
  exact ⟨rfl, below_drewN (Below.refl _ _) _⟩

def polesA (N : Option Nat) : Bool := cmpA .gtr .f32 N (some 3196059648) && cmpA .lss .f32 N (some 1048576000)
def stretchA (R : Option Nat) : Option Nat := opA .quo .f32 R (some 1086918619)

set_option maxHeartbeats 4000000 in
theorem spec_Stretch (n : Nat) (N R1 R2 R3 : Option Nat) (hn : Ab .f32 n N)
    (H1 : ∀ x w, Ab .f32 x N → Calls Try.prog 74 #[.float .f32 x] w (Turns R1 w)) (H2 : ∀ x w, Ab .f32 x (opA .add .f32 N (some 1048576000)) → Calls Try.prog 74 #[.float .f32 x] w (Turns R2 w))
    (H3 : ∀ x w, Ab .f32 x (opA .quo .f32 (opA .add .f32 (some 1065353216) R1) R2) → Calls Try.prog 49 #[.float .f32 x] w (Turns R3 w)) (w : World) :
    Calls Try.prog 18 #[.float .f32 n] w (GivesIf (polesA N && finA .f32 (stretchA R3)) (stretchA R3) w) := by
  unfold polesA stretchA
  cases c1 : cmpA .gtr .f32 N (some 3196059648)
  · go_enter Try.func18, Try.ntmps18
    go_wp2_with (first | (refine fl_arith rfl _ _ _ _ _ rfl rfl _ _ _ rfl rfl ?_; intro r n hr0; have hr := hr0 _ _ (by first | assumption | exact Ab.lit rfl (by decide)) (by first | assumption | exact Ab.lit rfl (by decide)); clear hr0) | (refine fl_cmp rfl _ _ _ _ _ rfl rfl _ _ _ rfl rfl ?_; intro b hb0; have hb := hb0 _ _ (by first | assumption | exact Ab.lit rfl (by decide)) (by first | assumption | exact Ab.lit rfl (by decide)); clear hb0; (try simp only [*] at hb); subst hb) | (refine fl_same rfl _ _ _ rfl _ _ rfl rfl rfl ?_) | (refine fl_wide rfl _ _ _ rfl _ rfl rfl rfl ?_; intro r n hr0; have hr := hr0 _ (by first | assumption | exact Ab.lit rfl (by decide)); clear hr0) | (refine fl_narrow rfl _ _ _ rfl _ rfl rfl rfl ?_; intro r n hl hr0; have hr := hr0 _ (by first | assumption | exact Ab.lit rfl (by decide)) (by assumption); clear hr0 hl) | (refine fl_neg rfl _ _ rfl _ _ rfl ?_; intro r hr0; have hr := hr0 _ (by first | assumption | exact Ab.lit rfl (by decide)); clear hr0) | go_in)
    go_ret2
    exact ⟨0, 0, rfl, Ab.lit rfl (by decide), rfl⟩
  · cases c2 : cmpA .lss .f32 N (some 1048576000)
    · go_enter Try.func18, Try.ntmps18
      go_wp2_with (first | (refine fl_arith rfl _ _ _ _ _ rfl rfl _ _ _ rfl rfl ?_; intro r n hr0; have hr := hr0 _ _ (by first | assumption | exact Ab.lit rfl (by decide)) (by first | assumption | exact Ab.lit rfl (by decide)); clear hr0) | (refine fl_cmp rfl _ _ _ _ _ rfl rfl _ _ _ rfl rfl ?_; intro b hb0; have hb := hb0 _ _ (by first | assumption | exact Ab.lit rfl (by decide)) (by first | assumption | exact Ab.lit rfl (by decide)); clear hb0; (try simp only [*] at hb); subst hb) | (refine fl_same rfl _ _ _ rfl _ _ rfl rfl rfl ?_) | (refine fl_wide rfl _ _ _ rfl _ rfl rfl rfl ?_; intro r n hr0; have hr := hr0 _ (by first | assumption | exact Ab.lit rfl (by decide)); clear hr0) | (refine fl_narrow rfl _ _ _ rfl _ rfl rfl rfl ?_; intro r n hl hr0; have hr := hr0 _ (by first | assumption | exact Ab.lit rfl (by decide)) (by assumption); clear hr0 hl) | (refine fl_neg rfl _ _ rfl _ _ rfl ?_; intro r hr0; have hr := hr0 _ (by first | assumption | exact Ab.lit rfl (by decide)); clear hr0) | go_in)
      go_ret2
      exact ⟨0, 0, rfl, Ab.lit rfl (by decide), rfl⟩
    · go_enter Try.func18, Try.ntmps18
      go_wp2_with (first | (refine fl_arith rfl _ _ _ _ _ rfl rfl _ _ _ rfl rfl ?_; intro r n hr0; have hr := hr0 _ _ (by first | assumption | exact Ab.lit rfl (by decide)) (by first | assumption | exact Ab.lit rfl (by decide)); clear hr0) | (refine fl_cmp rfl _ _ _ _ _ rfl rfl _ _ _ rfl rfl ?_; intro b hb0; have hb := hb0 _ _ (by first | assumption | exact Ab.lit rfl (by decide)) (by first | assumption | exact Ab.lit rfl (by decide)); clear hb0; (try simp only [*] at hb); subst hb) | (refine fl_same rfl _ _ _ rfl _ _ rfl rfl rfl ?_) | (refine fl_wide rfl _ _ _ rfl _ rfl rfl rfl ?_; intro r n hr0; have hr := hr0 _ (by first | assumption | exact Ab.lit rfl (by decide)); clear hr0) | (refine fl_narrow rfl _ _ _ rfl _ rfl rfl rfl ?_; intro r n hl hr0; have hr := hr0 _ (by first | assumption | exact Ab.lit rfl (by decide)) (by assumption); clear hr0 hl) | (refine fl_neg rfl _ _ rfl _ _ rfl ?_; intro r hr0; have hr := hr0 _ (by first | assumption | exact Ab.lit rfl (by decide)); clear hr0) | (go_at_call 74; (with_reducible_and_instances refine Calls.mono (H1 _ _ ?_) ?_); (next => assumption); rintro e w' ⟨s1, m1, rfl, h1, rfl⟩) | (go_at_call 74; (with_reducible_and_instances refine Calls.mono (H2 _ _ ?_) ?_); (next => assumption); rintro e w' ⟨s2, m2, rfl, h2, rfl⟩) | (go_at_call 49; (with_reducible_and_instances refine Calls.mono (H3 _ _ ?_) ?_); (next => assumption); rintro e w' ⟨r3, m3, rfl, h3, rfl⟩) | (go_at_call 65; (with_reducible_and_instances refine Calls.mono (spec_number hr _) ?_); rintro e w' ⟨r4, m4, rfl, h4, rfl⟩) | go_in)
      go_ret2
      exact ⟨_, _, rfl, h4, rfl⟩

set_option maxHeartbeats 4000000 in
theorem impl_Stretch (n : Nat) (N R1 R2 R3 : Option Nat) (hn : Ab .f32 n N)
    (H1 : ∀ x w, Ab .f32 x N → Calls Try.prog 31 #[.float .f32 x] w (Turns R1 w)) (H2 : ∀ x w, Ab .f32 x (opA .add .f32 N (some 1048576000)) → Calls Try.prog 31 #[.float .f32 x] w (Turns R2 w))
    (H3 : ∀ x w, Ab .f32 x (opA .quo .f32 (opA .add .f32 (some 1065353216) R1) R2) → Calls Try.prog 16 #[.float .f32 x] w (Turns R3 w)) (w : World) :
    Calls Try.prog 19 #[.float .f32 n] w (GivesIf (polesA N && finA .f32 (stretchA R3)) (stretchA R3) w) := by
  unfold polesA
  cases c1 : cmpA .gtr .f32 N (some 3196059648) <;> cases c2 : cmpA .lss .f32 N (some 1048576000)
  all_goals
    go_enter Try.func19, Try.ntmps19
    go_wp2_with (first | (refine fl_arith rfl _ _ _ _ _ rfl rfl _ _ _ rfl rfl ?_; intro r n hr0; have hr := hr0 _ _ (by first | assumption | exact Ab.lit rfl (by decide)) (by first | assumption | exact Ab.lit rfl (by decide)); clear hr0) | (refine fl_cmp rfl _ _ _ _ _ rfl rfl _ _ _ rfl rfl ?_; intro b hb0; have hb := hb0 _ _ (by first | assumption | exact Ab.lit rfl (by decide)) (by first | assumption | exact Ab.lit rfl (by decide)); clear hb0; (try simp only [*] at hb); subst hb) | (refine fl_same rfl _ _ _ rfl _ _ rfl rfl rfl ?_) | (refine fl_wide rfl _ _ _ rfl _ rfl rfl rfl ?_; intro r n hr0; have hr := hr0 _ (by first | assumption | exact Ab.lit rfl (by decide)); clear hr0) | (refine fl_narrow rfl _ _ _ rfl _ rfl rfl rfl ?_; intro r n hl hr0; have hr := hr0 _ (by first | assumption | exact Ab.lit rfl (by decide)) (by assumption); clear hr0 hl) | (refine fl_neg rfl _ _ rfl _ _ rfl ?_; intro r hr0; have hr := hr0 _ (by first | assumption | exact Ab.lit rfl (by decide)); clear hr0) | (go_at_call 31; (with_reducible_and_instances refine Calls.mono (H1 _ _ ?_) ?_); (next => assumption); rintro e w' ⟨s1, m1, rfl, h1, rfl⟩) | (go_at_call 31; (with_reducible_and_instances refine Calls.mono (H2 _ _ ?_) ?_); (next => assumption); rintro e w' ⟨s2, m2, rfl, h2, rfl⟩) | (go_at_call 16; (with_reducible_and_instances refine Calls.mono (H3 _ _ ?_) ?_); (next => assumption); rintro e w' ⟨r3, m3, rfl, h3, rfl⟩) | (go_at_call 55; refine (impl_number (X := stretchA R3) (by assumption) _ _).mono ?_; rintro e w' ⟨r4, m4, rfl, h4, rfl⟩) | go_in)
    go_ret2
    exact ⟨_, _, rfl, h4, rfl⟩

set_option maxHeartbeats 2000000 in
theorem law_StretchNorth (n : Nat) (wn : (Lit.float .f32 n).wf = true) (w : World) : Calls Try.prog 4 #[.float .f32 n] w (Told w) := by
  obtain ⟨R1, G1⟩ := sine_fun (ab .f32 n)
  obtain ⟨R2, G2⟩ := sine_fun (opA .add .f32 (ab .f32 n) (some 1048576000))
  obtain ⟨R3, G3⟩ := log_fun (opA .quo .f32 (opA .add .f32 (some 1065353216) R1) R2)
  have HS := fun w' => spec_Stretch n _ R1 R2 R3 (Ab.of_wf wn) (fun x w h => (G1 x h w).1) (fun x w h => (G2 x h w).1) (fun x w h => (G3 x h w).1) w'
  have HI := fun w' => impl_Stretch n _ R1 R2 R3 (Ab.of_wf wn) (fun x w h => (G1 x h w).2) (fun x w h => (G2 x h w).2) (fun x w h => (G3 x h w).2) w'
  clear G1 G2 G3
  generalize stretchA R3 = D at *
  generalize (polesA (ab .f32 n) && finA .f32 D) = ok at *
  have eok : (ok != ok) = false := same_bool ok
  go_enter Try.func4, Try.ntmps4
  go_wp2_with (first | (refine fl_arith rfl _ _ _ _ _ rfl rfl _ _ _ rfl rfl ?_; intro r n hr0; have hr := hr0 _ _ (by first | assumption | exact Ab.lit rfl (by decide)) (by first | assumption | exact Ab.lit rfl (by decide)); clear hr0) | (refine fl_cmp rfl _ _ _ _ _ rfl rfl _ _ _ rfl rfl ?_; intro b hb0; have hb := hb0 _ _ (by first | assumption | exact Ab.lit rfl (by decide)) (by first | assumption | exact Ab.lit rfl (by decide)); clear hb0; (try simp only [*] at hb); subst hb) | (refine fl_same rfl _ _ _ rfl _ _ rfl rfl rfl ?_) | (refine fl_wide rfl _ _ _ rfl _ rfl rfl rfl ?_; intro r n hr0; have hr := hr0 _ (by first | assumption | exact Ab.lit rfl (by decide)); clear hr0) | (refine fl_narrow rfl _ _ _ rfl _ rfl rfl rfl ?_; intro r n hl hr0; have hr := hr0 _ (by first | assumption | exact Ab.lit rfl (by decide)) (by assumption); clear hr0 hl) | (refine fl_neg rfl _ _ rfl _ _ rfl ?_; intro r hr0; have hr := hr0 _ (by first | assumption | exact Ab.lit rfl (by decide)); clear hr0) | (go_at_call 18; (with_reducible_and_instances refine Calls.mono (HS _) ?_); rintro e w' ⟨r1, m1, rfl, h1, rfl⟩) | (go_at_call 19; (with_reducible_and_instances refine Calls.mono (HI _) ?_); rintro e w' ⟨r2, m2, rfl, h2, rfl⟩) | (go_at_call 17; refine (same_float _ _ _ (by assumption) (by assumption) _).mono ?_; rintro e w' ⟨rfl, m3, rfl⟩))
  go_ret
  exact ⟨rfl, below_drewN (Below.refl _ _) _⟩

/-- An integer and whether there is one. -/
def Tens (ok : Bool) (q : Int) (w : World) (e : Ending) (w' : World) : Prop := e = .returned (.tuple #[.int .i64 q, .bool ok]) ∧ ∃ m, w' = w.drewN m

set_option maxHeartbeats 2000000 in
theorem tens_not (x : Nat) (X : Option Nat) (hx : Ab .f32 x X) (c : finA .f32 X = false ∨ cmpA .leq .f32 X (some 0) = true) (w : World) :
    Calls Try.prog 20 #[.float .f32 x] w (Tens false 0 w) ∧ Calls Try.prog 21 #[.float .f32 x] w (Tens false 0 w) := by
  have HS := fun w' => spec_finite x X hx w'
  have HI := fun w' => impl_finite x X hx w'
  cases hf : finA .f32 X <;> rw [hf] at HS HI
  · clear c
    constructor
    · go_enter Try.func20, Try.ntmps20
      go_wp2_with (first | (refine fl_arith rfl _ _ _ _ _ rfl rfl _ _ _ rfl rfl ?_; intro r n hr0; have hr := hr0 _ _ (by first | assumption | exact Ab.lit rfl (by decide)) (by first | assumption | exact Ab.lit rfl (by decide)); clear hr0) | (refine fl_cmp rfl _ _ _ _ _ rfl rfl _ _ _ rfl rfl ?_; intro b hb0; have hb := hb0 _ _ (by first | assumption | exact Ab.lit rfl (by decide)) (by first | assumption | exact Ab.lit rfl (by decide)); clear hb0; (try simp only [*] at hb); subst hb) | (refine fl_same rfl _ _ _ rfl _ _ rfl rfl rfl ?_) | (refine fl_wide rfl _ _ _ rfl _ rfl rfl rfl ?_; intro r n hr0; have hr := hr0 _ (by first | assumption | exact Ab.lit rfl (by decide)); clear hr0) | (refine fl_narrow rfl _ _ _ rfl _ rfl rfl rfl ?_; intro r n hl hr0; have hr := hr0 _ (by first | assumption | exact Ab.lit rfl (by decide)) (by assumption); clear hr0 hl) | (refine fl_neg rfl _ _ rfl _ _ rfl ?_; intro r hr0; have hr := hr0 _ (by first | assumption | exact Ab.lit rfl (by decide)); clear hr0) | (go_at_call 58; (with_reducible_and_instances refine Calls.mono (HS _) ?_); rintro e w' ⟨rfl, n1, rfl⟩))
      exact bodyPost_ret (v := .tuple #[.int .i64 0, .bool false]) (by simp [results, Try.results20, go_sem]) rfl ⟨rfl, _, rfl⟩
    · go_enter Try.func21, Try.ntmps21
      go_wp2_with (first | (refine fl_arith rfl _ _ _ _ _ rfl rfl _ _ _ rfl rfl ?_; intro r n hr0; have hr := hr0 _ _ (by first | assumption | exact Ab.lit rfl (by decide)) (by first | assumption | exact Ab.lit rfl (by decide)); clear hr0) | (refine fl_cmp rfl _ _ _ _ _ rfl rfl _ _ _ rfl rfl ?_; intro b hb0; have hb := hb0 _ _ (by first | assumption | exact Ab.lit rfl (by decide)) (by first | assumption | exact Ab.lit rfl (by decide)); clear hb0; (try simp only [*] at hb); subst hb) | (refine fl_same rfl _ _ _ rfl _ _ rfl rfl rfl ?_) | (refine fl_wide rfl _ _ _ rfl _ rfl rfl rfl ?_; intro r n hr0; have hr := hr0 _ (by first | assumption | exact Ab.lit rfl (by decide)); clear hr0) | (refine fl_narrow rfl _ _ _ rfl _ rfl rfl rfl ?_; intro r n hl hr0; have hr := hr0 _ (by first | assumption | exact Ab.lit rfl (by decide)) (by assumption); clear hr0 hl) | (refine fl_neg rfl _ _ rfl _ _ rfl ?_; intro r hr0; have hr := hr0 _ (by first | assumption | exact Ab.lit rfl (by decide)); clear hr0) | (go_at_call 52; (with_reducible_and_instances refine Calls.mono (HI _) ?_); rintro e w' ⟨rfl, n1, rfl⟩))
      exact bodyPost_ret (v := .tuple #[.int .i64 0, .bool false]) (by simp [results, Try.results21, go_sem]) rfl ⟨rfl, _, rfl⟩
  · have c' : cmpA .leq .f32 X (some 0) = true := by
      rcases c with c | c
      · rw [hf] at c; cases c
      · exact c
    clear c
    constructor
    · go_enter Try.func20, Try.ntmps20
      go_wp2_with (first | (refine fl_arith rfl _ _ _ _ _ rfl rfl _ _ _ rfl rfl ?_; intro r n hr0; have hr := hr0 _ _ (by first | assumption | exact Ab.lit rfl (by decide)) (by first | assumption | exact Ab.lit rfl (by decide)); clear hr0) | (refine fl_cmp rfl _ _ _ _ _ rfl rfl _ _ _ rfl rfl ?_; intro b hb0; have hb := hb0 _ _ (by first | assumption | exact Ab.lit rfl (by decide)) (by first | assumption | exact Ab.lit rfl (by decide)); clear hb0; (try simp only [*] at hb); subst hb) | (refine fl_same rfl _ _ _ rfl _ _ rfl rfl rfl ?_) | (refine fl_wide rfl _ _ _ rfl _ rfl rfl rfl ?_; intro r n hr0; have hr := hr0 _ (by first | assumption | exact Ab.lit rfl (by decide)); clear hr0) | (refine fl_narrow rfl _ _ _ rfl _ rfl rfl rfl ?_; intro r n hl hr0; have hr := hr0 _ (by first | assumption | exact Ab.lit rfl (by decide)) (by assumption); clear hr0 hl) | (refine fl_neg rfl _ _ rfl _ _ rfl ?_; intro r hr0; have hr := hr0 _ (by first | assumption | exact Ab.lit rfl (by decide)); clear hr0) | (go_at_call 58; (with_reducible_and_instances refine Calls.mono (HS _) ?_); rintro e w' ⟨rfl, n1, rfl⟩))
      exact bodyPost_ret (v := .tuple #[.int .i64 0, .bool false]) (by simp [results, Try.results20, go_sem]) rfl ⟨rfl, _, rfl⟩
    · go_enter Try.func21, Try.ntmps21
      go_wp2_with (first | (refine fl_arith rfl _ _ _ _ _ rfl rfl _ _ _ rfl rfl ?_; intro r n hr0; have hr := hr0 _ _ (by first | assumption | exact Ab.lit rfl (by decide)) (by first | assumption | exact Ab.lit rfl (by decide)); clear hr0) | (refine fl_cmp rfl _ _ _ _ _ rfl rfl _ _ _ rfl rfl ?_; intro b hb0; have hb := hb0 _ _ (by first | assumption | exact Ab.lit rfl (by decide)) (by first | assumption | exact Ab.lit rfl (by decide)); clear hb0; (try simp only [*] at hb); subst hb) | (refine fl_same rfl _ _ _ rfl _ _ rfl rfl rfl ?_) | (refine fl_wide rfl _ _ _ rfl _ rfl rfl rfl ?_; intro r n hr0; have hr := hr0 _ (by first | assumption | exact Ab.lit rfl (by decide)); clear hr0) | (refine fl_narrow rfl _ _ _ rfl _ rfl rfl rfl ?_; intro r n hl hr0; have hr := hr0 _ (by first | assumption | exact Ab.lit rfl (by decide)) (by assumption); clear hr0 hl) | (refine fl_neg rfl _ _ rfl _ _ rfl ?_; intro r hr0; have hr := hr0 _ (by first | assumption | exact Ab.lit rfl (by decide)); clear hr0) | (go_at_call 52; (with_reducible_and_instances refine Calls.mono (HI _) ?_); rintro e w' ⟨rfl, n1, rfl⟩))
      exact bodyPost_ret (v := .tuple #[.int .i64 0, .bool false]) (by simp [results, Try.results21, go_sem]) rfl ⟨rfl, _, rfl⟩

/-- What is greater than 0 is not 0, and not below it. -/
theorem leq_parts {X : Option Nat} (c : cmpA .leq .f32 X (some 0) = false) (hf : finA .f32 X = true) : cmpA .eql .f32 X (some 0) = false ∧ cmpA .lss .f32 X (some 0) = false := by
  cases X with
  | none => cases hf
  | some x =>
    have k : (FloatKind.f32.format.order x 0 == some .lt || FloatKind.f32.format.order x 0 == some .eq) = false := c
    show (FloatKind.f32.format.order x 0 == some .eq) = false ∧ (FloatKind.f32.format.order x 0 == some .lt) = false
    revert k
    cases FloatKind.f32.format.order x 0 with
    | none => decide
    | some o => cases o <;> decide

set_option maxHeartbeats 2000000 in
theorem tens_both (x : Nat) (X : Option Nat) (hx : Ab .f32 x X) : ∃ ok q, ∀ w, Calls Try.prog 20 #[.float .f32 x] w (Tens ok q w) ∧ Calls Try.prog 21 #[.float .f32 x] w (Tens ok q w) := by
  cases hfa : finA .f32 X with
  | false => exact ⟨false, 0, fun w => tens_not x X hx (.inl hfa) w⟩
  | true =>
    cases c : cmpA .leq .f32 X (some 0) with
    | true => exact ⟨false, 0, fun w => tens_not x X hx (.inr c) w⟩
    | false =>
      obtain ⟨c1, c2⟩ := leq_parts c hfa
      cases X with
      | none => cases hfa
      | some b =>
        obtain ⟨rfl, hn⟩ := hx.of_some
        have hf : finW .f32 x = true := by rw [← finA_some hn]; exact hfa
        obtain ⟨L, hL, HS0, HI⟩ := log_pos x hx c1 c2 hf
        obtain ⟨W, q, hW, hq⟩ := ten_int hL
        have HT : ∀ r, Ab .f64 r (integralA .down (opA .add .f64 (opA .mul .f64 L (some 4631308968768463603)) (some 4602678819172646912))) → floatToIntVal .f64 r .i64 = some q := fun r hr => by
          have hr' : Ab .f64 r (some W) := by rw [← hW]; exact hr
          have e := hr'.of_some.1
          subst e
          exact hq
        have HS : ∀ r, Ab .f64 r (wideA (some x)) → ∀ w', Calls Try.prog 87 #[.float .f64 r] w' (Turns64 L w') := fun r hr w' => by
          have e := (show Ab .f64 r (some (wideW x)) from hr).of_some.1
          subst e
          exact HS0 w'
        have HFS := fun w' => spec_finite x (some x) hx w'
        have HFI := fun w' => impl_finite x (some x) hx w'
        rw [hfa] at HFS HFI
        clear HS0 hW hq hL
        refine ⟨true, q, fun w => ⟨?_, ?_⟩⟩
        · go_enter Try.func20, Try.ntmps20
          go_wp2_with (first | (refine fl_arith rfl _ _ _ _ _ rfl rfl _ _ _ rfl rfl ?_; intro r n hr0; have hr := hr0 _ _ (by first | assumption | exact Ab.lit rfl (by decide)) (by first | assumption | exact Ab.lit rfl (by decide)); clear hr0) | (refine fl_cmp rfl _ _ _ _ _ rfl rfl _ _ _ rfl rfl ?_; intro b hb0; have hb := hb0 _ _ (by first | assumption | exact Ab.lit rfl (by decide)) (by first | assumption | exact Ab.lit rfl (by decide)); clear hb0; (try simp only [*] at hb); subst hb) | (refine fl_same rfl _ _ _ rfl _ _ rfl rfl rfl ?_) | (refine fl_wide rfl _ _ _ rfl _ rfl rfl rfl ?_; intro r n hr0; have hr := hr0 _ (by first | assumption | exact Ab.lit rfl (by decide)); clear hr0) | (refine fl_narrow rfl _ _ _ rfl _ rfl rfl rfl ?_; intro r n hl hr0; have hr := hr0 _ (by first | assumption | exact Ab.lit rfl (by decide)) (by assumption); clear hr0 hl) | (refine fl_neg rfl _ _ rfl _ _ rfl ?_; intro r hr0; have hr := hr0 _ (by first | assumption | exact Ab.lit rfl (by decide)); clear hr0) | (go_at_call 58; (with_reducible_and_instances refine Calls.mono (HFS _) ?_); rintro e w' ⟨rfl, n1, rfl⟩) | (go_at_call 87; refine Calls.mono (HS _ (by assumption) _) ?_; rintro e w' ⟨rs, ms, rfl, hs, rfl⟩) | (refine fl_toint rfl _ _ _ rfl _ _ rfl rfl _ rfl _ (HT _ (by assumption)) ?_) | (refine fl_integral rfl 91 _ _ rfl _ rfl _ _ ext_floor ?_; intro r n hr0; have hr := hr0 _ (by first | assumption | exact Ab.lit rfl (by decide)); clear hr0) | go_in)
          exact bodyPost_ret (v := .tuple #[.int .i64 q, .bool true]) (by simp [results, Try.results20, go_sem]) rfl ⟨rfl, _, rfl⟩
        · go_enter Try.func21, Try.ntmps21
          go_wp2_with (first | (refine fl_arith rfl _ _ _ _ _ rfl rfl _ _ _ rfl rfl ?_; intro r n hr0; have hr := hr0 _ _ (by first | assumption | exact Ab.lit rfl (by decide)) (by first | assumption | exact Ab.lit rfl (by decide)); clear hr0) | (refine fl_cmp rfl _ _ _ _ _ rfl rfl _ _ _ rfl rfl ?_; intro b hb0; have hb := hb0 _ _ (by first | assumption | exact Ab.lit rfl (by decide)) (by first | assumption | exact Ab.lit rfl (by decide)); clear hb0; (try simp only [*] at hb); subst hb) | (refine fl_same rfl _ _ _ rfl _ _ rfl rfl rfl ?_) | (refine fl_wide rfl _ _ _ rfl _ rfl rfl rfl ?_; intro r n hr0; have hr := hr0 _ (by first | assumption | exact Ab.lit rfl (by decide)); clear hr0) | (refine fl_narrow rfl _ _ _ rfl _ rfl rfl rfl ?_; intro r n hl hr0; have hr := hr0 _ (by first | assumption | exact Ab.lit rfl (by decide)) (by assumption); clear hr0 hl) | (refine fl_neg rfl _ _ rfl _ _ rfl ?_; intro r hr0; have hr := hr0 _ (by first | assumption | exact Ab.lit rfl (by decide)); clear hr0) | (go_at_call 52; (with_reducible_and_instances refine Calls.mono (HFI _) ?_); rintro e w' ⟨rfl, n1, rfl⟩) | (go_at_call 53; (with_reducible_and_instances refine Calls.mono (HI _) ?_); rintro e w' ⟨rs, ms, rfl, hs, rfl⟩) | (refine fl_toint rfl _ _ _ rfl _ _ rfl rfl _ rfl _ (HT _ (by assumption)) ?_) | (refine fl_integral rfl 91 _ _ rfl _ rfl _ _ ext_floor ?_; intro r n hr0; have hr := hr0 _ (by first | assumption | exact Ab.lit rfl (by decide)); clear hr0) | go_in)
          exact bodyPost_ret (v := .tuple #[.int .i64 q, .bool true]) (by simp [results, Try.results21, go_sem]) rfl ⟨rfl, _, rfl⟩

set_option maxHeartbeats 1000000 in
theorem law_TenthsOf (x : Nat) (wx : (Lit.float .f32 x).wf = true) (w : World) : Calls Try.prog 5 #[.float .f32 x] w (Told w) := by
  obtain ⟨ok, q, H⟩ := tens_both x _ (Ab.of_wf wx)
  have HS := fun w' => (H w').1
  have HI := fun w' => (H w').2
  clear H
  have eok : (ok != ok) = false := same_bool ok
  have eq1 : (q != q) = false := same_int q
  go_enter Try.func5, Try.ntmps5
  go_wp2_with (first | (refine fl_arith rfl _ _ _ _ _ rfl rfl _ _ _ rfl rfl ?_; intro r n hr0; have hr := hr0 _ _ (by first | assumption | exact Ab.lit rfl (by decide)) (by first | assumption | exact Ab.lit rfl (by decide)); clear hr0) | (refine fl_cmp rfl _ _ _ _ _ rfl rfl _ _ _ rfl rfl ?_; intro b hb0; have hb := hb0 _ _ (by first | assumption | exact Ab.lit rfl (by decide)) (by first | assumption | exact Ab.lit rfl (by decide)); clear hb0; (try simp only [*] at hb); subst hb) | (refine fl_same rfl _ _ _ rfl _ _ rfl rfl rfl ?_) | (refine fl_wide rfl _ _ _ rfl _ rfl rfl rfl ?_; intro r n hr0; have hr := hr0 _ (by first | assumption | exact Ab.lit rfl (by decide)); clear hr0) | (refine fl_narrow rfl _ _ _ rfl _ rfl rfl rfl ?_; intro r n hl hr0; have hr := hr0 _ (by first | assumption | exact Ab.lit rfl (by decide)) (by assumption); clear hr0 hl) | (refine fl_neg rfl _ _ rfl _ _ rfl ?_; intro r hr0; have hr := hr0 _ (by first | assumption | exact Ab.lit rfl (by decide)); clear hr0) | (go_at_call 20; (with_reducible_and_instances refine Calls.mono (HS _) ?_); rintro e w' ⟨rfl, m1, rfl⟩) | (go_at_call 21; (with_reducible_and_instances refine Calls.mono (HI _) ?_); rintro e w' ⟨rfl, m2, rfl⟩))
  go_ret
  exact ⟨rfl, below_drewN (Below.refl _ _) _⟩

end Go.Proofs.Ytnkogheibofboaa
