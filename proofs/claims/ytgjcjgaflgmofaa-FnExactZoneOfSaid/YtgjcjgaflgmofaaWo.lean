/- Walks: norths of a flattened ball. No conditions. -/
import Derived.Test.YtgjcjgaflgmofaaWm
import Derived.Test.YtgjcjgaflgmofaaWq
namespace Go.Proofs.Ytgjcjgaflgmofaa
open Go.RowKit
set_option maxRecDepth 8000

def GivesIf (ok : Bool) (X : Option Nat) (w : World) (e : Ending) (w' : World) : Prop :=
  ∃ r m, e = .returned (.tuple #[.float .f32 r, .bool ok]) ∧ Ab .f32 r (if ok = true then X else some 0) ∧ w' = w.drewN m
def SaysIf (ok : Bool) (X : Option Nat) (w : World) (e : Ending) (w' : World) : Prop :=
  ∃ r, e = .returned (.tuple #[.float .f32 r, .bool ok]) ∧ Ab .f32 r (if ok = true then X else some 0) ∧ Below w.heap.size w w'

section
variable {x : Nat} {X : Option Nat} (hx : Ab .f32 x X) (w : World)
include hx in
set_option maxHeartbeats 400000 in
theorem spec_number : Calls Try.prog 82 #[.float .f32 x] w (GivesIf (finA .f32 X) X w) := by
  cases h1 : finA .f32 X
  · go_enter Try.func82, Try.ntmps82
    go_wp2_with (first | (refine fl_arith rfl _ _ _ _ _ rfl rfl _ _ _ rfl rfl ?_; intro r n hr0; have hr := hr0 _ _ (by first | assumption | exact Ab.lit rfl (by decide)) (by first | assumption | exact Ab.lit rfl (by decide)); clear hr0) | (refine fl_cmp rfl _ _ _ _ _ rfl rfl _ _ _ rfl rfl ?_; intro b hb0; have hb := hb0 _ _ (by first | assumption | exact Ab.lit rfl (by decide)) (by first | assumption | exact Ab.lit rfl (by decide)); clear hb0; (try simp only [*] at hb); subst hb) | (refine fl_same rfl _ _ _ rfl _ _ rfl rfl rfl ?_) | (refine fl_wide rfl _ _ _ rfl _ rfl rfl rfl ?_; intro r n hr0; have hr := hr0 _ (by first | assumption | exact Ab.lit rfl (by decide)); clear hr0) | (refine fl_narrow rfl _ _ _ rfl _ rfl rfl rfl ?_; intro r n hl hr0; have hr := hr0 _ (by first | assumption | exact Ab.lit rfl (by decide)) (by assumption); clear hr0 hl) | (refine fl_neg rfl _ _ rfl _ _ rfl ?_; intro r hr0; have hr := hr0 _ (by first | assumption | exact Ab.lit rfl (by decide)); clear hr0) | (go_at_call 49; (with_reducible_and_instances refine Calls.mono (spec_finite _ _ hx _) ?_); rintro e w' ⟨rfl, n1, rfl⟩))
    go_ret2
    exact ⟨0, _, rfl, Ab.lit rfl (by decide), rfl⟩
  · go_enter Try.func82, Try.ntmps82
    go_wp2_with (first | (refine fl_arith rfl _ _ _ _ _ rfl rfl _ _ _ rfl rfl ?_; intro r n hr0; have hr := hr0 _ _ (by first | assumption | exact Ab.lit rfl (by decide)) (by first | assumption | exact Ab.lit rfl (by decide)); clear hr0) | (refine fl_cmp rfl _ _ _ _ _ rfl rfl _ _ _ rfl rfl ?_; intro b hb0; have hb := hb0 _ _ (by first | assumption | exact Ab.lit rfl (by decide)) (by first | assumption | exact Ab.lit rfl (by decide)); clear hb0; (try simp only [*] at hb); subst hb) | (refine fl_same rfl _ _ _ rfl _ _ rfl rfl rfl ?_) | (refine fl_wide rfl _ _ _ rfl _ rfl rfl rfl ?_; intro r n hr0; have hr := hr0 _ (by first | assumption | exact Ab.lit rfl (by decide)); clear hr0) | (refine fl_narrow rfl _ _ _ rfl _ rfl rfl rfl ?_; intro r n hl hr0; have hr := hr0 _ (by first | assumption | exact Ab.lit rfl (by decide)) (by assumption); clear hr0 hl) | (refine fl_neg rfl _ _ rfl _ _ rfl ?_; intro r hr0; have hr := hr0 _ (by first | assumption | exact Ab.lit rfl (by decide)); clear hr0) | (go_at_call 49; (with_reducible_and_instances refine Calls.mono (spec_finite _ _ hx _) ?_); rintro e w' ⟨rfl, n1, rfl⟩))
    go_ret2
    exact ⟨x, _, rfl, hx, rfl⟩

include hx in
set_option maxHeartbeats 400000 in
theorem impl_number (ok : Bool) : Calls Try.prog 68 #[.float .f32 x, .bool ok] w (GivesIf (ok && finA .f32 X) X w) := by
  cases ok <;> cases h1 : finA .f32 X
  all_goals
    go_enter Try.func68, Try.ntmps68
    go_wp2_with (first | (refine fl_arith rfl _ _ _ _ _ rfl rfl _ _ _ rfl rfl ?_; intro r n hr0; have hr := hr0 _ _ (by first | assumption | exact Ab.lit rfl (by decide)) (by first | assumption | exact Ab.lit rfl (by decide)); clear hr0) | (refine fl_cmp rfl _ _ _ _ _ rfl rfl _ _ _ rfl rfl ?_; intro b hb0; have hb := hb0 _ _ (by first | assumption | exact Ab.lit rfl (by decide)) (by first | assumption | exact Ab.lit rfl (by decide)); clear hb0; (try simp only [*] at hb); subst hb) | (refine fl_same rfl _ _ _ rfl _ _ rfl rfl rfl ?_) | (refine fl_wide rfl _ _ _ rfl _ rfl rfl rfl ?_; intro r n hr0; have hr := hr0 _ (by first | assumption | exact Ab.lit rfl (by decide)); clear hr0) | (refine fl_narrow rfl _ _ _ rfl _ rfl rfl rfl ?_; intro r n hl hr0; have hr := hr0 _ (by first | assumption | exact Ab.lit rfl (by decide)) (by assumption); clear hr0 hl) | (refine fl_neg rfl _ _ rfl _ _ rfl ?_; intro r hr0; have hr := hr0 _ (by first | assumption | exact Ab.lit rfl (by decide)); clear hr0) | (go_at_call 51; (with_reducible_and_instances refine Calls.mono (impl_finite _ _ hx _) ?_); rintro e w' ⟨rfl, n1, rfl⟩))
    go_ret2
  · exact ⟨0, 0, rfl, Ab.lit rfl (by decide), rfl⟩
  · exact ⟨0, 0, rfl, Ab.lit rfl (by decide), rfl⟩
  · exact ⟨0, _, rfl, Ab.lit rfl (by decide), rfl⟩
  · exact ⟨x, _, rfl, hx, rfl⟩

end

def flatOk (N F : Option Nat) : Bool := cmpA .geq .f32 N (some 3196059648) && cmpA .leq .f32 N (some 1048576000) && cmpA .geq .f32 F (some 0) && cmpA .leq .f32 F (some 1056964608)
def heartA (F : Option Nat) : Option Nat := opA .mul .f32 (opA .sub .f32 (some 1065353216) F) (opA .sub .f32 (some 1065353216) F)

set_option maxHeartbeats 2000000 in
theorem spec_flat (n f : Nat) (N F : Option Nat) (hn : Ab .f32 n N) (hf : Ab .f32 f F) (w : World) : Calls Try.prog 79 #[.float .f32 n, .float .f32 f] w (Draws (.bool (flatOk N F)) w) := by
  unfold flatOk
  cases c1 : cmpA .geq .f32 N (some 3196059648) <;> cases c2 : cmpA .leq .f32 N (some 1048576000) <;> cases c3 : cmpA .geq .f32 F (some 0) <;> cases c4 : cmpA .leq .f32 F (some 1056964608)
  all_goals
    go_enter Try.func79, Try.ntmps79
    go_wp2_with (first | (refine fl_arith rfl _ _ _ _ _ rfl rfl _ _ _ rfl rfl ?_; intro r n hr0; have hr := hr0 _ _ (by first | assumption | exact Ab.lit rfl (by decide)) (by first | assumption | exact Ab.lit rfl (by decide)); clear hr0) | (refine fl_cmp rfl _ _ _ _ _ rfl rfl _ _ _ rfl rfl ?_; intro b hb0; have hb := hb0 _ _ (by first | assumption | exact Ab.lit rfl (by decide)) (by first | assumption | exact Ab.lit rfl (by decide)); clear hb0; (try simp only [*] at hb); subst hb) | (refine fl_same rfl _ _ _ rfl _ _ rfl rfl rfl ?_) | (refine fl_wide rfl _ _ _ rfl _ rfl rfl rfl ?_; intro r n hr0; have hr := hr0 _ (by first | assumption | exact Ab.lit rfl (by decide)); clear hr0) | (refine fl_narrow rfl _ _ _ rfl _ rfl rfl rfl ?_; intro r n hl hr0; have hr := hr0 _ (by first | assumption | exact Ab.lit rfl (by decide)) (by assumption); clear hr0 hl) | (refine fl_neg rfl _ _ rfl _ _ rfl ?_; intro r hr0; have hr := hr0 _ (by first | assumption | exact Ab.lit rfl (by decide)); clear hr0) | go_in)
    go_ret
    exact ⟨rfl, 0, rfl⟩

set_option maxHeartbeats 2000000 in
theorem impl_flat (n f : Nat) (N F : Option Nat) (hn : Ab .f32 n N) (hf : Ab .f32 f F) (w : World) : Calls Try.prog 83 #[.float .f32 n, .float .f32 f] w (Draws (.bool (flatOk N F)) w) := by
  unfold flatOk
  cases c1 : cmpA .geq .f32 N (some 3196059648) <;> cases c2 : cmpA .leq .f32 N (some 1048576000) <;> cases c3 : cmpA .geq .f32 F (some 0) <;> cases c4 : cmpA .leq .f32 F (some 1056964608)
  all_goals
    go_enter Try.func83, Try.ntmps83
    go_wp2_with (first | (refine fl_arith rfl _ _ _ _ _ rfl rfl _ _ _ rfl rfl ?_; intro r n hr0; have hr := hr0 _ _ (by first | assumption | exact Ab.lit rfl (by decide)) (by first | assumption | exact Ab.lit rfl (by decide)); clear hr0) | (refine fl_cmp rfl _ _ _ _ _ rfl rfl _ _ _ rfl rfl ?_; intro b hb0; have hb := hb0 _ _ (by first | assumption | exact Ab.lit rfl (by decide)) (by first | assumption | exact Ab.lit rfl (by decide)); clear hb0; (try simp only [*] at hb); subst hb) | (refine fl_same rfl _ _ _ rfl _ _ rfl rfl rfl ?_) | (refine fl_wide rfl _ _ _ rfl _ rfl rfl rfl ?_; intro r n hr0; have hr := hr0 _ (by first | assumption | exact Ab.lit rfl (by decide)); clear hr0) | (refine fl_narrow rfl _ _ _ rfl _ rfl rfl rfl ?_; intro r n hl hr0; have hr := hr0 _ (by first | assumption | exact Ab.lit rfl (by decide)) (by assumption); clear hr0 hl) | (refine fl_neg rfl _ _ rfl _ _ rfl ?_; intro r hr0; have hr := hr0 _ (by first | assumption | exact Ab.lit rfl (by decide)); clear hr0) | go_in)
    go_ret
    exact ⟨rfl, 0, rfl⟩

/-- The angle of FlatNorth, out of the sines. -/
def angFlat (F R1 R2 : Option Nat) : Option Nat := angleA (opA .mul .f32 (heartA F) R1) (R2)

set_option maxHeartbeats 4000000 in
theorem spec_FlatNorth (n f : Nat) (N F R1 R2 : Option Nat) (hn : Ab .f32 n N) (hf : Ab .f32 f F)
    (H1 : ∀ x w, Ab .f32 x N → Calls Try.prog 59 #[.float .f32 x] w (Turns R1 w)) (H2 : ∀ x w, Ab .f32 x (opA .add .f32 N (some 1048576000)) → Calls Try.prog 59 #[.float .f32 x] w (Turns R2 w)) (w : World) :
    Calls Try.prog 43 #[.float .f32 n, .float .f32 f] w (GivesIf (flatOk N F && finA .f32 (angFlat F R1 R2)) (angFlat F R1 R2) w) := by
  have HA := fun y x w' hy hx => spec_angle y x (opA .mul .f32 (heartA F) R1) (R2) hy hx w'
  have HFL := fun w' => spec_flat n f N F hn hf w'
  unfold angFlat
  cases c : flatOk N F
  · rw [c] at HFL
    go_enter Try.func43, Try.ntmps43
    go_wp2_with (first | (refine fl_arith rfl _ _ _ _ _ rfl rfl _ _ _ rfl rfl ?_; intro r n hr0; have hr := hr0 _ _ (by first | assumption | exact Ab.lit rfl (by decide)) (by first | assumption | exact Ab.lit rfl (by decide)); clear hr0) | (refine fl_cmp rfl _ _ _ _ _ rfl rfl _ _ _ rfl rfl ?_; intro b hb0; have hb := hb0 _ _ (by first | assumption | exact Ab.lit rfl (by decide)) (by first | assumption | exact Ab.lit rfl (by decide)); clear hb0; (try simp only [*] at hb); subst hb) | (refine fl_same rfl _ _ _ rfl _ _ rfl rfl rfl ?_) | (refine fl_wide rfl _ _ _ rfl _ rfl rfl rfl ?_; intro r n hr0; have hr := hr0 _ (by first | assumption | exact Ab.lit rfl (by decide)); clear hr0) | (refine fl_narrow rfl _ _ _ rfl _ rfl rfl rfl ?_; intro r n hl hr0; have hr := hr0 _ (by first | assumption | exact Ab.lit rfl (by decide)) (by assumption); clear hr0 hl) | (refine fl_neg rfl _ _ rfl _ _ rfl ?_; intro r hr0; have hr := hr0 _ (by first | assumption | exact Ab.lit rfl (by decide)); clear hr0) | (go_at_call 79; (with_reducible_and_instances refine Calls.mono (HFL _) ?_); rintro e w' ⟨rfl, m0, rfl⟩))
    go_ret2
    exact ⟨0, _, rfl, Ab.lit rfl (by decide), rfl⟩
  · rw [c] at HFL
    go_enter Try.func43, Try.ntmps43
    go_wp2_with (first | (refine fl_arith rfl _ _ _ _ _ rfl rfl _ _ _ rfl rfl ?_; intro r n hr0; have hr := hr0 _ _ (by first | assumption | exact Ab.lit rfl (by decide)) (by first | assumption | exact Ab.lit rfl (by decide)); clear hr0) | (refine fl_cmp rfl _ _ _ _ _ rfl rfl _ _ _ rfl rfl ?_; intro b hb0; have hb := hb0 _ _ (by first | assumption | exact Ab.lit rfl (by decide)) (by first | assumption | exact Ab.lit rfl (by decide)); clear hb0; (try simp only [*] at hb); subst hb) | (refine fl_same rfl _ _ _ rfl _ _ rfl rfl rfl ?_) | (refine fl_wide rfl _ _ _ rfl _ rfl rfl rfl ?_; intro r n hr0; have hr := hr0 _ (by first | assumption | exact Ab.lit rfl (by decide)); clear hr0) | (refine fl_narrow rfl _ _ _ rfl _ rfl rfl rfl ?_; intro r n hl hr0; have hr := hr0 _ (by first | assumption | exact Ab.lit rfl (by decide)) (by assumption); clear hr0 hl) | (refine fl_neg rfl _ _ rfl _ _ rfl ?_; intro r hr0; have hr := hr0 _ (by first | assumption | exact Ab.lit rfl (by decide)); clear hr0) | (go_at_call 79; (with_reducible_and_instances refine Calls.mono (HFL _) ?_); rintro e w' ⟨rfl, m0, rfl⟩) | (go_at_call 59; (with_reducible_and_instances refine Calls.mono (H1 _ _ ?_) ?_); (next => assumption); rintro e w' ⟨s1, m1, rfl, h1, rfl⟩) | (go_at_call 59; (with_reducible_and_instances refine Calls.mono (H2 _ _ ?_) ?_); (next => assumption); rintro e w' ⟨s2, m2, rfl, h2, rfl⟩) | (go_at_call 54; (with_reducible_and_instances refine Calls.mono (HA _ _ _ ?_ ?_) ?_); (next => assumption); (next => assumption); rintro e w' ⟨r3, m3, rfl, h3, rfl⟩) | (go_at_call 82; (with_reducible_and_instances refine Calls.mono (spec_number h3 _) ?_); rintro e w' ⟨r4, m4, rfl, h4, rfl⟩) | go_in)
    go_ret2
    exact ⟨_, _, rfl, h4, rfl⟩

set_option maxHeartbeats 4000000 in
theorem impl_FlatNorth (n f : Nat) (N F R1 R2 : Option Nat) (hn : Ab .f32 n N) (hf : Ab .f32 f F)
    (H1 : ∀ x w, Ab .f32 x N → Calls Try.prog 21 #[.float .f32 x] w (Turns R1 w)) (H2 : ∀ x w, Ab .f32 x (opA .add .f32 N (some 1048576000)) → Calls Try.prog 21 #[.float .f32 x] w (Turns R2 w)) (w : World) :
    Calls Try.prog 44 #[.float .f32 n, .float .f32 f] w (SaysIf (flatOk N F && finA .f32 (angFlat F R1 R2)) (angFlat F R1 R2) w) := by
  have HA := fun y x w' hy hx => impl_AngleTurns y x (opA .mul .f32 (heartA F) R1) (R2) hy hx w'
  have HFL := fun w' => impl_flat n f N F hn hf w'
  unfold angFlat
  go_enter Try.func44, Try.ntmps44
  go_wp2_with (first | (refine fl_arith rfl _ _ _ _ _ rfl rfl _ _ _ rfl rfl ?_; intro r n hr0; have hr := hr0 _ _ (by first | assumption | exact Ab.lit rfl (by decide)) (by first | assumption | exact Ab.lit rfl (by decide)); clear hr0) | (refine fl_cmp rfl _ _ _ _ _ rfl rfl _ _ _ rfl rfl ?_; intro b hb0; have hb := hb0 _ _ (by first | assumption | exact Ab.lit rfl (by decide)) (by first | assumption | exact Ab.lit rfl (by decide)); clear hb0; (try simp only [*] at hb); subst hb) | (refine fl_same rfl _ _ _ rfl _ _ rfl rfl rfl ?_) | (refine fl_wide rfl _ _ _ rfl _ rfl rfl rfl ?_; intro r n hr0; have hr := hr0 _ (by first | assumption | exact Ab.lit rfl (by decide)); clear hr0) | (refine fl_narrow rfl _ _ _ rfl _ rfl rfl rfl ?_; intro r n hl hr0; have hr := hr0 _ (by first | assumption | exact Ab.lit rfl (by decide)) (by assumption); clear hr0 hl) | (refine fl_neg rfl _ _ rfl _ _ rfl ?_; intro r hr0; have hr := hr0 _ (by first | assumption | exact Ab.lit rfl (by decide)); clear hr0) | (go_at_call 83; (with_reducible_and_instances refine Calls.mono (HFL _) ?_); rintro e w' ⟨rfl, m0, rfl⟩) | (go_at_call 21; (with_reducible_and_instances refine Calls.mono (H1 _ _ ?_) ?_); (next => assumption); rintro e w' ⟨s1, m1, rfl, h1, rfl⟩) | (go_at_call 21; (with_reducible_and_instances refine Calls.mono (H2 _ _ ?_) ?_); (next => assumption); rintro e w' ⟨s2, m2, rfl, h2, rfl⟩) | (go_at_call 18; (with_reducible_and_instances refine Calls.mono (HA _ _ _ ?_ ?_) ?_); (next => assumption); (next => assumption); rintro e w' ⟨r3, rfl, h3, B3⟩) | (go_at_call 68; (with_reducible_and_instances refine Calls.mono (impl_number h3 _ _) ?_); rintro e w' ⟨r4, m4, rfl, h4, rfl⟩) | go_in)
  go_ret2
  exact ⟨_, rfl, h4, below_drewN ((below_drewN (Below.refl _ _) _).trans B3) _⟩

set_option maxHeartbeats 2000000 in
theorem law_FlatNorth (n f : Nat) (wn : (Lit.float .f32 n).wf = true) (wf : (Lit.float .f32 f).wf = true) (w : World) : Calls Try.prog 13 #[.float .f32 n, .float .f32 f] w (Told w) := by
  obtain ⟨R1, G1⟩ := sine_fun (ab .f32 n)
  obtain ⟨R2, G2⟩ := sine_fun (opA .add .f32 (ab .f32 n) (some 1048576000))
  have HS := fun w' => spec_FlatNorth n f _ _ R1 R2 (Ab.of_wf wn) (Ab.of_wf wf) (fun x w h => (G1 x h w).1) (fun x w h => (G2 x h w).1) w'
  have HI := fun w' => impl_FlatNorth n f _ _ R1 R2 (Ab.of_wf wn) (Ab.of_wf wf) (fun x w h => (G1 x h w).2) (fun x w h => (G2 x h w).2) w'
  clear G1 G2
  generalize angFlat (ab .f32 f) R1 R2 = D at *
  generalize (flatOk (ab .f32 n) (ab .f32 f) && finA .f32 D) = ok at *
  have eok : (ok != ok) = false := same_bool ok
  go_enter Try.func13, Try.ntmps13
  go_wp2_with (first | (refine fl_arith rfl _ _ _ _ _ rfl rfl _ _ _ rfl rfl ?_; intro r n hr0; have hr := hr0 _ _ (by first | assumption | exact Ab.lit rfl (by decide)) (by first | assumption | exact Ab.lit rfl (by decide)); clear hr0) | (refine fl_cmp rfl _ _ _ _ _ rfl rfl _ _ _ rfl rfl ?_; intro b hb0; have hb := hb0 _ _ (by first | assumption | exact Ab.lit rfl (by decide)) (by first | assumption | exact Ab.lit rfl (by decide)); clear hb0; (try simp only [*] at hb); subst hb) | (refine fl_same rfl _ _ _ rfl _ _ rfl rfl rfl ?_) | (refine fl_wide rfl _ _ _ rfl _ rfl rfl rfl ?_; intro r n hr0; have hr := hr0 _ (by first | assumption | exact Ab.lit rfl (by decide)); clear hr0) | (refine fl_narrow rfl _ _ _ rfl _ rfl rfl rfl ?_; intro r n hl hr0; have hr := hr0 _ (by first | assumption | exact Ab.lit rfl (by decide)) (by assumption); clear hr0 hl) | (refine fl_neg rfl _ _ rfl _ _ rfl ?_; intro r hr0; have hr := hr0 _ (by first | assumption | exact Ab.lit rfl (by decide)); clear hr0) | (go_at_call 43; (with_reducible_and_instances refine Calls.mono (HS _) ?_); rintro e w' ⟨r1, m1, rfl, h1, rfl⟩) | (go_at_call 44; (with_reducible_and_instances refine Calls.mono (HI _) ?_); rintro e w' ⟨r2, rfl, h2, B⟩) | (go_at_call 19; refine (same_float _ _ _ (by assumption) (by assumption) _).mono ?_; rintro e w' ⟨rfl, m3, rfl⟩))
  go_ret
  exact ⟨rfl, below_drewN ((below_drewN (Below.refl _ _) _).trans B) _⟩

/-- The angle of BackNorth, out of the sines. -/
def angBack (F R1 R2 : Option Nat) : Option Nat := angleA (R1) (opA .mul .f32 (heartA F) R2)

set_option maxHeartbeats 4000000 in
theorem spec_BackNorth (n f : Nat) (N F R1 R2 : Option Nat) (hn : Ab .f32 n N) (hf : Ab .f32 f F)
    (H1 : ∀ x w, Ab .f32 x N → Calls Try.prog 59 #[.float .f32 x] w (Turns R1 w)) (H2 : ∀ x w, Ab .f32 x (opA .add .f32 N (some 1048576000)) → Calls Try.prog 59 #[.float .f32 x] w (Turns R2 w)) (w : World) :
    Calls Try.prog 41 #[.float .f32 n, .float .f32 f] w (GivesIf (flatOk N F && finA .f32 (angBack F R1 R2)) (angBack F R1 R2) w) := by
  have HA := fun y x w' hy hx => spec_angle y x (R1) (opA .mul .f32 (heartA F) R2) hy hx w'
  have HFL := fun w' => spec_flat n f N F hn hf w'
  unfold angBack
  cases c : flatOk N F
  · rw [c] at HFL
    go_enter Try.func41, Try.ntmps41
    go_wp2_with (first | (refine fl_arith rfl _ _ _ _ _ rfl rfl _ _ _ rfl rfl ?_; intro r n hr0; have hr := hr0 _ _ (by first | assumption | exact Ab.lit rfl (by decide)) (by first | assumption | exact Ab.lit rfl (by decide)); clear hr0) | (refine fl_cmp rfl _ _ _ _ _ rfl rfl _ _ _ rfl rfl ?_; intro b hb0; have hb := hb0 _ _ (by first | assumption | exact Ab.lit rfl (by decide)) (by first | assumption | exact Ab.lit rfl (by decide)); clear hb0; (try simp only [*] at hb); subst hb) | (refine fl_same rfl _ _ _ rfl _ _ rfl rfl rfl ?_) | (refine fl_wide rfl _ _ _ rfl _ rfl rfl rfl ?_; intro r n hr0; have hr := hr0 _ (by first | assumption | exact Ab.lit rfl (by decide)); clear hr0) | (refine fl_narrow rfl _ _ _ rfl _ rfl rfl rfl ?_; intro r n hl hr0; have hr := hr0 _ (by first | assumption | exact Ab.lit rfl (by decide)) (by assumption); clear hr0 hl) | (refine fl_neg rfl _ _ rfl _ _ rfl ?_; intro r hr0; have hr := hr0 _ (by first | assumption | exact Ab.lit rfl (by decide)); clear hr0) | (go_at_call 79; (with_reducible_and_instances refine Calls.mono (HFL _) ?_); rintro e w' ⟨rfl, m0, rfl⟩))
    go_ret2
    exact ⟨0, _, rfl, Ab.lit rfl (by decide), rfl⟩
  · rw [c] at HFL
    go_enter Try.func41, Try.ntmps41
    go_wp2_with (first | (refine fl_arith rfl _ _ _ _ _ rfl rfl _ _ _ rfl rfl ?_; intro r n hr0; have hr := hr0 _ _ (by first | assumption | exact Ab.lit rfl (by decide)) (by first | assumption | exact Ab.lit rfl (by decide)); clear hr0) | (refine fl_cmp rfl _ _ _ _ _ rfl rfl _ _ _ rfl rfl ?_; intro b hb0; have hb := hb0 _ _ (by first | assumption | exact Ab.lit rfl (by decide)) (by first | assumption | exact Ab.lit rfl (by decide)); clear hb0; (try simp only [*] at hb); subst hb) | (refine fl_same rfl _ _ _ rfl _ _ rfl rfl rfl ?_) | (refine fl_wide rfl _ _ _ rfl _ rfl rfl rfl ?_; intro r n hr0; have hr := hr0 _ (by first | assumption | exact Ab.lit rfl (by decide)); clear hr0) | (refine fl_narrow rfl _ _ _ rfl _ rfl rfl rfl ?_; intro r n hl hr0; have hr := hr0 _ (by first | assumption | exact Ab.lit rfl (by decide)) (by assumption); clear hr0 hl) | (refine fl_neg rfl _ _ rfl _ _ rfl ?_; intro r hr0; have hr := hr0 _ (by first | assumption | exact Ab.lit rfl (by decide)); clear hr0) | (go_at_call 79; (with_reducible_and_instances refine Calls.mono (HFL _) ?_); rintro e w' ⟨rfl, m0, rfl⟩) | (go_at_call 59; (with_reducible_and_instances refine Calls.mono (H1 _ _ ?_) ?_); (next => assumption); rintro e w' ⟨s1, m1, rfl, h1, rfl⟩) | (go_at_call 59; (with_reducible_and_instances refine Calls.mono (H2 _ _ ?_) ?_); (next => assumption); rintro e w' ⟨s2, m2, rfl, h2, rfl⟩) | (go_at_call 54; (with_reducible_and_instances refine Calls.mono (HA _ _ _ ?_ ?_) ?_); (next => assumption); (next => assumption); rintro e w' ⟨r3, m3, rfl, h3, rfl⟩) | (go_at_call 82; (with_reducible_and_instances refine Calls.mono (spec_number h3 _) ?_); rintro e w' ⟨r4, m4, rfl, h4, rfl⟩) | go_in)
    go_ret2
    exact ⟨_, _, rfl, h4, rfl⟩

set_option maxHeartbeats 4000000 in
theorem impl_BackNorth (n f : Nat) (N F R1 R2 : Option Nat) (hn : Ab .f32 n N) (hf : Ab .f32 f F)
    (H1 : ∀ x w, Ab .f32 x N → Calls Try.prog 21 #[.float .f32 x] w (Turns R1 w)) (H2 : ∀ x w, Ab .f32 x (opA .add .f32 N (some 1048576000)) → Calls Try.prog 21 #[.float .f32 x] w (Turns R2 w)) (w : World) :
    Calls Try.prog 42 #[.float .f32 n, .float .f32 f] w (SaysIf (flatOk N F && finA .f32 (angBack F R1 R2)) (angBack F R1 R2) w) := by
  have HA := fun y x w' hy hx => impl_AngleTurns y x (R1) (opA .mul .f32 (heartA F) R2) hy hx w'
  have HFL := fun w' => impl_flat n f N F hn hf w'
  unfold angBack
  go_enter Try.func42, Try.ntmps42
  go_wp2_with (first | (refine fl_arith rfl _ _ _ _ _ rfl rfl _ _ _ rfl rfl ?_; intro r n hr0; have hr := hr0 _ _ (by first | assumption | exact Ab.lit rfl (by decide)) (by first | assumption | exact Ab.lit rfl (by decide)); clear hr0) | (refine fl_cmp rfl _ _ _ _ _ rfl rfl _ _ _ rfl rfl ?_; intro b hb0; have hb := hb0 _ _ (by first | assumption | exact Ab.lit rfl (by decide)) (by first | assumption | exact Ab.lit rfl (by decide)); clear hb0; (try simp only [*] at hb); subst hb) | (refine fl_same rfl _ _ _ rfl _ _ rfl rfl rfl ?_) | (refine fl_wide rfl _ _ _ rfl _ rfl rfl rfl ?_; intro r n hr0; have hr := hr0 _ (by first | assumption | exact Ab.lit rfl (by decide)); clear hr0) | (refine fl_narrow rfl _ _ _ rfl _ rfl rfl rfl ?_; intro r n hl hr0; have hr := hr0 _ (by first | assumption | exact Ab.lit rfl (by decide)) (by assumption); clear hr0 hl) | (refine fl_neg rfl _ _ rfl _ _ rfl ?_; intro r hr0; have hr := hr0 _ (by first | assumption | exact Ab.lit rfl (by decide)); clear hr0) | (go_at_call 83; (with_reducible_and_instances refine Calls.mono (HFL _) ?_); rintro e w' ⟨rfl, m0, rfl⟩) | (go_at_call 21; (with_reducible_and_instances refine Calls.mono (H1 _ _ ?_) ?_); (next => assumption); rintro e w' ⟨s1, m1, rfl, h1, rfl⟩) | (go_at_call 21; (with_reducible_and_instances refine Calls.mono (H2 _ _ ?_) ?_); (next => assumption); rintro e w' ⟨s2, m2, rfl, h2, rfl⟩) | (go_at_call 18; (with_reducible_and_instances refine Calls.mono (HA _ _ _ ?_ ?_) ?_); (next => assumption); (next => assumption); rintro e w' ⟨r3, rfl, h3, B3⟩) | (go_at_call 68; (with_reducible_and_instances refine Calls.mono (impl_number h3 _ _) ?_); rintro e w' ⟨r4, m4, rfl, h4, rfl⟩) | go_in)
  go_ret2
  exact ⟨_, rfl, h4, below_drewN ((below_drewN (Below.refl _ _) _).trans B3) _⟩

set_option maxHeartbeats 2000000 in
theorem law_BackNorth (n f : Nat) (wn : (Lit.float .f32 n).wf = true) (wf : (Lit.float .f32 f).wf = true) (w : World) : Calls Try.prog 12 #[.float .f32 n, .float .f32 f] w (Told w) := by
  obtain ⟨R1, G1⟩ := sine_fun (ab .f32 n)
  obtain ⟨R2, G2⟩ := sine_fun (opA .add .f32 (ab .f32 n) (some 1048576000))
  have HS := fun w' => spec_BackNorth n f _ _ R1 R2 (Ab.of_wf wn) (Ab.of_wf wf) (fun x w h => (G1 x h w).1) (fun x w h => (G2 x h w).1) w'
  have HI := fun w' => impl_BackNorth n f _ _ R1 R2 (Ab.of_wf wn) (Ab.of_wf wf) (fun x w h => (G1 x h w).2) (fun x w h => (G2 x h w).2) w'
  clear G1 G2
  generalize angBack (ab .f32 f) R1 R2 = D at *
  generalize (flatOk (ab .f32 n) (ab .f32 f) && finA .f32 D) = ok at *
  have eok : (ok != ok) = false := same_bool ok
  go_enter Try.func12, Try.ntmps12
  go_wp2_with (first | (refine fl_arith rfl _ _ _ _ _ rfl rfl _ _ _ rfl rfl ?_; intro r n hr0; have hr := hr0 _ _ (by first | assumption | exact Ab.lit rfl (by decide)) (by first | assumption | exact Ab.lit rfl (by decide)); clear hr0) | (refine fl_cmp rfl _ _ _ _ _ rfl rfl _ _ _ rfl rfl ?_; intro b hb0; have hb := hb0 _ _ (by first | assumption | exact Ab.lit rfl (by decide)) (by first | assumption | exact Ab.lit rfl (by decide)); clear hb0; (try simp only [*] at hb); subst hb) | (refine fl_same rfl _ _ _ rfl _ _ rfl rfl rfl ?_) | (refine fl_wide rfl _ _ _ rfl _ rfl rfl rfl ?_; intro r n hr0; have hr := hr0 _ (by first | assumption | exact Ab.lit rfl (by decide)); clear hr0) | (refine fl_narrow rfl _ _ _ rfl _ rfl rfl rfl ?_; intro r n hl hr0; have hr := hr0 _ (by first | assumption | exact Ab.lit rfl (by decide)) (by assumption); clear hr0 hl) | (refine fl_neg rfl _ _ rfl _ _ rfl ?_; intro r hr0; have hr := hr0 _ (by first | assumption | exact Ab.lit rfl (by decide)); clear hr0) | (go_at_call 41; (with_reducible_and_instances refine Calls.mono (HS _) ?_); rintro e w' ⟨r1, m1, rfl, h1, rfl⟩) | (go_at_call 42; (with_reducible_and_instances refine Calls.mono (HI _) ?_); rintro e w' ⟨r2, rfl, h2, B⟩) | (go_at_call 19; refine (same_float _ _ _ (by assumption) (by assumption) _).mono ?_; rintro e w' ⟨rfl, m3, rfl⟩))
  go_ret
  exact ⟨rfl, below_drewN ((below_drewN (Below.refl _ _) _).trans B) _⟩

end Go.Proofs.Ytgjcjgaflgmofaa
