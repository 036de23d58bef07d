/- Walks: the law of DotNumbers. No conditions. -/
import Derived.Test.YtgdhjfdmgjidkaaWh
namespace Go.Proofs.Ytgdhjfdmgjidkaa
open Go.RowKit Go.ChangeShapes

theorem law_DotNumbers_many (v u : Option Addr) (n n2 cap cap2 : Nat) (hn : 1048576 < n) (w : World) :
    Calls Try.prog 10 #[.slice v n cap, .slice u n2 cap2] w (Told w) := by
  go_enter Try.func10, Try.ntmps10
  go_wp2
  go_ret
  exact ⟨rfl, Below.refl _ _⟩

theorem law_DotNumbers_many2 (v u : Option Addr) (n n2 cap cap2 : Nat) (hn : n ≤ 1048576) (hn2 : 1048576 < n2) (w : World) :
    Calls Try.prog 10 #[.slice v n cap, .slice u n2 cap2] w (Told w) := by
  go_enter Try.func10, Try.ntmps10
  go_wp2
  go_ret
  exact ⟨rfl, Below.refl _ _⟩

set_option maxRecDepth 8000 in
set_option maxHeartbeats 4000000 in
theorem law_DotNumbers_few (a : Option Addr) (n cap : Nat) (xs : Nat → Nat) (b : Option Addr) (n2 cap2 : Nat) (ys : Nat → Nat) (wx : ∀ i, i < n → (Lit.float .f32 (xs i)).wf = true) (wy : ∀ i, i < n2 → (Lit.float .f32 (ys i)).wf = true) (w : World)
    (hL : Leads w (.slice a n cap) n fun i => .float .f32 (xs i)) (hL2 : Leads w (.slice b n2 cap2) n2 fun i => .float .f32 (ys i)) (hn : n ≤ 1048576) (hn2 : n2 ≤ 1048576) :
    Calls Try.prog 10 #[.slice a n cap, .slice b n2 cap2] w (Told w) := by
  have hx : ∀ i, i < n → Ab .f32 (xs i) (ab .f32 (xs i)) := fun i hi => Ab.of_wf (wx i hi)
  have hy : ∀ i, i < n2 → Ab .f32 (ys i) (ab .f32 (ys i)) := fun i hi => Ab.of_wf (wy i hi)
  clear wx wy
  generalize hZ : (fun i => ab .f32 (xs i)) = Z
  generalize hY : (fun i => ab .f32 (ys i)) = Y
  have hx' : ∀ i, i < n → Ab .f32 (xs i) (Z i) := by subst hZ; exact hx
  have hy' : ∀ i, i < n2 → Ab .f32 (ys i) (Y i) := by subst hY; exact hy
  clear hZ hx hY hy
  have HS := fun b c w' hb' hc' => spec_DotNumbers n n2 hn hn2 xs ys Z Y hx' hy' b c n n2 w' hb' hc'
  have HI := fun b c w' hb' hc' => impl_DotNumbers n n2 hn hn2 xs ys Z Y hx' hy' b c n n2 w' hb' hc'
  have HE := fun b c w' hb' hc' => eq_f32 n hn xs xs Z hx' hx' b c n n w' hb' hc'
  have HE2 := fun b c w' hb' hc' => eq_f32 n2 hn2 ys ys Y hy' hy' b c n2 n2 w' hb' hc'
  have HK := fun w' h' => copy_f32 (.slice a n cap) n hn xs w' h'
  have HK2 := fun w' h' => copy_f32 (.slice b n2 cap2) n2 hn2 ys w' h'
  have HL := Lib.hid hL
  have HL2 := Lib.hid hL2
  generalize hok : decide (n ≤ 256 ∧ n = n2) = ok at HS HI
  have eok : (ok != ok) = false := same_bool ok
  clear hL hL2 hx' hy' hok
  go_enter Try.func10, Try.ntmps10
  go_wp2_with (first | (refine fl_arith rfl _ _ _ _ _ rfl rfl _ _ _ rfl rfl ?_; intro r n hr0; have hr := hr0 _ _ (by first | assumption | exact Ab.lit rfl (by decide)) (by first | assumption | exact Ab.lit rfl (by decide)); clear hr0) | (refine fl_cmp rfl _ _ _ _ _ rfl rfl _ _ _ rfl rfl ?_; intro b hb0; have hb := hb0 _ _ (by first | assumption | exact Ab.lit rfl (by decide)) (by first | assumption | exact Ab.lit rfl (by decide)); clear hb0; (try simp only [*] at hb); subst hb) | (refine fl_same rfl _ _ _ rfl _ _ rfl rfl rfl ?_) | (refine fl_wide rfl _ _ _ rfl _ rfl rfl rfl ?_; intro r n hr0; have hr := hr0 _ (by first | assumption | exact Ab.lit rfl (by decide)); clear hr0) | (refine fl_narrow rfl _ _ _ rfl _ rfl rfl rfl ?_; intro r n hl hr0; have hr := hr0 _ (by first | assumption | exact Ab.lit rfl (by decide)) (by assumption); clear hr0 hl) | (refine fl_neg rfl _ _ rfl _ _ rfl ?_; intro r hr0; have hr := hr0 _ (by first | assumption | exact Ab.lit rfl (by decide)); clear hr0) | (go_at_call 34; (with_reducible_and_instances refine Calls.mono (HK w ?_) ?_); (next => exact HL.out); rintro e w' ⟨rfl, M1, B1⟩) | (go_at_call 34; (with_reducible_and_instances refine Calls.mono (HK2 _ ?_) ?_); (next => (with_reducible exact HL2.out.kept B1)); rintro e w' ⟨rfl, M2, B2⟩; have B12 := B1.trans (B2.mono B1.size); have M1' := M1.kept B2 M1.lt) | (go_at_call 33; (with_reducible_and_instances refine Calls.mono (HS _ _ _ ?_ ?_) ?_); (next => exact fun i hi => M1'.cell hi); (next => exact fun i hi => M2.cell hi); rintro e w' ⟨r1, m1, rfl, h1, rfl⟩) | (go_at_call 34; (with_reducible_and_instances refine Calls.mono (HK _ ?_) ?_); (next => (with_reducible exact HL.out.kept (below_drewN B12 _))); rintro e w' ⟨rfl, M3, B3⟩; have B13 := (below_drewN B12 _).trans (B3.mono B12.size)) | (go_at_call 34; (with_reducible_and_instances refine Calls.mono (HK2 _ ?_) ?_); (next => (with_reducible exact HL2.out.kept B13)); rintro e w' ⟨rfl, M4, B4⟩; have B14 := B13.trans (B4.mono B13.size); have M3' := M3.kept B4 M3.lt) | (go_at_call 35; (with_reducible_and_instances refine Calls.mono (HI _ _ _ ?_ ?_) ?_); (next => exact fun i hi => M3'.cell hi); (next => exact fun i hi => M4.cell hi); rintro e w' ⟨r2, m2, rfl, h2, rfl⟩) | (go_at_call 17; refine (same_float _ _ _ (by assumption) (by assumption) _).mono ?_; rintro e w' ⟨rfl, m3, rfl⟩) | (go_at_call 34; (with_reducible_and_instances refine Calls.mono (HK _ ?_) ?_); (next => (with_reducible exact HL.out.kept (below_drewN B14 _))); rintro e w' ⟨rfl, M5, B5⟩; have B15 := (below_drewN B14 _).trans (B5.mono B14.size); have M3'' := (M3'.drewN _).kept B5 M3'.lt; have M4'' := (M4.drewN _).kept B5 M4.lt))
  (with_reducible_and_instances refine Calls.mono (HE _ _ _ ?_ ?_) ?_)
  · exact fun i hi => M3''.cell hi
  · exact fun i hi => M5.cell hi
  rintro e w' ⟨rfl, m4, rfl⟩
  go_wp2_with (first | (refine fl_arith rfl _ _ _ _ _ rfl rfl _ _ _ rfl rfl ?_; intro r n hr0; have hr := hr0 _ _ (by first | assumption | exact Ab.lit rfl (by decide)) (by first | assumption | exact Ab.lit rfl (by decide)); clear hr0) | (refine fl_cmp rfl _ _ _ _ _ rfl rfl _ _ _ rfl rfl ?_; intro b hb0; have hb := hb0 _ _ (by first | assumption | exact Ab.lit rfl (by decide)) (by first | assumption | exact Ab.lit rfl (by decide)); clear hb0; (try simp only [*] at hb); subst hb) | (refine fl_same rfl _ _ _ rfl _ _ rfl rfl rfl ?_) | (refine fl_wide rfl _ _ _ rfl _ rfl rfl rfl ?_; intro r n hr0; have hr := hr0 _ (by first | assumption | exact Ab.lit rfl (by decide)); clear hr0) | (refine fl_narrow rfl _ _ _ rfl _ rfl rfl rfl ?_; intro r n hl hr0; have hr := hr0 _ (by first | assumption | exact Ab.lit rfl (by decide)) (by assumption); clear hr0 hl) | (refine fl_neg rfl _ _ rfl _ _ rfl ?_; intro r hr0; have hr := hr0 _ (by first | assumption | exact Ab.lit rfl (by decide)); clear hr0) | (go_at_call 34; (with_reducible_and_instances refine Calls.mono (HK2 _ ?_) ?_); (next => (with_reducible exact HL2.out.kept (below_drewN B15 _))); rintro e w' ⟨rfl, M6, B6⟩))
  have M4c := (M4''.drewN m4).kept B6 M4''.lt
  (with_reducible_and_instances refine Calls.mono (HE2 _ _ _ ?_ ?_) ?_)
  · exact fun i hi => M4c.cell hi
  · exact fun i hi => M6.cell hi
  rintro e w' ⟨rfl, m5, rfl⟩
  go_wp2
  go_ret
  exact ⟨rfl, below_drewN ((below_drewN B15 _).trans (B6.mono B15.size)) _⟩

theorem law_DotNumbers (a : Option Addr) (n cap : Nat) (xs : Nat → Nat) (b : Option Addr) (n2 cap2 : Nat) (ys : Nat → Nat) (wx : ∀ i, i < n → (Lit.float .f32 (xs i)).wf = true) (wy : ∀ i, i < n2 → (Lit.float .f32 (ys i)).wf = true) (w : World)
    (hL : Leads w (.slice a n cap) n fun i => .float .f32 (xs i)) (hL2 : Leads w (.slice b n2 cap2) n2 fun i => .float .f32 (ys i)) :
    Calls Try.prog 10 #[.slice a n cap, .slice b n2 cap2] w (Told w) := by
  rcases Nat.lt_or_ge 1048576 n with h | h
  · exact law_DotNumbers_many a b n n2 cap cap2 h w
  · rcases Nat.lt_or_ge 1048576 n2 with h2 | h2
    · exact law_DotNumbers_many2 a b n n2 cap cap2 h h2 w
    · exact law_DotNumbers_few a n cap xs b n2 cap2 ys wx wy w hL hL2 h h2

end Go.Proofs.Ytgdhjfdmgjidkaa
