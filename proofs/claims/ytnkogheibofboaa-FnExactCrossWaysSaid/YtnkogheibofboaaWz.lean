/- Walks: LongOfWay. No conditions. -/
import Derived.Test.YtnkogheibofboaaWx
namespace Go.Proofs.Ytnkogheibofboaa.B
open Go.RowKit
set_option maxRecDepth 8000

theorem inf_words {b : Nat} (h : infW .f32 b = true) (hb : b < 2 ^ 32) : b = 2139095040 ∨ b = 4286578688 := by
  have h' : rg FloatKind.f32.format b = FloatKind.f32.format.infRung := by simpa [infW] using h
  have e1 : FloatKind.f32.format.infRung = 2139095040 := by decide +kernel
  have e2 : rg FloatKind.f32.format b = b % 2147483648 := rfl
  omega

theorem fin_root {d : Nat} {D : Option Nat} (h : Ab .f32 d D) (hf : finA .f32 (rootA D) = true) : finA .f32 D = true := by
  cases D with
  | none => cases hf
  | some b =>
    obtain ⟨rfl, hn⟩ := h.of_some
    rcases kinds .f32 d with ⟨h1, _, _⟩ | ⟨_, h1, _⟩ | ⟨_, _, h1⟩
    · rw [finA_some hn, h1]
    · rcases inf_words h1 h.lt with rfl | rfl
      · have : finA .f32 (rootA (some 2139095040)) = false := by decide +kernel
        rw [this] at hf; cases hf
      · have : finA .f32 (rootA (some 4286578688)) = false := by decide +kernel
        rw [this] at hf; cases hf
    · rw [hn] at h1; cases h1

theorem ok_ex {k : FloatKind} {X : Option Nat} (h : Ok k X) : ∃ r, Ab k r X := by
  cases X with
  | some b => exact ⟨b, Ok.ab h⟩
  | none => cases k
            · exact ⟨2143289344, Ab.nan (by decide) (by decide)⟩
            · exact ⟨9221120237041090560, Ab.nan (by decide) (by decide)⟩

theorem one_box (w : World) (t : TypeId) (cs : Array Value) : ∃ W, w.alloc (.cells cs t) = W ∧ Box W w.heap.size cs ∧ Below w.heap.size w W :=
  ⟨_, rfl, Box.start w cs t (0, 0), (Below.refl _ _).alloc (Nat.le_refl _) _⟩

section
variable {x y z : Nat} {X Y Z : Option Nat} (hx : Ab .f32 x X) (hy : Ab .f32 y Y) (hz : Ab .f32 z Z) (w : World)

include w in
theorem root_ex {d : Nat} {D : Option Nat} (_h : Ab .f32 d D) : ∃ r, Ab .f32 r (rootA D) := let _ := w; ok_ex (Ok.narrow (Ok.sqrt _))

include hx hy hz in
set_option maxHeartbeats 1000000 in
theorem spec_long : Calls Try.prog 66 #[.agg #[.float .f32 x, .float .f32 y, .float .f32 z]] w (SaysA (rootA (dotWay X Y Z X Y Z)) w) := by
  have HD := fun w' => spec_dotWay hx hy hz hx hy hz w'
  generalize dotWay X Y Z X Y Z = D at *
  go_enter Try.func66, Try.ntmps66
  go_wp2_with (first | (go_at_call 98; (with_reducible_and_instances refine Calls.mono (HD _) ?_); rintro e w' ⟨r1, rfl, g1, B3⟩) | (go_at_call 77; (with_reducible_and_instances refine Calls.mono (spec_l01Sqrt _ _ g1 _) ?_); rintro e w' ⟨r2, m, rfl, g2, rfl⟩))
  go_ret
  exact ⟨r2, rfl, g2, below_drewN (((Below.refl _ _).alloc (Nat.le_refl _) _).trans (B3.mono (by simp))) _⟩

include hx hy hz in
set_option maxHeartbeats 1000000 in
theorem impl_long : Calls Try.prog 67 #[.agg #[.float .f32 x, .float .f32 y, .float .f32 z]] w (SaysA (rootA (dotWay X Y Z X Y Z)) w) := by
  have HD := fun w' => impl_dotWay hx hy hz hx hy hz w'
  generalize dotWay X Y Z X Y Z = D at *
  go_enter Try.func67, Try.ntmps67
  go_wp2_with (first | (go_at_call 69; (with_reducible_and_instances refine Calls.mono (HD _) ?_); rintro e w' ⟨r1, rfl, g1, B3⟩) | (go_at_call 33; (with_reducible_and_instances refine Calls.mono (impl_RootNumber _ _ g1 _) ?_); rintro e w' ⟨r2, m, rfl, g2, rfl⟩))
  go_ret
  exact ⟨r2, rfl, g2, below_drewN (((Below.refl _ _).alloc (Nat.le_refl _) _).trans (B3.mono (by simp))) _⟩

include hx hy hz in
set_option maxHeartbeats 1000000 in
theorem spec_LongOfWay : Calls Try.prog 26 #[.agg #[.float .f32 x, .float .f32 y, .float .f32 z]] w (SaysIf (finWay X Y Z && finA .f32 (rootA (dotWay X Y Z X Y Z))) (rootA (dotWay X Y Z X Y Z)) w) := by
  have HL := fun w' => spec_long hx hy hz w'
  have H1 := fun w' => spec_ways hx hy hz w'
  generalize rootA (dotWay X Y Z X Y Z) = R at *
  generalize finWay X Y Z = f1 at *
  cases f1
  all_goals
    go_enter Try.func26, Try.ntmps26
    go_wp2_with (first | (go_at_call 64; obtain ⟨W, hW, b1, bel⟩ := one_box w 37 #[.float .f32 x, .float .f32 y, .float .f32 z]; rw [hW]; clear hW; (with_reducible_and_instances refine Calls.mono (H1 W) ?_); rintro e w' ⟨rfl, B1⟩; have c1 := b1.kept B1 b1.lt; have bel1 := bel.trans (B1.mono bel.size); clear b1 bel; have q0 := Box.cell (j := 0) c1 rfl; have q1 := Box.cell (j := 1) c1 rfl; have q2 := Box.cell (j := 2) c1 rfl) | (go_at_call 66; (with_reducible_and_instances refine Calls.mono (HL _) ?_); rintro e w' ⟨r1, rfl, g1, B3⟩; have bel3 := bel1.trans (B3.mono bel1.size)) | (go_at_call 65; (with_reducible_and_instances refine Calls.mono (spec_number g1 _) ?_); rintro e w' ⟨r2, m, rfl, g2, rfl⟩))
    go_ret2
  · exact ⟨0, rfl, Ab.lit rfl (by decide), bel1⟩
  · exact ⟨r2, rfl, g2, below_drewN bel3 _⟩

include hx hy hz in
set_option maxHeartbeats 1000000 in
theorem impl_LongOfWay : Calls Try.prog 27 #[.agg #[.float .f32 x, .float .f32 y, .float .f32 z]] w (SaysIf (finWay X Y Z && finA .f32 (rootA (dotWay X Y Z X Y Z))) (rootA (dotWay X Y Z X Y Z)) w) := by
  have hD := dot_ex hx hy hz hx hy hz w
  have hrt : finA .f32 (rootA (dotWay X Y Z X Y Z)) = true → finA .f32 (dotWay X Y Z X Y Z) = true := let ⟨_, h⟩ := hD; fin_root h
  have hR : ∃ r, Ab .f32 r (rootA (dotWay X Y Z X Y Z)) := let ⟨_, h⟩ := hD; root_ex w h
  have HL := fun w' => impl_long hx hy hz w'
  have H1 := fun w' => impl_isWay hx hy hz w'
  have HD := fun w' => impl_dotWay hx hy hz hx hy hz w'
  generalize rootA (dotWay X Y Z X Y Z) = R at *
  generalize dotWay X Y Z X Y Z = D at *
  have Hrt := Lib.hid hrt
  clear hrt
  cases h1 : finWay X Y Z <;> rw [h1] at H1
  · have H3 : ∀ r, Ab .f32 r R → ∀ w', Calls Try.prog 55 #[.float .f32 r, .bool false] w' (GivesIf false R w') := fun r hr w' => impl_number hr w' false
    go_enter Try.func27, Try.ntmps27
    go_wp2_with (first | (refine fl_arith rfl _ _ _ _ _ rfl rfl _ _ _ rfl rfl ?_; intro r n hr0; have hr := hr0 _ _ (by first | assumption | exact Ab.lit rfl (by decide)) (by first | assumption | exact Ab.lit rfl (by decide)); clear hr0) | (refine fl_cmp rfl _ _ _ _ _ rfl rfl _ _ _ rfl rfl ?_; intro b hb0; have hb := hb0 _ _ (by first | assumption | exact Ab.lit rfl (by decide)) (by first | assumption | exact Ab.lit rfl (by decide)); clear hb0; (try simp only [*] at hb); subst hb) | (refine fl_same rfl _ _ _ rfl _ _ rfl rfl rfl ?_) | (refine fl_wide rfl _ _ _ rfl _ rfl rfl rfl ?_; intro r n hr0; have hr := hr0 _ (by first | assumption | exact Ab.lit rfl (by decide)); clear hr0) | (refine fl_narrow rfl _ _ _ rfl _ rfl rfl rfl ?_; intro r n hl hr0; have hr := hr0 _ (by first | assumption | exact Ab.lit rfl (by decide)) (by assumption); clear hr0 hl) | (refine fl_neg rfl _ _ rfl _ _ rfl ?_; intro r hr0; have hr := hr0 _ (by first | assumption | exact Ab.lit rfl (by decide)); clear hr0) | go_in)
    obtain ⟨W, hW, b1, bel⟩ := one_box w 37 #[.float .f32 x, .float .f32 y, .float .f32 z]
    rw [hW]
    clear hW
    refine Rg.region (fun w' => Below W.heap.size W w') (Rg.pick [Rg.one (.agg #[.float .f32 x, .float .f32 y, .float .f32 z]), Rg.fl .f32 R, Rg.one (.agg #[.float .f32 x, .float .f32 y, .float .f32 z]), Rg.one (.bool false), Rg.one (.bool false), Rg.one undef, Rg.one undef, Rg.one undef, Rg.one undef, Rg.one (.bool false),
      Rg.pairIf false R, Rg.fl .f32 (if false = true then R else some 0), Rg.one (.bool false), Rg.fl .f32 (if false = true then R else some 0), Rg.one (.bool false)]) (by kernel_rfl) (by kernel_rfl) (Below.refl _ _).drew
      (Rg.pick_ne (by intro T hT; simp only [List.mem_cons, List.not_mem_nil, or_false] at hT; rcases hT with rfl | rfl | rfl | rfl | rfl | rfl | rfl | rfl | rfl | rfl | rfl | rfl | rfl | rfl | rfl <;> first | exact Rg.one_ne _ | exact Rg.fl_ne hD | exact Rg.fl_ne hR | exact Rg.fl_ne (Rg.ab_if _ hR) | exact Rg.pairIf_ne _ hR)) ?_
    (refine Rg.line_step rfl rfl (Rg.good_box _ _ rfl _ rfl _ (fun w' hw' => b1.kept hw' b1.lt) rfl _ Try.underlying37 rfl info_way) ?_; rintro _ rfl; go_simp)
    (refine Rg.line_step rfl rfl (Rg.good_saysA (fun w' => by go_simp) fun w' => HL w') ?_; rintro _ ⟨r1, rfl, g1⟩; go_simp)
    (refine Rg.line_step rfl rfl (Rg.good_box _ _ rfl _ rfl _ (fun w' hw' => b1.kept hw' b1.lt) rfl _ Try.underlying37 rfl info_way) ?_; rintro _ rfl; go_simp)
    (refine Rg.line_step rfl rfl (Rg.good_says (fun w' => by go_simp) fun w' => H1 w') ?_; rintro _ rfl; go_simp)
    (refine Rg.line_step rfl rfl (Rg.good_one fun w' hw' => (by go_simp)) ?_; rintro _ rfl; go_simp)
    (refine Rg.line_skip rfl ?_; go_simp)
    (refine Rg.line_skip rfl ?_; go_simp)
    (refine Rg.line_skip rfl ?_; go_simp)
    (refine Rg.line_skip rfl ?_; go_simp)
    (refine Rg.line_step rfl rfl (Rg.good_one fun w' hw' => (by go_simp)) ?_; rintro _ rfl; go_simp)
    (refine Rg.line_step rfl rfl (Rg.good_givesIf (fun w' => by go_simp) fun w' => H3 _ g1 w') ?_; rintro _ ⟨r2, rfl, hr2⟩; go_simp)
    (refine Rg.line_step rfl rfl (Rg.good_val ⟨_, rfl, hr2⟩ fun w' hw' => (by go_simp)) ?_; rintro _ ⟨r3, rfl, hr3⟩; go_simp)
    (refine Rg.line_step rfl rfl (Rg.good_one fun w' hw' => (by go_simp)) ?_; rintro _ rfl; go_simp)
    (refine Rg.line_step rfl rfl (Rg.good_val ⟨_, rfl, hr3⟩ fun w' hw' => (by go_simp)) ?_; rintro _ ⟨r4, rfl, hr4⟩; go_simp)
    (refine Rg.line_step rfl rfl (Rg.good_one fun w' hw' => (by go_simp)) ?_; rintro _ rfl; go_simp)
    intro w' hw'
    go_wp2
    go_ret2
    exact ⟨r4, rfl, hr4, bel.trans (hw'.mono bel.size)⟩
  · obtain ⟨fd, hfd⟩ : ∃ fd, fd = finA .f32 D := ⟨_, rfl⟩
    have HF : ∀ r, Ab .f32 r D → ∀ w', Calls Try.prog 52 #[.float .f32 r] w' (Draws (.bool fd) w') := fun r hr w' => by rw [hfd]; exact impl_finite _ _ hr w'
    obtain ⟨ok, hok⟩ : ∃ ok, ok = (fd && finA .f32 R) := ⟨_, rfl⟩
    have H3 : ∀ r, Ab .f32 r R → ∀ w', Calls Try.prog 55 #[.float .f32 r, .bool fd] w' (GivesIf ok R w') := fun r hr w' => by rw [hok]; exact impl_number hr w' fd
    have Hok := Lib.hid hok
    have Hrt2 := Lib.hid (show finA .f32 R = true → fd = true from fun h => by rw [hfd]; exact Hrt.out h)
    clear hok hfd Hrt
    have Hrt := Hrt2
    clear Hrt2
    go_enter Try.func27, Try.ntmps27
    go_wp2_with (first | (refine fl_arith rfl _ _ _ _ _ rfl rfl _ _ _ rfl rfl ?_; intro r n hr0; have hr := hr0 _ _ (by first | assumption | exact Ab.lit rfl (by decide)) (by first | assumption | exact Ab.lit rfl (by decide)); clear hr0) | (refine fl_cmp rfl _ _ _ _ _ rfl rfl _ _ _ rfl rfl ?_; intro b hb0; have hb := hb0 _ _ (by first | assumption | exact Ab.lit rfl (by decide)) (by first | assumption | exact Ab.lit rfl (by decide)); clear hb0; (try simp only [*] at hb); subst hb) | (refine fl_same rfl _ _ _ rfl _ _ rfl rfl rfl ?_) | (refine fl_wide rfl _ _ _ rfl _ rfl rfl rfl ?_; intro r n hr0; have hr := hr0 _ (by first | assumption | exact Ab.lit rfl (by decide)); clear hr0) | (refine fl_narrow rfl _ _ _ rfl _ rfl rfl rfl ?_; intro r n hl hr0; have hr := hr0 _ (by first | assumption | exact Ab.lit rfl (by decide)) (by assumption); clear hr0 hl) | (refine fl_neg rfl _ _ rfl _ _ rfl ?_; intro r hr0; have hr := hr0 _ (by first | assumption | exact Ab.lit rfl (by decide)); clear hr0) | go_in)
    obtain ⟨W, hW, b1, bel⟩ := one_box w 37 #[.float .f32 x, .float .f32 y, .float .f32 z]
    rw [hW]
    clear hW
    refine Rg.region (fun w' => Below W.heap.size W w') (Rg.pick [Rg.one (.agg #[.float .f32 x, .float .f32 y, .float .f32 z]), Rg.fl .f32 R, Rg.one (.agg #[.float .f32 x, .float .f32 y, .float .f32 z]), Rg.one (.bool true), Rg.one (.bool true), Rg.one (.agg #[.float .f32 x, .float .f32 y, .float .f32 z]), Rg.one (.agg #[.float .f32 x, .float .f32 y, .float .f32 z]), Rg.fl .f32 D, Rg.one (.bool fd), Rg.one (.bool fd),
      Rg.pairIf ok R, Rg.fl .f32 (if ok = true then R else some 0), Rg.one (.bool ok), Rg.fl .f32 (if ok = true then R else some 0), Rg.one (.bool ok)]) (by kernel_rfl) (by kernel_rfl) (Below.refl _ _).drew
      (Rg.pick_ne (by intro T hT; simp only [List.mem_cons, List.not_mem_nil, or_false] at hT; rcases hT with rfl | rfl | rfl | rfl | rfl | rfl | rfl | rfl | rfl | rfl | rfl | rfl | rfl | rfl | rfl <;> first | exact Rg.one_ne _ | exact Rg.fl_ne hD | exact Rg.fl_ne hR | exact Rg.fl_ne (Rg.ab_if _ hR) | exact Rg.pairIf_ne _ hR)) ?_
    (refine Rg.line_step rfl rfl (Rg.good_box _ _ rfl _ rfl _ (fun w' hw' => b1.kept hw' b1.lt) rfl _ Try.underlying37 rfl info_way) ?_; rintro _ rfl; go_simp)
    (refine Rg.line_step rfl rfl (Rg.good_saysA (fun w' => by go_simp) fun w' => HL w') ?_; rintro _ ⟨r1, rfl, g1⟩; go_simp)
    (refine Rg.line_step rfl rfl (Rg.good_box _ _ rfl _ rfl _ (fun w' hw' => b1.kept hw' b1.lt) rfl _ Try.underlying37 rfl info_way) ?_; rintro _ rfl; go_simp)
    (refine Rg.line_step rfl rfl (Rg.good_says (fun w' => by go_simp) fun w' => H1 w') ?_; rintro _ rfl; go_simp)
    (refine Rg.line_step rfl rfl (Rg.good_one fun w' hw' => (by go_simp)) ?_; rintro _ rfl; go_simp)
    (refine Rg.line_step rfl rfl (Rg.good_box _ _ rfl _ rfl _ (fun w' hw' => b1.kept hw' b1.lt) rfl _ Try.underlying37 rfl info_way) ?_; rintro _ rfl; go_simp)
    (refine Rg.line_step rfl rfl (Rg.good_box _ _ rfl _ rfl _ (fun w' hw' => b1.kept hw' b1.lt) rfl _ Try.underlying37 rfl info_way) ?_; rintro _ rfl; go_simp)
    (refine Rg.line_step rfl rfl (Rg.good_saysA (fun w' => by go_simp) fun w' => HD w') ?_; rintro _ ⟨r0, rfl, g0⟩; go_simp)
    (refine Rg.line_step rfl rfl (Rg.good_draws (fun w' => by go_simp) fun w' => HF _ g0 w') ?_; rintro _ rfl; go_simp)
    (refine Rg.line_step rfl rfl (Rg.good_one fun w' hw' => (by go_simp)) ?_; rintro _ rfl; go_simp)
    (refine Rg.line_step rfl rfl (Rg.good_givesIf (fun w' => by go_simp) fun w' => H3 _ g1 w') ?_; rintro _ ⟨r2, rfl, hr2⟩; go_simp)
    (refine Rg.line_step rfl rfl (Rg.good_val ⟨_, rfl, hr2⟩ fun w' hw' => (by go_simp)) ?_; rintro _ ⟨r3, rfl, hr3⟩; go_simp)
    (refine Rg.line_step rfl rfl (Rg.good_one fun w' hw' => (by go_simp)) ?_; rintro _ rfl; go_simp)
    (refine Rg.line_step rfl rfl (Rg.good_val ⟨_, rfl, hr3⟩ fun w' hw' => (by go_simp)) ?_; rintro _ ⟨r4, rfl, hr4⟩; go_simp)
    (refine Rg.line_step rfl rfl (Rg.good_one fun w' hw' => (by go_simp)) ?_; rintro _ rfl; go_simp)
    intro w' hw'
    go_wp2
    go_ret2
    have hok := Hok.out
    have hrt := Hrt.out
    have e : (true && finA .f32 R) = ok := by rw [hok]; cases h : finA .f32 R <;> simp_all
    rw [e]
    exact ⟨r4, rfl, hr4, bel.trans (hw'.mono bel.size)⟩

end

set_option maxHeartbeats 2000000 in
theorem law_LongOfWay (x y z : Nat) (wx : (Lit.float .f32 x).wf = true) (wy : (Lit.float .f32 y).wf = true) (wz : (Lit.float .f32 z).wf = true) (w : World) :
    Calls Try.prog 7 #[.agg #[.float .f32 x, .float .f32 y, .float .f32 z]] w (Told w) := by
  have hx := Ab.of_wf wx
  have hy := Ab.of_wf wy
  have hz := Ab.of_wf wz
  have HS := fun w' => spec_LongOfWay hx hy hz w'
  have HI := fun w' => impl_LongOfWay hx hy hz w'
  clear wx wy wz hx hy hz
  generalize rootA (dotWay (ab .f32 x) (ab .f32 y) (ab .f32 z) (ab .f32 x) (ab .f32 y) (ab .f32 z)) = D at *
  generalize (finWay (ab .f32 x) (ab .f32 y) (ab .f32 z) && finA .f32 D) = ok at *
  have eok : (ok != ok) = false := same_bool ok
  have HT := fun w' => to_way (x := x) (y := y) (z := z) w'
  go_enter Try.func7, Try.ntmps7
  go_wp2_with (first | (refine fl_arith rfl _ _ _ _ _ rfl rfl _ _ _ rfl rfl ?_; intro r n hr0; have hr := hr0 _ _ (by first | assumption | exact Ab.lit rfl (by decide)) (by first | assumption | exact Ab.lit rfl (by decide)); clear hr0) | (refine fl_cmp rfl _ _ _ _ _ rfl rfl _ _ _ rfl rfl ?_; intro b hb0; have hb := hb0 _ _ (by first | assumption | exact Ab.lit rfl (by decide)) (by first | assumption | exact Ab.lit rfl (by decide)); clear hb0; (try simp only [*] at hb); subst hb) | (refine fl_same rfl _ _ _ rfl _ _ rfl rfl rfl ?_) | (refine fl_wide rfl _ _ _ rfl _ rfl rfl rfl ?_; intro r n hr0; have hr := hr0 _ (by first | assumption | exact Ab.lit rfl (by decide)); clear hr0) | (refine fl_narrow rfl _ _ _ rfl _ rfl rfl rfl ?_; intro r n hl hr0; have hr := hr0 _ (by first | assumption | exact Ab.lit rfl (by decide)) (by assumption); clear hr0 hl) | (refine fl_neg rfl _ _ rfl _ _ rfl ?_; intro r hr0; have hr := hr0 _ (by first | assumption | exact Ab.lit rfl (by decide)); clear hr0) | (go_at_call 23; obtain ⟨W, hW, b1, bel⟩ := one_box w 32 #[.float .f32 x, .float .f32 y, .float .f32 z]; rw [hW]; clear hW; (with_reducible_and_instances refine Calls.mono (HT W) ?_); rintro e w' ⟨rfl, B1⟩; have c1 := b1.kept B1 b1.lt; have bel1 := bel.trans (B1.mono bel.size); clear b1 bel; have q0 := Box.cell (j := 0) c1 rfl; have q1 := Box.cell (j := 1) c1 rfl; have q2 := Box.cell (j := 2) c1 rfl) | (go_at_call 26; (with_reducible_and_instances refine Calls.mono (HS _) ?_); rintro e w' ⟨r1, rfl, g1, B2⟩; have d1 := c1.kept B2 c1.lt; have bel2 := bel1.trans (B2.mono bel1.size); have q0 := Box.cell (j := 0) d1 rfl; have q1 := Box.cell (j := 1) d1 rfl; have q2 := Box.cell (j := 2) d1 rfl) | (go_at_call 23; (with_reducible_and_instances refine Calls.mono (HT _) ?_); rintro e w' ⟨rfl, B3⟩; have bel3 := bel2.trans (B3.mono bel2.size)) | (go_at_call 27; (with_reducible_and_instances refine Calls.mono (HI _) ?_); rintro e w' ⟨r2, rfl, g2, B4⟩; have bel4 := bel3.trans (B4.mono bel3.size)) | (go_at_call 17; refine (same_float _ _ _ (by assumption) (by assumption) _).mono ?_; rintro e w' ⟨rfl, m3, rfl⟩))
  go_ret
  exact ⟨rfl, below_drewN bel4 _⟩

end Go.Proofs.Ytnkogheibofboaa.B
