/- Walks: complex numbers widened, narrowed, compared; rows of them held against one another, marked, asked for their marks. No conditions. -/
import Derived.Test.YtnilpooheaaleaaDoorRf2
import Derived.Laws.ComplexArith
namespace Go.Proofs.YtnilpooheaaleaaDoor.cx
open Go.RowKit
open row (marks marked marks_length marks_at marked_length marked_zero marked_all)
set_option maxRecDepth 8000

@[go_sem] theorem run_store_complex {P : Program} (w : World) (a : Addr) (m : Mode) (k : FloatKind) (b c : Nat) : (store a (.complex k b c) m).run P w = stored P w a (.complex k b c) m := run_store P w a _ m rfl

theorem run_f2f {P : Program} (w : World) (x : Nat) : ∃ r n, (Conv.floatToFloat .f32 x .f64).run P w = .ok (.float .f64 r) (w.drewN n) ∧ ∀ X, Ab .f32 x X → Ab .f64 r (wideA X) := by
  cases hn : nanW .f32 x with
  | true =>
    obtain ⟨r, hr, hb⟩ := run_nanConv (P := P) w .f64 x
    refine ⟨r, 1, ?_, fun X hx => ?_⟩
    · have h2 : (FloatKind.f32.decode x).isNaN = true := by unfold FloatKind.decode; rw [isNaN_eq]; exact hn
      obtain ⟨s, t, e⟩ := isNaN_dest h2
      simp [Conv.floatToFloat, e, -run_choose, -run_choose_drew, hr]
    · have : X = none := by rw [← hx.eq]; exact ab_none.2 hn
      subst this; exact hb
  | false =>
    refine ⟨FloatKind.f64.encode (FloatKind.f32.decode x), 0, run_floatToFloat w ?_, fun X hx => ?_⟩
    · unfold floatToFloatBits
      rcases wide_nan hn with h | h
      · rcases decode_cases .f32 hn with ⟨s, e⟩ | ⟨s, m, e0, e⟩
        · simp [e]
        · rw [e] at h
          simp [e, h]
      · simp [decode_inf h]
    · have : X = some x := by rw [← hx.eq]; exact ab_some.2 ⟨hn, rfl⟩
      subst this
      refine ⟨ab_some.2 ⟨write_nan .f64 ?_, rfl⟩, encode_lt _ _⟩
      rcases decode_cases .f32 hn with ⟨s, e⟩ | ⟨s, m, e0, e⟩ <;> rw [e] <;> rfl

theorem run_cwide {P : Program} (w : World) (src dst : TypeId) (x y : Nat) (hs : (P.underlying src).isSome = true) (hd : P.underlying dst = some (.complex .f64)) :
    ∃ r s n, (convert src dst (.complex .f32 x y)).run P w = .ok (.complex .f64 r s) (w.drewN n) ∧ (∀ X, Ab .f32 x X → Ab .f64 r (wideA X)) ∧ (∀ Y, Ab .f32 y Y → Ab .f64 s (wideA Y)) := by
  obtain ⟨r, n, h1, hb1⟩ := run_f2f (P := P) w x
  obtain ⟨s, m, h2, hb2⟩ := run_f2f (P := P) (w.drewN n) y
  refine ⟨r, s, n + m, ?_, hb1, hb2⟩
  obtain ⟨u, hs'⟩ := Option.isSome_iff_exists.1 hs
  cases u <;> simp [convert, run_underlying hs', run_underlying hd, Conv.complexToComplex, h1, h2, World.drewN_drewN]

/-- The complex numbers whose parts are X and Y, widened. -/
def cw (X Y : Option Nat) : Value → Prop := fun u => ∃ r s, u = .complex .f64 r s ∧ Ab .f64 r (wideA X) ∧ Ab .f64 s (wideA Y)
theorem cw_ne {X Y : Option Nat} {x y : Nat} (hx : Ab .f32 x X) (hy : Ab .f32 y Y) : ∃ u, cw X Y u := by
  obtain ⟨r, hr⟩ := wide_ab hx
  obtain ⟨s, hs⟩ := wide_ab hy
  exact ⟨.complex .f64 r s, r, s, rfl, hr, hs⟩
section
variable {P : Program} {ops : Array Oper} {C : World → Prop} {o : Oper} {rest : List Oper} {a : Act}
theorem good_cwide (hC : ∀ w n, C w → C (w.drewN n)) (src dst : TypeId) (x : Operand) (ho : o.op = .convert src dst x) (u v : Nat) (hx : a.eval x = .complex .f32 u v)
    (hs : (P.underlying src).isSome = true) (hd : P.underlying dst = some (.complex .f64)) {X Y : Option Nat} (hX : Ab .f32 u X) (hY : Ab .f32 v Y) : Rg.good P C o a (cw X Y) := fun w hw => by
  obtain ⟨r, s, n, hr, hb, hc⟩ := run_cwide (P := P) w src dst u v hs hd
  have e : (execOp a.eval o).run P w = .ok (.value (.complex .f64 r s)) (w.drewN n) := by simp [execOp, ho, hx, hr]
  rw [e]
  exact ⟨hC w n hw, r, s, rfl, hb X hX, hc Y hY⟩
theorem fl_cconv {Q : Exit → Act → World → Prop} {w : World} (hg : Region.wanted o (yielded ops a.tmps) = true) (src dst : TypeId) (x : Operand) (ho : o.op = .convert src dst x) (s k : FloatKind) (u v re im : Nat) (hx : a.eval x = .complex s u v)
    (hs : (P.underlying src).isSome = true) (hd : P.underlying dst = some (.complex k)) (hc : cConvBits s u v k = some (re, im))
    (h : wpList P ops Q rest (a.put o.dst (.complex k re im)) w) : wpList P ops Q (o :: rest) a w := by
  refine wpList_wanted hg fun K hK => ?_
  refine wp_value (v := .complex k re im) (w' := w) ?_ (hK _ _ h)
  simp [execOp, ho, hx, run_convert_complex w src dst s k u v re im hs hd hc]
theorem fl_cneq {Q : Exit → Act → World → Prop} {w : World} (hg : Region.wanted o (yielded ops a.tmps) = true) (t yt : TypeId) (x y : Operand) (ho : o.op = .binOp .neq t x y yt) (k : FloatKind) (p q r s : Nat) (hx : a.eval x = .complex k p q) (hy : a.eval y = .complex k r s)
    (b : Bool) (hb : (!(k.format.order p r == some .eq && k.format.order q s == some .eq)) = b) (h : wpList P ops Q rest (a.put o.dst (.bool b)) w) : wpList P ops Q (o :: rest) a w := by
  subst hb
  refine wpList_wanted hg fun K hK => ?_
  refine wp_value (v := .bool !(k.format.order p r == some .eq && k.format.order q s == some .eq)) (w' := w) ?_ (hK _ _ h)
  simp [execOp, ho, hx, hy, eqGuard, binOp, Op.complexOp, Op.Complex.cmp, Op.floatCmp, asBool]
end

set_option maxHeartbeats 1000000 in
theorem same_complex (a b c d : Nat) (X Y : Option Nat) (ha : Ab .f64 a X) (hb' : Ab .f64 b Y) (hc : Ab .f64 c X) (hd : Ab .f64 d Y) (w : World) :
    Calls Tryd.prog 62 #[.complex .f64 a b, .complex .f64 c d] w fun e w' => e = .returned (.bool true) ∧ ∃ n, w' = w.drewN n := by
  have H1 := fun w' => same_float a c X ha hc w'
  have H2 := fun w' => same_float b d Y hb' hd w'
  clear ha hb' hc hd
  go_enter Tryd.func62, Tryd.ntmps62
  go_wp2_with (first | (refine fl_arith rfl _ _ _ _ _ rfl rfl _ _ _ rfl rfl ?_; intro r n hr0; have hr := hr0 _ _ (by first | assumption | exact Ab.lit rfl (by decide)) (by first | assumption | exact Ab.lit rfl (by decide)); clear hr0) | (refine fl_cmp rfl _ _ _ _ _ rfl rfl _ _ _ rfl rfl ?_; intro b hb0; have hb := hb0 _ _ (by first | assumption | exact Ab.lit rfl (by decide)) (by first | assumption | exact Ab.lit rfl (by decide)); clear hb0; (try simp only [*] at hb); subst hb) | (refine fl_same rfl _ _ _ rfl _ _ rfl rfl rfl ?_) | (refine fl_wide rfl _ _ _ rfl _ rfl rfl rfl ?_; intro r n hr0; have hr := hr0 _ (by first | assumption | exact Ab.lit rfl (by decide)); clear hr0) | (refine fl_narrow rfl _ _ _ rfl _ rfl rfl rfl ?_; intro r n hl hr0; have hr := hr0 _ (by first | assumption | exact Ab.lit rfl (by decide)) (by assumption); clear hr0 hl) | (refine fl_neg rfl _ _ rfl _ _ rfl ?_; intro r hr0; have hr := hr0 _ (by first | assumption | exact Ab.lit rfl (by decide)); clear hr0) | (go_at_call 51; (with_reducible_and_instances refine Calls.mono (H1 _) ?_); rintro e w' ⟨rfl, m3, rfl⟩) | (go_at_call 51; (with_reducible_and_instances refine Calls.mono (H2 _) ?_); rintro e w' ⟨rfl, m4, rfl⟩))
  go_ret
  exact ⟨rfl, _, rfl⟩

/-- A complex number of 32 bits a part, out of its words. -/
def cval (z : Nat × Nat) : Value := .complex .f32 z.1 z.2
abbrev Row (w : World) (base : Nat) (v : Value) (xs : List (Nat × Nat)) : Prop := row.Row 68 cval w base v xs
def Small (z : Nat × Nat) : Prop := z.1 < 4294967296 ∧ z.2 < 4294967296

theorem eq_empty (a b : Option Addr) (c d : Nat) (w : World) :
    Calls Tryd.prog 35 #[.slice a 0 c, .slice b 0 d] w fun e w' => e = .returned (.bool true) ∧ ∃ m, w' = w.drewN m := by
  go_enter Tryd.func35, Tryd.ntmps35
  go_wp2
  go_loopw [5] (fun i wr => i = .int .i64 0 ∧ wr = w) (fun _ _ => 0)
  case atStart => exact ⟨rfl, rfl⟩
  case round =>
    obtain ⟨rfl, rfl⟩ := hrel
    go_wp2
    go_ret
    exact ⟨rfl, 0, rfl⟩

set_option maxHeartbeats 1000000 in
theorem eq_c32 (n : Nat) (hn : n ≤ 1048576) (xs : Nat → Nat × Nat) (hx : ∀ i, i < n → Small (xs i)) (b c capb capc : Nat) (w : World)
    (hb : ∀ i, i < n → w.cell? ⟨b, i, none⟩ = some (cval (xs i))) (hc : ∀ i, i < n → w.cell? ⟨c, i, none⟩ = some (cval (xs i))) :
    Calls Tryd.prog 35 #[.slice (some ⟨b, 0, none⟩) n capb, .slice (some ⟨c, 0, none⟩) n capc] w fun e w' => e = .returned (.bool true) ∧ ∃ m, w' = w.drewN m := by
  have HB := Lib.hid hb
  have HC := Lib.hid hc
  have HX := Lib.hid hx
  clear hb hc hx
  have en : ((n : Int) != n) = false := by simp
  go_enter Tryd.func35, Tryd.ntmps35
  go_wp2
  go_loopw [5] (fun i wr => ∃ k m : Nat, k ≤ n ∧ i = .int .i64 k ∧ wr = w.drewN m) (fun i _ => n - (intOf i).toNat)
  case atStart => exact ⟨0, 0, Nat.zero_le _, rfl, rfl⟩
  case round =>
    obtain ⟨k, m, hk, rfl, rfl⟩ := hrel
    by_cases hlt : k < n
    · have hxk := HX.out k hlt
      have cb := HB.out k hlt
      have cc := HC.out k hlt
      generalize xs k = z at *
      obtain ⟨z1, z2⟩ := z
      have ab1 : Ab .f32 z1 (ab .f32 z1) := Ab.self hxk.1
      have ab2 : Ab .f32 z2 (ab .f32 z2) := Ab.self hxk.2
      unfold cval at cb cc
      dsimp only at cb cc
      go_wp2
      refine Rg.region (fun w' => ∃ j, w' = w.drewN j) (Rg.pick [Rg.one (.slice (some ⟨b, 0, none⟩) n capb), Rg.one (.int .i64 k), Rg.one (.pointer (some ⟨b, k, none⟩)), Rg.one (.complex .f32 z1 z2), cw (ab .f32 z1) (ab .f32 z2),
        Rg.one (.slice (some ⟨c, 0, none⟩) n capc), Rg.one (.int .i64 k), Rg.one (.pointer (some ⟨c, k, none⟩)), Rg.one (.complex .f32 z1 z2), cw (ab .f32 z1) (ab .f32 z2), Rg.one (.bool true), Rg.one (.bool false)]) (by kernel_rfl) (by kernel_rfl) ⟨m + 1, rfl⟩
        (Rg.pick_ne (by simp [Rg.one_ne, cw_ne ab1 ab2])) ?_
      (refine Rg.line_step rfl rfl (Rg.good_one fun w' hw' => (by obtain ⟨j, rfl⟩ := hw'; go_simp)) ?_; rintro _ rfl; go_simp)
      (refine Rg.line_step rfl rfl (Rg.good_one fun w' hw' => (by obtain ⟨j, rfl⟩ := hw'; go_simp)) ?_; rintro _ rfl; go_simp)
      (refine Rg.line_step rfl rfl (Rg.good_one fun w' hw' => (by obtain ⟨j, rfl⟩ := hw'; go_simp)) ?_; rintro _ rfl; go_simp)
      (refine Rg.line_step rfl rfl (Rg.good_one fun w' hw' => (by obtain ⟨j, rfl⟩ := hw'; go_simp)) ?_; rintro _ rfl; go_simp)
      (refine Rg.line_step rfl rfl (good_cwide (Rg.drawn_class _) _ _ _ rfl _ _ rfl rfl rfl ab1 ab2) ?_; rintro _ ⟨r1, s1, rfl, hr1, hs1⟩; go_simp)
      (refine Rg.line_step rfl rfl (Rg.good_one fun w' hw' => (by obtain ⟨j, rfl⟩ := hw'; go_simp)) ?_; rintro _ rfl; go_simp)
      (refine Rg.line_step rfl rfl (Rg.good_one fun w' hw' => (by obtain ⟨j, rfl⟩ := hw'; go_simp)) ?_; rintro _ rfl; go_simp)
      (refine Rg.line_step rfl rfl (Rg.good_one fun w' hw' => (by obtain ⟨j, rfl⟩ := hw'; go_simp)) ?_; rintro _ rfl; go_simp)
      (refine Rg.line_step rfl rfl (Rg.good_one fun w' hw' => (by obtain ⟨j, rfl⟩ := hw'; go_simp)) ?_; rintro _ rfl; go_simp)
      (refine Rg.line_step rfl rfl (good_cwide (Rg.drawn_class _) _ _ _ rfl _ _ rfl rfl rfl ab1 ab2) ?_; rintro _ ⟨r2, s2, rfl, hr2, hs2⟩; go_simp)
      refine Rg.line_step rfl rfl (Rg.good_call (f := 62) (args := #[.complex .f64 r1 s1, .complex .f64 r2 s2]) (fun w' hw' => (by go_simp)) fun w' hw' => ?_) ?_
      · obtain ⟨j, rfl⟩ := hw'
        refine (same_complex _ _ _ _ _ _ hr1 hs1 hr2 hs2 _).mono ?_
        rintro e w' ⟨rfl, j2, rfl⟩
        exact ⟨_, rfl, rfl, j + j2, World.drewN_drewN _ _ _⟩
      rintro _ rfl
      go_simp
      (refine Rg.line_step rfl rfl (Rg.good_one fun w' hw' => (by obtain ⟨j, rfl⟩ := hw'; go_simp)) ?_; rintro _ rfl; go_simp)
      intro j
      go_wp2
      go_roundw
      case rel => exact ⟨k + 1, _, by omega, by go_num, rfl⟩
      case measure => simp [intOf]; omega
    · go_wp2
      go_ret
      exact ⟨rfl, _, rfl⟩

theorem getD_at (xs : List (Nat × Nat)) (i : Nat) (h : i < xs.length) : xs.getD i (0, 0) = xs[i] := by simp [List.getD, h]
theorem eq_rows {w : World} {b1 b2 : Nat} {v1 v2 : Value} {xs : List (Nat × Nat)} (hn : xs.length ≤ 1048576) (hx : ∀ x ∈ xs, Small x) (h1 : Row w b1 v1 xs) (h2 : Row w b2 v2 xs) :
    Calls Tryd.prog 35 #[v1, v2] w fun e w' => e = .returned (.bool true) ∧ ∃ m, w' = w.drewN m := by
  cases xs with
  | nil =>
    obtain ⟨a, c, rfl⟩ := h1.empty
    obtain ⟨b, d, rfl⟩ := h2.empty
    exact eq_empty a b c d w
  | cons x xs =>
    rcases h1.shape with ⟨_, h⟩ | ⟨g1, c1, rfl⟩
    · cases h
    · rcases h2.shape with ⟨_, h⟩ | ⟨g2, c2, rfl⟩
      · cases h
      · have hab : ∀ i, i < (x :: xs).length → Small ((x :: xs).getD i (0, 0)) := fun i hi => by
          rw [getD_at _ _ hi]
          exact hx _ (List.getElem_mem hi)
        exact eq_c32 _ hn (fun i => (x :: xs).getD i (0, 0)) hab g1 g2 c1 c2 w (fun i hi => by rw [h1.cell i hi, getD_at _ _ hi]) (fun i hi => by rw [h2.cell i hi, getD_at _ _ hi])

/-- The mark of the i-th place. -/
def mk (i : Nat) : Nat × Nat := (FloatKind.f32.encode (FloatKind.f64.decode (floatOfInt .f64 ((i : Int) + 1))), 1065353216)
theorem mk_conv : ∀ i : Nat, i < 256 → cConvBits .f64 (floatOfInt .f64 ((i : Int) + 1)) 4607182418800017408 .f32 = some (mk i) := by decide +kernel
theorem mk_same : ∀ i : Nat, i < 256 → (!(FloatKind.f32.format.order (mk i).1 (mk i).1 == some .eq && FloatKind.f32.format.order (mk i).2 (mk i).2 == some .eq)) = false := by decide +kernel

set_option maxHeartbeats 1000000 in
theorem mark_row {w : World} {base : Nat} {v : Value} {xs : List (Nat × Nat)} (hn : xs.length ≤ 256) (h : Row w base v xs) :
    Calls Tryd.prog 36 #[v, .int .i64 1] w fun e w' => e = .returned (.int .i64 ((xs.length : Int) + 1)) ∧ Row w' base v (marks mk xs.length) ∧ w.grownBy w' v.ownBlock := by
  rcases h.shape with ⟨rfl, rfl⟩ | ⟨g, cap, rfl⟩
  · go_enter Tryd.func36, Tryd.ntmps36
    go_wp2
    go_loopw [1, 5] (fun k i wr => k = .int .i64 1 ∧ i = .int .i64 0 ∧ wr = w) (fun _ _ _ => 0)
    case atStart => exact ⟨rfl, rfl, rfl⟩
    case round =>
      obtain ⟨rfl, rfl, rfl⟩ := hrel
      go_wp2
      go_ret
      exact ⟨rfl, by simpa [marks] using h, World.grownBy.refl _ _⟩
  · go_enter Tryd.func36, Tryd.ntmps36
    go_wp2
    go_loopw [1, 5] (fun q i wr => ∃ k : Nat, k ≤ xs.length ∧ q = .int .i64 ((k : Int) + 1) ∧ i = .int .i64 k ∧ Row wr base (.slice (some ⟨g, 0, none⟩) xs.length cap) (marked mk xs k) ∧ w.grownBy wr (some g)) (fun _ i _ => xs.length - (intOf i).toNat)
    case atStart => exact ⟨0, Nat.zero_le _, rfl, rfl, by rw [marked_zero]; exact h, World.grownBy.refl _ _⟩
    case round =>
      obtain ⟨k, hk, rfl, rfl, hR, hG⟩ := hrel
      by_cases hlt : k < xs.length
      · have hc := row.Row.cell hR k (by rw [marked_length]; exact hlt)
        have hf := row.Row.free hR k
        have hcv := mk_conv k (by omega)
        have HN := Lib.hid (row.Row.store hR rfl)
        have HG := Lib.hid (re.grown_trans hG (re.grown_set wr g k (cval (mk k))))
        clear hR hG
        generalize mk k = mm at *
        obtain ⟨m1, m2⟩ := mm
        go_wp2_with (refine fl_cconv rfl _ _ _ rfl _ _ _ _ _ _ rfl rfl rfl hcv ?_)
        go_roundw
        case rel => exact ⟨k + 1, by omega, by go_num, by go_num, HN.out, HG.out⟩
        case measure => simp [intOf]; omega
      · obtain rfl : k = xs.length := by omega
        rw [marked_all] at hR
        have HR := Lib.hid hR
        clear hR
        go_wp2
        go_ret
        exact ⟨rfl, HR.out, hG⟩

set_option maxHeartbeats 1000000 in
theorem held_row {w : World} {base : Nat} {v : Value} {n : Nat} (hn : n ≤ 256) (h : Row w base v (marks mk n)) :
    Calls Tryd.prog 37 #[v, .int .i64 1] w fun e w' => e = .returned (.int .i64 ((n : Int) + 1)) ∧ w' = w := by
  rcases h.shape with ⟨rfl, h0⟩ | ⟨g, cap, rfl⟩
  · obtain rfl : n = 0 := by rw [← marks_length mk n, h0]; rfl
    go_enter Tryd.func37, Tryd.ntmps37
    go_wp2
    go_loop [1, 5] (fun k i => k = .int .i64 1 ∧ i = .int .i64 0) (fun _ _ => 0)
    case atStart => exact ⟨rfl, rfl⟩
    case round =>
      obtain ⟨rfl, rfl⟩ := hrel
      go_wp2
      go_ret
      exact ⟨rfl, rfl⟩
  · rw [marks_length] at *
    go_enter Tryd.func37, Tryd.ntmps37
    go_wp2
    go_loop [1, 5] (fun q i => ∃ k : Nat, k ≤ n ∧ q = .int .i64 ((k : Int) + 1) ∧ i = .int .i64 k) (fun _ i => n - (intOf i).toNat)
    case atStart => exact ⟨0, Nat.zero_le _, rfl, rfl⟩
    case round =>
      obtain ⟨k, hk, rfl, rfl⟩ := hrel
      by_cases hlt : k < n
      · have hc := row.Row.cell h k (by rw [marks_length]; exact hlt)
        rw [marks_at mk n k hlt] at hc
        have hcv := mk_conv k (by omega)
        have hsm := mk_same k (by omega)
        generalize mk k = mm at *
        obtain ⟨m1, m2⟩ := mm
        unfold cval at hc
        dsimp only at hc hsm
        go_wp2_with (first | (refine fl_cconv rfl _ _ _ rfl _ _ _ _ _ _ rfl rfl rfl hcv ?_) | (refine fl_cneq rfl _ _ _ _ rfl _ _ _ _ _ rfl rfl _ hsm ?_))
        exact ⟨⟨k + 1, by omega, by go_num, by go_num⟩, by simp [intOf]; omega⟩
      · obtain rfl : k = n := by omega
        go_wp2
        go_ret
        exact ⟨rfl, rfl⟩
end Go.Proofs.YtnilpooheaaleaaDoor.cx
