/- Walks: ways: what is upright on them; how they are held against one another; the statements' calls. No conditions. -/
import Derived.Test.YtnkogheibofboaaWw
namespace Go.Proofs.Ytnkogheibofboaa.B
open Go.RowKit

namespace Rg
open Go.Proofs.Ytnkogheibofboaa.Rg
/-- A number and true, or 0 and false. -/
def pairIf (ok : Bool) (X : Option Nat) : Value → Prop := fun u => ∃ r, u = .tuple #[.float .f32 r, .bool ok] ∧ Ab .f32 r (if ok = true then X else some 0)
def isWay (X Y Z : Option Nat) : Value → Prop := fun u => ∃ x y z, u = .agg #[.float .f32 x, .float .f32 y, .float .f32 z] ∧ Ab .f32 x X ∧ Ab .f32 y Y ∧ Ab .f32 z Z
def wayIf (ok : Bool) (X Y Z : Option Nat) : Value → Prop := fun u =>
  ∃ x y z, u = .tuple #[.agg #[.float .f32 x, .float .f32 y, .float .f32 z], .bool ok] ∧ Ab .f32 x (if ok = true then X else some 0) ∧ Ab .f32 y (if ok = true then Y else some 0) ∧ Ab .f32 z (if ok = true then Z else some 0)
theorem ab_if {X : Option Nat} (ok : Bool) (h : ∃ r, Ab .f32 r X) : ∃ r, Ab .f32 r (if ok = true then X else some 0) := by
  cases ok
  · exact ⟨0, Ab.lit rfl (by decide)⟩
  · simpa using h
theorem pairIf_ne {X : Option Nat} (ok : Bool) (h : ∃ r, Ab .f32 r X) : ∃ u, pairIf ok X u := let ⟨r, hr⟩ := ab_if ok h; ⟨_, r, rfl, hr⟩
theorem isWay_ne {X Y Z : Option Nat} (h1 : ∃ r, Ab .f32 r X) (h2 : ∃ r, Ab .f32 r Y) (h3 : ∃ r, Ab .f32 r Z) : ∃ u, isWay X Y Z u :=
  let ⟨_, hr⟩ := h1; let ⟨_, hs⟩ := h2; let ⟨_, ht⟩ := h3; ⟨_, _, _, _, rfl, hr, hs, ht⟩
theorem wayIf_ne {X Y Z : Option Nat} (ok : Bool) (h1 : ∃ r, Ab .f32 r X) (h2 : ∃ r, Ab .f32 r Y) (h3 : ∃ r, Ab .f32 r Z) : ∃ u, wayIf ok X Y Z u :=
  let ⟨_, hr⟩ := ab_if ok h1; let ⟨_, hs⟩ := ab_if ok h2; let ⟨_, ht⟩ := ab_if ok h3; ⟨_, _, _, _, rfl, hr, hs, ht⟩

section
variable {P : Program} {W : World} {o : Oper} {a : Act} {f : FuncId} {args : Array Value}
theorem good_says {v : Value} (h : ∀ w, (execOp a.eval o).run P w = .ok (.enter f args) w) (hc : ∀ w, Calls P f args w (Says v w)) : good P (fun w' => Below W.heap.size W w') o a (one v) :=
  good_call (fun w _ => h w) fun w hw => (hc w).mono fun _ _ ⟨he, hb⟩ => ⟨_, he, rfl, hw.trans (hb.mono hw.size)⟩
theorem good_draws {v : Value} (h : ∀ w, (execOp a.eval o).run P w = .ok (.enter f args) w) (hc : ∀ w, Calls P f args w (Draws v w)) : good P (fun w' => Below W.heap.size W w') o a (one v) :=
  good_call (fun w _ => h w) fun w hw => (hc w).mono fun _ _ ⟨he, n, hn⟩ => ⟨_, he, rfl, by rw [hn]; exact below_drewN hw n⟩
theorem good_saysA {X : Option Nat} (h : ∀ w, (execOp a.eval o).run P w = .ok (.enter f args) w) (hc : ∀ w, Calls P f args w (SaysA X w)) : good P (fun w' => Below W.heap.size W w') o a (fl .f32 X) :=
  good_call (fun w _ => h w) fun w hw => (hc w).mono fun _ _ ⟨r, he, hr, hb⟩ => ⟨_, he, ⟨r, rfl, hr⟩, hw.trans (hb.mono hw.size)⟩
theorem good_givesIf {ok : Bool} {X : Option Nat} (h : ∀ w, (execOp a.eval o).run P w = .ok (.enter f args) w) (hc : ∀ w, Calls P f args w (GivesIf ok X w)) : good P (fun w' => Below W.heap.size W w') o a (pairIf ok X) :=
  good_call (fun w _ => h w) fun w hw => (hc w).mono fun _ _ ⟨r, m, he, hr, hn⟩ => ⟨_, he, ⟨r, rfl, hr⟩, by rw [hn]; exact below_drewN hw m⟩
theorem good_saysIf {ok : Bool} {X : Option Nat} (h : ∀ w, (execOp a.eval o).run P w = .ok (.enter f args) w) (hc : ∀ w, Calls P f args w (SaysIf ok X w)) : good P (fun w' => Below W.heap.size W w') o a (pairIf ok X) :=
  good_call (fun w _ => h w) fun w hw => (hc w).mono fun _ _ ⟨r, he, hr, hb⟩ => ⟨_, he, ⟨r, rfl, hr⟩, hw.trans (hb.mono hw.size)⟩
theorem good_saysWay {X Y Z : Option Nat} (h : ∀ w, (execOp a.eval o).run P w = .ok (.enter f args) w) (hc : ∀ w, Calls P f args w (SaysWay X Y Z w)) : good P (fun w' => Below W.heap.size W w') o a (isWay X Y Z) :=
  good_call (fun w _ => h w) fun w hw => (hc w).mono fun _ _ ⟨x, y, z, he, hx, hy, hz, hb⟩ => ⟨_, he, ⟨x, y, z, rfl, hx, hy, hz⟩, hw.trans (hb.mono hw.size)⟩
theorem good_saysWayIf {ok : Bool} {X Y Z : Option Nat} (h : ∀ w, (execOp a.eval o).run P w = .ok (.enter f args) w) (hc : ∀ w, Calls P f args w (SaysWayIf ok X Y Z w)) : good P (fun w' => Below W.heap.size W w') o a (wayIf ok X Y Z) :=
  good_call (fun w _ => h w) fun w hw => (hc w).mono fun _ _ ⟨x, y, z, he, hx, hy, hz, hb⟩ => ⟨_, he, ⟨x, y, z, rfl, hx, hy, hz⟩, hw.trans (hb.mono hw.size)⟩
end
end Rg

section
variable {x y z x' y' z' : Nat} {X Y Z X' Y' Z' : Option Nat} (hx : Ab .f32 x X) (hy : Ab .f32 y Y) (hz : Ab .f32 z Z) (hx' : Ab .f32 x' X') (hy' : Ab .f32 y' Y') (hz' : Ab .f32 z' Z') (w : World)

theorem two_boxes (w : World) (t u : TypeId) (cs ds : Array Value) : ∃ W, (w.alloc (.cells cs t)).alloc (.cells ds u) = W ∧ Box W w.heap.size cs ∧ Box W (w.heap.size + 1) ds ∧ Below w.heap.size w W :=
  ⟨_, rfl, (Box.start w cs t (0, 0)).alloc _, by
    have h := Box.start (w.alloc (.cells cs t)) ds u (0, 0)
    have e : (w.alloc (.cells cs t)).heap.size = w.heap.size + 1 := by simp
    rw [e] at h
    exact h, ((Below.refl _ _).alloc (Nat.le_refl _) _).alloc (by simp) _⟩

include w hx hy hz hx' hy' hz' in
theorem dot_ex : ∃ r, Ab .f32 r (dotWay X Y Z X' Y' Z') := by
  obtain ⟨a, ha⟩ := Rg.fl_op (P := Try.prog) (op := .mul) rfl 0 w hx hx'
  obtain ⟨b, hb⟩ := Rg.fl_op (P := Try.prog) (op := .mul) rfl 0 w hy hy'
  obtain ⟨c, hc⟩ := Rg.fl_op (P := Try.prog) (op := .mul) rfl 0 w hz hz'
  obtain ⟨d, hd⟩ := Rg.fl_op (P := Try.prog) (op := .add) rfl 0 w ha hb
  exact Rg.fl_op (P := Try.prog) (op := .add) rfl 0 w hd hc
include w hx hy hx' hy' in
theorem cross_ex : ∃ r, Ab .f32 r (crossA X Y X' Y') := by
  obtain ⟨a, ha⟩ := Rg.fl_op (P := Try.prog) (op := .mul) rfl 0 w hx hy'
  obtain ⟨b, hb⟩ := Rg.fl_op (P := Try.prog) (op := .mul) rfl 0 w hy hx'
  exact Rg.fl_op (P := Try.prog) (op := .sub) rfl 0 w ha hb

include hx hy hz hx' hy' hz' in
set_option maxHeartbeats 1000000 in
theorem spec_cross : Calls Try.prog 80 #[.agg #[.float .f32 x, .float .f32 y, .float .f32 z], .agg #[.float .f32 x', .float .f32 y', .float .f32 z']] w (SaysWay (crossA Y Z Y' Z') (crossA Z X Z' X') (crossA X Y X' Y') w) := by
  unfold crossA
  go_enter Try.func80, Try.ntmps80
  go_wp2_with (first | (refine fl_arith rfl _ _ _ _ _ rfl rfl _ _ _ rfl rfl ?_; intro r n hr0; have hr := hr0 _ _ (by first | assumption | exact Ab.lit rfl (by decide)) (by first | assumption | exact Ab.lit rfl (by decide)); clear hr0) | (refine fl_cmp rfl _ _ _ _ _ rfl rfl _ _ _ rfl rfl ?_; intro b hb0; have hb := hb0 _ _ (by first | assumption | exact Ab.lit rfl (by decide)) (by first | assumption | exact Ab.lit rfl (by decide)); clear hb0; (try simp only [*] at hb); subst hb) | (refine fl_same rfl _ _ _ rfl _ _ rfl rfl rfl ?_) | (refine fl_wide rfl _ _ _ rfl _ rfl rfl rfl ?_; intro r n hr0; have hr := hr0 _ (by first | assumption | exact Ab.lit rfl (by decide)); clear hr0) | (refine fl_narrow rfl _ _ _ rfl _ rfl rfl rfl ?_; intro r n hl hr0; have hr := hr0 _ (by first | assumption | exact Ab.lit rfl (by decide)) (by assumption); clear hr0 hl) | (refine fl_neg rfl _ _ rfl _ _ rfl ?_; intro r hr0; have hr := hr0 _ (by first | assumption | exact Ab.lit rfl (by decide)); clear hr0) | go_in)
  rename_i a1 m1 g1 a2 m2 g2 s1 m3 g3 a4 m4 g4 a5 m5 g5 s2 m6 g6 a7 m7 g7 a8 m8 g8
  exact bodyPost_ret (v := .agg #[.float .f32 s1, .float .f32 s2, .float .f32 r]) (by simp [results, Try.results80, go_sem]) rfl ⟨s1, s2, r, rfl, g3, g6, hr, below_drewN ((((Below.refl _ _).alloc (Nat.le_refl _) _).alloc (by simp) _).alloc (by simp; omega) _) _⟩

include hx hy hz hx' hy' hz' in
set_option maxHeartbeats 1000000 in
theorem impl_cross : Calls Try.prog 82 #[.agg #[.float .f32 x, .float .f32 y, .float .f32 z], .agg #[.float .f32 x', .float .f32 y', .float .f32 z']] w (SaysWay (crossA Y Z Y' Z') (crossA Z X Z' X') (crossA X Y X' Y') w) := by
  unfold crossA
  go_enter Try.func82, Try.ntmps82
  go_wp2_with (first | (refine fl_arith rfl _ _ _ _ _ rfl rfl _ _ _ rfl rfl ?_; intro r n hr0; have hr := hr0 _ _ (by first | assumption | exact Ab.lit rfl (by decide)) (by first | assumption | exact Ab.lit rfl (by decide)); clear hr0) | (refine fl_cmp rfl _ _ _ _ _ rfl rfl _ _ _ rfl rfl ?_; intro b hb0; have hb := hb0 _ _ (by first | assumption | exact Ab.lit rfl (by decide)) (by first | assumption | exact Ab.lit rfl (by decide)); clear hb0; (try simp only [*] at hb); subst hb) | (refine fl_same rfl _ _ _ rfl _ _ rfl rfl rfl ?_) | (refine fl_wide rfl _ _ _ rfl _ rfl rfl rfl ?_; intro r n hr0; have hr := hr0 _ (by first | assumption | exact Ab.lit rfl (by decide)); clear hr0) | (refine fl_narrow rfl _ _ _ rfl _ rfl rfl rfl ?_; intro r n hl hr0; have hr := hr0 _ (by first | assumption | exact Ab.lit rfl (by decide)) (by assumption); clear hr0 hl) | (refine fl_neg rfl _ _ rfl _ _ rfl ?_; intro r hr0; have hr := hr0 _ (by first | assumption | exact Ab.lit rfl (by decide)); clear hr0) | go_in)
  rename_i a1 m1 g1 a2 m2 g2 s1 m3 g3 a4 m4 g4 a5 m5 g5 s2 m6 g6 a7 m7 g7 a8 m8 g8
  exact bodyPost_ret (v := .agg #[.float .f32 s1, .float .f32 s2, .float .f32 r]) (by simp [results, Try.results82, go_sem]) rfl ⟨s1, s2, r, rfl, g3, g6, hr, below_drewN ((((Below.refl _ _).alloc (Nat.le_refl _) _).alloc (by simp) _).alloc (by simp; omega) _) _⟩

set_option maxHeartbeats 1000000 in
theorem to_way : Calls Try.prog 23 #[.agg #[.float .f32 x, .float .f32 y, .float .f32 z]] w (Says (.agg #[.float .f32 x, .float .f32 y, .float .f32 z]) w) := by
  go_enter Try.func23, Try.ntmps23
  go_wp2_with (first | (refine fl_arith rfl _ _ _ _ _ rfl rfl _ _ _ rfl rfl ?_; intro r n hr0; have hr := hr0 _ _ (by first | assumption | exact Ab.lit rfl (by decide)) (by first | assumption | exact Ab.lit rfl (by decide)); clear hr0) | (refine fl_cmp rfl _ _ _ _ _ rfl rfl _ _ _ rfl rfl ?_; intro b hb0; have hb := hb0 _ _ (by first | assumption | exact Ab.lit rfl (by decide)) (by first | assumption | exact Ab.lit rfl (by decide)); clear hb0; (try simp only [*] at hb); subst hb) | (refine fl_same rfl _ _ _ rfl _ _ rfl rfl rfl ?_) | (refine fl_wide rfl _ _ _ rfl _ rfl rfl rfl ?_; intro r n hr0; have hr := hr0 _ (by first | assumption | exact Ab.lit rfl (by decide)); clear hr0) | (refine fl_narrow rfl _ _ _ rfl _ rfl rfl rfl ?_; intro r n hl hr0; have hr := hr0 _ (by first | assumption | exact Ab.lit rfl (by decide)) (by assumption); clear hr0 hl) | (refine fl_neg rfl _ _ rfl _ _ rfl ?_; intro r hr0; have hr := hr0 _ (by first | assumption | exact Ab.lit rfl (by decide)); clear hr0) | go_in)
  exact bodyPost_ret (v := .agg #[.float .f32 x, .float .f32 y, .float .f32 z]) (by simp [results, Try.results23, go_sem]) rfl ⟨rfl, (((Below.refl _ _).alloc (Nat.le_refl _) _).alloc (by simp) _).alloc (by simp; omega) _⟩


end
end Go.Proofs.Ytnkogheibofboaa.B
