/- Walks: CrossWays, both sides. No conditions. -/
import Derived.Test.YtnkogheibofboaaWc2
namespace Go.Proofs.Ytnkogheibofboaa.B
open Go.RowKit
set_option maxRecDepth 8000

namespace Rk
open Go.Proofs.Ytnkogheibofboaa.Rk
section
variable {P : Program} {B : Nat} {W : World} {o : Oper} {a : Act} {f : FuncId} {args : Array Value} {n : Nat}
theorem good_box (ty : TypeId) (x : Operand) (ho : o.op = .load ty x) (g : Nat) (hx : a.eval x = .pointer (some ⟨g, 0, none⟩)) (cs : Array Value) (hB : ∀ w, Below B W w → Box w g cs) (hs : cs.size = n)
    (d : TypeDesc) (hu : P.underlying ty = some d) (hd : (match d with | .struct _ | .array _ _ => true | _ => false) = true) (hi : (P.info? ty).map (·.size) = some n) : good P B W o a (Rg.one (.agg cs)) := fun w hw => by
  obtain ⟨t, fr, hB⟩ := hB w hw
  have e : (execOp a.eval o).run P w = .ok (.value (.agg cs)) w := by
    unfold execOp
    simp only [ho, hx, Instr.loadAt, Instr.sureAddr, Sem.run_bind, Sem.run_pure, Result.andThen_ok, run_loadVar_row w g t ty cs fr d hB hu hd (by rw [hs]; exact hi)]
  rw [e]
  exact ⟨Below.refl _ _, rfl⟩
theorem good_says {v : Value} (h : ∀ w, (execOp a.eval o).run P w = .ok (.enter f args) w) (hc : ∀ w, Calls P f args w (Says v w)) : good P B W o a (Rg.one v) :=
  good_call h fun w => (hc w).mono fun _ _ ⟨he, hb⟩ => ⟨_, he, rfl, hb⟩
theorem good_saysWay {X Y Z : Option Nat} (h : ∀ w, (execOp a.eval o).run P w = .ok (.enter f args) w) (hc : ∀ w, Calls P f args w (SaysWay X Y Z w)) : good P B W o a (Rg.isWay X Y Z) :=
  good_call h fun w => (hc w).mono fun _ _ ⟨x, y, z, he, hx, hy, hz, hb⟩ => ⟨_, he, ⟨x, y, z, rfl, hx, hy, hz⟩, hb⟩
theorem good_saysWayIf {ok : Bool} {X Y Z : Option Nat} (h : ∀ w, (execOp a.eval o).run P w = .ok (.enter f args) w) (hc : ∀ w, Calls P f args w (SaysWayIf ok X Y Z w)) : good P B W o a (Rg.wayIf ok X Y Z) :=
  good_call h fun w => (hc w).mono fun _ _ ⟨x, y, z, he, hx, hy, hz, hb⟩ => ⟨_, he, ⟨x, y, z, rfl, hx, hy, hz⟩, hb⟩
end
end Rk

theorem three_boxes (w : World) (t u s : TypeId) (cs ds es : Array Value) : ∃ W, ((w.alloc (.cells cs t)).alloc (.cells ds u)).alloc (.cells es s) = W ∧ Box W w.heap.size cs ∧ Box W (w.heap.size + 1) ds ∧ Rk.Own W (w.heap.size + 2) es ∧ Below w.heap.size w W ∧ w.heap.size + 2 ≤ W.heap.size := by
  have e1 : (w.alloc (.cells cs t)).heap.size = w.heap.size + 1 := by simp
  have e2 : ((w.alloc (.cells cs t)).alloc (.cells ds u)).heap.size = w.heap.size + 2 := by simp
  refine ⟨_, rfl, ((Box.start w cs t (0, 0)).alloc _).alloc _, ?_, ⟨s, ?_⟩, (((Below.refl _ _).alloc (Nat.le_refl _) _).alloc (by simp) _).alloc (by simp; omega) _, by simp⟩
  · have h := (Box.start (w.alloc (.cells cs t)) ds u (0, 0)).alloc (.cells es s)
    rw [e1] at h
    exact h
  · have h := heap_alloc_new ((w.alloc (.cells cs t)).alloc (.cells ds u)) (.cells es s)
    rw [e2] at h
    exact h

section
variable {x y z x' y' z' : Nat} {X Y Z X' Y' Z' : Option Nat} (hx : Ab .f32 x X) (hy : Ab .f32 y Y) (hz : Ab .f32 z Z) (hx' : Ab .f32 x' X') (hy' : Ab .f32 y' Y') (hz' : Ab .f32 z' Z') (w : World)

include hx hy hz hx' hy' hz' in
set_option maxHeartbeats 4000000 in
theorem impl_CrossWays : Calls Try.prog 38 #[.agg #[.float .f32 x, .float .f32 y, .float .f32 z], .agg #[.float .f32 x', .float .f32 y', .float .f32 z']] w
    (SaysWayIf (finWay X Y Z && finWay X' Y' Z' && finWay (crossA Y Z Y' Z') (crossA Z X Z' X') (crossA X Y X' Y')) (crossA Y Z Y' Z') (crossA Z X Z' X') (crossA X Y X' Y') w) := by
  have hX := cross_ex hy hz hy' hz' w
  have hY := cross_ex hz hx hz' hx' w
  have hZ := cross_ex hx hy hx' hy' w
  have HC := fun w' => impl_cross hx hy hz hx' hy' hz' w'
  have H1 := fun w' => impl_isWay hx hy hz w'
  have H2 := fun w' => impl_isWay hx' hy' hz' w'
  generalize crossA Y Z Y' Z' = CX at *
  generalize crossA Z X Z' X' = CY at *
  generalize crossA X Y X' Y' = CZ at *
  generalize finWay X' Y' Z' = f2 at *
  cases h1 : finWay X Y Z <;> rw [h1] at H1
  · have H3 : ∀ a b c, Ab .f32 a CX → Ab .f32 b CY → Ab .f32 c CZ → ∀ w', Calls Try.prog 81 #[.agg #[.float .f32 a, .float .f32 b, .float .f32 c], .bool false] w' (SaysWayIf false CX CY CZ w') := fun a b c ha hb hc w' => impl_finiteWay ha hb hc w' false
    go_enter Try.func38, Try.ntmps38
    go_wp2_with (first | (refine fl_arith rfl _ _ _ _ _ rfl rfl _ _ _ rfl rfl ?_; intro r n hr0; have hr := hr0 _ _ (by first | assumption | exact Ab.lit rfl (by decide)) (by first | assumption | exact Ab.lit rfl (by decide)); clear hr0) | (refine fl_cmp rfl _ _ _ _ _ rfl rfl _ _ _ rfl rfl ?_; intro b hb0; have hb := hb0 _ _ (by first | assumption | exact Ab.lit rfl (by decide)) (by first | assumption | exact Ab.lit rfl (by decide)); clear hb0; (try simp only [*] at hb); subst hb) | (refine fl_same rfl _ _ _ rfl _ _ rfl rfl rfl ?_) | (refine fl_wide rfl _ _ _ rfl _ rfl rfl rfl ?_; intro r n hr0; have hr := hr0 _ (by first | assumption | exact Ab.lit rfl (by decide)); clear hr0) | (refine fl_narrow rfl _ _ _ rfl _ rfl rfl rfl ?_; intro r n hl hr0; have hr := hr0 _ (by first | assumption | exact Ab.lit rfl (by decide)) (by assumption); clear hr0 hl) | (refine fl_neg rfl _ _ rfl _ _ rfl ?_; intro r hr0; have hr := hr0 _ (by first | assumption | exact Ab.lit rfl (by decide)); clear hr0) | go_in)
    obtain ⟨W, hW, b1, b2, o1, bel, hsz⟩ := three_boxes w 37 37 37 #[.float .f32 x, .float .f32 y, .float .f32 z] #[.float .f32 x', .float .f32 y', .float .f32 z'] #[.float .f32 0, .float .f32 0, .float .f32 0]
    rw [hW]
    clear hW
    refine Rk.region ⟨12, 10, 16, 4, none, 3, w.heap.size + 2, W⟩ (Rg.pick [Rg.one (.agg #[.float .f32 x, .float .f32 y, .float .f32 z]), Rg.one (.agg #[.float .f32 x', .float .f32 y', .float .f32 z']), Rg.isWay CX CY CZ, Rg.one (.agg #[.float .f32 x, .float .f32 y, .float .f32 z]), Rg.one (.bool false), Rg.one (.bool false), Rg.one undef, Rg.one undef, Rg.one (.bool false),
      Rg.wayIf false CX CY CZ, Rg.isWay (if false = true then CX else some 0) (if false = true then CY else some 0) (if false = true then CZ else some 0), Rg.one (.bool false), Rg.one undef, Rg.one (.bool false)]) (by kernel_rfl) (Rk.fit_of (ty := 37) (by kernel_rfl) hsz info_way rfl (fun i hi => by cases hi)) (by kernel_rfl) (by simp) (by simp) rfl (fun _ => ⟨_, _, Nat.le_refl _, rfl, o1, rfl⟩)
      (Rg.pick_ne (by intro T hT; simp only [List.mem_cons, List.not_mem_nil, or_false] at hT; rcases hT with rfl | rfl | rfl | rfl | rfl | rfl | rfl | rfl | rfl | rfl | rfl | rfl | rfl | rfl <;> first | exact Rg.one_ne _ | exact Rg.isWay_ne hX hY hZ | exact Rg.wayIf_ne _ hX hY hZ | exact Rg.isWay_ne (Rg.ab_if _ hX) (Rg.ab_if _ hY) (Rg.ab_if _ hZ))) ?_
    (refine Rk.line_step rfl rfl rfl rfl (Rk.good_box (n := 3) _ _ rfl _ rfl _ (fun w' hw' => b1.kept hw' (by show _ < w.heap.size + 2; omega)) (by rfl) _ Try.underlying37 rfl info_way) ?_; rintro _ rfl; go_simp)
    (refine Rk.line_step rfl rfl rfl rfl (Rk.good_box (n := 3) _ _ rfl _ rfl _ (fun w' hw' => b2.kept hw' (by show _ < w.heap.size + 2; omega)) (by rfl) _ Try.underlying37 rfl info_way) ?_; rintro _ rfl; go_simp)
    (refine Rk.line_step rfl rfl rfl rfl (Rk.good_saysWay (fun w' => by go_simp) fun w' => HC w') ?_; rintro _ ⟨r1, r2, r3, rfl, g1, g2, g3⟩; go_simp)
    (refine Rk.line_step rfl rfl rfl rfl (Rk.good_box (n := 3) _ _ rfl _ rfl _ (fun w' hw' => b1.kept hw' (by show _ < w.heap.size + 2; omega)) (by rfl) _ Try.underlying37 rfl info_way) ?_; rintro _ rfl; go_simp)
    (refine Rk.line_step rfl rfl rfl rfl (Rk.good_says (fun w' => by go_simp) fun w' => H1 w') ?_; rintro _ rfl; go_simp)
    (refine Rk.line_step rfl rfl rfl rfl (Rk.good_one fun w' hw' => (by go_simp)) ?_; rintro _ rfl; go_simp)
    (refine Rk.line_skip rfl ?_; go_simp)
    (refine Rk.line_skip rfl ?_; go_simp)
    (refine Rk.line_step rfl rfl rfl rfl (Rk.good_one fun w' hw' => (by go_simp)) ?_; rintro _ rfl; go_simp)
    (refine Rk.line_step rfl rfl rfl rfl (Rk.good_saysWayIf (fun w' => by go_simp) fun w' => H3 _ _ _ g1 g2 g3 w') ?_; rintro _ ⟨s1, s2, s3, rfl, q1, q2, q3⟩; go_simp)
    (refine Rk.line_step rfl rfl rfl rfl (Rk.good_val ⟨_, _, _, rfl, q1, q2, q3⟩ fun w' hw' => (by go_simp)) ?_; rintro _ ⟨u1, u2, u3, rfl, p1, p2, p3⟩; go_simp)
    (refine Rk.line_step rfl rfl rfl rfl (Rk.good_one fun w' hw' => (by go_simp)) ?_; rintro _ rfl; go_simp)
    (refine Rk.line_store rfl rfl rfl _ rfl rfl (by simp [Value.oneCell']) ?_; go_simp)
    (refine Rk.line_step rfl rfl rfl rfl (Rk.good_one fun w' hw' => (by go_simp)) ?_; rintro _ rfl; go_simp)
    intro w' g cs hb hg he ho hy2
    have he' : Value.pointer (some ⟨w.heap.size + 2, 0, none⟩) = .pointer (some ⟨g, 0, none⟩) := he
    have hy3 : Value.agg #[.float .f32 u1, .float .f32 u2, .float .f32 u3] = .agg cs := hy2
    cases he'
    cases hy3
    clear he hy2
    go_wp2
    exact bodyPost_ret (results_cell_slotK Try.results38 _ _ _ _ _ _ rfl rfl ho Try.underlying37 rfl info_way) rfl ⟨u1, u2, u3, rfl, p1, p2, p3, bel.trans (Below.mono hb (by show _ ≤ w.heap.size + 2; omega))⟩
  · obtain ⟨ok, hok⟩ : ∃ ok, ok = (f2 && finWay CX CY CZ) := ⟨_, rfl⟩
    have H3 : ∀ a b c, Ab .f32 a CX → Ab .f32 b CY → Ab .f32 c CZ → ∀ w', Calls Try.prog 81 #[.agg #[.float .f32 a, .float .f32 b, .float .f32 c], .bool f2] w' (SaysWayIf ok CX CY CZ w') := fun a b c ha hb hc w' => by rw [hok]; exact impl_finiteWay ha hb hc w' f2
    have e : (true && f2 && finWay CX CY CZ) = ok := by rw [hok]; simp
    rw [e]
    clear hok e
    go_enter Try.func38, Try.ntmps38
    go_wp2_with (first | (refine fl_arith rfl _ _ _ _ _ rfl rfl _ _ _ rfl rfl ?_; intro r n hr0; have hr := hr0 _ _ (by first | assumption | exact Ab.lit rfl (by decide)) (by first | assumption | exact Ab.lit rfl (by decide)); clear hr0) | (refine fl_cmp rfl _ _ _ _ _ rfl rfl _ _ _ rfl rfl ?_; intro b hb0; have hb := hb0 _ _ (by first | assumption | exact Ab.lit rfl (by decide)) (by first | assumption | exact Ab.lit rfl (by decide)); clear hb0; (try simp only [*] at hb); subst hb) | (refine fl_same rfl _ _ _ rfl _ _ rfl rfl rfl ?_) | (refine fl_wide rfl _ _ _ rfl _ rfl rfl rfl ?_; intro r n hr0; have hr := hr0 _ (by first | assumption | exact Ab.lit rfl (by decide)); clear hr0) | (refine fl_narrow rfl _ _ _ rfl _ rfl rfl rfl ?_; intro r n hl hr0; have hr := hr0 _ (by first | assumption | exact Ab.lit rfl (by decide)) (by assumption); clear hr0 hl) | (refine fl_neg rfl _ _ rfl _ _ rfl ?_; intro r hr0; have hr := hr0 _ (by first | assumption | exact Ab.lit rfl (by decide)); clear hr0) | go_in)
    obtain ⟨W, hW, b1, b2, o1, bel, hsz⟩ := three_boxes w 37 37 37 #[.float .f32 x, .float .f32 y, .float .f32 z] #[.float .f32 x', .float .f32 y', .float .f32 z'] #[.float .f32 0, .float .f32 0, .float .f32 0]
    rw [hW]
    clear hW
    refine Rk.region ⟨12, 10, 16, 4, none, 3, w.heap.size + 2, W⟩ (Rg.pick [Rg.one (.agg #[.float .f32 x, .float .f32 y, .float .f32 z]), Rg.one (.agg #[.float .f32 x', .float .f32 y', .float .f32 z']), Rg.isWay CX CY CZ, Rg.one (.agg #[.float .f32 x, .float .f32 y, .float .f32 z]), Rg.one (.bool true), Rg.one (.bool true), Rg.one (.agg #[.float .f32 x', .float .f32 y', .float .f32 z']), Rg.one (.bool f2), Rg.one (.bool f2),
      Rg.wayIf ok CX CY CZ, Rg.isWay (if ok = true then CX else some 0) (if ok = true then CY else some 0) (if ok = true then CZ else some 0), Rg.one (.bool ok), Rg.one undef, Rg.one (.bool ok)]) (by kernel_rfl) (Rk.fit_of (ty := 37) (by kernel_rfl) hsz info_way rfl (fun i hi => by cases hi)) (by kernel_rfl) (by simp) (by simp) rfl (fun _ => ⟨_, _, Nat.le_refl _, rfl, o1, rfl⟩)
      (Rg.pick_ne (by intro T hT; simp only [List.mem_cons, List.not_mem_nil, or_false] at hT; rcases hT with rfl | rfl | rfl | rfl | rfl | rfl | rfl | rfl | rfl | rfl | rfl | rfl | rfl | rfl <;> first | exact Rg.one_ne _ | exact Rg.isWay_ne hX hY hZ | exact Rg.wayIf_ne _ hX hY hZ | exact Rg.isWay_ne (Rg.ab_if _ hX) (Rg.ab_if _ hY) (Rg.ab_if _ hZ))) ?_
    (refine Rk.line_step rfl rfl rfl rfl (Rk.good_box (n := 3) _ _ rfl _ rfl _ (fun w' hw' => b1.kept hw' (by show _ < w.heap.size + 2; omega)) (by rfl) _ Try.underlying37 rfl info_way) ?_; rintro _ rfl; go_simp)
    (refine Rk.line_step rfl rfl rfl rfl (Rk.good_box (n := 3) _ _ rfl _ rfl _ (fun w' hw' => b2.kept hw' (by show _ < w.heap.size + 2; omega)) (by rfl) _ Try.underlying37 rfl info_way) ?_; rintro _ rfl; go_simp)
    (refine Rk.line_step rfl rfl rfl rfl (Rk.good_saysWay (fun w' => by go_simp) fun w' => HC w') ?_; rintro _ ⟨r1, r2, r3, rfl, g1, g2, g3⟩; go_simp)
    (refine Rk.line_step rfl rfl rfl rfl (Rk.good_box (n := 3) _ _ rfl _ rfl _ (fun w' hw' => b1.kept hw' (by show _ < w.heap.size + 2; omega)) (by rfl) _ Try.underlying37 rfl info_way) ?_; rintro _ rfl; go_simp)
    (refine Rk.line_step rfl rfl rfl rfl (Rk.good_says (fun w' => by go_simp) fun w' => H1 w') ?_; rintro _ rfl; go_simp)
    (refine Rk.line_step rfl rfl rfl rfl (Rk.good_one fun w' hw' => (by go_simp)) ?_; rintro _ rfl; go_simp)
    (refine Rk.line_step rfl rfl rfl rfl (Rk.good_box (n := 3) _ _ rfl _ rfl _ (fun w' hw' => b2.kept hw' (by show _ < w.heap.size + 2; omega)) (by rfl) _ Try.underlying37 rfl info_way) ?_; rintro _ rfl; go_simp)
    (refine Rk.line_step rfl rfl rfl rfl (Rk.good_says (fun w' => by go_simp) fun w' => H2 w') ?_; rintro _ rfl; go_simp)
    (refine Rk.line_step rfl rfl rfl rfl (Rk.good_one fun w' hw' => (by go_simp)) ?_; rintro _ rfl; go_simp)
    (refine Rk.line_step rfl rfl rfl rfl (Rk.good_saysWayIf (fun w' => by go_simp) fun w' => H3 _ _ _ g1 g2 g3 w') ?_; rintro _ ⟨s1, s2, s3, rfl, q1, q2, q3⟩; go_simp)
    (refine Rk.line_step rfl rfl rfl rfl (Rk.good_val ⟨_, _, _, rfl, q1, q2, q3⟩ fun w' hw' => (by go_simp)) ?_; rintro _ ⟨u1, u2, u3, rfl, p1, p2, p3⟩; go_simp)
    (refine Rk.line_step rfl rfl rfl rfl (Rk.good_one fun w' hw' => (by go_simp)) ?_; rintro _ rfl; go_simp)
    (refine Rk.line_store rfl rfl rfl _ rfl rfl (by simp [Value.oneCell']) ?_; go_simp)
    (refine Rk.line_step rfl rfl rfl rfl (Rk.good_one fun w' hw' => (by go_simp)) ?_; rintro _ rfl; go_simp)
    intro w' g cs hb hg he ho hy2
    have he' : Value.pointer (some ⟨w.heap.size + 2, 0, none⟩) = .pointer (some ⟨g, 0, none⟩) := he
    have hy3 : Value.agg #[.float .f32 u1, .float .f32 u2, .float .f32 u3] = .agg cs := hy2
    cases he'
    cases hy3
    clear he hy2
    go_wp2
    exact bodyPost_ret (results_cell_slotK Try.results38 _ _ _ _ _ _ rfl rfl ho Try.underlying37 rfl info_way) rfl ⟨u1, u2, u3, rfl, p1, p2, p3, bel.trans (Below.mono hb (by show _ ≤ w.heap.size + 2; omega))⟩

end
end Go.Proofs.Ytnkogheibofboaa.B
