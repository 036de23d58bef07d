/- Walks: ways: whether they are finite, their sums of products, what is upright on them. No conditions. -/
import Derived.Test.YtnkogheibofboaaWr
import Derived.Test.YtnkogheibofboaaRw
import Derived.Test.YtnkogheibofboaaWg0
import Derived.Laws.Rows
namespace Go.Proofs.Ytnkogheibofboaa.B
open Go.RowKit

/-! A block that holds a struct. -/
def Box (w : World) (b : Nat) (cs : Array Value) : Prop := ∃ t fr, w.heap[b]? = some (.cells cs t fr)
theorem Box.lt {w : World} {b : Nat} {cs : Array Value} (h : Box w b cs) : b < w.heap.size := by
  obtain ⟨t, fr, h⟩ := h
  exact (Array.getElem?_eq_some_iff.1 h).1
theorem Box.drewN {w : World} {b : Nat} {cs : Array Value} (h : Box w b cs) (m : Nat) : Box (w.drewN m) b cs := h
theorem Box.kept {w w' : World} {b A : Nat} {cs : Array Value} (h : Box w b cs) (hb : Below A w w') (hA : b < A) : Box w' b cs := by
  obtain ⟨t, fr, h⟩ := h
  exact ⟨t, fr, by rw [hb.block b hA]; exact h⟩
theorem Box.alloc {w : World} {b : Nat} {cs : Array Value} (h : Box w b cs) (o : Obj) : Box (w.alloc o) b cs := by
  have hl := h.lt
  obtain ⟨t, fr, h⟩ := h
  exact ⟨t, fr, (Below.heap_alloc w o b hl).trans h⟩
theorem Box.start (w : World) (cs : Array Value) (t : TypeId) (fr : Nat × Nat) : Box (w.alloc (.cells cs t fr)) w.heap.size cs := ⟨t, fr, heap_alloc_new w _⟩
theorem Box.cell {w : World} {b : Nat} {cs : Array Value} (h : Box w b cs) {j : Nat} {v : Value} (hv : cs[j]? = some v) : w.cell? ⟨b, j, none⟩ = some v := by
  obtain ⟨t, fr, h⟩ := h
  rw [cell_of_row w b j cs t fr h]; exact hv

theorem info_lway : (Try.prog.info? 32).map (·.size) = some 3 := by kernel_rfl
theorem info_way : (Try.prog.info? 37).map (·.size) = some 3 := by kernel_rfl

section
variable {P : Program} {ops : Array Oper} {rest : List Oper} {o : Oper} {a : Act} {w : World} {Q : Exit → Act → World → Prop} {n : Nat}
theorem fl_box (hg : Region.wanted o (yielded ops a.tmps) = true) (ty : TypeId) (x : Operand) (ho : o.op = .load ty x) (g : Nat) (hx : a.eval x = .pointer (some ⟨g, 0, none⟩)) (cs : Array Value) (hB : Box w g cs) (hs : cs.size = n)
    (d : TypeDesc) (hu : P.underlying ty = some d) (hd : (match d with | .struct _ | .array _ _ => true | _ => false) = true) (hi : (P.info? ty).map (·.size) = some n)
    (h : wpList P ops Q rest (a.put o.dst (.agg cs)) w) : wpList P ops Q (o :: rest) a w := by
  obtain ⟨t, fr, hB⟩ := hB
  exact wpList_wanted hg fun K hK => wp_load_row ty x ho g hx t cs fr d hB hu hd (by rw [hs]; exact hi) (hK _ _ h)

theorem Rg.good_box {C : World → Prop} (ty : TypeId) (x : Operand) (ho : o.op = .load ty x) (g : Nat) (hx : a.eval x = .pointer (some ⟨g, 0, none⟩)) (cs : Array Value) (hB : ∀ w, C w → Box w g cs) (hs : cs.size = n)
    (d : TypeDesc) (hu : P.underlying ty = some d) (hd : (match d with | .struct _ | .array _ _ => true | _ => false) = true) (hi : (P.info? ty).map (·.size) = some n) : Rg.good P C o a (Rg.one (.agg cs)) := fun w hw => by
  obtain ⟨t, fr, hB⟩ := hB w hw
  have e : (execOp a.eval o).run P w = .ok (.value (.agg cs)) w := by
    unfold execOp
    simp only [ho, hx, Instr.loadAt, Instr.sureAddr, Sem.run_bind, Sem.run_pure, Result.andThen_ok, run_loadVar_row w g t ty cs fr d hB hu hd (by rw [hs]; exact hi)]
  rw [e]
  exact ⟨hw, rfl⟩
end

/-- A call that returns v and leaves what was there. -/
def Says (v : Value) (w : World) (e : Ending) (w' : World) : Prop := e = .returned v ∧ Below w.heap.size w w'
/-- A call that returns a number that reads as X and leaves what was there. -/
def SaysA (X : Option Nat) (w : World) (e : Ending) (w' : World) : Prop := ∃ r, e = .returned (.float .f32 r) ∧ Ab .f32 r X ∧ Below w.heap.size w w'
/-- A call that returns v and has drawn at most. -/
def Draws (v : Value) (w : World) (e : Ending) (w' : World) : Prop := e = .returned v ∧ ∃ n, w' = w.drewN n
/-- A call that returns a number, or 0 and false, and leaves what was there. -/
def SaysIf (ok : Bool) (X : Option Nat) (w : World) (e : Ending) (w' : World) : Prop :=
  ∃ r, e = .returned (.tuple #[.float .f32 r, .bool ok]) ∧ Ab .f32 r (if ok = true then X else some 0) ∧ Below w.heap.size w w'
/-- A call that returns a way and leaves what was there. -/
def SaysWay (X Y Z : Option Nat) (w : World) (e : Ending) (w' : World) : Prop :=
  ∃ x y z, e = .returned (.agg #[.float .f32 x, .float .f32 y, .float .f32 z]) ∧ Ab .f32 x X ∧ Ab .f32 y Y ∧ Ab .f32 z Z ∧ Below w.heap.size w w'
def SaysWayIf (ok : Bool) (X Y Z : Option Nat) (w : World) (e : Ending) (w' : World) : Prop :=
  ∃ x y z, e = .returned (.tuple #[.agg #[.float .f32 x, .float .f32 y, .float .f32 z], .bool ok]) ∧ Ab .f32 x (if ok = true then X else some 0) ∧ Ab .f32 y (if ok = true then Y else some 0) ∧ Ab .f32 z (if ok = true then Z else some 0) ∧ Below w.heap.size w w'

set_option maxHeartbeats 400000 in
theorem spec_finite (x : Nat) (X : Option Nat) (hx : Ab .f32 x X) (w : World) : Calls Try.prog 58 #[.float .f32 x] w (Draws (.bool (finA .f32 X)) w) := by
  unfold finA
  go_enter Try.func58, Try.ntmps58
  go_wp2_with (first | (refine fl_arith rfl _ _ _ _ _ rfl rfl _ _ _ rfl rfl ?_; intro r n hr0; have hr := hr0 _ _ (by first | assumption | exact Ab.lit rfl (by decide)) (by first | assumption | exact Ab.lit rfl (by decide)); clear hr0) | (refine fl_cmp rfl _ _ _ _ _ rfl rfl _ _ _ rfl rfl ?_; intro b hb0; have hb := hb0 _ _ (by first | assumption | exact Ab.lit rfl (by decide)) (by first | assumption | exact Ab.lit rfl (by decide)); clear hb0; (try simp only [*] at hb); subst hb) | (refine fl_same rfl _ _ _ rfl _ _ rfl rfl rfl ?_) | (refine fl_wide rfl _ _ _ rfl _ rfl rfl rfl ?_; intro r n hr0; have hr := hr0 _ (by first | assumption | exact Ab.lit rfl (by decide)); clear hr0) | (refine fl_narrow rfl _ _ _ rfl _ rfl rfl rfl ?_; intro r n hl hr0; have hr := hr0 _ (by first | assumption | exact Ab.lit rfl (by decide)) (by assumption); clear hr0 hl) | (refine fl_neg rfl _ _ rfl _ _ rfl ?_; intro r hr0; have hr := hr0 _ (by first | assumption | exact Ab.lit rfl (by decide)); clear hr0) | go_in)
  go_ret
  exact ⟨rfl, _, rfl⟩

set_option maxHeartbeats 400000 in
theorem impl_finite (x : Nat) (X : Option Nat) (hx : Ab .f32 x X) (w : World) : Calls Try.prog 52 #[.float .f32 x] w (Draws (.bool (finA .f32 X)) w) := by
  have e := finA_wide hx
  unfold finA at e ⊢
  go_enter Try.func52, Try.ntmps52
  go_wp2_with (first | (refine fl_arith rfl _ _ _ _ _ rfl rfl _ _ _ rfl rfl ?_; intro r n hr0; have hr := hr0 _ _ (by first | assumption | exact Ab.lit rfl (by decide)) (by first | assumption | exact Ab.lit rfl (by decide)); clear hr0) | (refine fl_cmp rfl _ _ _ _ _ rfl rfl _ _ _ rfl rfl ?_; intro b hb0; have hb := hb0 _ _ (by first | assumption | exact Ab.lit rfl (by decide)) (by first | assumption | exact Ab.lit rfl (by decide)); clear hb0; (try simp only [*] at hb); subst hb) | (refine fl_same rfl _ _ _ rfl _ _ rfl rfl rfl ?_) | (refine fl_wide rfl _ _ _ rfl _ rfl rfl rfl ?_; intro r n hr0; have hr := hr0 _ (by first | assumption | exact Ab.lit rfl (by decide)); clear hr0) | (refine fl_narrow rfl _ _ _ rfl _ rfl rfl rfl ?_; intro r n hl hr0; have hr := hr0 _ (by first | assumption | exact Ab.lit rfl (by decide)) (by assumption); clear hr0 hl) | (refine fl_neg rfl _ _ rfl _ _ rfl ?_; intro r hr0; have hr := hr0 _ (by first | assumption | exact Ab.lit rfl (by decide)); clear hr0) | go_in)
  go_ret
  exact ⟨rfl, _, rfl⟩

/-- Whether the first n numbers are finite. -/
def allA (Z : Nat → Option Nat) : Nat → Bool
  | 0 => true
  | k + 1 => allA Z k && finA .f32 (Z k)
theorem allA_stop {Z : Nat → Option Nat} {k : Nat} (hf : finA .f32 (Z k) = false) : ∀ n, k < n → allA Z n = false
  | 0, h => absurd h (Nat.not_lt_zero k)
  | n + 1, h => by
    rcases Nat.lt_or_ge k n with h' | h'
    · simp [allA, allA_stop hf n h']
    · obtain rfl : k = n := by omega
      simp [allA, hf]

set_option maxHeartbeats 1000000 in
theorem impl_areFinite (n : Nat) (hn : n ≤ 1048576) (xs : Nat → Nat) (Z : Nat → Option Nat) (hx : ∀ i, i < n → Ab .f32 (xs i) (Z i)) (b cap : Nat) (w : World)
    (hb : ∀ i, i < n → w.cell? ⟨b, i, none⟩ = some (.float .f32 (xs i))) :
    Calls Try.prog 71 #[.slice (some ⟨b, 0, none⟩) n cap] w (Draws (.bool (allA Z n)) w) := by
  have HB := Lib.hid hb
  have HX := Lib.hid hx
  clear hb hx
  go_enter Try.func71, Try.ntmps71
  go_wp2
  go_loopw [4, 7] (fun _ i wr => ∃ k m : Nat, k ≤ n ∧ i = .int .i64 k ∧ allA Z k = true ∧ wr = w.drewN m) (fun _ i _ => n - (intOf i).toNat)
  case atStart => exact ⟨0, 0, Nat.zero_le _, rfl, rfl, rfl⟩
  case round =>
    obtain ⟨k, m, hk, rfl, hs, rfl⟩ := hrel
    have hs' := Lib.hid hs
    clear hs
    by_cases hl : k < n
    · have hxk := HX.out k hl
      have cb := HB.out k hl
      cases hf : finA .f32 (Z k) with
      | false =>
        have ha := allA_stop hf n hl
        have hf' := Lib.hid hf
        rw [ha]
        go_wp2_with (first | (refine fl_arith rfl _ _ _ _ _ rfl rfl _ _ _ rfl rfl ?_; intro r n hr0; have hr := hr0 _ _ (by first | assumption | exact Ab.lit rfl (by decide)) (by first | assumption | exact Ab.lit rfl (by decide)); clear hr0) | (refine fl_cmp rfl _ _ _ _ _ rfl rfl _ _ _ rfl rfl ?_; intro b hb0; have hb := hb0 _ _ (by first | assumption | exact Ab.lit rfl (by decide)) (by first | assumption | exact Ab.lit rfl (by decide)); clear hb0; (try simp only [*] at hb); subst hb) | (refine fl_same rfl _ _ _ rfl _ _ rfl rfl rfl ?_) | (refine fl_wide rfl _ _ _ rfl _ rfl rfl rfl ?_; intro r n hr0; have hr := hr0 _ (by first | assumption | exact Ab.lit rfl (by decide)); clear hr0) | (refine fl_narrow rfl _ _ _ rfl _ rfl rfl rfl ?_; intro r n hl hr0; have hr := hr0 _ (by first | assumption | exact Ab.lit rfl (by decide)) (by assumption); clear hr0 hl) | (refine fl_neg rfl _ _ rfl _ _ rfl ?_; intro r hr0; have hr := hr0 _ (by first | assumption | exact Ab.lit rfl (by decide)); clear hr0) | (go_at_call 52; refine (impl_finite _ _ hxk _).mono ?_; rintro e w' ⟨rfl, m2, rfl⟩))
        go_ret
        exact ⟨rfl, _, rfl⟩
      | true =>
        go_wp2_with (first | (refine fl_arith rfl _ _ _ _ _ rfl rfl _ _ _ rfl rfl ?_; intro r n hr0; have hr := hr0 _ _ (by first | assumption | exact Ab.lit rfl (by decide)) (by first | assumption | exact Ab.lit rfl (by decide)); clear hr0) | (refine fl_cmp rfl _ _ _ _ _ rfl rfl _ _ _ rfl rfl ?_; intro b hb0; have hb := hb0 _ _ (by first | assumption | exact Ab.lit rfl (by decide)) (by first | assumption | exact Ab.lit rfl (by decide)); clear hb0; (try simp only [*] at hb); subst hb) | (refine fl_same rfl _ _ _ rfl _ _ rfl rfl rfl ?_) | (refine fl_wide rfl _ _ _ rfl _ rfl rfl rfl ?_; intro r n hr0; have hr := hr0 _ (by first | assumption | exact Ab.lit rfl (by decide)); clear hr0) | (refine fl_narrow rfl _ _ _ rfl _ rfl rfl rfl ?_; intro r n hl hr0; have hr := hr0 _ (by first | assumption | exact Ab.lit rfl (by decide)) (by assumption); clear hr0 hl) | (refine fl_neg rfl _ _ rfl _ _ rfl ?_; intro r hr0; have hr := hr0 _ (by first | assumption | exact Ab.lit rfl (by decide)); clear hr0) | (go_at_call 52; refine (impl_finite _ _ hxk _).mono ?_; rintro e w' ⟨rfl, m2, rfl⟩))
        go_roundw
        case rel => exact ⟨k + 1, _, by omega, by go_num, by simp [allA, hs'.out, hf], rfl⟩
        case measure => simp [intOf]; omega
    · have : k = n := by omega
      subst this
      go_wp2_with (first | (refine fl_arith rfl _ _ _ _ _ rfl rfl _ _ _ rfl rfl ?_; intro r n hr0; have hr := hr0 _ _ (by first | assumption | exact Ab.lit rfl (by decide)) (by first | assumption | exact Ab.lit rfl (by decide)); clear hr0) | (refine fl_cmp rfl _ _ _ _ _ rfl rfl _ _ _ rfl rfl ?_; intro b hb0; have hb := hb0 _ _ (by first | assumption | exact Ab.lit rfl (by decide)) (by first | assumption | exact Ab.lit rfl (by decide)); clear hb0; (try simp only [*] at hb); subst hb) | (refine fl_same rfl _ _ _ rfl _ _ rfl rfl rfl ?_) | (refine fl_wide rfl _ _ _ rfl _ rfl rfl rfl ?_; intro r n hr0; have hr := hr0 _ (by first | assumption | exact Ab.lit rfl (by decide)); clear hr0) | (refine fl_narrow rfl _ _ _ rfl _ rfl rfl rfl ?_; intro r n hl hr0; have hr := hr0 _ (by first | assumption | exact Ab.lit rfl (by decide)) (by assumption); clear hr0 hl) | (refine fl_neg rfl _ _ rfl _ _ rfl ?_; intro r hr0; have hr := hr0 _ (by first | assumption | exact Ab.lit rfl (by decide)); clear hr0) | go_in)
      go_ret
      exact ⟨by rw [hs'.out]; rfl, _, rfl⟩

/-- Three numbers, as a row. -/
def three {α : Type} (x y z : α) : Nat → α
  | 0 => x
  | 1 => y
  | _ => z
def finWay (X Y Z : Option Nat) : Bool := finA .f32 X && finA .f32 Y && finA .f32 Z
def dotWay (X Y Z X' Y' Z' : Option Nat) : Option Nat := opA .add .f32 (opA .add .f32 (opA .mul .f32 X X') (opA .mul .f32 Y Y')) (opA .mul .f32 Z Z')
/-- A part of what is upright on two ways. -/
def crossA (Y Z Y' Z' : Option Nat) : Option Nat := opA .sub .f32 (opA .mul .f32 Y Z') (opA .mul .f32 Z Y')

section
variable {x y z x' y' z' : Nat} {X Y Z X' Y' Z' : Option Nat} (hx : Ab .f32 x X) (hy : Ab .f32 y Y) (hz : Ab .f32 z Z) (hx' : Ab .f32 x' X') (hy' : Ab .f32 y' Y') (hz' : Ab .f32 z' Z') (w : World)

include hx hy hz in
set_option maxHeartbeats 1000000 in
theorem impl_isWay : Calls Try.prog 68 #[.agg #[.float .f32 x, .float .f32 y, .float .f32 z]] w (Says (.bool (finWay X Y Z)) w) := by
  have HA := fun b cap w' h1 => impl_areFinite 3 (by omega) (three x y z) (three X Y Z) (fun i hi => by match i, hi with | 0, _ => exact hx | 1, _ => exact hy | 2, _ => exact hz) b cap w' h1
  have e : allA (three X Y Z) 3 = finWay X Y Z := by simp [allA, three, finWay]
  rw [e] at HA
  go_enter Try.func68, Try.ntmps68
  go_wp2_with (first | (refine fl_arith rfl _ _ _ _ _ rfl rfl _ _ _ rfl rfl ?_; intro r n hr0; have hr := hr0 _ _ (by first | assumption | exact Ab.lit rfl (by decide)) (by first | assumption | exact Ab.lit rfl (by decide)); clear hr0) | (refine fl_cmp rfl _ _ _ _ _ rfl rfl _ _ _ rfl rfl ?_; intro b hb0; have hb := hb0 _ _ (by first | assumption | exact Ab.lit rfl (by decide)) (by first | assumption | exact Ab.lit rfl (by decide)); clear hb0; (try simp only [*] at hb); subst hb) | (refine fl_same rfl _ _ _ rfl _ _ rfl rfl rfl ?_) | (refine fl_wide rfl _ _ _ rfl _ rfl rfl rfl ?_; intro r n hr0; have hr := hr0 _ (by first | assumption | exact Ab.lit rfl (by decide)); clear hr0) | (refine fl_narrow rfl _ _ _ rfl _ rfl rfl rfl ?_; intro r n hl hr0; have hr := hr0 _ (by first | assumption | exact Ab.lit rfl (by decide)) (by assumption); clear hr0 hl) | (refine fl_neg rfl _ _ rfl _ _ rfl ?_; intro r hr0; have hr := hr0 _ (by first | assumption | exact Ab.lit rfl (by decide)); clear hr0) | (go_at_call 71; refine Calls.mono (HA _ _ _ ?_) ?_; (next => intro i hi; match i, hi with | 0, _ => simp [three, go_sem] | 1, _ => simp [three, go_sem] | 2, _ => simp [three, go_sem]); rintro e w' ⟨rfl, m, rfl⟩))
  go_ret
  exact ⟨rfl, below_drewN (((Below.refl _ _).alloc (Nat.le_refl _) _).alloc (by simp) _) _⟩

include hx hy hz in
set_option maxHeartbeats 1000000 in
theorem spec_ways : Calls Try.prog 64 #[.agg #[.float .f32 x, .float .f32 y, .float .f32 z]] w (Says (.bool (finWay X Y Z)) w) := by
  unfold finWay
  cases h1 : finA .f32 X <;> cases h2 : finA .f32 Y
  all_goals
    go_enter Try.func64, Try.ntmps64
    go_wp2_with (first | (refine fl_arith rfl _ _ _ _ _ rfl rfl _ _ _ rfl rfl ?_; intro r n hr0; have hr := hr0 _ _ (by first | assumption | exact Ab.lit rfl (by decide)) (by first | assumption | exact Ab.lit rfl (by decide)); clear hr0) | (refine fl_cmp rfl _ _ _ _ _ rfl rfl _ _ _ rfl rfl ?_; intro b hb0; have hb := hb0 _ _ (by first | assumption | exact Ab.lit rfl (by decide)) (by first | assumption | exact Ab.lit rfl (by decide)); clear hb0; (try simp only [*] at hb); subst hb) | (refine fl_same rfl _ _ _ rfl _ _ rfl rfl rfl ?_) | (refine fl_wide rfl _ _ _ rfl _ rfl rfl rfl ?_; intro r n hr0; have hr := hr0 _ (by first | assumption | exact Ab.lit rfl (by decide)); clear hr0) | (refine fl_narrow rfl _ _ _ rfl _ rfl rfl rfl ?_; intro r n hl hr0; have hr := hr0 _ (by first | assumption | exact Ab.lit rfl (by decide)) (by assumption); clear hr0 hl) | (refine fl_neg rfl _ _ rfl _ _ rfl ?_; intro r hr0; have hr := hr0 _ (by first | assumption | exact Ab.lit rfl (by decide)); clear hr0) | (go_at_call 58; (with_reducible_and_instances refine Calls.mono (spec_finite _ _ hx _) ?_); rintro e w' ⟨rfl, n1, rfl⟩) | (go_at_call 58; (with_reducible_and_instances refine Calls.mono (spec_finite _ _ hy _) ?_); rintro e w' ⟨rfl, n2, rfl⟩) | (go_at_call 58; (with_reducible_and_instances refine Calls.mono (spec_finite _ _ hz _) ?_); rintro e w' ⟨rfl, n3, rfl⟩))
    go_ret
    exact ⟨rfl, below_drewN ((Below.refl _ _).alloc (Nat.le_refl _) _) _⟩

include hx in
set_option maxHeartbeats 400000 in
theorem spec_number : Calls Try.prog 65 #[.float .f32 x] w (GivesIf (finA .f32 X) X w) := by
  cases h1 : finA .f32 X
  · go_enter Try.func65, Try.ntmps65
    go_wp2_with (first | (refine fl_arith rfl _ _ _ _ _ rfl rfl _ _ _ rfl rfl ?_; intro r n hr0; have hr := hr0 _ _ (by first | assumption | exact Ab.lit rfl (by decide)) (by first | assumption | exact Ab.lit rfl (by decide)); clear hr0) | (refine fl_cmp rfl _ _ _ _ _ rfl rfl _ _ _ rfl rfl ?_; intro b hb0; have hb := hb0 _ _ (by first | assumption | exact Ab.lit rfl (by decide)) (by first | assumption | exact Ab.lit rfl (by decide)); clear hb0; (try simp only [*] at hb); subst hb) | (refine fl_same rfl _ _ _ rfl _ _ rfl rfl rfl ?_) | (refine fl_wide rfl _ _ _ rfl _ rfl rfl rfl ?_; intro r n hr0; have hr := hr0 _ (by first | assumption | exact Ab.lit rfl (by decide)); clear hr0) | (refine fl_narrow rfl _ _ _ rfl _ rfl rfl rfl ?_; intro r n hl hr0; have hr := hr0 _ (by first | assumption | exact Ab.lit rfl (by decide)) (by assumption); clear hr0 hl) | (refine fl_neg rfl _ _ rfl _ _ rfl ?_; intro r hr0; have hr := hr0 _ (by first | assumption | exact Ab.lit rfl (by decide)); clear hr0) | (go_at_call 58; (with_reducible_and_instances refine Calls.mono (spec_finite _ _ hx _) ?_); rintro e w' ⟨rfl, n1, rfl⟩))
    go_ret2
    exact ⟨0, _, rfl, Ab.lit rfl (by decide), rfl⟩
  · go_enter Try.func65, Try.ntmps65
    go_wp2_with (first | (refine fl_arith rfl _ _ _ _ _ rfl rfl _ _ _ rfl rfl ?_; intro r n hr0; have hr := hr0 _ _ (by first | assumption | exact Ab.lit rfl (by decide)) (by first | assumption | exact Ab.lit rfl (by decide)); clear hr0) | (refine fl_cmp rfl _ _ _ _ _ rfl rfl _ _ _ rfl rfl ?_; intro b hb0; have hb := hb0 _ _ (by first | assumption | exact Ab.lit rfl (by decide)) (by first | assumption | exact Ab.lit rfl (by decide)); clear hb0; (try simp only [*] at hb); subst hb) | (refine fl_same rfl _ _ _ rfl _ _ rfl rfl rfl ?_) | (refine fl_wide rfl _ _ _ rfl _ rfl rfl rfl ?_; intro r n hr0; have hr := hr0 _ (by first | assumption | exact Ab.lit rfl (by decide)); clear hr0) | (refine fl_narrow rfl _ _ _ rfl _ rfl rfl rfl ?_; intro r n hl hr0; have hr := hr0 _ (by first | assumption | exact Ab.lit rfl (by decide)) (by assumption); clear hr0 hl) | (refine fl_neg rfl _ _ rfl _ _ rfl ?_; intro r hr0; have hr := hr0 _ (by first | assumption | exact Ab.lit rfl (by decide)); clear hr0) | (go_at_call 58; (with_reducible_and_instances refine Calls.mono (spec_finite _ _ hx _) ?_); rintro e w' ⟨rfl, n1, rfl⟩))
    go_ret2
    exact ⟨x, _, rfl, hx, rfl⟩

include hx in
set_option maxHeartbeats 400000 in
theorem impl_number (ok : Bool) : Calls Try.prog 55 #[.float .f32 x, .bool ok] w (GivesIf (ok && finA .f32 X) X w) := by
  cases ok <;> cases h1 : finA .f32 X
  all_goals
    go_enter Try.func55, Try.ntmps55
    go_wp2_with (first | (refine fl_arith rfl _ _ _ _ _ rfl rfl _ _ _ rfl rfl ?_; intro r n hr0; have hr := hr0 _ _ (by first | assumption | exact Ab.lit rfl (by decide)) (by first | assumption | exact Ab.lit rfl (by decide)); clear hr0) | (refine fl_cmp rfl _ _ _ _ _ rfl rfl _ _ _ rfl rfl ?_; intro b hb0; have hb := hb0 _ _ (by first | assumption | exact Ab.lit rfl (by decide)) (by first | assumption | exact Ab.lit rfl (by decide)); clear hb0; (try simp only [*] at hb); subst hb) | (refine fl_same rfl _ _ _ rfl _ _ rfl rfl rfl ?_) | (refine fl_wide rfl _ _ _ rfl _ rfl rfl rfl ?_; intro r n hr0; have hr := hr0 _ (by first | assumption | exact Ab.lit rfl (by decide)); clear hr0) | (refine fl_narrow rfl _ _ _ rfl _ rfl rfl rfl ?_; intro r n hl hr0; have hr := hr0 _ (by first | assumption | exact Ab.lit rfl (by decide)) (by assumption); clear hr0 hl) | (refine fl_neg rfl _ _ rfl _ _ rfl ?_; intro r hr0; have hr := hr0 _ (by first | assumption | exact Ab.lit rfl (by decide)); clear hr0) | (go_at_call 52; (with_reducible_and_instances refine Calls.mono (impl_finite _ _ hx _) ?_); rintro e w' ⟨rfl, n1, rfl⟩))
    go_ret2
  · exact ⟨0, 0, rfl, Ab.lit rfl (by decide), rfl⟩
  · exact ⟨0, 0, rfl, Ab.lit rfl (by decide), rfl⟩
  · exact ⟨0, _, rfl, Ab.lit rfl (by decide), rfl⟩
  · exact ⟨x, _, rfl, hx, rfl⟩

include hx hy hz hx' hy' hz' in
set_option maxHeartbeats 1000000 in
theorem spec_dotWay : Calls Try.prog 98 #[.agg #[.float .f32 x, .float .f32 y, .float .f32 z], .agg #[.float .f32 x', .float .f32 y', .float .f32 z']] w (SaysA (dotWay X Y Z X' Y' Z') w) := by
  unfold dotWay
  go_enter Try.func98, Try.ntmps98
  go_wp2_with (first | (refine fl_arith rfl _ _ _ _ _ rfl rfl _ _ _ rfl rfl ?_; intro r n hr0; have hr := hr0 _ _ (by first | assumption | exact Ab.lit rfl (by decide)) (by first | assumption | exact Ab.lit rfl (by decide)); clear hr0) | (refine fl_cmp rfl _ _ _ _ _ rfl rfl _ _ _ rfl rfl ?_; intro b hb0; have hb := hb0 _ _ (by first | assumption | exact Ab.lit rfl (by decide)) (by first | assumption | exact Ab.lit rfl (by decide)); clear hb0; (try simp only [*] at hb); subst hb) | (refine fl_same rfl _ _ _ rfl _ _ rfl rfl rfl ?_) | (refine fl_wide rfl _ _ _ rfl _ rfl rfl rfl ?_; intro r n hr0; have hr := hr0 _ (by first | assumption | exact Ab.lit rfl (by decide)); clear hr0) | (refine fl_narrow rfl _ _ _ rfl _ rfl rfl rfl ?_; intro r n hl hr0; have hr := hr0 _ (by first | assumption | exact Ab.lit rfl (by decide)) (by assumption); clear hr0 hl) | (refine fl_neg rfl _ _ rfl _ _ rfl ?_; intro r hr0; have hr := hr0 _ (by first | assumption | exact Ab.lit rfl (by decide)); clear hr0) | go_in)
  go_ret
  exact ⟨_, rfl, by assumption, below_drewN (((Below.refl _ _).alloc (Nat.le_refl _) _).alloc (by simp) _) _⟩

include hx hy hz hx' hy' hz' in
set_option maxHeartbeats 1000000 in
theorem impl_dotWay : Calls Try.prog 69 #[.agg #[.float .f32 x, .float .f32 y, .float .f32 z], .agg #[.float .f32 x', .float .f32 y', .float .f32 z']] w (SaysA (dotWay X Y Z X' Y' Z') w) := by
  unfold dotWay
  go_enter Try.func69, Try.ntmps69
  go_wp2_with (first | (refine fl_arith rfl _ _ _ _ _ rfl rfl _ _ _ rfl rfl ?_; intro r n hr0; have hr := hr0 _ _ (by first | assumption | exact Ab.lit rfl (by decide)) (by first | assumption | exact Ab.lit rfl (by decide)); clear hr0) | (refine fl_cmp rfl _ _ _ _ _ rfl rfl _ _ _ rfl rfl ?_; intro b hb0; have hb := hb0 _ _ (by first | assumption | exact Ab.lit rfl (by decide)) (by first | assumption | exact Ab.lit rfl (by decide)); clear hb0; (try simp only [*] at hb); subst hb) | (refine fl_same rfl _ _ _ rfl _ _ rfl rfl rfl ?_) | (refine fl_wide rfl _ _ _ rfl _ rfl rfl rfl ?_; intro r n hr0; have hr := hr0 _ (by first | assumption | exact Ab.lit rfl (by decide)); clear hr0) | (refine fl_narrow rfl _ _ _ rfl _ rfl rfl rfl ?_; intro r n hl hr0; have hr := hr0 _ (by first | assumption | exact Ab.lit rfl (by decide)) (by assumption); clear hr0 hl) | (refine fl_neg rfl _ _ rfl _ _ rfl ?_; intro r hr0; have hr := hr0 _ (by first | assumption | exact Ab.lit rfl (by decide)); clear hr0) | go_in)
  go_ret
  exact ⟨_, rfl, by assumption, below_drewN (((Below.refl _ _).alloc (Nat.le_refl _) _).alloc (by simp) _) _⟩

end
end Go.Proofs.Ytnkogheibofboaa.B
