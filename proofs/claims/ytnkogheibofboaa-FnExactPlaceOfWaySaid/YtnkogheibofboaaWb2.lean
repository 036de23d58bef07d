/- Walks: places: whether they are valid; PlaceOfWay. No conditions. -/
import Derived.Test.YtnkogheibofboaaWz
import Derived.Test.YtnkogheibofboaaWe
import Derived.Test.YtnkogheibofboaaWq
import Derived.Laws.Tables
import Derived.Laws.CopyOwn
namespace Go.Proofs.Ytnkogheibofboaa.B
open Go.RowKit
set_option maxRecDepth 8000

theorem info_place : (Try.prog.info? 34).map (·.size) = some 2 := by kernel_rfl

/-- A block of one's own that holds a struct and may be written. -/
def Own (w : World) (b : Nat) (cs : Array Value) : Prop := ∃ t, w.heap[b]? = some (.cells cs t (0, 0))
theorem Own.box {w : World} {b : Nat} {cs : Array Value} (h : Own w b cs) : Box w b cs := let ⟨t, h⟩ := h; ⟨t, _, h⟩
theorem Own.lt {w : World} {b : Nat} {cs : Array Value} (h : Own w b cs) : b < w.heap.size := h.box.lt
theorem Own.drewN {w : World} {b : Nat} {cs : Array Value} (h : Own w b cs) (m : Nat) : Own (w.drewN m) b cs := h
theorem Own.kept {w w' : World} {b A : Nat} {cs : Array Value} (h : Own w b cs) (hb : Below A w w') (hA : b < A) : Own w' b cs := by
  obtain ⟨t, h⟩ := h
  exact ⟨t, by rw [hb.block b hA]; exact h⟩

/-- A struct as an argument, and one's own cell for a result. -/
theorem box_own (w : World) (t u : TypeId) (cs ds : Array Value) : ∃ W, (w.alloc (.cells cs t)).alloc (.cells ds u) = W ∧ Box W w.heap.size cs ∧ Own W (w.heap.size + 1) ds ∧ Below w.heap.size w W := by
  refine ⟨_, rfl, (Box.start w cs t (0, 0)).alloc _, ⟨u, ?_⟩, ((Below.refl _ _).alloc (Nat.le_refl _) _).alloc (by simp) _⟩
  have h := heap_alloc_new (w.alloc (.cells cs t)) (.cells ds u)
  have e : (w.alloc (.cells cs t)).heap.size = w.heap.size + 1 := by simp
  rw [e] at h
  exact h

section
variable {P : Program} {ops : Array Oper} {rest : List Oper} {o : Oper} {a : Act} {w : World} {Q : Exit → Act → World → Prop} {n : Nat}
theorem fl_put (hg : Region.wanted o (yielded ops a.tmps) = true) (ty : TypeId) (x y : Operand) (ho : o.op = .store ty x y) (g : Nat) (hx : a.eval x = .pointer (some ⟨g, 0, none⟩)) (cells : Array Value) (hy : a.eval y = .agg cells)
    (old : Array Value) (hO : Own w g old) (hs : cells.size = n) (hso : old.size = n) (hi : (P.info? ty).map (·.size) = some n) (h1 : cells.all (·.oneCell') = true)
    (h : ∀ W, Own W g cells → (∀ k cs, k ≠ g → Box w k cs → Box W k cs) → (∀ B a', B ≤ g → Below B a' w → Below B a' W) → wpList P ops Q rest (a.put o.dst undef) W) : wpList P ops Q (o :: rest) a w := by
  obtain ⟨t, hO⟩ := hO
  refine wpList_wanted hg fun K hK => wp_store_row ty x y ho g cells hx hy t old hO (by rw [hs]; exact hi) (by rw [hs, hso]) h1 (hK _ _ ?_)
  refine h _ ⟨t, setRow_heap w g old cells t _ hO⟩ (fun k cs hk hB => ?_) fun B a' hB hb => below_setRow hb hB _
  obtain ⟨t', fr', hB⟩ := hB
  exact ⟨t', fr', (setRow_other w g k cells hk).trans hB⟩
end

theorem results_cell_slot {P : Program} {fn : Func} {p q : Tmp} {ty : TypeId} (h : fn.results = #[.cell p ty, .tmp q]) (tmps : Array Value) (w : World) (g : Nat) (cs : Array Value) (v : Value) (d : TypeDesc)
    (hp : tmps.getD p undef = .pointer (some ⟨g, 0, none⟩)) (hv : tmps.getD q undef = v) (hg : Own w g cs)
    (hu : P.underlying ty = some d) (hd : (match d with | .struct _ | .array _ _ => true | _ => false) = true) (hi : (P.info? ty).map (·.size) = some cs.size) :
    (results fn tmps).run P w = .ok (.tuple #[.agg cs, v]) w := by
  obtain ⟨t, hg⟩ := hg
  have hp' : tmps[p]?.getD undef = .pointer (some ⟨g, 0, none⟩) := by simpa using hp
  have hv' : tmps[q]?.getD undef = v := by simpa using hv
  simp [results, h, hp', hv', asAddr, run_loadVar_row w g t ty cs _ d hg hu hd hi]

namespace Rg
open Go.Proofs.Ytnkogheibofboaa.Rg
section
variable {P : Program} {W : World} {o : Oper} {a : Act} {f : FuncId} {args : Array Value}
theorem good_turns {X : Option Nat} (h : ∀ w, (execOp a.eval o).run P w = .ok (.enter f args) w) (hc : ∀ w, Calls P f args w (Turns X w)) : good P (fun w' => Below W.heap.size W w') o a (fl .f32 X) :=
  good_call (fun w _ => h w) fun w hw => (hc w).mono fun _ _ ⟨r, n, he, hr, hn⟩ => ⟨_, he, ⟨r, rfl, hr⟩, by rw [hn]; exact below_drewN hw n⟩
theorem below_class (W : World) : ∀ w n, Below W.heap.size W w → Below W.heap.size W (w.drewN n) := fun _ n h => below_drewN h n
end
end Rg

/-- Whether a place is one. -/
def validA (N E : Option Nat) : Bool := cmpA .geq .f32 N (some 3196059648) && cmpA .leq .f32 N (some 1048576000) && cmpA .geq .f32 E (some 3204448256) && cmpA .lss .f32 E (some 1056964608)

/-- A call that returns a place, or the empty one, and leaves what was there. -/
def SaysPlace (ok : Bool) (N E : Option Nat) (w : World) (e : Ending) (w' : World) : Prop :=
  ∃ x y, e = .returned (.tuple #[.agg #[.float .f32 x, .float .f32 y], .bool ok]) ∧ Ab .f32 x (if ok = true then N else some 0) ∧ Ab .f32 y (if ok = true then E else some 0) ∧ Below w.heap.size w w'

section
variable {x y : Nat} {N E : Option Nat} (hx : Ab .f32 x N) (hy : Ab .f32 y E) (w : World)

include hx hy in
set_option maxHeartbeats 1000000 in
theorem impl_ValidPlace : Calls Try.prog 96 #[.agg #[.float .f32 x, .float .f32 y]] w (Says (.bool (validA N E)) w) := by
  unfold validA
  cases c1 : cmpA .geq .f32 N (some 3196059648) <;> cases c2 : cmpA .leq .f32 N (some 1048576000) <;> cases c3 : cmpA .geq .f32 E (some 3204448256) <;> cases c4 : cmpA .lss .f32 E (some 1056964608)
  all_goals
    go_enter Try.func96, Try.ntmps96
    go_wp2_with (first | (refine fl_arith rfl _ _ _ _ _ rfl rfl _ _ _ rfl rfl ?_; intro r n hr0; have hr := hr0 _ _ (by first | assumption | exact Ab.lit rfl (by decide)) (by first | assumption | exact Ab.lit rfl (by decide)); clear hr0) | (refine fl_cmp rfl _ _ _ _ _ rfl rfl _ _ _ rfl rfl ?_; intro b hb0; have hb := hb0 _ _ (by first | assumption | exact Ab.lit rfl (by decide)) (by first | assumption | exact Ab.lit rfl (by decide)); clear hb0; (try simp only [*] at hb); subst hb) | (refine fl_same rfl _ _ _ rfl _ _ rfl rfl rfl ?_) | (refine fl_wide rfl _ _ _ rfl _ rfl rfl rfl ?_; intro r n hr0; have hr := hr0 _ (by first | assumption | exact Ab.lit rfl (by decide)); clear hr0) | (refine fl_narrow rfl _ _ _ rfl _ rfl rfl rfl ?_; intro r n hl hr0; have hr := hr0 _ (by first | assumption | exact Ab.lit rfl (by decide)) (by assumption); clear hr0 hl) | (refine fl_neg rfl _ _ rfl _ _ rfl ?_; intro r hr0; have hr := hr0 _ (by first | assumption | exact Ab.lit rfl (by decide)); clear hr0) | go_in)
    go_ret
    exact ⟨rfl, (Below.refl _ _).alloc (Nat.le_refl _) _⟩

include hx hy in
set_option maxHeartbeats 1000000 in
theorem spec_Is (g : Nat) (hB : Box w g #[.float .f32 x, .float .f32 y]) : Calls Try.prog 110 #[.pointer (some ⟨g, 0, none⟩)] w fun e w' => e = .returned (.bool (validA N E)) ∧ w = w' := by
  have q0 := Box.cell (j := 0) hB rfl
  have q1 := Box.cell (j := 1) hB rfl
  clear hB
  unfold validA
  cases c1 : cmpA .geq .f32 N (some 3196059648) <;> cases c2 : cmpA .leq .f32 N (some 1048576000) <;> cases c3 : cmpA .geq .f32 E (some 3204448256) <;> cases c4 : cmpA .lss .f32 E (some 1056964608)
  all_goals
    go_enter Try.func110, Try.ntmps110
    go_wp2_with (first | (refine fl_arith rfl _ _ _ _ _ rfl rfl _ _ _ rfl rfl ?_; intro r n hr0; have hr := hr0 _ _ (by first | assumption | exact Ab.lit rfl (by decide)) (by first | assumption | exact Ab.lit rfl (by decide)); clear hr0) | (refine fl_cmp rfl _ _ _ _ _ rfl rfl _ _ _ rfl rfl ?_; intro b hb0; have hb := hb0 _ _ (by first | assumption | exact Ab.lit rfl (by decide)) (by first | assumption | exact Ab.lit rfl (by decide)); clear hb0; (try simp only [*] at hb); subst hb) | (refine fl_same rfl _ _ _ rfl _ _ rfl rfl rfl ?_) | (refine fl_wide rfl _ _ _ rfl _ rfl rfl rfl ?_; intro r n hr0; have hr := hr0 _ (by first | assumption | exact Ab.lit rfl (by decide)); clear hr0) | (refine fl_narrow rfl _ _ _ rfl _ rfl rfl rfl ?_; intro r n hl hr0; have hr := hr0 _ (by first | assumption | exact Ab.lit rfl (by decide)) (by assumption); clear hr0 hl) | (refine fl_neg rfl _ _ rfl _ _ rfl ?_; intro r hr0; have hr := hr0 _ (by first | assumption | exact Ab.lit rfl (by decide)); clear hr0) | go_in)
    go_ret
    exact ⟨rfl, rfl⟩

end
end Go.Proofs.Ytnkogheibofboaa.B
