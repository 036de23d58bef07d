/- The steps of the walk through a statement whose order is open, for operations on numbers and calls. No conditions. -/
import Derived.Test.YtnilpooheaaleaaDoorRg
import Derived.Test.YtnilpooheaaleaaDoorFw
namespace Go.Proofs.YtnilpooheaaleaaDoor.Rg
open Go.RowKit

/-- The sets, written out in the order of the text. -/
def pick (L : List (Value → Prop)) (i : Nat) : Value → Prop := L.getD i fun v => v = undef
theorem pick_ne {L : List (Value → Prop)} (h : ∀ T ∈ L, ∃ v, T v) : ∀ i, ∃ v, pick L i v := fun i => by
  unfold pick
  rcases Nat.lt_or_ge i L.length with hi | hi
  · have e : L.getD i (fun v => v = undef) = L[i] := by simp [List.getD, hi]
    rw [e]
    exact h _ (List.getElem_mem hi)
  · have e : L.getD i (fun v => v = undef) = fun v => v = undef := by simp [List.getD, hi]
    rw [e]
    exact ⟨undef, rfl⟩

/-- The value v alone. -/
def one (v : Value) : Value → Prop := fun u => u = v
/-- The words that read as X. -/
def fl (k : FloatKind) (X : Option Nat) : Value → Prop := fun u => ∃ r, u = .float k r ∧ Ab k r X

theorem one_ne (v : Value) : ∃ u, one v u := ⟨v, rfl⟩
theorem fl_ne {k : FloatKind} {X : Option Nat} (h : ∃ r, Ab k r X) : ∃ u, fl k X u := let ⟨r, hr⟩ := h; ⟨.float k r, r, rfl, hr⟩

theorem fl_op {P : Program} {op : BinOp} {k : FloatKind} {u v : Nat} {X Y : Option Nat} (hop : isArith op = true) (t : TypeId) (w : World) (hX : Ab k u X) (hY : Ab k v Y) : ∃ r, Ab k r (opA op k X Y) := by
  obtain ⟨r, n, hr, hb⟩ := run_farith (P := P) w hop t k u v
  exact ⟨r, hb X Y hX hY⟩

section
variable {P : Program} {ops : Array Oper} {C : World → Prop} {S : Nat → Value → Prop} {Q : Act → Prop} {i : Nat} {o : Oper} {rest : List Oper} {a : Act}

theorem line_step {T : Value → Prop} (hw : Region.wanted o (yielded ops a.tmps) = true) (hT : S i = T) (hg : good P C o a T) (h : ∀ v, T v → line P ops C S Q (i + 1) rest (a.put o.dst v)) : line P ops C S Q i (o :: rest) a := by
  subst hT
  refine ⟨fun _ => hg, fun v hv => h v ?_⟩
  unfold may at hv
  rw [if_pos hw] at hv
  exact hv
theorem line_nil (h : Q a) : line P ops C S Q i [] a := h
theorem line_skip (hw : Region.wanted o (yielded ops a.tmps) = false) (h : line P ops C S Q (i + 1) rest (a.put o.dst undef)) : line P ops C S Q i (o :: rest) a := by
  refine ⟨fun h' => (by rw [hw] at h'; cases h'), fun v hv => ?_⟩
  unfold may at hv
  rw [if_neg (by rw [hw]; exact Bool.false_ne_true)] at hv
  subst hv
  exact h

theorem good_one {v : Value} (h : ∀ w, C w → (execOp a.eval o).run P w = .ok (.value v) w) : good P C o a (one v) := fun w hw => by rw [h w hw]; exact ⟨hw, rfl⟩

theorem good_val {v : Value} {T : Value → Prop} (hv : T v) (h : ∀ w, C w → (execOp a.eval o).run P w = .ok (.value v) w) : good P C o a T := fun w hw => by rw [h w hw]; exact ⟨hw, hv⟩

theorem good_call {f : FuncId} {args : Array Value} {T : Value → Prop} (h : ∀ w, C w → (execOp a.eval o).run P w = .ok (.enter f args) w)
    (hc : ∀ w, C w → Calls P f args w fun e w' => ∃ v, e = .returned v ∧ T v ∧ C w') : good P C o a T := fun w hw => by rw [h w hw]; exact hc w hw

theorem good_arith (hC : ∀ w n, C w → C (w.drewN n)) (op : BinOp) (t yt : TypeId) (x y : Operand) (ho : o.op = .binOp op t x y yt) (hop : isArith op = true) (k : FloatKind) (u v : Nat)
    (hx : a.eval x = .float k u) (hy : a.eval y = .float k v) {X Y : Option Nat} (hX : Ab k u X) (hY : Ab k v Y) : good P C o a (fl k (opA op k X Y)) := fun w hw => by
  obtain ⟨r, n, hr, hb⟩ := run_farith (P := P) w hop t k u v
  have e : (execOp a.eval o).run P w = .ok (.value (.float k r)) (w.drewN n) := by
    cases op <;> simp only [isArith, Bool.false_eq_true] at hop <;> simp [execOp, ho, hx, hy, eqGuard, hr]
  rw [e]
  exact ⟨hC w n hw, r, rfl, hb X Y hX hY⟩

theorem good_cmp (op : BinOp) (t yt : TypeId) (x y : Operand) (ho : o.op = .binOp op t x y yt) (hop : isCmp op = true) (k : FloatKind) (u v : Nat)
    (hx : a.eval x = .float k u) (hy : a.eval y = .float k v) {X Y : Option Nat} (hX : Ab k u X) (hY : Ab k v Y) : good P C o a (one (.bool (cmpA op k X Y))) := fun w hw => by
  obtain ⟨b, hr, hb⟩ := run_fcmp (P := P) w hop t k u v
  have e : (execOp a.eval o).run P w = .ok (.value (.bool b)) w := by
    cases op <;> simp only [isCmp, Bool.false_eq_true] at hop <;> simp [execOp, ho, hx, hy, eqGuard, hr]
  rw [e, hb X Y hX hY]
  exact ⟨hw, rfl⟩

theorem good_wide (hC : ∀ w n, C w → C (w.drewN n)) (src dst : TypeId) (x : Operand) (ho : o.op = .convert src dst x) (u : Nat) (hx : a.eval x = .float .f32 u)
    (hs : (P.underlying src).isSome = true) (hd : P.underlying dst = some (.float .f64)) {X : Option Nat} (hX : Ab .f32 u X) : good P C o a (fl .f64 (wideA X)) := fun w hw => by
  obtain ⟨r, n, hr, hb⟩ := run_wide (P := P) w src dst u hs hd
  have e : (execOp a.eval o).run P w = .ok (.value (.float .f64 r)) (w.drewN n) := by simp [execOp, ho, hx, hr]
  rw [e]
  exact ⟨hC w n hw, r, rfl, hb X hX⟩

theorem good_same (src dst : TypeId) (x : Operand) (ho : o.op = .convert src dst x) (k : FloatKind) (u : Nat) (hx : a.eval x = .float k u)
    (hs : (P.underlying src).isSome = true) (hd : P.underlying dst = some (.float k)) {X : Option Nat} (hX : Ab k u X) : good P C o a (fl k X) := fun w hw => by
  have e : (execOp a.eval o).run P w = .ok (.value (.float k u)) w := by simp [execOp, ho, hx, run_same w src dst k u hs hd]
  rw [e]
  exact ⟨hw, u, rfl, hX⟩

theorem drawn_class (w0 : World) : ∀ w n, (∃ m, w = w0.drewN m) → ∃ m, w.drewN n = w0.drewN m := by
  rintro w n ⟨m, rfl⟩
  exact ⟨m + n, World.drewN_drewN _ _ _⟩
end

end Go.Proofs.YtnilpooheaaleaaDoor.Rg
