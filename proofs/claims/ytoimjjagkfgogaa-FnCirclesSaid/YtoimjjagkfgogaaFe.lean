/- The body-less functions of package math that this program reaches: what a call of each gives. No conditions. -/
import Derived.Test.YtoimjjagkfgogaaRows
import Derived.Test.YtoimjjagkfgogaaFw
namespace Go.Proofs.Ytoimjjagkfgogaa
open Go.RowKit

@[go_sem] theorem ext_Float32bits (b : Nat) (w : World) : (callFunc 41 #[.float .f32 b]).run Try.prog w = .ok (.value (.int .u32 b)) w := by rw [run_callFunc_extern (e := Extern.MathFloatBits.float32bits) Try.func41 (by kernel_rfl) (by kernel_rfl) (by kernel_rfl) (by kernel_rfl)]; rfl
@[go_sem] theorem ext_Float64bits (b : Nat) (w : World) : (callFunc 27 #[.float .f64 b]).run Try.prog w = .ok (.value (.int .u64 b)) w := by rw [run_callFunc_extern (e := Extern.MathFloatBits.float64bits) Try.func27 (by kernel_rfl) (by kernel_rfl) (by kernel_rfl) (by kernel_rfl)]; rfl
@[go_sem] theorem ext_Float64frombits (n : Int) (w : World) : (callFunc 26 #[.int .u64 n]).run Try.prog w = .ok (.value (.float .f64 n.toNat)) w := by rw [run_callFunc_extern (e := Extern.MathFloatBits.float64frombits) Try.func26 (by kernel_rfl) (by kernel_rfl) (by kernel_rfl) (by kernel_rfl)]; rfl

/-- 'math.Floor', 'math.Trunc': the world may be drawn from once, at a NaN. -/
theorem run_integral {P : Program} (w : World) (name : String) (way : Ieee.Toward) (x : Nat) :
    ∃ r n, (Extern.MathFloor.toIntegral name way #[.float .f64 x]).run P w = .ok (.float .f64 r) (w.drewN n) ∧ ∀ X, Ab .f64 x X → Ab .f64 r (integralA way X) := by
  have e0 : Extern.MathFloor.toIntegral name way #[.float .f64 x] = (match FloatKind.f64.decode x with
    | .nan s t =>
      if FloatKind.f64.format.quiet t = t then pure (.float .f64 x) else do
      let kept ← choose (.extern "math.Floor,Ceil,Trunc,RoundToEven.signallingNaN kept" 2)
      pure (.float .f64 (if kept == 1 then x else FloatKind.f64.encode (.nan s (FloatKind.f64.format.quiet t))))
    | d => pure (.float .f64 (FloatKind.f64.encode (d.integral way)))) := rfl
  rw [e0]
  cases hn : nanW .f64 x with
  | true =>
    have hX : ∀ X, Ab .f64 x X → X = none := fun X hx => by rw [← hx.eq]; exact ab_none.2 hn
    have h2 : (FloatKind.f64.decode x).isNaN = true := by unfold FloatKind.decode; rw [isNaN_eq]; exact hn
    obtain ⟨s, t, e⟩ := isNaN_dest h2
    rw [e]
    dsimp only
    by_cases hq : FloatKind.f64.format.quiet t = t
    · rw [if_pos hq]
      exact ⟨x, 0, rfl, fun X hx => by have := hX X hx; subst this; exact hx⟩
    · rw [if_neg hq]
      have hxn : ∀ s t, t % 2 ^ 52 ≠ 0 → nanW .f64 (FloatKind.f64.encode (.nan s t)) = true := by
        intro s t ht
        have h1 : Ieee.double.infRung + t % Ieee.double.binade < Ieee.double.signWeight := by
          have := Nat.mod_lt t (bin_pos Ieee.double)
          have := Ieee.double.infRung_add_binade
          omega
        show decide (Ieee.double.infRung < rg Ieee.double (Ieee.double.word s (Ieee.double.infRung + t % Ieee.double.binade))) = true
        rw [word_rg _ _ h1]
        have hb : Ieee.double.binade = 2 ^ 52 := by decide
        rw [hb]
        exact decide_eq_true (by omega)
      have hqt : FloatKind.f64.format.quiet t % 2 ^ 52 ≠ 0 := by
        intro h0
        have h1 : (FloatKind.f64.format.quiet t).testBit 51 = true := by
          show (t ||| 2 ^ 51).testBit 51 = true
          rw [Nat.testBit_or, Nat.testBit_two_pow_self]
          simp
        have h2 : (FloatKind.f64.format.quiet t % 2 ^ 52).testBit 51 = true := by
          rw [Nat.testBit_mod_two_pow]
          simp [h1]
        rw [h0] at h2
        simp at h2
      refine ⟨_, 1, by simp [Question.forced, Question.cut]; exact ⟨rfl, rfl⟩, fun X hx => ?_⟩
      have := hX X hx
      subst this
      show Ab .f64 _ none
      split
      · exact hx
      · exact Ab.nan (hxn _ _ hqt) (encode_lt _ _)
  | false =>
    have hX : ∀ X, Ab .f64 x X → X = some x := fun X hx => by rw [← hx.eq]; exact ab_some.2 ⟨hn, rfl⟩
    refine ⟨FloatKind.f64.encode ((FloatKind.f64.decode x).integral way), 0, ?_, fun X hx => ?_⟩
    · rcases decode_cases .f64 hn with ⟨s, e⟩ | ⟨s, m, e0, e⟩ <;> rw [e] <;> rfl
    · have := hX X hx
      subst this
      refine ⟨ab_some.2 ⟨write_nan .f64 (integral_not_nan ?_), rfl⟩, encode_lt _ _⟩
      rcases decode_cases .f64 hn with ⟨s, e⟩ | ⟨s, m, e0, e⟩ <;> rw [e] <;> rfl

theorem fl_call {P : Program} {ops : Array Oper} {Q : Exit → Act → World → Prop} {a : Act} {w : World} {rest : List Oper} {o : Oper}
    (hg : Region.wanted o (yielded ops a.tmps) = true) (K : FuncId) (x : Operand) (ts : Array TypeId) (ho : o.op = .call { callee := .value (.func K), args := #[x], argTypes := ts }) (u : Value) (hx : a.eval x = u)
    (E : Array Value → Sem Value) (hc : ∀ args w, (callFunc K args).run P w = ((E args).run P w).andThen fun v w' => .ok (.value v) w') (v : Value) (w' : World) (hE : (E #[u]).run P w = .ok v w')
    (h : wpList P ops Q rest (a.put o.dst v) w') : wpList P ops Q (o :: rest) a w := by
  refine wpList_wanted hg fun K' hK => ?_
  refine wp_value (v := v) (w' := w') ?_ (hK _ _ h)
  have e : a.eval (.func K) = .func (.func K) #[] #[] := rfl
  simp [execOp, ho, resolve, Deferred.ofValue, e, hx, invoke, hc, hE]

theorem fl_sqrt {P : Program} {ops : Array Oper} {Q : Exit → Act → World → Prop} {a : Act} {w : World} {rest : List Oper} {o : Oper}
    (hg : Region.wanted o (yielded ops a.tmps) = true) (K : FuncId) (x : Operand) (ts : Array TypeId) (ho : o.op = .call { callee := .value (.func K), args := #[x], argTypes := ts }) (u : Nat) (hx : a.eval x = .float .f64 u)
    (hc : ∀ args w, (callFunc K args).run P w = ((Extern.MathSqrt.sqrt args).run P w).andThen fun v w' => .ok (.value v) w')
    (h : ∀ r n, (∀ X, Ab .f64 u X → Ab .f64 r (sqrtA X)) → wpList P ops Q rest (a.put o.dst (.float .f64 r)) (w.drewN n)) : wpList P ops Q (o :: rest) a w := by
  obtain ⟨r, n, hr, hb⟩ := run_sqrt (P := P) w u
  exact fl_call hg K x ts ho _ hx _ hc _ _ hr (h r n hb)

theorem fl_integral {P : Program} {ops : Array Oper} {Q : Exit → Act → World → Prop} {a : Act} {w : World} {rest : List Oper} {o : Oper}
    (hg : Region.wanted o (yielded ops a.tmps) = true) (K : FuncId) (x : Operand) (ts : Array TypeId) (ho : o.op = .call { callee := .value (.func K), args := #[x], argTypes := ts }) (u : Nat) (hx : a.eval x = .float .f64 u)
    (name : String) (way : Ieee.Toward) (hc : ∀ args w, (callFunc K args).run P w = ((Extern.MathFloor.toIntegral name way args).run P w).andThen fun v w' => .ok (.value v) w')
    (h : ∀ r n, (∀ X, Ab .f64 u X → Ab .f64 r (integralA way X)) → wpList P ops Q rest (a.put o.dst (.float .f64 r)) (w.drewN n)) : wpList P ops Q (o :: rest) a w := by
  obtain ⟨r, n, hr, hb⟩ := run_integral (P := P) w name way u
  exact fl_call hg K x ts ho _ hx _ hc _ _ hr (h r n hb)

theorem ext_sqrt : ∀ args w, (callFunc 37 args).run Try.prog w = ((Extern.MathSqrt.sqrt args).run Try.prog w).andThen fun v w' => .ok (.value v) w' := fun args w => run_callFunc_extern Try.func37 (by kernel_rfl) (by kernel_rfl) (by kernel_rfl) (by kernel_rfl) args w
theorem ext_floor : ∀ args w, (callFunc 32 args).run Try.prog w = ((Extern.MathFloor.toIntegral "math.archFloor" .down args).run Try.prog w).andThen fun v w' => .ok (.value v) w' := fun args w => run_callFunc_extern Try.func32 (by kernel_rfl) (by kernel_rfl) (by kernel_rfl) (by kernel_rfl) args w
theorem ext_trunc : ∀ args w, (callFunc 35 args).run Try.prog w = ((Extern.MathFloor.toIntegral "math.archTrunc" .zero args).run Try.prog w).andThen fun v w' => .ok (.value v) w' := fun args w => run_callFunc_extern Try.func35 (by kernel_rfl) (by kernel_rfl) (by kernel_rfl) (by kernel_rfl) args w

end Go.Proofs.Ytoimjjagkfgogaa
