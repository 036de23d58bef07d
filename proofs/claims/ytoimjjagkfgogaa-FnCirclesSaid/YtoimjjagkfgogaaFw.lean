/- The walk's laws for floating-point operations: each gives a word that reads as the operation's function of what the operands read as; a NaN's bits are whatever the tape draws. No conditions. -/
import Derived.Test.YtoimjjagkfgogaaFv
import Derived.WalkKit
import Derived.WalkSpells
import Derived.WalkLawsBesides
namespace Go.Proofs.Ytoimjjagkfgogaa
open Go.RowKit

@[go_sem] theorem run_store_float {P : Program} (w : World) (a : Addr) (m : Mode) (k : FloatKind) (b : Nat) : (store a (.float k b) m).run P w = stored P w a (.float k b) m := run_store P w a _ m rfl

@[go_sem] theorem setCell_drewN (w : World) (n : Nat) (a : Addr) (v : Value) : (w.drewN n).setCell a v = (w.setCell a v).drewN n := rfl
@[go_sem] theorem alloc_drewN (w : World) (n : Nat) (o : Obj) : (w.drewN n).alloc o = (w.alloc o).drewN n := rfl

theorem nan_mod {S I M s u : Nat} (hs : s < 2) (hu : u < M) (h : I + 1 + M ≤ S) : I < (s * S + I + 1 + u) % S ∧ s * S + I + 1 + u < 2 * S := by
  have : s = 0 ∨ s = 1 := by omega
  rcases this with rfl | rfl
  · rw [Nat.mod_eq_of_lt (by omega)]; omega
  · rw [show 1 * S + I + 1 + u = S + (I + 1 + u) by omega, Nat.add_mod_left, Nat.mod_eq_of_lt (by omega)]; omega

theorem nanCut (k : FloatKind) (q : Question) (t : Nat) (hq : (∃ x y, q = .nanBits k x y) ∨ (∃ x, q = .nanConv k x)) :
    q.forced = false ∧ nanW k (q.cut t) = true ∧ q.cut t < 2 ^ k.format.width := by
  have h32 : (t / 2) % (2 ^ 23 - 1) < 2 ^ 23 - 1 := Nat.mod_lt _ (by decide)
  have h64 : (t / 2) % (2 ^ 52 - 1) < 2 ^ 52 - 1 := Nat.mod_lt _ (by decide)
  have h2 : t % 2 < 2 := Nat.mod_lt _ (by decide)
  have n32 := nan_mod (S := 2 ^ 31) (I := 0x7f800000) h2 h32 (by decide)
  have n64 := nan_mod (S := 2 ^ 63) (I := 0x7ff0000000000000) h2 h64 (by decide)
  rcases hq with ⟨x, y, rfl⟩ | ⟨x, rfl⟩ <;> cases k
  · exact ⟨rfl, decide_eq_true n32.1, n32.2⟩
  · exact ⟨rfl, decide_eq_true n64.1, n64.2⟩
  · exact ⟨rfl, decide_eq_true n32.1, n32.2⟩
  · exact ⟨rfl, decide_eq_true n64.1, n64.2⟩

section
variable {P : Program} (w : World)

theorem run_nanBits (k : FloatKind) (x y : Nat) : ∃ r, (choose (.nanBits k x y)).run P w = .ok r (w.drewN 1) ∧ Ab k r none := by
  obtain ⟨h1, h2, h3⟩ := nanCut k (.nanBits k x y) (w.tape w.drawn (.nanBits k x y)) (.inl ⟨x, y, rfl⟩)
  exact ⟨_, by rw [run_choose, h1]; rfl, Ab.nan h2 h3⟩
theorem run_nanConv (k : FloatKind) (x : Nat) : ∃ r, (choose (.nanConv k x)).run P w = .ok r (w.drewN 1) ∧ Ab k r none := by
  obtain ⟨h1, h2, h3⟩ := nanCut k (.nanConv k x) (w.tape w.drawn (.nanConv k x)) (.inr ⟨x, rfl⟩)
  exact ⟨_, by rw [run_choose, h1]; rfl, Ab.nan h2 h3⟩

/-- '+', '-', '*', '/'. -/
theorem run_farith {op : BinOp} (hop : isArith op = true) (t : TypeId) (k : FloatKind) (x y : Nat) :
    ∃ r n, (binOp op t (.float k x) (.float k y)).run P w = .ok (.float k r) (w.drewN n) ∧ ∀ X Y, Ab k x X → Ab k y Y → Ab k r (opA op k X Y) := by
  cases h : floatBits op k x y with
  | some r =>
    refine ⟨r, 0, run_float_arith w op t k x y r h, fun X Y hx hy => ?_⟩
    rw [opA_ab hx hy, h]; exact Ab.lit (floatBits_not_nan h) (floatBits_lt h)
  | none =>
    obtain ⟨r, hr, hn⟩ := run_nanBits (P := P) w k x y
    refine ⟨r, 1, ?_, fun X Y hx hy => by rw [opA_ab hx hy, h]; exact hn⟩
    unfold floatBits at h
    cases op <;> simp only [isArith, Bool.false_eq_true] at hop <;> simp only at h <;> simp [binOp, Op.floatArith, h, -run_choose, -run_choose_drew, hr]

/-- A comparison of words. -/
def cmpW (op : BinOp) (k : FloatKind) (x y : Nat) : Bool :=
  match op with
  | .eql => k.format.order x y == some .eq
  | .neq => k.format.order x y != some .eq
  | .lss => k.format.order x y == some .lt
  | .leq => k.format.order x y == some .lt || k.format.order x y == some .eq
  | .gtr => k.format.order x y == some .gt
  | .geq => k.format.order x y == some .gt || k.format.order x y == some .eq
  | _ => false

theorem run_fcmp {op : BinOp} (hop : isCmp op = true) (t : TypeId) (k : FloatKind) (x y : Nat) :
    ∃ b, (binOp op t (.float k x) (.float k y)).run P w = .ok (.bool b) w ∧ ∀ X Y, Ab k x X → Ab k y Y → b = cmpA op k X Y := by
  refine ⟨cmpW op k x y, ?_, fun X Y hx hy => ?_⟩
  · cases op <;> simp only [isCmp, Bool.false_eq_true] at hop <;> simp [binOp, Op.floatCmp, cmpW]
  · have e := ordA_ab hx hy
    cases op <;> simp only [isCmp, Bool.false_eq_true] at hop <;> simp only [cmpW, cmpA, e]

theorem decode_cases (k : FloatKind) {b : Nat} (h : nanW k b = false) : (∃ s, k.decode b = .infinity s) ∨ (∃ s m e, k.decode b = .number s m e) := by
  have h2 : (k.decode b).isNaN = false := by unfold FloatKind.decode; rw [isNaN_eq]; exact h
  cases hd : k.decode b with
  | number s m e => exact .inr ⟨_, _, _, rfl⟩
  | infinity s => exact .inl ⟨_, rfl⟩
  | nan s t => rw [hd] at h2; simp [Ieee.Datum.isNaN] at h2

theorem run_same (src dst : TypeId) (k : FloatKind) (b : Nat) (hs : (P.underlying src).isSome = true) (hd : P.underlying dst = some (.float k)) :
    (convert src dst (.float k b)).run P w = .ok (.float k b) w :=
  run_convert_float_float w src dst k k b b hs hd (by simp [floatToFloatBits])

theorem wide_nan {x : Nat} (h : nanW .f32 x = false) : ¬ (FloatKind.f64.decode (FloatKind.f64.encode (FloatKind.f32.decode x))).isInfinity = true ∨ infW .f32 x = true := by
  rcases kinds .f32 x with ⟨h1, _, _⟩ | ⟨_, h1, _⟩ | ⟨_, _, h1⟩
  · left
    have := (wide_fin h1).1
    unfold wideW at this
    rw [decode_fin this]
    simp [Ieee.Datum.isInfinity]
  · exact .inr h1
  · rw [h] at h1; cases h1

theorem run_wide (src dst : TypeId) (x : Nat) (hs : (P.underlying src).isSome = true) (hd : P.underlying dst = some (.float .f64)) :
    ∃ r n, (convert src dst (.float .f32 x)).run P w = .ok (.float .f64 r) (w.drewN n) ∧ ∀ X, Ab .f32 x X → Ab .f64 r (wideA X) := by
  cases hn : nanW .f32 x with
  | true =>
    obtain ⟨r, hr, hb⟩ := run_nanConv (P := P) w .f64 x
    refine ⟨r, 1, ?_, fun X hx => ?_⟩
    · have h2 : (FloatKind.f32.decode x).isNaN = true := by unfold FloatKind.decode; rw [isNaN_eq]; exact hn
      obtain ⟨s, t, e⟩ := isNaN_dest h2
      obtain ⟨u, hs'⟩ := Option.isSome_iff_exists.1 hs
      cases u <;> simp [convert, run_underlying hs', run_underlying hd, Conv.floatToFloat, e, -run_choose, -run_choose_drew, hr]
    · have : X = none := by rw [← hx.eq]; exact ab_none.2 hn
      subst this; exact hb
  | false =>
    refine ⟨FloatKind.f64.encode (FloatKind.f32.decode x), 0, run_convert_float_float w src dst .f32 .f64 x _ hs hd ?_, fun X hx => ?_⟩
    · unfold floatToFloatBits
      rcases wide_nan hn with h | h
      · rcases decode_cases .f32 hn with ⟨s, e⟩ | ⟨s, m, e0, e⟩
        · simp [e]
        · rw [e] at h
          simp [e, h]
      · simp [decode_inf h]
    · have : X = some x := by rw [← hx.eq]; exact ab_some.2 ⟨hn, rfl⟩
      subst this
      refine ⟨ab_some.2 ⟨write_nan .f64 ?_, rfl⟩, encode_lt _ _⟩
      rcases decode_cases .f32 hn with ⟨s, e⟩ | ⟨s, m, e0, e⟩ <;> rw [e] <;> rfl

theorem run_narrow (src dst : TypeId) (x : Nat) (hs : (P.underlying src).isSome = true) (hd : P.underlying dst = some (.float .f32)) :
    ∃ r n, (convert src dst (.float .f64 x)).run P w = .ok (.float .f32 r) (w.drewN n) ∧ r < 2 ^ FloatKind.f32.format.width ∧ ∀ X, Ab .f64 x X → Fits X → Ab .f32 r (narrowA X) := by
  obtain ⟨u, hs'⟩ := Option.isSome_iff_exists.1 hs
  cases hn : nanW .f64 x with
  | true =>
    obtain ⟨r, hr, hb⟩ := run_nanConv (P := P) w .f32 x
    refine ⟨r, 1, ?_, hb.lt, fun X hx _ => ?_⟩
    · have h2 : (FloatKind.f64.decode x).isNaN = true := by unfold FloatKind.decode; rw [isNaN_eq]; exact hn
      obtain ⟨s, t, e⟩ := isNaN_dest h2
      cases u <;> simp [convert, run_underlying hs', run_underlying hd, Conv.floatToFloat, e, -run_choose, -run_choose_drew, hr]
    · have : X = none := by rw [← hx.eq]; exact ab_none.2 hn
      subst this; exact hb
  | false =>
    have hX : ∀ X, Ab .f64 x X → X = some x := fun X hx => by rw [← hx.eq]; exact ab_some.2 ⟨hn, rfl⟩
    cases hf : tooGreat x with
    | true =>
      refine ⟨(w.tape w.drawn (.floatToFloat x)) % 2 ^ 32, 1, ?_, Nat.mod_lt _ (by decide), fun X hx hF => ?_⟩
      · rcases decode_cases .f64 hn with ⟨s, e⟩ | ⟨s, m, e0, e⟩
        · simp [tooGreat, e, Ieee.Datum.isInfinity] at hf
        · simp [tooGreat, e, Ieee.Datum.isInfinity] at hf
          cases u <;> simp [convert, run_underlying hs', run_underlying hd, Conv.floatToFloat, e, Ieee.Datum.isInfinity, hf, Question.forced, Question.cut] <;> rfl
      · have := hF x (hX X hx)
        rw [hf] at this; cases this
    | false =>
      refine ⟨FloatKind.f32.encode (FloatKind.f64.decode x), 0, run_convert_float_float w src dst .f64 .f32 x _ hs hd ?_, encode_lt _ _, fun X hx _ => ?_⟩
      · unfold floatToFloatBits
        rcases decode_cases .f64 hn with ⟨s, e⟩ | ⟨s, m, e0, e⟩
        · simp [e]
        · simp [tooGreat, e, Ieee.Datum.isInfinity] at hf
          simp [e, Ieee.Datum.isInfinity, hf]
      · have := hX X hx
        subst this
        refine ⟨ab_some.2 ⟨write_nan .f32 ?_, rfl⟩, encode_lt _ _⟩
        rcases decode_cases .f64 hn with ⟨s, e⟩ | ⟨s, m, e0, e⟩ <;> rw [e] <;> rfl

/-- 'math.Sqrt'. -/
theorem run_sqrt (x : Nat) : ∃ r n, (Extern.MathSqrt.sqrt #[.float .f64 x]).run P w = .ok (.float .f64 r) (w.drewN n) ∧ ∀ X, Ab .f64 x X → Ab .f64 r (sqrtA X) := by
  have e0 : Extern.MathSqrt.sqrt #[.float .f64 x] = (match FloatKind.f64.format.sqrt x with | some r => pure (.float .f64 r) | none => do pure (.float .f64 (← choose (.nanBits .f64 x x)))) := rfl
  rw [e0]
  cases h : FloatKind.f64.format.sqrt x with
  | some r =>
    refine ⟨r, 0, rfl, fun X hx => ?_⟩
    rw [sqrtA_ab hx, h]; exact Ab.lit (sqrt_not_nan h) (Ieee.Format.sqrt_lt _ h)
  | none =>
    obtain ⟨r, hr, hn⟩ := run_nanBits (P := P) w .f64 x x
    refine ⟨r, 1, ?_, fun X hx => by rw [sqrtA_ab hx, h]; exact hn⟩
    simp [-run_choose, -run_choose_drew, hr]
end

section
variable {P : Program} {ops : Array Oper} {Q : Exit → Act → World → Prop} {a : Act} {w : World} {rest : List Oper} {o : Oper}

theorem wpList_wanted (hw : Region.wanted o (yielded ops a.tmps) = true)
    (h : ∀ K : Act → World → Prop, (∀ a w, wpList P ops Q rest a w → K a w) → o.wp P a w K Q) : wpList P ops Q (o :: rest) a w :=
  wpList_step fun K hK => by rw [if_pos hw]; exact h K hK

theorem wp_value {K : Act → World → Prop} {v : Value} {w' : World} (h : (execOp a.eval o).run P w = .ok (.value v) w') (hK : K (a.put o.dst v) w') : o.wp P a w K Q := by
  unfold Oper.wp; rw [h]; exact hK

theorem fl_arith (hg : Region.wanted o (yielded ops a.tmps) = true) (op : BinOp) (t yt : TypeId) (x y : Operand) (ho : o.op = .binOp op t x y yt) (hop : isArith op = true) (k : FloatKind) (u v : Nat)
    (hx : a.eval x = .float k u) (hy : a.eval y = .float k v)
    (h : ∀ r n, (∀ X Y, Ab k u X → Ab k v Y → Ab k r (opA op k X Y)) → wpList P ops Q rest (a.put o.dst (.float k r)) (w.drewN n)) : wpList P ops Q (o :: rest) a w := by
  refine wpList_wanted hg fun K hK => ?_
  obtain ⟨r, n, hr, hb⟩ := run_farith (P := P) w hop t k u v
  refine wp_value (v := .float k r) (w' := w.drewN n) ?_ (hK _ _ (h r n hb))
  cases op <;> simp only [isArith, Bool.false_eq_true] at hop <;> simp [execOp, ho, hx, hy, eqGuard, hr]

theorem fl_cmp (hg : Region.wanted o (yielded ops a.tmps) = true) (op : BinOp) (t yt : TypeId) (x y : Operand) (ho : o.op = .binOp op t x y yt) (hop : isCmp op = true) (k : FloatKind) (u v : Nat)
    (hx : a.eval x = .float k u) (hy : a.eval y = .float k v)
    (h : ∀ b, (∀ X Y, Ab k u X → Ab k v Y → b = cmpA op k X Y) → wpList P ops Q rest (a.put o.dst (.bool b)) w) : wpList P ops Q (o :: rest) a w := by
  refine wpList_wanted hg fun K hK => ?_
  obtain ⟨b, hr, hb⟩ := run_fcmp (P := P) w hop t k u v
  refine wp_value (v := .bool b) (w' := w) ?_ (hK _ _ (h b hb))
  cases op <;> simp only [isCmp, Bool.false_eq_true] at hop <;> simp [execOp, ho, hx, hy, eqGuard, hr]

theorem fl_same (hg : Region.wanted o (yielded ops a.tmps) = true) (src dst : TypeId) (x : Operand) (ho : o.op = .convert src dst x) (k : FloatKind) (u : Nat) (hx : a.eval x = .float k u)
    (hs : (P.underlying src).isSome = true) (hd : P.underlying dst = some (.float k))
    (h : wpList P ops Q rest (a.put o.dst (.float k u)) w) : wpList P ops Q (o :: rest) a w := by
  refine wpList_wanted hg fun K hK => ?_
  refine wp_value (v := .float k u) (w' := w) ?_ (hK _ _ h)
  simp [execOp, ho, hx, run_same w src dst k u hs hd]

theorem fl_wide (hg : Region.wanted o (yielded ops a.tmps) = true) (src dst : TypeId) (x : Operand) (ho : o.op = .convert src dst x) (u : Nat) (hx : a.eval x = .float .f32 u)
    (hs : (P.underlying src).isSome = true) (hd : P.underlying dst = some (.float .f64))
    (h : ∀ r n, (∀ X, Ab .f32 u X → Ab .f64 r (wideA X)) → wpList P ops Q rest (a.put o.dst (.float .f64 r)) (w.drewN n)) : wpList P ops Q (o :: rest) a w := by
  refine wpList_wanted hg fun K hK => ?_
  obtain ⟨r, n, hr, hb⟩ := run_wide (P := P) w src dst u hs hd
  refine wp_value (v := .float .f64 r) (w' := w.drewN n) ?_ (hK _ _ (h r n hb))
  simp [execOp, ho, hx, hr]

theorem fl_narrow (hg : Region.wanted o (yielded ops a.tmps) = true) (src dst : TypeId) (x : Operand) (ho : o.op = .convert src dst x) (u : Nat) (hx : a.eval x = .float .f64 u)
    (hs : (P.underlying src).isSome = true) (hd : P.underlying dst = some (.float .f32))
    (h : ∀ r n, r < 2 ^ FloatKind.f32.format.width → (∀ X, Ab .f64 u X → Fits X → Ab .f32 r (narrowA X)) → wpList P ops Q rest (a.put o.dst (.float .f32 r)) (w.drewN n)) : wpList P ops Q (o :: rest) a w := by
  refine wpList_wanted hg fun K hK => ?_
  obtain ⟨r, n, hr, hl, hb⟩ := run_narrow (P := P) w src dst u hs hd
  refine wp_value (v := .float .f32 r) (w' := w.drewN n) ?_ (hK _ _ (h r n hl hb))
  simp [execOp, ho, hx, hr]

theorem fl_neg (hg : Region.wanted o (yielded ops a.tmps) = true) (t : TypeId) (x : Operand) (ho : o.op = .unOp .neg t x) (k : FloatKind) (u : Nat) (hx : a.eval x = .float k u)
    (h : ∀ r, (∀ X, Ab k u X → Ab k r (negA k X)) → wpList P ops Q rest (a.put o.dst (.float k r)) w) : wpList P ops Q (o :: rest) a w := by
  refine wpList_wanted hg fun K hK => ?_
  refine wp_value (v := .float k (Op.negFloat k u)) (w' := w) ?_ (hK _ _ (h _ fun _ hX => hX.neg))
  simp [execOp, ho, hx, Op.unary]

end

end Go.Proofs.Ytoimjjagkfgogaa
