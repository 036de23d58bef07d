/- Pure facts on floating-point words: all NaNs taken for one, the four operations, comparisons, conversions and roots as functions on such words. No conditions. -/
import Derived.Laws.FloatArith
import Derived.Deep.Draws
namespace Go.Proofs.Ytoimjjagkfgogaa
open Ieee

/-! ## Words: the sign and the rung -/

def rg (f : Format) (b : Nat) : Nat := b % f.signWeight
def ng (f : Format) (b : Nat) : Bool := b / f.signWeight % 2 == 1

def rungRead (f : Format) (neg : Bool) (rung : Nat) : Datum :=
  if rung < f.binade then .number neg rung f.leastPlace
  else if rung < f.infRung then .number neg (f.binade + rung % f.binade) (f.leastPlace + (rung / f.binade - 1 : Nat))
  else if rung = f.infRung then .infinity neg
  else .nan neg (rung - f.infRung)

theorem read_eq (f : Format) (b : Nat) : f.read b = rungRead f (ng f b) (rg f b) := rfl

theorem sw_pos (f : Format) : 0 < f.signWeight := Nat.two_pow_pos _
theorem bin_pos (f : Format) : 0 < f.binade := Nat.two_pow_pos _

theorem word_rg (f : Format) (neg : Bool) {r : Nat} (h : r < f.signWeight) : rg f (f.word neg r) = r := by
  unfold rg Format.word
  split
  · rw [Nat.add_mod_left]; exact Nat.mod_eq_of_lt h
  · exact Nat.mod_eq_of_lt h

theorem word_ng (f : Format) (neg : Bool) {r : Nat} (h : r < f.signWeight) : ng f (f.word neg r) = neg := by
  unfold ng Format.word
  cases neg
  · simp [Nat.div_eq_of_lt h]
  · simp [Nat.add_div_left _ (sw_pos f), Nat.div_eq_of_lt h]

theorem read_word (f : Format) (neg : Bool) {r : Nat} (h : r < f.signWeight) : f.read (f.word neg r) = rungRead f neg r := by
  rw [read_eq, word_rg f neg h, word_ng f neg h]

theorem word_of (k : FloatKind) {b : Nat} (h : b < 2 ^ k.format.width) : b = k.format.word (ng k.format b) (rg k.format b) := by
  have h2 : b / k.format.signWeight < 2 := by
    rw [Nat.div_lt_iff_lt_mul (sw_pos _)]
    cases k
    · exact h
    · exact h
  have h3 := Nat.div_add_mod b k.format.signWeight
  unfold ng rg Format.word
  have : b / k.format.signWeight = 0 ∨ b / k.format.signWeight = 1 := (show ∀ q : Nat, q < 2 → q = 0 ∨ q = 1 by omega) _ h2
  rcases this with e | e
  · rw [e] at h3 ⊢; simp at h3 ⊢; exact h3.symm
  · rw [e] at h3 ⊢; simp at h3 ⊢; exact h3.symm

theorem bin_le (k : FloatKind) : k.format.binade ≤ k.format.infRung := by cases k <;> decide
theorem inf_lt (k : FloatKind) : k.format.infRung < k.format.signWeight := k.format.infRung_lt

/-- Not a number. -/
def nanW (k : FloatKind) (b : Nat) : Bool := decide (k.format.infRung < rg k.format b)

theorem isNaN_rung (k : FloatKind) (s : Bool) (r : Nat) : (rungRead k.format s r).isNaN = decide (k.format.infRung < r) := by
  have h := bin_le k
  unfold rungRead
  split
  · simp [Datum.isNaN]; omega
  · split
    · simp [Datum.isNaN]; omega
    · split
      · simp [Datum.isNaN]; omega
      · simp [Datum.isNaN]; omega

theorem isNaN_eq (k : FloatKind) (b : Nat) : (k.format.read b).isNaN = nanW k b := by rw [read_eq, isNaN_rung]; rfl

theorem isNaN_dest {d : Datum} (h : d.isNaN = true) : ∃ s t, d = .nan s t := by
  cases d <;> simp [Datum.isNaN] at h; exact ⟨_, _, rfl⟩

theorem nearest_rg_le (k : FloatKind) (s : Bool) (m : Nat) (e : Int) : rg k.format (k.format.nearest s m e) ≤ k.format.infRung := by
  have hi := inf_lt k
  have hb := bin_le k
  unfold Format.nearest
  dsimp only
  split
  · rw [word_rg _ _ (sw_pos _)]; omega
  · rw [word_rg _ _ (by omega)]; omega

theorem write_nan (k : FloatKind) {d : Datum} (h : d.isNaN = false) : nanW k (k.format.write d) = false := by
  have hi := inf_lt k
  unfold nanW
  cases d with
  | number s m e => exact decide_eq_false (Nat.not_lt.2 (nearest_rg_le k s m e))
  | infinity s => simp [Format.write, word_rg _ _ hi]
  | nan s t => simp [Datum.isNaN] at h

/-! ## The collapsed word -/

/-- A word, all NaNs taken for one: 'none'. -/
def ab (k : FloatKind) (b : Nat) : Option Nat := if nanW k b = true then none else some b

/-- The word b reads as X. -/
structure Ab (k : FloatKind) (b : Nat) (X : Option Nat) : Prop where
  eq : ab k b = X
  lt : b < 2 ^ k.format.width

theorem ab_none {k : FloatKind} {b : Nat} : ab k b = none ↔ nanW k b = true := by unfold ab; split <;> simp_all
theorem ab_some {k : FloatKind} {b c : Nat} : ab k b = some c ↔ nanW k b = false ∧ b = c := by unfold ab; split <;> simp_all

theorem Ab.self {k : FloatKind} {b : Nat} (h : b < 2 ^ k.format.width) : Ab k b (ab k b) := ⟨rfl, h⟩
theorem Ab.lit {k : FloatKind} {b : Nat} (h1 : nanW k b = false) (h2 : b < 2 ^ k.format.width) : Ab k b (some b) := ⟨ab_some.2 ⟨h1, rfl⟩, h2⟩
theorem Ab.of_wf {k : FloatKind} {b : Nat} (h : (Lit.float k b).wf = true) : Ab k b (ab k b) := by
  refine ⟨rfl, ?_⟩
  cases k
  · have : b < 2 ^ 32 := by simpa [Lit.wf] using h
    exact this
  · have : b < 2 ^ 64 := by simpa [Lit.wf] using h
    exact this
theorem Ab.nan {k : FloatKind} {b : Nat} (h1 : nanW k b = true) (h2 : b < 2 ^ k.format.width) : Ab k b none := ⟨ab_none.2 h1, h2⟩
theorem Ab.of_some {k : FloatKind} {b c : Nat} (h : Ab k b (some c)) : b = c ∧ nanW k c = false := by
  have := ab_some.1 h.eq
  exact ⟨this.2, this.2 ▸ this.1⟩
theorem Ab.to_nan {k : FloatKind} {b : Nat} (h : Ab k b none) : nanW k b = true := ab_none.1 h.eq
theorem Ab.conv {k : FloatKind} {b : Nat} {X Y : Option Nat} (h : Ab k b X) (e : X = Y) : Ab k b Y := e ▸ h

/-! ## The operations -/

def isArith : BinOp → Bool
  | .add | .sub | .mul | .quo => true
  | _ => false

def opA (op : BinOp) (k : FloatKind) (X Y : Option Nat) : Option Nat := X.bind fun a => Y.bind fun b => floatBits op k a b

theorem sum_nan_left {a b : Datum} (h : a.isNaN = true) : a.sum b = none := by obtain ⟨s, t, rfl⟩ := isNaN_dest h; rfl
theorem sum_nan_right {a b : Datum} (h : b.isNaN = true) : a.sum b = none := by obtain ⟨s, t, rfl⟩ := isNaN_dest h; cases a <;> rfl
theorem prod_nan_left {a b : Datum} (h : a.isNaN = true) : a.product b = none := by obtain ⟨s, t, rfl⟩ := isNaN_dest h; rfl
theorem prod_nan_right {a b : Datum} (h : b.isNaN = true) : a.product b = none := by obtain ⟨s, t, rfl⟩ := isNaN_dest h; cases a <;> rfl
theorem quot_nan_left {n : Nat} {a b : Datum} (h : a.isNaN = true) : a.quotient n b = none := by obtain ⟨s, t, rfl⟩ := isNaN_dest h; rfl
theorem quot_nan_right {n : Nat} {a b : Datum} (h : b.isNaN = true) : a.quotient n b = none := by obtain ⟨s, t, rfl⟩ := isNaN_dest h; cases a <;> rfl
theorem order_nan_left {a b : Datum} (h : a.isNaN = true) : a.order b = none := by obtain ⟨s, t, rfl⟩ := isNaN_dest h; rfl
theorem order_nan_right {a b : Datum} (h : b.isNaN = true) : a.order b = none := by obtain ⟨s, t, rfl⟩ := isNaN_dest h; cases a <;> rfl
theorem root_nan {n : Nat} {a : Datum} (h : a.isNaN = true) : a.root n = none := by obtain ⟨s, t, rfl⟩ := isNaN_dest h; rfl
theorem opposite_nan (a : Datum) : a.opposite.isNaN = a.isNaN := by cases a <;> rfl

theorem sum_not_nan {a b d : Datum} (h : a.sum b = some d) : d.isNaN = false := by
  cases a <;> cases b <;> simp only [Datum.sum] at h <;> (try (split at h)) <;> cases h <;> rfl
theorem prod_not_nan {a b d : Datum} (h : a.product b = some d) : d.isNaN = false := by
  cases a <;> cases b <;> simp only [Datum.product] at h <;> (try (split at h)) <;> cases h <;> rfl
theorem quot_not_nan {n : Nat} {a b d : Datum} (h : a.quotient n b = some d) : d.isNaN = false := by
  cases a <;> cases b <;> simp only [Datum.quotient] at h <;> (try (split at h)) <;> (try (split at h)) <;> cases h <;> rfl
theorem root_not_nan {n : Nat} {a d : Datum} (h : a.root n = some d) : d.isNaN = false := by
  cases a <;> simp only [Datum.root] at h <;> (try (split at h)) <;> (try (split at h)) <;> cases h <;> rfl

theorem floatBits_nan_left {op : BinOp} {k : FloatKind} {x y : Nat} (h : nanW k x = true) : floatBits op k x y = none := by
  rw [← isNaN_eq] at h
  unfold floatBits
  cases op <;> simp [Format.add, Format.sub, Format.mul, Format.div, sum_nan_left h, prod_nan_left h, quot_nan_left h]
theorem floatBits_nan_right {op : BinOp} {k : FloatKind} {x y : Nat} (h : nanW k y = true) : floatBits op k x y = none := by
  rw [← isNaN_eq] at h
  have h' : (k.format.read y).opposite.isNaN = true := by rw [opposite_nan]; exact h
  unfold floatBits
  cases op <;> simp [Format.add, Format.sub, Format.mul, Format.div, sum_nan_right h, sum_nan_right h', prod_nan_right h, quot_nan_right h]
theorem map_write {k : FloatKind} {o : Option Datum} {r : Nat} (ho : ∀ d, o = some d → d.isNaN = false) (h : o.map k.format.write = some r) : nanW k r = false := by
  cases o with
  | none => cases h
  | some d => cases h; exact write_nan k (ho d rfl)
theorem floatBits_not_nan {op : BinOp} {k : FloatKind} {x y r : Nat} (h : floatBits op k x y = some r) : nanW k r = false := by
  unfold floatBits at h
  cases op <;> simp only [Format.add, Format.sub, Format.mul, Format.div] at h <;> first | (cases h; done) | skip
  · exact map_write (fun d hd => sum_not_nan hd) h
  · exact map_write (fun d hd => sum_not_nan hd) h
  · exact map_write (fun d hd => prod_not_nan hd) h
  · exact map_write (fun d hd => quot_not_nan hd) h
theorem floatBits_lt {op : BinOp} {k : FloatKind} {x y r : Nat} (h : floatBits op k x y = some r) : r < 2 ^ k.format.width := by
  unfold floatBits at h
  cases op <;> simp only at h <;> first | (cases h; done) | skip
  · exact k.format.add_lt h
  · exact k.format.sub_lt h
  · exact k.format.mul_lt h
  · exact k.format.div_lt h

theorem opA_ab {op : BinOp} {k : FloatKind} {x y : Nat} {X Y : Option Nat} (hx : Ab k x X) (hy : Ab k y Y) : opA op k X Y = floatBits op k x y := by
  cases X with
  | none => rw [floatBits_nan_left hx.to_nan]; rfl
  | some a =>
    obtain ⟨rfl, _⟩ := hx.of_some
    cases Y with
    | none => rw [floatBits_nan_right hy.to_nan]; rfl
    | some b => obtain ⟨rfl, _⟩ := hy.of_some; rfl

/-! ## Comparisons -/

def ordA (k : FloatKind) (X Y : Option Nat) : Option Ordering := X.bind fun a => Y.bind fun b => k.format.order a b

theorem ordA_ab {k : FloatKind} {x y : Nat} {X Y : Option Nat} (hx : Ab k x X) (hy : Ab k y Y) : k.format.order x y = ordA k X Y := by
  cases X with
  | none => have h := hx.to_nan; rw [← isNaN_eq] at h; exact order_nan_left h
  | some a =>
    obtain ⟨rfl, _⟩ := hx.of_some
    cases Y with
    | none => have h := hy.to_nan; rw [← isNaN_eq] at h; exact order_nan_right h
    | some b => obtain ⟨rfl, _⟩ := hy.of_some; rfl

def isCmp : BinOp → Bool
  | .eql | .neq | .lss | .leq | .gtr | .geq => true
  | _ => false

/-- What a comparison says. -/
def cmpA (op : BinOp) (k : FloatKind) (X Y : Option Nat) : Bool :=
  match op with
  | .eql => ordA k X Y == some .eq
  | .neq => ordA k X Y != some .eq
  | .lss => ordA k X Y == some .lt
  | .leq => ordA k X Y == some .lt || ordA k X Y == some .eq
  | .gtr => ordA k X Y == some .gt
  | .geq => ordA k X Y == some .gt || ordA k X Y == some .eq
  | _ => false

/-! ## Conversions -/

def wideA (X : Option Nat) : Option Nat := X.map fun b => FloatKind.f64.encode (FloatKind.f32.decode b)
def narrowA (X : Option Nat) : Option Nat := X.map fun b => FloatKind.f32.encode (FloatKind.f64.decode b)

/-- A 64-bit word that is finite and too great for 32 bits: Go leaves open what it is narrowed to. -/
def tooGreat (b : Nat) : Bool := !(FloatKind.f64.decode b).isInfinity && (FloatKind.f32.decode (FloatKind.f32.encode (FloatKind.f64.decode b))).isInfinity
/-- X is not too great for 32 bits. -/
def Fits (X : Option Nat) : Prop := ∀ b, X = some b → tooGreat b = false

def negA (k : FloatKind) (X : Option Nat) : Option Nat := X.map (Op.negFloat k)
def sqrtA (X : Option Nat) : Option Nat := X.bind fun b => FloatKind.f64.format.sqrt b
def integralA (way : Toward) (X : Option Nat) : Option Nat := X.map fun b => FloatKind.f64.encode ((FloatKind.f64.decode b).integral way)

theorem sqrtA_ab {x : Nat} {X : Option Nat} (hx : Ab .f64 x X) : sqrtA X = FloatKind.f64.format.sqrt x := by
  cases X with
  | none =>
    have h := hx.to_nan; rw [← isNaN_eq] at h
    show none = Option.map _ _
    rw [root_nan h]; rfl
  | some a => obtain ⟨rfl, _⟩ := hx.of_some; rfl
theorem sqrt_not_nan {x r : Nat} (h : FloatKind.f64.format.sqrt x = some r) : nanW .f64 r = false := map_write (k := .f64) (fun _ hd => root_not_nan hd) h

theorem xor_sign (n b : Nat) : (b ^^^ 2 ^ n) % 2 ^ n = b % 2 ^ n := by
  apply Nat.eq_of_testBit_eq
  intro i
  simp only [Nat.testBit_mod_two_pow, Nat.testBit_xor, Nat.testBit_two_pow]
  by_cases h : i < n
  · have : ¬ n = i := by omega
    simp [h, this]
  · simp [h]

theorem neg_rg (k : FloatKind) (b : Nat) : rg k.format (Op.negFloat k b) = rg k.format b := by
  unfold rg Op.negFloat Format.signWeight
  exact xor_sign _ _
theorem neg_nan (k : FloatKind) (b : Nat) : nanW k (Op.negFloat k b) = nanW k b := by unfold nanW; rw [neg_rg]
theorem neg_lt {k : FloatKind} {b : Nat} (h : b < 2 ^ k.format.width) : Op.negFloat k b < 2 ^ k.format.width := by
  unfold Op.negFloat
  refine Nat.xor_lt_two_pow h (Nat.pow_lt_pow_right (by omega) ?_)
  unfold Format.width; omega
theorem Ab.neg {k : FloatKind} {b : Nat} {X : Option Nat} (h : Ab k b X) : Ab k (Op.negFloat k b) (negA k X) := by
  refine ⟨?_, neg_lt h.lt⟩
  cases X with
  | none => exact ab_none.2 (by rw [neg_nan]; exact h.to_nan)
  | some a => obtain ⟨rfl, hn⟩ := h.of_some; exact ab_some.2 ⟨by rw [neg_nan]; exact hn, rfl⟩

theorem encode_number_nan (k : FloatKind) (s : Bool) (m : Nat) (e : Int) : nanW k (k.encode (.number s m e)) = false := write_nan k rfl
theorem encode_lt (k : FloatKind) (d : Datum) : k.encode d < 2 ^ k.format.width := k.format.write_lt d
theorem Ab.ofInt (k : FloatKind) (n : Int) : Ab k (floatOfInt k n) (some (floatOfInt k n)) := Ab.lit (encode_number_nan k _ _ _) (encode_lt k (.number (n < 0) n.natAbs 0))

theorem integral_not_nan {way : Toward} {d : Datum} (h : d.isNaN = false) : (d.integral way).isNaN = false := by cases d <;> first | rfl | exact h

end Go.Proofs.Ytoimjjagkfgogaa
