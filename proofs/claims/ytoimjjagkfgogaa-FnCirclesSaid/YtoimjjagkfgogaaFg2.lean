/- Evaluation in whole numbers: widening, narrowing, comparisons, floors, logarithms; that they are the operations. No conditions. -/
import Derived.Test.YtoimjjagkfgogaaFf
import Derived.Test.YtoimjjagkfgogaaFg
namespace Go.Proofs.Ytoimjjagkfgogaa.fast
open Ieee

/-! The parts of a word of 32 bits. -/
def sg32 (x : Nat) : Bool := Nat.beq (Nat.mod (Nat.div x 2147483648) 2) 1
def rn32 (x : Nat) : Nat := Nat.mod x 2147483648
noncomputable def mg32 (r : Nat) : Nat := sel (Nat.ble 8388608 r) (Nat.add 8388608 (Nat.mod r 8388608)) r
noncomputable def pl32 (r : Nat) : Nat := sel (Nat.ble 8388608 r) (Nat.add 3946 (Nat.div r 8388608)) 3947
def ok32 (x : Nat) : Bool := Nat.ble (Nat.succ (rn32 x)) 2139095040
theorem sw32 : FloatKind.f32.format.signWeight = 2147483648 := by decide
theorem bi32 : FloatKind.f32.format.binade = 8388608 := by decide
theorem in32 : FloatKind.f32.format.infRung = 2139095040 := by decide
theorem sg32_eq (x : Nat) : ng FloatKind.f32.format x = sg32 x := by
  show _ = Nat.beq (x / 2147483648 % 2) 1
  unfold ng
  rw [sw32, beq_eq, Bool.eq_iff_iff]
  simp
theorem rn32_eq (x : Nat) : rg FloatKind.f32.format x = rn32 x := by
  show _ = x % 2147483648
  unfold rg; rw [sw32]
theorem ok32_eq (x : Nat) : finW .f32 x = ok32 x := by
  show _ = Nat.ble (Nat.succ (rn32 x)) 2139095040
  unfold finW
  rw [rn32_eq, in32, ble_eq]
  rfl
theorem mg32_plain (r : Nat) : mg32 r = bif Nat.ble 8388608 r then 8388608 + r % 8388608 else r := sel_eq _ _ _
theorem pl32_plain (r : Nat) : pl32 r = bif Nat.ble 8388608 r then 3946 + r / 8388608 else 3947 := sel_eq _ _ _
theorem mg32_eq (r : Nat) : mgR FloatKind.f32.format r = mg32 r := by
  rw [mg32_plain]
  unfold mgR
  rw [bi32, ble_eq]
  by_cases h : r < 8388608
  · rw [if_pos h, decide_eq_false (by omega)]; rfl
  · rw [if_neg h, decide_eq_true (by omega)]; rfl
theorem pl32_eq (r : Nat) : plR FloatKind.f32.format r = (pl32 r : Int) - 4096 := by
  have e : FloatKind.f32.format.leastPlace = -149 := by decide
  rw [pl32_plain]
  unfold plR
  rw [bi32, ble_eq, e]
  by_cases h : r < 8388608
  · rw [if_pos h, decide_eq_false (by omega)]; rfl
  · rw [if_neg h, decide_eq_true (by omega)]
    have : 1 ≤ r / 8388608 := by omega
    simp only [cond_true]
    omega
theorem decode_ok32 {x : Nat} (h : ok32 x = true) : FloatKind.f32.decode x = .number (sg32 x) (mg32 (rn32 x)) ((pl32 (rn32 x) : Int) - 4096) := by
  rw [← ok32_eq] at h
  rw [decode_fin h, sg32_eq, rn32_eq, mg32_eq, pl32_eq]
theorem pl32_ge (r : Nat) : 3947 ≤ pl32 r := by
  rw [pl32_plain, ble_eq]
  by_cases h : 8388608 ≤ r
  · rw [decide_eq_true h]; simp only [cond_true]; omega
  · rw [decide_eq_false h]; simp

noncomputable def wide64 (x : Nat) : Nat := force (rn32 x) fun r => force (mg32 r) fun m => force (pl32 r) fun E => force (near64 m E) (word64 (sg32 x))
theorem wide_eq {x : Nat} (h : ok32 x = true) : wideA (some x) = some (wide64 x) := by
  show some (FloatKind.f64.format.write (FloatKind.f32.decode x)) = _
  rw [decode_ok32 h]
  unfold wide64
  simp only [force_eq]
  show some (FloatKind.f64.format.nearest _ _ _) = _
  rw [near64_eq]
noncomputable def narrow32 (x : Nat) : Nat := force (rn x) fun r => force (mg r) fun m => force (pl r) fun E => force (near32 m E) (word32 (sg x))
theorem narrow_eq {x : Nat} (h : ok x = true) : narrowA (some x) = some (narrow32 x) := by
  show some (FloatKind.f32.format.write (FloatKind.f64.decode x)) = _
  rw [decode_ok h]
  unfold narrow32
  simp only [force_eq]
  show some (FloatKind.f32.format.nearest _ _ _) = _
  rw [near32_eq]
theorem fits_eq {x : Nat} (h : ok x = true) (h2 : ok32 (narrow32 x) = true) : Fits (some x) := fun b hb => by
  cases hb
  unfold tooGreat
  have e : FloatKind.f32.encode (FloatKind.f64.decode x) = narrow32 x := Option.some.inj (narrow_eq h)
  rw [e, decode_ok32 h2]
  simp [Datum.isInfinity]
noncomputable def mul32 (x y : Nat) : Nat := force (rn32 x) fun p => force (rn32 y) fun q => force (Nat.mul (mg32 p) (mg32 q)) fun m => force (Nat.sub (Nat.add (pl32 p) (pl32 q)) 4096) fun E => force (near32 m E) (word32 (Bool.xor (sg32 x) (sg32 y)))
theorem mul32_eq {x y : Nat} (hx : ok32 x = true) (hy : ok32 y = true) : opA .mul .f32 (some x) (some y) = some (mul32 x y) := by
  have h1 := decode_ok32 hx
  have h2 := decode_ok32 hy
  have g1 := pl32_ge (rn32 x)
  have g2 := pl32_ge (rn32 y)
  unfold FloatKind.decode at h1 h2
  show FloatKind.f32.format.mul x y = _
  unfold Format.mul mul32
  rw [h1, h2]
  simp only [force_eq]
  have e : ((pl32 (rn32 x) : Int) - 4096) + ((pl32 (rn32 y) : Int) - 4096) = ((pl32 (rn32 x) + pl32 (rn32 y) - 4096 : Nat) : Int) - 4096 := by omega
  show some (FloatKind.f32.format.nearest _ _ _) = some (word32 (Bool.xor (sg32 x) (sg32 y)) (near32 (mg32 (rn32 x) * mg32 (rn32 y)) (pl32 (rn32 x) + pl32 (rn32 y) - 4096)))
  rw [e, near32_eq]

/-! Comparisons. -/
theorem pos_word {x : Nat} (h : x < 9218868437227405312) : finW .f64 x = true ∧ ng FloatKind.f64.format x = false ∧ rg FloatKind.f64.format x = x := by
  have e : rn x = x := by rw [rn_plain]; omega
  refine ⟨?_, ?_, by rw [rn_eq, e]⟩
  · rw [ok_eq, ok_plain, e, ble_eq]; exact decide_eq_true (by omega)
  · rw [sg_eq, sg_plain, beq_eq]; exact decide_eq_false (by omega)
theorem geq_pos {x c : Nat} (hx : x < 9218868437227405312) (hc : c < 9218868437227405312) : cmpA .geq .f64 (some x) (some c) = Nat.ble c x := by
  obtain ⟨x1, x2, x3⟩ := pos_word hx
  obtain ⟨c1, c2, c3⟩ := pos_word hc
  rw [geq_fin x1 c1, V_pos x2, V_pos c2, x3, c3, ble_eq]
  congr 1
  rw [eq_iff_iff, Int.ofNat_le, vl_le_iff]
theorem lss_pos {x c : Nat} (hx : x < 9218868437227405312) (hc : c < 9218868437227405312) : cmpA .lss .f64 (some x) (some c) = Nat.ble (Nat.succ x) c := by
  obtain ⟨x1, x2, x3⟩ := pos_word hx
  obtain ⟨c1, c2, c3⟩ := pos_word hc
  show (FloatKind.f64.format.order x c == some .lt) = _
  rw [order_fin x1 c1, lt_iff, V_pos x2, V_pos c2, x3, c3, ble_eq]
  congr 1
  rw [eq_iff_iff, Int.ofNat_lt, vl_lt_iff]
  rfl
noncomputable def leqN (d m : Nat) : Bool := sel (ok d) (sel (sg d) true (Nat.ble (rn d) m)) false
theorem leq_ok {d m : Nat} (hm : m < 9218868437227405312) (h : leqN d m = true) : cmpA .leq .f64 (some d) (some m) = true := by
  unfold leqN at h
  rw [sel_eq, sel_eq] at h
  cases hd : ok d with
  | false => rw [hd] at h; cases h
  | true =>
    rw [hd] at h
    obtain ⟨c1, c2, c3⟩ := pos_word hm
    rw [leq_fin ((ok_eq d).trans hd) c1, V_pos c2, c3]
    refine decide_eq_true ?_
    cases hs : sg d with
    | true =>
      unfold V
      rw [sg_eq, hs, if_pos rfl]
      omega
    | false =>
      rw [hs, ble_eq] at h
      have h2 : rn d ≤ m := of_decide_eq_true h
      unfold V
      rw [sg_eq, hs, if_neg (by decide), rn_eq, Int.ofNat_le, vl_le_iff]
      exact h2

/-! Floors. -/
noncomputable def flA (c : Nat) (s : Bool) (m E : Nat) : Nat :=
  sel (Nat.ble c E) (Nat.shiftLeft m (Nat.sub E c)) (force (Nat.pow 2 (Nat.sub c E)) fun g => force (Nat.div m g) fun low => sel s (sel (Nat.beq (Nat.mod m g) 0) low (Nat.succ low)) low)
noncomputable def flN (T : Nat) : Nat := force (rn T) fun r => force (mg r) fun m => force (pl r) fun E => flA 4096 (sg T) m E
theorem cut_down (s : Bool) (n d : Nat) : Toward.down.cut s n d = n / 2 ^ d + (s && n % 2 ^ d != 0).toNat := by
  unfold Toward.cut
  dsimp only
  rw [Nat.one_shiftLeft]
  by_cases hg : d ≤ n.log2 + 2
  · rw [Nat.min_eq_left hg]
  · have hg' : n.log2 + 2 ≤ d := by omega
    rw [Nat.min_eq_right hg']
    have hn : n < 2 ^ (n.log2 + 2) := Nat.lt_of_lt_of_le Nat.lt_log2_self (Nat.pow_le_pow_right (by omega) (by omega))
    have e2 : 2 ^ (n.log2 + 2) ≤ 2 ^ d := Nat.pow_le_pow_right (by omega) hg'
    rw [Nat.div_eq_of_lt hn, Nat.mod_eq_of_lt hn, Nat.div_eq_of_lt (Nat.lt_of_lt_of_le hn e2), Nat.mod_eq_of_lt (Nat.lt_of_lt_of_le hn e2)]
theorem flA_eq (c : Nat) (s : Bool) (m E : Nat) : Toward.down.cut s (m <<< ((E : Int) - (c : Int)).toNat) (-((E : Int) - (c : Int))).toNat = flA c s m E := by
  rw [cut_down]
  unfold flA
  simp only [force_eq, sel_eq]
  change _ = bif Nat.ble c E then m <<< (E - c) else bif s then (bif Nat.beq (m % 2 ^ (c - E)) 0 then m / 2 ^ (c - E) else (m / 2 ^ (c - E)).succ) else m / 2 ^ (c - E)
  rw [ble_eq, beq_eq]
  by_cases h : c ≤ E
  · have e1 : ((E : Int) - c).toNat = E - c := by omega
    have e2 : (-((E : Int) - c)).toNat = 0 := by omega
    rw [e1, e2, decide_eq_true h]
    simp
    intro _
    exact Nat.mod_one _
  · have e1 : ((E : Int) - c).toNat = 0 := by omega
    have e2 : (-((E : Int) - c)).toNat = c - E := by omega
    rw [e1, e2, decide_eq_false h, Nat.shiftLeft_zero]
    cases s
    · simp
    · by_cases h2 : m % 2 ^ (c - E) = 0
      · simp [h2]
      · simp [h2]
theorem flN_eq {T : Nat} (hT : ok T = true) : (FloatKind.f64.decode T).integral .down = .number (sg T) (flN T) 0 := by
  rw [decode_ok hT]
  have h := flA_eq 4096 (sg T) (mg (rn T)) (pl (rn T))
  unfold flN
  simp only [force_eq]
  unfold Datum.integral
  dsimp only
  congr 1
theorem floor_eq {T : Nat} (hT : ok T = true) (hM : flN T < 2 ^ 21) : ∃ W, integralA .down (some T) = some W ∧ floatToIntVal .f64 W .i64 = some (wholeN (sg T) (flN T)) := by
  have q1 := flN_eq hT
  generalize flN T = M at *
  obtain ⟨x1, x2⟩ := exact_word (sg T) (M := M) (by omega)
  have xn : ng FloatKind.f64.format (FloatKind.f64.format.nearest (sg T) M 0) = sg T := nearest_ng .f64 _ _ _
  refine ⟨FloatKind.f64.format.nearest (sg T) M 0, ?_, ?_⟩
  · show some (FloatKind.f64.encode ((FloatKind.f64.decode T).integral .down)) = _
    rw [q1]; rfl
  · have := int_of_whole lpu x2 x1 (by omega)
    rw [xn] at this
    exact this

/-! Logarithms, from their reduced number on. -/
noncomputable def bnd (X : Option Nat) (k : Nat → Option Nat) : Option Nat := Option.rec (motive := fun _ => Option Nat) none (fun a => force a k) X
theorem bnd_eq (X : Option Nat) (k : Nat → Option Nat) : bnd X k = X.bind k := by cases X with | none => rfl | some a => exact force_eq a k
noncomputable def polyF (u : Nat) (ks : List Nat) : Nat → Option Nat :=
  List.rec (motive := fun _ => Nat → Option Nat) (fun acc => some acc) (fun k _ ih acc => bnd (fop .mul u acc) fun m => bnd (fop .add k m) ih) ks
end Go.Proofs.Ytoimjjagkfgogaa.fast
