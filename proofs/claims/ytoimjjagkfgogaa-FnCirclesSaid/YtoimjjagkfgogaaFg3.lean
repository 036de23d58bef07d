/- Tenths of decibels, evaluated: what the checks say. No conditions. -/
import Derived.Test.YtoimjjagkfgogaaFg2
namespace Go.Proofs.Ytoimjjagkfgogaa.fast
open Ieee

/-! One over 25, 23 .. 1; the logarithm of 2, -6 times to 9 times. -/
def kT : List Nat := [4585925428558828667, 4586426698778222948, 4587023449039406616, 4587745830934523688, 4588638185040256542, 4589468260265693457, 4590207312512236308, 4591215111030249286, 4592670820000712476, 4594314991293244562, 4596373779694328218, 4599676419421066581, 4607182418800017408]
def elT : List Nat := [13839740541358287731, 13838358599114999915, 13836797770422958575, 13835236941730917235, 13832294170795588079, 13827790571168217583, 0, 4604418534313441775, 4608922133940812271, 4611864904876141427, 4613425733568182767, 4614986562260224107, 4616368504503511923, 4617148918849532593, 4617929333195553263, 4618709747541573933]
theorem k_all : ∀ j : Nat, j < 13 → opA .quo .f64 (some 4607182418800017408) (some (floatOfInt .f64 (25 - 2 * (j : Int)))) = some (kT.getD j 0) := by decide +kernel
theorem el_all : ∀ i : Nat, i < 16 → opA .mul .f64 (some (floatOfInt .f64 ((i : Int) - 6))) (some 4604418534313441775) = some (elT.getD i 0) := by decide +kernel
theorem k_take : ∀ j : Nat, j < 13 → kT.take (j + 1) = kT.take j ++ [kT.getD j 0] := by decide

def gP (U : Option Nat) (ks : List Nat) (A : Option Nat) : Option Nat := ks.foldl (fun A k => opA .add .f64 (some k) (opA .mul .f64 U A)) A
theorem gP_none (U : Option Nat) : ∀ ks, gP U ks none = none
  | [] => rfl
  | k :: ks => by
    have e : opA .add .f64 (some k) (opA .mul .f64 U none) = none := by cases U <;> rfl
    show gP U ks (opA .add .f64 (some k) (opA .mul .f64 U none)) = none
    rw [e]
    exact gP_none U ks
theorem polyF_eq (u : Nat) : ∀ ks acc, polyF u ks acc = gP (some u) ks (some acc)
  | [], acc => rfl
  | k :: ks, acc => by
    show bnd (fop .mul u acc) (fun m => bnd (fop .add k m) (polyF u ks)) = gP (some u) ks (opA .add .f64 (some k) (floatBits .mul .f64 u acc))
    rw [bnd_eq, fop_eq]
    cases h : floatBits .mul .f64 u acc with
    | none => exact (gP_none _ ks).symm
    | some m =>
      show bnd (fop .add k m) (polyF u ks) = gP (some u) ks (floatBits .add .f64 k m)
      rw [bnd_eq, fop_eq]
      cases h2 : floatBits .add .f64 k m with
      | none => exact (gP_none _ ks).symm
      | some r => exact polyF_eq u ks r
theorem poly_take (U : Option Nat) : ∀ j : Nat, j ≤ 13 → polyL U j = gP U (kT.take j) (some 0)
  | 0, _ => rfl
  | j + 1, h => by
    rw [show polyL U (j + 1) = opA .add .f64 (opA .quo .f64 (some 4607182418800017408) (some (floatOfInt .f64 (25 - 2 * (j : Int))))) (opA .mul .f64 U (polyL U j)) from rfl, k_all j (by omega), poly_take U j (by omega), k_take j (by omega)]
    unfold gP
    rw [List.foldl_append]
    rfl
theorem poly_eq (u : Nat) : polyL (some u) 13 = polyF u kT 0 := by
  rw [polyF_eq, poly_take _ 13 (Nat.le_refl _)]
  rfl

noncomputable def tenF (z el : Nat) : Option Nat :=
  bnd (fop .sub z 4607182418800017408) fun n => bnd (fop .add z 4607182418800017408) fun d => bnd (fop .quo n d) fun s => bnd (fop .mul s s) fun u => bnd (polyF u kT 0) fun q => bnd (fop .mul s q) fun sq =>
  bnd (fop .mul 4611686018427387904 sq) fun t => bnd (fop .add t el) fun L => bnd (fop .mul L 4631308968768463603) fun T => fop .add T 4602678819172646912
theorem tenF_spec {z el T : Nat} {e : Int} (hel : opA .mul .f64 (some (floatOfInt .f64 e)) (some 4604418534313441775) = some el) (h : tenF z el = some T) : tenA (logA (some z) e) = some T := by
  unfold tenF at h
  simp only [bnd_eq] at h
  obtain ⟨n, h1, h⟩ := Option.bind_eq_some_iff.1 h
  obtain ⟨d, h2, h⟩ := Option.bind_eq_some_iff.1 h
  obtain ⟨s, h3, h⟩ := Option.bind_eq_some_iff.1 h
  obtain ⟨u, h4, h⟩ := Option.bind_eq_some_iff.1 h
  obtain ⟨q, h5, h⟩ := Option.bind_eq_some_iff.1 h
  obtain ⟨sq, h6, h⟩ := Option.bind_eq_some_iff.1 h
  obtain ⟨t, h7, h⟩ := Option.bind_eq_some_iff.1 h
  obtain ⟨L, h8, h⟩ := Option.bind_eq_some_iff.1 h
  obtain ⟨T1, h9, h⟩ := Option.bind_eq_some_iff.1 h
  rw [fop_eq] at h1 h2 h3 h4 h6 h7 h8 h9 h
  have g1 : opA .sub .f64 (some z) (some 4607182418800017408) = some n := h1
  have g2 : opA .add .f64 (some z) (some 4607182418800017408) = some d := h2
  have g3 : sA (some z) = some s := by
    unfold sA
    rw [g1, g2]
    exact h3
  have g4 : opA .mul .f64 (some s) (some s) = some u := h4
  have g5 : polyL (some u) 13 = some q := (poly_eq u).trans h5
  have g6 : opA .mul .f64 (some s) (some q) = some sq := h6
  have g7 : opA .mul .f64 (some 4611686018427387904) (some sq) = some t := h7
  have g8 : opA .add .f64 (some t) (some el) = some L := h8
  have g9 : opA .mul .f64 (some L) (some 4631308968768463603) = some T1 := h9
  unfold tenA logA
  rw [g3, g4, g5, g6, g7, hel, g8, g9]
  exact h

theorem ok_pos {x : Nat} (h : x < 9218868437227405312) : ok x = true := by rw [← ok_eq]; exact (pos_word h).1
theorem halfs_shift (X : Option Nat) : ∀ n, halfs X (n + 1) = halfs (opA .quo .f64 X (some 4611686018427387904)) n
  | 0 => rfl
  | n + 1 => by
    show opA .quo .f64 (halfs X (n + 1)) _ = opA .quo .f64 (halfs _ n) _
    rw [halfs_shift X n]
theorem dbls_shift (X : Option Nat) : ∀ n, dbls X (n + 1) = dbls (opA .mul .f64 X (some 4611686018427387904)) n
  | 0 => rfl
  | n + 1 => by
    show opA .mul .f64 (dbls X (n + 1)) _ = opA .mul .f64 (dbls _ n) _
    rw [dbls_shift X n]

noncomputable def up (K : Nat → Bool) (n : Nat) : Nat → Bool :=
  Nat.rec (motive := fun _ => Nat → Bool) K (fun _ ih x => sel (Nat.ble 4609434218613702656 x) (force (quoN x 4611686018427387904) fun y => sel (Nat.ble (Nat.succ y) 9218868437227405312) (ih y) false) false) n
noncomputable def down (K : Nat → Bool) (n : Nat) : Nat → Bool :=
  Nat.rec (motive := fun _ => Nat → Bool) K (fun _ ih x => sel (Nat.ble (Nat.succ x) 4604930618986332160) (force (mulN x 4611686018427387904) fun y => sel (Nat.ble (Nat.succ y) 9218868437227405312) (ih y) false) false) n
theorem sel_true {c a : Bool} (h : sel c a false = true) : c = true ∧ a = true := by cases c <;> cases a <;> first | exact ⟨rfl, rfl⟩ | cases h
theorem sel_false {c a : Bool} (h : sel c false a = true) : c = false ∧ a = true := by cases c <;> cases a <;> first | exact ⟨rfl, rfl⟩ | cases h
theorem ble_le {a b : Nat} (h : Nat.ble a b = true) : a ≤ b := Nat.le_of_ble_eq_true h
theorem up_spec {K : Nat → Bool} : ∀ (n x : Nat), x < 9218868437227405312 → up K n x = true → ∃ z, z < 9218868437227405312 ∧ halfs (some x) n = some z ∧ (∀ j, j < n → cmpA .geq .f64 (halfs (some x) j) (some 4609434218613702656) = true) ∧ K z = true
  | 0, x, hx, h => ⟨x, hx, rfl, fun j hj => absurd hj (Nat.not_lt_zero j), h⟩
  | n + 1, x, hx, h => by
    change sel (Nat.ble 4609434218613702656 x) (force (quoN x 4611686018427387904) fun y => sel (Nat.ble (Nat.succ y) 9218868437227405312) (up K n y) false) false = true at h
    obtain ⟨h1, h⟩ := sel_true h
    rw [force_eq] at h
    obtain ⟨h2, h⟩ := sel_true h
    have e : opA .quo .f64 (some x) (some 4611686018427387904) = some (quoN x 4611686018427387904) := quo_eq (ok_pos hx) (by decide +kernel) (by decide +kernel)
    obtain ⟨z, z1, z2, z3, z4⟩ := up_spec n _ (ble_le h2) h
    refine ⟨z, z1, by rw [halfs_shift, e]; exact z2, fun j hj => ?_, z4⟩
    cases j with
    | zero => exact (geq_pos hx (by decide)).trans h1
    | succ j => rw [halfs_shift, e]; exact z3 j (by omega)
theorem down_spec {K : Nat → Bool} : ∀ (n x : Nat), x < 9218868437227405312 → down K n x = true → ∃ z, z < 9218868437227405312 ∧ dbls (some x) n = some z ∧ (∀ j, j < n → cmpA .lss .f64 (dbls (some x) j) (some 4604930618986332160) = true) ∧ K z = true
  | 0, x, hx, h => ⟨x, hx, rfl, fun j hj => absurd hj (Nat.not_lt_zero j), h⟩
  | n + 1, x, hx, h => by
    change sel (Nat.ble (Nat.succ x) 4604930618986332160) (force (mulN x 4611686018427387904) fun y => sel (Nat.ble (Nat.succ y) 9218868437227405312) (down K n y) false) false = true at h
    obtain ⟨h1, h⟩ := sel_true h
    rw [force_eq] at h
    obtain ⟨h2, h⟩ := sel_true h
    have e : opA .mul .f64 (some x) (some 4611686018427387904) = some (mulN x 4611686018427387904) := mul_eq (ok_pos hx) (by decide +kernel)
    obtain ⟨z, z1, z2, z3, z4⟩ := down_spec n _ (ble_le h2) h
    refine ⟨z, z1, by rw [dbls_shift, e]; exact z2, fun j hj => ?_, z4⟩
    cases j with
    | zero => exact (lss_pos hx (by decide)).trans h1
    | succ j => rw [dbls_shift, e]; exact z3 j (by omega)

/-- The tenths, 1000 added; k is asked of them. -/
noncomputable def last (k : Nat → Bool) (el Z : Nat) : Bool :=
  Option.rec (motive := fun _ => Bool) false (fun T => force T fun T => sel (ok T) (force (flN T) fun M => sel (Nat.ble M 1000) (sel (sg T) (k (Nat.sub 1000 M)) (k (Nat.add 1000 M))) false) false) (tenF Z el)
noncomputable def mids (k : Nat → Bool) (b el Y : Nat) : Bool := sel (Nat.ble 4609434218613702656 Y) false (down (fun Z => sel (Nat.ble (Nat.succ Z) 4604930618986332160) false (last k el Z)) b Y)
noncomputable def chk (k : Nat → Bool) (p a b el : Nat) : Bool :=
  sel (Nat.ble 1 p) (sel (Nat.ble (Nat.succ p) 2139095040) (force (wide64 p) fun X => sel (Nat.ble (Nat.succ X) 9218868437227405312) (up (mids k b el) a X) false) false) false

theorem last_spec {k : Nat → Bool} {el Z : Nat} {e : Int} (hel : opA .mul .f64 (some (floatOfInt .f64 e)) (some 4604418534313441775) = some el) (h : last k el Z = true) :
    ∃ n W, k n = true ∧ integralA .down (tenA (logA (some Z) e)) = some W ∧ floatToIntVal .f64 W .i64 = some ((n : Int) - 1000) := by
  unfold last at h
  cases hT : tenF Z el with
  | none => rw [hT] at h; cases h
  | some T =>
    rw [hT] at h
    change force T (fun T => sel (ok T) (force (flN T) fun M => sel (Nat.ble M 1000) (sel (sg T) (k (1000 - M)) (k (1000 + M))) false) false) = true at h
    simp only [force_eq] at h
    obtain ⟨h1, h⟩ := sel_true h
    obtain ⟨h2, h⟩ := sel_true h
    have h2 := ble_le h2
    obtain ⟨W, w1, w2⟩ := floor_eq h1 (by omega)
    have ht := tenF_spec hel hT
    rw [sel_eq] at h
    unfold wholeN at w2
    cases hs : sg T with
    | true =>
      rw [hs] at h w2
      refine ⟨1000 - flN T, W, h, by rw [ht]; exact w1, ?_⟩
      rw [w2, if_pos rfl]
      congr 1
      omega
    | false =>
      rw [hs] at h w2
      refine ⟨1000 + flN T, W, h, by rw [ht]; exact w1, ?_⟩
      rw [w2, if_neg (by decide)]
      congr 1
      omega

/-- What the check says of a word. -/
structure Tenths (p : Nat) (n : Nat) : Prop where
  ab : Ab .f32 p (some p)
  fin : finW .f32 p = true
  pos : cmpA .leq .f32 (some p) (some 0) = false
  say : ∃ a b W, Stops (some (wideW p)) a b ∧ integralA .down (tenA (logA (dbls (halfs (some (wideW p)) a) b) ((a : Int) - b))) = some W ∧ floatToIntVal .f64 W .i64 = some ((n : Int) - 1000)

theorem pos_word32 {x : Nat} (h : x < 2139095040) : finW .f32 x = true ∧ ng FloatKind.f32.format x = false ∧ rg FloatKind.f32.format x = x := by
  have e : rn32 x = x := Nat.mod_eq_of_lt (show x < 2147483648 by omega)
  refine ⟨?_, ?_, by rw [rn32_eq, e]⟩
  · rw [ok32_eq]
    show Nat.ble (Nat.succ (rn32 x)) 2139095040 = true
    rw [e, ble_eq]; exact decide_eq_true (by omega)
  · rw [sg32_eq]
    show Nat.beq (x / 2147483648 % 2) 1 = false
    rw [beq_eq]; exact decide_eq_false (by omega)

theorem chk_spec {k : Nat → Bool} {p a b el : Nat} (hel : opA .mul .f64 (some (floatOfInt .f64 ((a : Int) - b))) (some 4604418534313441775) = some el) (h : chk k p a b el = true) : ∃ n, k n = true ∧ Tenths p n := by
  unfold chk at h
  obtain ⟨h1, h⟩ := sel_true h
  obtain ⟨h2, h⟩ := sel_true h
  rw [force_eq] at h
  obtain ⟨h3, h⟩ := sel_true h
  have p1 : 1 ≤ p := ble_le h1
  have p2 : p < 2139095040 := ble_le h2
  have p3 : wide64 p < 9218868437227405312 := ble_le h3
  obtain ⟨f1, f2, f3⟩ := pos_word32 p2
  have hw : some (wideW p) = some (wide64 p) := wide_eq ((ok32_eq p).symm.trans f1)
  obtain ⟨Y, y1, y2, y3, y4⟩ := up_spec a _ p3 h
  unfold mids at y4
  obtain ⟨y5, y4⟩ := sel_false y4
  obtain ⟨Z, z1, z2, z3, z4⟩ := down_spec b _ y1 y4
  obtain ⟨z5, z4⟩ := sel_false z4
  obtain ⟨n, W, k1, k2, k3⟩ := last_spec hel z4
  have hn : nanW .f32 p = false := by
    unfold nanW
    rw [f3, in32]
    exact decide_eq_false (by omega)
  have hm : Mid (-149) 128 (some (wideW p)) := mid_of f1 f2 (by rw [f3]; omega)
  obtain ⟨a', b', hS⟩ := stops hm
  rw [← hw] at y2 y3
  have ea : a' = a := by
    rcases Nat.lt_trichotomy a' a with hlt | heq | hgt
    · have := y3 a' hlt
      rw [hS.upEnd] at this
      cases this
    · exact heq
    · have := hS.up a hgt
      rw [y2, geq_pos y1 (by decide), y5] at this
      cases this
  subst ea
  have eb : b' = b := by
    rcases Nat.lt_trichotomy b' b with hlt | heq | hgt
    · have := z3 b' hlt
      rw [← y2, hS.downEnd] at this
      cases this
    · exact heq
    · have := hS.down b hgt
      rw [y2, z2, lss_pos z1 (by decide), z5] at this
      cases this
  subst eb
  refine ⟨n, k1, ⟨Ab.lit hn (Nat.lt_of_lt_of_le p2 (by decide)), f1, ?_, a', b', W, hS, ?_, k3⟩⟩
  · show (FloatKind.f32.format.order p 0 == some .lt || FloatKind.f32.format.order p 0 == some .eq) = false
    rw [order_fin f1 (fin_zero .f32), leq_iff, V_zero, V_pos f2, f3]
    refine decide_eq_false fun h => ?_
    have h2 := vl_mono_lt FloatKind.f32.format (show 0 < p by omega)
    rw [vl_zero] at h2
    omega
  · rw [y2, z2]; exact k2
end Go.Proofs.Ytoimjjagkfgogaa.fast
