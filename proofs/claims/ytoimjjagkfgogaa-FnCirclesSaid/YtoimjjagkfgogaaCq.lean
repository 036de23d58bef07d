/- Products of phasors of 64ths of turns, evaluated. No conditions. -/
import Derived.Test.YtoimjjagkfgogaaCp
import Derived.Test.YtoimjjagkfgogaaFg3
namespace Go.Proofs.Ytoimjjagkfgogaa.cir
open Go.RowKit
open fast (force force_eq sel sel_true bnd bnd_eq fop fop_eq ok ok32 narrow32 narrow_eq fits_eq wide64 wide_eq subN sub_eq leqN leq_ok)

def wreT : List Nat := [4607182418800017408, 4607139046609649664, 4607009347724115968, 4606794571978899456, 4606496786327011328, 4606118860343476224, 4605664431865593856, 4605137878538780672, 4604544271108800512, 4603889326177124352, 4603179351440097280, 4602163548724920320, 4600565431659397120, 4598900923526283264, 4596196889963003904, 4591727300034166784, 0, 13815099336888942592, 13819568926817779712, 13822272960381059072, 13823937468514172928, 13825535585579696128, 13826551388294873088, 13827261363031900160, 13827916307963576320, 13828509915393556480, 13829036468720369664, 13829490897198252032, 13829868823181787136, 13830166608833675264, 13830381384578891776, 13830511083464425472, 13830554455654793216, 13830511083464425472, 13830381384578891776, 13830166608833675264, 13829868823181787136, 13829490897198252032, 13829036468720369664, 13828509915393556480, 13827916307963576320, 13827261363031900160, 13826551388294873088, 13825535585579696128, 13823937468514172928, 13822272960381059072, 13819568926817779712, 13815099336888942592, 0, 4591727300034166784, 4596196889963003904, 4598900923526283264, 4600565431659397120, 4602163548724920320, 4603179351440097280, 4603889326177124352, 4604544271108800512, 4605137878538780672, 4605664431865593856, 4606118860343476224, 4606496786327011328, 4606794571978899456, 4607009347724115968, 4607139046609649664]
def wimT : List Nat := [0, 4591727300034166784, 4596196889963003904, 4598900923526283264, 4600565431659397120, 4602163548724920320, 4603179351440097280, 4603889326177124352, 4604544271108800512, 4605137878538780672, 4605664431865593856, 4606118860343476224, 4606496786327011328, 4606794571978899456, 4607009347724115968, 4607139046609649664, 4607182418800017408, 4607139046609649664, 4607009347724115968, 4606794571978899456, 4606496786327011328, 4606118860343476224, 4605664431865593856, 4605137878538780672, 4604544271108800512, 4603889326177124352, 4603179351440097280, 4602163548724920320, 4600565431659397120, 4598900923526283264, 4596196889963003904, 4591727300034166784, 0, 13815099336888942592, 13819568926817779712, 13822272960381059072, 13823937468514172928, 13825535585579696128, 13826551388294873088, 13827261363031900160, 13827916307963576320, 13828509915393556480, 13829036468720369664, 13829490897198252032, 13829868823181787136, 13830166608833675264, 13830381384578891776, 13830511083464425472, 13830554455654793216, 13830511083464425472, 13830381384578891776, 13830166608833675264, 13829868823181787136, 13829490897198252032, 13829036468720369664, 13828509915393556480, 13827916307963576320, 13827261363031900160, 13826551388294873088, 13825535585579696128, 13823937468514172928, 13822272960381059072, 13819568926817779712, 13815099336888942592]
def wre (i : Nat) : Nat := wreT.getD i 0
def wim (i : Nat) : Nat := wimT.getD i 0
theorem wide_all : ∀ j, j < 64 → (wideA (some (rew j)) = some (wre j) ∧ wideA (some (imw j)) = some (wim j)) := by decide +kernel

/-- Both differences are small. -/
noncomputable def closeN (z r : Nat) : Bool := sel (ok z) (sel (ok r) (force (subN z r) fun d => sel (leqN d 4547007122018943789) (force (subN r z) fun e => leqN e 4547007122018943789) false) false) false
theorem closeN_spec {z r : Nat} (h : closeN z r = true) : cmpA .leq .f64 (gapA (some z) (some r)) (some 4547007122018943789) = true := by
  unfold closeN at h
  obtain ⟨h1, h⟩ := sel_true h
  obtain ⟨h2, h⟩ := sel_true h
  simp only [force_eq] at h
  obtain ⟨h3, h4⟩ := sel_true h
  have e1 : opA .sub .f64 (some z) (some r) = some (subN z r) := sub_eq h1 h2
  have e2 : opA .sub .f64 (some r) (some z) = some (subN r z) := sub_eq h2 h1
  unfold gapA
  rw [e1, e2]
  split
  · exact leq_ok (by decide) h4
  · exact leq_ok (by decide) h3
/-- a c with b d, narrowed, is near r. -/
noncomputable def partN (op : BinOp) (a c b d r : Nat) : Bool :=
  Option.rec (motive := fun _ => Bool) false (fun x => force x fun x => sel (ok x) (force (narrow32 x) fun y => sel (ok32 y) (force (wide64 y) fun z => closeN z r) false) false) (bnd (fop .mul a c) fun ac => bnd (fop .mul b d) fun bd => fop op ac bd)
theorem partN_spec {op : BinOp} {a c b d r : Nat} (h : partN op a c b d r = true) : Fits (opA op .f64 (opA .mul .f64 (some a) (some c)) (opA .mul .f64 (some b) (some d))) ∧
    cmpA .leq .f64 (gapA (wideA (narrowA (opA op .f64 (opA .mul .f64 (some a) (some c)) (opA .mul .f64 (some b) (some d))))) (some r)) (some 4547007122018943789) = true := by
  unfold partN at h
  cases hx : (bnd (fop .mul a c) fun ac => bnd (fop .mul b d) fun bd => fop op ac bd) with
  | none => rw [hx] at h; cases h
  | some x =>
    rw [hx] at h
    change force x (fun x => sel (ok x) (force (narrow32 x) fun y => sel (ok32 y) (force (wide64 y) fun z => closeN z r) false) false) = true at h
    simp only [force_eq] at h
    obtain ⟨h1, h⟩ := sel_true h
    obtain ⟨h2, h⟩ := sel_true h
    simp only [bnd_eq] at hx
    obtain ⟨ac, k1, hx⟩ := Option.bind_eq_some_iff.1 hx
    obtain ⟨bd, k2, hx⟩ := Option.bind_eq_some_iff.1 hx
    rw [fop_eq] at k1 k2 hx
    have e1 : opA .mul .f64 (some a) (some c) = some ac := k1
    have e2 : opA .mul .f64 (some b) (some d) = some bd := k2
    have e3 : opA op .f64 (some ac) (some bd) = some x := hx
    rw [e1, e2, e3, narrow_eq h1, wide_eq h2]
    exact ⟨fits_eq h1 h2, closeN_spec h⟩
noncomputable def prodOk (i j : Nat) : Bool := sel (partN .sub (wre i) (wre j) (wim i) (wim j) (wre ((i + j) % 64))) (partN .add (wre i) (wim j) (wim i) (wre j) (wim ((i + j) % 64))) false
theorem prod_all : ∀ i, i < 64 → ∀ j, j < 64 → prodOk i j = true := by decide +kernel
theorem prod_spec (i j : Nat) (hi : i < 64) (hj : j < 64) : Fits (mulRe (some (rew i)) (some (imw i)) (some (rew j)) (some (imw j))) ∧ Fits (mulIm (some (rew i)) (some (imw i)) (some (rew j)) (some (imw j))) ∧
    cmpA .leq .f64 (gapA (wideA (narrowA (mulRe (some (rew i)) (some (imw i)) (some (rew j)) (some (imw j))))) (wideA (some (rew ((i + j) % 64))))) (some 4547007122018943789) = true ∧
    cmpA .leq .f64 (gapA (wideA (narrowA (mulIm (some (rew i)) (some (imw i)) (some (rew j)) (some (imw j))))) (wideA (some (imw ((i + j) % 64))))) (some 4547007122018943789) = true := by
  obtain ⟨h1, h2⟩ := sel_true (show sel _ _ false = true from prod_all i hi j hj)
  have a1 := partN_spec h1
  have a2 := partN_spec h2
  obtain ⟨i1, i2⟩ := wide_all i hi
  obtain ⟨j1, j2⟩ := wide_all j hj
  obtain ⟨r1, r2⟩ := wide_all ((i + j) % 64) (Nat.mod_lt _ (by decide))
  unfold mulRe mulIm
  rw [i1, i2, j1, j2, r1, r2]
  exact ⟨a1.1, a2.1, a1.2, a2.2⟩
end Go.Proofs.Ytoimjjagkfgogaa.cir
