/- FnExactCrossWays returns true for every input and leaves its arguments as they were. No conditions. -/
import Derived.Test.YtnkogheibofboaaRows
import Derived.Test.YtnkogheibofboaaWc5
import Derived.Test.YtnkogheibofboaaWh0
import Derived.WalkKit
import Derived.ProofKit
import Derived.OpenShut
import Derived.ShutString
import Derived.Below
import Derived.WalkLawsBesides
import Derived.Carry
import Derived.ChangeOld
import Derived.Lib.SmallJoins
namespace Go.Proofs.Ytnkogheibofboaa.fnExactCrossWays
open Go.ChangeShapes Go.WideShapes Go.ChangeAt Go.RowKit
open Go.ChangeMaps (open_string shut_string)

theorem laidOut : laidOutB Try.prog = true := by kernel_rfl
theorem own : ownKnob Try.prog.godebug = none := by kernel_rfl

set_option maxRecDepth 100000 in
theorem lifted (os : Os) (started : os.Started) (H : Type) (enc : TypeId × Value → H) :
    ReturnsInHanded {} Try.checked os 12 .any (Rows.fnExactCrossWaysSpec.pre6 enc Try.prog Try.f12 Rows.fnExactCrossWaysRow.domain false) (Rows.fnExactCrossWaysSpec.post enc Try.prog Try.f12 false true false false) := by
  refine returnsInHanded_of_change (C := Try.checked) own started (by kernel_rfl) Try.func12
    (ChangeSpec.witness6 (enc := enc) (C := Try.checked) false ⟨#[], #[.agg #[.float .f32 0, .float .f32 0, .float .f32 0], .agg #[.float .f32 0, .float .f32 0, .float .f32 0]], []⟩ 8 (by kernel_rfl) (by kernel_rfl) (by kernel_rfl) (by kernel_rfl)) ?_
  intro W base args ds gs before hval0 hW hcnd _
  have hval : ∀ (j : Nat) t v, Try.f12.params[j]? = some t → args[j]? = some v → Value.okWide Try.prog W .any base t v := hval0
  have hW' := hW
  obtain ⟨p, q, hA0, hV, rfl, hfz, hnd⟩ := hW
  have hA : DataW.TrodAll enc Try.prog W 0 (fun _ => true) true Try.f12.params.toList args.toList ds p := hA0
  rw [Try.params12] at hA hval
  obtain ⟨v0, vs0, d0, ds0, p0, q0, hargs, rfl, rfl, h0, r0⟩ := trodAll_cons hA
  obtain ⟨v1, vs1, d1, ds1, p1, q1, rfl, rfl, rfl, h1, r1⟩ := trodAll_cons r0
  obtain ⟨rfl, rfl, rfl⟩ := trodAll_nil r1
  obtain rfl : args = #[v0, v1] := by cases args; simp_all
  obtain ⟨rfl, rfl⟩ := trodVars_none hV
  obtain ⟨u00, u01, u02, y00, y01, y02, m0, rfl, rfl, rfl, e00, e01, e02⟩ := Go.Joins.open_agg3 Try.underlying32 (by kernel_rfl) (by kernel_rfl) (hval 0 32 v0 rfl rfl) h0
  obtain ⟨a00, rfl, rfl, w00⟩ := trod_float Try.underlying22 e00
  obtain ⟨a01, rfl, rfl, w01⟩ := trod_float Try.underlying22 e01
  obtain ⟨a02, rfl, rfl, w02⟩ := trod_float Try.underlying22 e02
  obtain ⟨u10, u11, u12, y10, y11, y12, m1, rfl, rfl, rfl, e10, e11, e12⟩ := Go.Joins.open_agg3 Try.underlying32 (by kernel_rfl) (by kernel_rfl) (hval 1 32 v1 rfl rfl) h1
  obtain ⟨a10, rfl, rfl, w10⟩ := trod_float Try.underlying22 e10
  obtain ⟨a11, rfl, rfl, w11⟩ := trod_float Try.underlying22 e11
  obtain ⟨a12, rfl, rfl, w12⟩ := trod_float Try.underlying22 e12
  clear hA0 hval0
  refine (B.law_CrossWays a00 a01 a02 a10 a11 a12 w00 w01 w02 w10 w11 w12 W ).mono fun e W' ⟨he, bel⟩ => ?_
  subst he
  exact ⟨_, rfl, _, _, _, [], _, [], hW', trodAll_mk1 (shut_bool Try.underlying4 _), (trodAll_cons_mk (Go.Joins.shut_agg3 Try.underlying32 (by kernel_rfl) (by kernel_rfl) (trod_float_mk Try.underlying22 w00) (trod_float_mk Try.underlying22 w01) (trod_float_mk Try.underlying22 w02)) (trodAll_cons_mk (Go.Joins.shut_agg3 Try.underlying32 (by kernel_rfl) (by kernel_rfl) (trod_float_mk Try.underlying22 w10) (trod_float_mk Try.underlying22 w11) (trod_float_mk Try.underlying22 w12)) trodAll_mk0)), rfl, bel.frame _, fun h => by cases h⟩

theorem proved : Rows.FnExactCrossWaysSaid :=
  OpenClaim.holds_of_wide 12 Try.f12 rfl rfl rfl rfl rfl rfl rfl ⟨rfl, rfl, rfl, rfl, rfl⟩ rfl rfl rfl rfl rfl (by kernel_rfl) Try.func12 (by kernel_rfl)
    (of_decide_eq_true (by kernel_rfl)) (by unfold Func.isWrapper; first | (rw [if_pos (by decide +kernel)]; kernel_rfl) | (rw [if_neg (by decide +kernel)]; exact ⟨rfl, rfl⟩))
    (fun os started H enc _ => lifted os started H enc)
#print axioms proved
end Go.Proofs.Ytnkogheibofboaa.fnExactCrossWays
