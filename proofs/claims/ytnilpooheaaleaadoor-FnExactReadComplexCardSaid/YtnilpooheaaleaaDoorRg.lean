/- A law for statements whose order Go leaves open and whose operations yield one of a set of values each (a NaN's bits are open): one walk in the order of the text serves all orders. No conditions. -/
import Derived.Still
import Derived.Deep.Draws
import Derived.Tactics2
namespace Go.Proofs.YtnilpooheaaleaaDoor.Rg

section
variable {P : Program} {ops : Array Oper} {md : Region.Mode} (C : World → Prop) (S : Nat → Value → Prop)

/-- In every world of the class the operation yields a value of the set and leaves a world of the class. -/
def good (P : Program) (C : World → Prop) (o : Oper) (a : Act) (T : Value → Prop) : Prop := ∀ w, C w →
  match (execOp a.eval o).run P w with
  | .ok (.value u) w' => C w' ∧ T u
  | .ok .skip w' => C w' ∧ T undef
  | .ok (.enter f args) w' => Calls P f args w' fun e w'' => ∃ v, e = .returned v ∧ T v ∧ C w''
  | _ => False

/-- The values that operation i may leave in this state. -/
def may (ops : Array Oper) (S : Nat → Value → Prop) (i : Nat) (o : Oper) (a : Act) (v : Value) : Prop :=
  if Region.wanted o (yielded ops a.tmps) = true then S i v else v = undef

/-- Operation i, wherever it comes up. -/
def step (P : Program) (ops : Array Oper) (C : World → Prop) (S : Nat → Value → Prop) (i : Nat) (K : Act → Prop) (a : Act) : Prop :=
  match ops[i]? with
  | none => K a
  | some o => (Region.wanted o (yielded ops a.tmps) = true → good P C o a (S i)) ∧ ∀ v, may ops S i o a v → K (a.put o.dst v)

/-- Whatever order is drawn from here on. -/
def all (P : Program) (md : Region.Mode) (ops : Array Oper) (C : World → Prop) (S : Nat → Value → Prop) (Q : Act → Prop) : Nat → Array Bool → Act → Prop
  | 0, listed, a => Region.ready md ops listed = [] ∧ Q a
  | n + 1, listed, a => (Region.ready md ops listed = [] → Q a) ∧ ∀ i ∈ Region.ready md ops listed, step P ops C S i (all P md ops C S Q n (listed.setIfInBounds i true)) a

/-- The order of the text. -/
def line (P : Program) (ops : Array Oper) (C : World → Prop) (S : Nat → Value → Prop) (Q : Act → Prop) : Nat → List Oper → Act → Prop
  | _, [], a => Q a
  | i, o :: rest, a => (Region.wanted o (yielded ops a.tmps) = true → good P C o a (S i)) ∧ ∀ v, may ops S i o a v → line P ops C S Q (i + 1) rest (a.put o.dst v)

theorem step_mono {i : Nat} {K K' : Act → Prop} {a : Act} (h : ∀ a, K a → K' a) (hs : step P ops C S i K a) : step P ops C S i K' a := by
  unfold step at *
  split
  · rename_i e; rw [e] at hs; exact h _ hs
  · rename_i o e; rw [e] at hs; exact ⟨hs.1, fun v hv => h _ (hs.2 v hv)⟩

theorem wp_of_good {o : Oper} {a : Act} {T : Value → Prop} {K : Act → World → Prop} {Q : Exit → Act → World → Prop} {w : World} (hg : good P C o a T) (hw : C w) (hK : ∀ v w', T v → C w' → K (a.put o.dst v) w') : o.wp P a w K Q := by
  have h := hg w hw
  unfold Oper.wp
  generalize (execOp a.eval o).run P w = r at h
  cases r with
  | halt h' w' => exact h.elim
  | ok n w' =>
    cases n <;> first | exact h.elim | skip
    case value u => exact hK _ _ h.2 h.1
    case skip => exact hK _ _ h.2 h.1
    case enter f args =>
      refine Calls.mono h fun e w'' ⟨v, he, hT, hC⟩ => ?_
      subst he
      exact hK _ _ hT hC

theorem wpOp_of_step {i : Nat} {K : Act → Prop} {K' : Act → World → Prop} {Q : Exit → Act → World → Prop} {a : Act} {w : World} (hw : C w) (h : ∀ a w', C w' → K a → K' a w') (hs : step P ops C S i K a) : wpOp P ops Q i K' a w := by
  unfold step at hs
  unfold wpOp
  split
  · rename_i e; rw [e] at hs; exact h _ _ hw hs
  · rename_i o e
    rw [e] at hs
    obtain ⟨h1, h2⟩ := hs
    split
    · rename_i hwt
      exact .inl (wp_of_good C (h1 hwt) hw fun v w' hT hC => h _ _ hC (h2 v (by unfold may; rw [if_pos hwt]; exact hT)))
    · rename_i hwt
      exact h _ _ hw (h2 undef (by unfold may; rw [if_neg hwt]))

theorem wpAny_of_all {Q : Act → Prop} {Q' : Exit → Act → World → Prop} (hQ : ∀ a w, C w → Q a → Q' .normal a w) : ∀ (n : Nat) (listed : Array Bool) (a : Act) (w : World), C w →
    all P md ops C S Q n listed a → wpAny P md ops Q' n listed a w
  | 0, _, _, _, hw, h => ⟨h.1, hQ _ _ hw h.2⟩
  | n + 1, _, _, _, hw, h => ⟨fun h0 => hQ _ _ hw (h.1 h0), fun i hi => wpOp_of_step C S hw (fun a' w' hw' => wpAny_of_all hQ n _ a' w' hw') (h.2 i hi)⟩

theorem good_put {oi oj : Oper} (hap : oi.apart ops oj = true) (hsel : ∀ cs b, oj.op ≠ .select cs b) {T : Value → Prop} (a : Act) (v : Value) : good P C oj (a.put oi.dst v) T ↔ good P C oj a T := by
  obtain ⟨h1, _, _⟩ := Oper.apart_spec hap
  unfold good
  rw [execOp_put oj hsel a oi.dst v h1]

/-- An operation that may come up now may be taken first. -/
theorem all_first {Q : Act → Prop} (hne : ∀ i, ∃ v, S i v) {i : Nat} {oi : Oper} (hi : ops[i]? = some oi) (hsel : ∀ (j : Nat) (o : Oper) cs b, ops[j]? = some o → o.op ≠ .select cs b) :
    ∀ (n : Nat) (listed : Array Bool) (a : Act),
      (∀ j oj, ops[j]? = some oj → j ≠ i → listed.getD j true = false → (∀ e ∈ oj.after, Region.binds md e = true → e.on ≠ i) → oi.apart ops oj = true) →
      i ∈ Region.ready md ops listed → (Region.wanted oi (yielded ops a.tmps) = true → good P C oi a (S i)) →
      (∀ v, may ops S i oi a v → all P md ops C S Q n (listed.setIfInBounds i true) (a.put oi.dst v)) → all P md ops C S Q (n + 1) listed a := by
  have some_v : ∀ a : Act, ∃ v, may ops S i oi a v := fun a => by
    unfold may
    split
    · exact hne i
    · exact ⟨undef, rfl⟩
  have own : ∀ a : Act, (Region.wanted oi (yielded ops a.tmps) = true → good P C oi a (S i)) → ∀ K : Act → Prop, (∀ v, may ops S i oi a v → K (a.put oi.dst v)) → step P ops C S i K a := fun a hg K hK => by
    unfold step
    rw [hi]
    exact ⟨hg, hK⟩
  intro n
  induction n with
  | zero =>
    intro listed a _ hr hg H
    refine ⟨fun h => absurd hr (by rw [h]; exact List.not_mem_nil), fun j hj => ?_⟩
    by_cases hji : j = i
    · subst hji; exact own a hg _ H
    · obtain ⟨v, hv⟩ := some_v a
      have h1 := ready_mono hj hji
      rw [(H v hv).1] at h1
      cases h1
  | succ n ih =>
    intro listed a hfree hr hg H
    refine ⟨fun h => absurd hr (by rw [h]; exact List.not_mem_nil), fun j hj => ?_⟩
    by_cases hji : j = i
    · subst hji; exact own a hg _ H
    · obtain ⟨hjun, oj, hoj, hall⟩ := mem_ready.1 hj
      have hnot : ∀ e ∈ oj.after, Region.binds md e = true → e.on ≠ i := by
        rintro e he hb rfl
        have listed_yes := hall e he hb
        have listed_no := (mem_ready.1 hr).1
        rw [Array.getD_eq_getD_getElem?] at listed_yes listed_no
        cases hle : listed[e.on]? with
        | none => rw [hle] at listed_yes; cases listed_yes
        | some b => rw [hle] at listed_yes listed_no; rw [Option.getD_some] at listed_yes listed_no; rw [listed_no] at listed_yes; cases listed_yes
      have hap := hfree j oj hoj hji hjun hnot
      obtain ⟨a1, a2, a3⟩ := Oper.apart_spec hap
      have hsi := fun cs b => hsel i oi cs b hi
      have hsj := fun cs b => hsel j oj cs b hoj
      have each : ∀ v, may ops S i oi a v → (Region.wanted oj (yielded ops a.tmps) = true → good P C oj a (S j)) ∧
          ∀ u, may ops S j oj a u → all P md ops C S Q n ((listed.setIfInBounds i true).setIfInBounds j true) ((a.put oi.dst v).put oj.dst u) := fun v hv => by
        have h1 := (H v hv).2 j (ready_mono hj hji)
        unfold step at h1
        rw [hoj] at h1
        dsimp only at h1
        unfold may at h1 ⊢
        rw [wanted_put oj a oi.dst v a1, good_put C hap hsj] at h1
        exact h1
      obtain ⟨v0, hv0⟩ := some_v a
      have hst : step P ops C S j (all P md ops C S Q (n + 1) (listed.setIfInBounds j true)) a := by
        unfold step
        rw [hoj]
        refine ⟨(each v0 hv0).1, fun u hu => ?_⟩
        have hw : Region.wanted oi (yielded ops (a.put oj.dst u).tmps) = Region.wanted oi (yielded ops a.tmps) := wanted_put oi a oj.dst u a3
        have hge : good P C oi (a.put oj.dst u) (S i) ↔ good P C oi a (S i) := by
          unfold good
          rw [execOp_put oi hsi a oj.dst u a3]
        have hm : ∀ v, may ops S i oi (a.put oj.dst u) v ↔ may ops S i oi a v := fun v => by
          unfold may
          rw [hw]
        refine ih (listed.setIfInBounds j true) (a.put oj.dst u) ?_ (ready_mono hr (Ne.symm hji)) (by rw [hw, hge]; exact hg) fun v hv => ?_
        · intro k ok hk hki hun hno
          refine hfree k ok hk hki ?_ hno
          by_cases hjk : j = k
          · subst hjk; exact hjun
          · rw [getD_set_ne true hjk] at hun; exact hun
        · have h2 := (each v ((hm v).1 hv)).2 u hu
          rw [Array.setIfInBounds_comm _ _ (Ne.symm hji), Act.put_comm a v u a2] at h2
          exact h2
      exact hst

theorem all_of_line {Q : Act → Prop} (hne : ∀ i, ∃ v, S i v) (hs : Region.noSelect ops = true) : ∀ (l : List Oper) (k : Nat) (listed : Array Bool) (a : Act), (∀ j, l[j]? = ops[k + j]?) →
    Region.lexFrom md ops l.length k listed = true → line P ops C S Q k l a → all P md ops C S Q l.length listed a
  | [], _, _, _, _, hB, h => ⟨by simpa [Region.lexFrom] using hB, h⟩
  | o :: l, k, listed, a, hl, hB, h => by
    have h0 : ops[k]? = some o := by simpa using (hl 0).symm
    simp only [List.length_cons, Region.lexFrom, Bool.and_eq_true] at hB
    obtain ⟨⟨hr, hf⟩, hB'⟩ := hB
    exact all_first C S hne h0 (Region.noSelect_spec hs) l.length listed a (Region.free_spec h0 hf) (by simpa using hr) h.1 fun v hv =>
      all_of_line hne hs l (k + 1) _ _ (fun j => by have := hl (j + 1); simpa [Nat.add_assoc, Nat.add_comm 1 j] using this) hB' (h.2 v hv)

/-- A region that draws its order: one walk in the order of the text. -/
theorem region {id : Nat} {Q : Exit → Act → World → Prop} {a : Act} {w : World} {l : List Oper} (hm : P.follows .mixedOrders = true) (hB : Region.lexB .any l.toArray = true) (hC : C w.drew) (hne : ∀ i, ∃ v, S i v)
    (h : line P l.toArray C S (fun a' => ∀ w', C w' → Q .normal a' w') 0 l a) : (Code.region id l.toArray true).wp P Q a w := by
  simp only [Region.lexB, Bool.and_eq_true] at hB
  refine wp_region_any hm (wpAny_of_all C S (Q := fun a' => ∀ w', C w' → Q .normal a' w') (fun _ w' hw' h => h w' hw') _ _ _ _ hC ?_)
  have := all_of_line (P := P) (md := .any) C S hne hB.1 l 0 (Array.replicate l.toArray.size false) a (by simp) (by simpa using hB.2) h
  simpa using this
end

end Go.Proofs.YtnilpooheaaleaaDoor.Rg
