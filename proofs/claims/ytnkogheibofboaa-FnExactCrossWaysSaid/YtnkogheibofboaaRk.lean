/- A law for statements whose order Go leaves open, that call, make at most one cell of their own and end with one store into it: one walk in the order of the text serves all orders. No conditions. -/
import Derived.Test.YtnkogheibofboaaRw
import Derived.Below
import Derived.Laws.Tables
import Derived.Laws.CopyOwn
import Derived.Laws.Rows
namespace Go.Proofs.Ytnkogheibofboaa.Rk
open Go.RowKit

/-- A cell of one's own that holds a struct and may be written. -/
def Own (w : World) (b : Nat) (cs : Array Value) : Prop := ∃ t, w.heap[b]? = some (.cells cs t (0, 0))
theorem Own.lt {w : World} {b : Nat} {cs : Array Value} (h : Own w b cs) : b < w.heap.size := by
  obtain ⟨t, h⟩ := h
  exact (Array.getElem?_eq_some_iff.1 h).1
theorem Own.kept {w w' : World} {b A : Nat} {cs : Array Value} (h : Own w b cs) (hb : Below A w w') (hA : b < A) : Own w' b cs := by
  obtain ⟨t, h⟩ := h
  exact ⟨t, by rw [hb.block b hA]; exact h⟩

/-- Which operation stores (kS) what stands in slot sY (operation iY puts it there) into the cell that slot sA leads to; which one makes the cell (kA), if it is made here; the cell has n places; blocks below B are left alone; W is the world at the start. -/
structure Plan where
  kS : Nat
  iY : Nat
  sY : Tmp
  sA : Tmp
  kA : Option Nat
  n : Nat
  B : Nat
  W : World

section
variable {P : Program} {ops : Array Oper} {md : Region.Mode} (p : Plan) (S : Nat → Value → Prop)

/-- In every world that has kept what was there the operation yields a value of the set and keeps what is there. -/
def good (P : Program) (B : Nat) (W : World) (o : Oper) (a : Act) (T : Value → Prop) : Prop := ∀ w, Below B W w →
  match (execOp a.eval o).run P w with
  | .ok (.value u) w' => Below w.heap.size w w' ∧ T u
  | .ok .skip w' => Below w.heap.size w w' ∧ T undef
  | .ok (.enter f args) w' => Calls P f args w' fun e w'' => ∃ v, e = .returned v ∧ T v ∧ Below w.heap.size w w''
  | _ => False

def G (P : Program) (p : Plan) (S : Nat → Value → Prop) (i : Nat) (o : Oper) (a : Act) : Prop :=
  if i = p.kS then ∃ cells : Array Value, a.eval (.tmp p.sY) = .agg cells ∧ cells.size = p.n ∧ cells.all (·.oneCell') = true
  else if p.kA = some i then True else good P p.B p.W o a (S i)

def may (ops : Array Oper) (S : Nat → Value → Prop) (i : Nat) (o : Oper) (a : Act) (v : Value) : Prop :=
  if Region.wanted o (yielded ops a.tmps) = true then S i v else v = undef

def step (P : Program) (ops : Array Oper) (p : Plan) (S : Nat → Value → Prop) (i : Nat) (K : Act → Prop) (a : Act) : Prop :=
  match ops[i]? with
  | none => K a
  | some o => (Region.wanted o (yielded ops a.tmps) = true → G P p S i o a) ∧ ∀ v, may ops S i o a v → K (a.put o.dst v)

def all (P : Program) (md : Region.Mode) (ops : Array Oper) (p : Plan) (S : Nat → Value → Prop) (Q : Array Bool → Act → Prop) : Nat → Array Bool → Act → Prop
  | 0, listed, a => Region.ready md ops listed = [] ∧ Q listed a
  | n + 1, listed, a => (Region.ready md ops listed = [] → Q listed a) ∧ ∀ i ∈ Region.ready md ops listed, step P ops p S i (all P md ops p S Q n (listed.setIfInBounds i true)) a

def line (P : Program) (ops : Array Oper) (p : Plan) (S : Nat → Value → Prop) (Q : Act → Prop) : Nat → List Oper → Act → Prop
  | _, [], a => Q a
  | i, o :: rest, a => (Region.wanted o (yielded ops a.tmps) = true → G P p S i o a) ∧ ∀ v, may ops S i o a v → line P ops p S Q (i + 1) rest (a.put o.dst v)

/-- What is known on the way. -/
def L (p : Plan) (listed : Array Bool) (a : Act) (w : World) : Prop :=
  Below p.B p.W w ∧
  ((∀ i, p.kA = some i → listed.getD i false = true) → ∃ g cs, p.B ≤ g ∧ a.eval (.tmp p.sA) = .pointer (some ⟨g, 0, none⟩) ∧ Own w g cs ∧ cs.size = p.n ∧ (listed.getD p.kS false = true → a.eval (.tmp p.sY) = .agg cs)) ∧
  (listed.getD p.kS false = true → listed.getD p.iY false = true ∧ ∀ i, p.kA = some i → listed.getD i false = true) ∧ p.sA < a.tmps.size

/-- What is looked up once about the operations. -/
structure Fit (P : Program) (md : Region.Mode) (ops : Array Oper) (p : Plan) (S : Nat → Value → Prop) : Prop where
  hBW : p.B ≤ p.W.heap.size
  store : ∃ oS ty, ops[p.kS]? = some oS ∧ oS.op = .store ty (.tmp p.sA) (.tmp p.sY) ∧ oS.dst = none ∧ oS.guard = none ∧ p.sY ∈ oS.looksAt ops ∧ (P.info? ty).map (·.size) = some p.n ∧
    (∃ e ∈ oS.after, Region.binds md e = true ∧ e.on = p.iY) ∧ (∀ i, p.kA = some i → ∃ e ∈ oS.after, Region.binds md e = true ∧ e.on = i)
  notKA : p.kA ≠ some p.kS
  sA : ∀ (i : Nat) (o : Oper), ops[i]? = some o → p.kA ≠ some i → o.dst ≠ some p.sA
  sY : ∀ (i : Nat) (o : Oper), ops[i]? = some o → i ≠ p.iY → o.dst ≠ some p.sY
  make : ∀ i, p.kA = some i → ∃ o zs t, ops[i]? = some o ∧ o.guard = none ∧ o.dst = some p.sA ∧ zs.size = p.n ∧ (∀ g, p.B ≤ g → S i (.pointer (some ⟨g, 0, none⟩))) ∧
    ∀ (a : Act) w, (execOp a.eval o).run P w = .ok (.value (.pointer (some ⟨w.heap.size, 0, none⟩))) (w.alloc (.cells zs t))
  void : S p.kS undef
  nosel : ∀ (j : Nat) (o : Oper) cs b, ops[j]? = some o → o.op ≠ .select cs b

theorem wanted_plain {o : Oper} (h : o.guard = none) (y : Nat → Option Bool) : Region.wanted o y = true := by
  unfold Region.wanted
  rw [h]

theorem eval_put_self (a : Act) (d : Tmp) (v : Value) (h : d < a.tmps.size) : (a.put (some d) v).eval (.tmp d) = v := by
  simp [Act.eval, Act.put, h]
theorem put_size (a : Act) (d : Option Tmp) (v : Value) : (a.put d v).tmps.size = a.tmps.size := by
  cases d with
  | none => rfl
  | some d => simp [Act.put]

theorem step_mono {i : Nat} {K K' : Act → Prop} {a : Act} (h : ∀ a, K a → K' a) (hs : step P ops p S i K a) : step P ops p S i K' a := by
  unfold step at *
  split
  · rename_i e; rw [e] at hs; exact h _ hs
  · rename_i o e; rw [e] at hs; exact ⟨hs.1, fun v hv => h _ (hs.2 v hv)⟩

theorem not_listed {listed : Array Bool} {i : Nat} (h : listed.getD i true = false) : listed.getD i false = false := by
  rw [Array.getD_eq_getD_getElem?] at *
  revert h
  cases listed[i]? with
  | none => intro h; cases h
  | some b => intro h; exact h
theorem set_self {listed : Array Bool} {i : Nat} (h : listed.getD i true = false) : (listed.setIfInBounds i true).getD i false = true := by
  have hlt : i < listed.size := by
    rw [Array.getD_eq_getD_getElem?] at h
    cases hl : listed[i]? with
    | none => rw [hl] at h; cases h
    | some b => exact (Array.getElem?_eq_some_iff.1 hl).1
  simp [hlt]

/-- A step that keeps what is there keeps what is known. -/
theorem L_keep {listed : Array Bool} {a : Act} {w w' : World} {i : Nat} {o : Oper} {v : Value} (F : Fit P md ops p S) (hL : L p listed a w) (hi : listed.getD i true = false) (ho : ops[i]? = some o) (h1 : i ≠ p.kS) (h2 : p.kA ≠ some i) (hb : Below w.heap.size w w') :
    L p (listed.setIfInBounds i true) (a.put o.dst v) w' := by
  obtain ⟨l1, l2, l3, l4⟩ := hL
  have hk : (listed.setIfInBounds i true).getD p.kS false = listed.getD p.kS false := getD_set_ne false h1
  have hka : ∀ j, p.kA = some j → (listed.setIfInBounds i true).getD j false = listed.getD j false := fun j hj => getD_set_ne false (fun h => h2 (by rw [h]; exact hj))
  refine ⟨l1.trans (hb.mono (Nat.le_trans F.hBW l1.size)), fun hall => ?_, fun hS => ?_, by rw [put_size]; exact l4⟩
  · obtain ⟨g, cs, q1, q2, q3, q4, q5⟩ := l2 fun j hj => by rw [← hka j hj]; exact hall j hj
    refine ⟨g, cs, q1, ?_, q3.kept hb q3.lt, q4, fun hS => ?_⟩
    · rw [Act.eval_put fun d hd hx => F.sA i o ho h2 (by cases hx; exact hd)]
      exact q2
    · rw [hk] at hS
      have hne : i ≠ p.iY := fun h => by
        have := (l3 hS).1
        rw [← h, not_listed hi] at this
        cases this
      rw [Act.eval_put fun d hd hx => F.sY i o ho hne (by cases hx; exact hd)]
      exact q5 hS
  · rw [hk] at hS
    obtain ⟨y1, y2⟩ := l3 hS
    exact ⟨getD_set_true y1, fun j hj => getD_set_true (y2 j hj)⟩

theorem wpOp_of_step {i : Nat} {K : Act → Prop} {K' : Act → World → Prop} {Q : Exit → Act → World → Prop} {listed : Array Bool} {a : Act} {w : World} (F : Fit P md ops p S) (hL : L p listed a w) (hr : i ∈ Region.ready md ops listed)
    (h : ∀ a w', L p (listed.setIfInBounds i true) a w' → K a → K' a w') (hs : step P ops p S i K a) : wpOp P ops Q i K' a w := by
  obtain ⟨hun, oj, hoj, hall⟩ := mem_ready.1 hr
  unfold step at hs
  unfold wpOp
  rw [hoj] at hs ⊢
  dsimp only at hs ⊢
  obtain ⟨h1, h2⟩ := hs
  by_cases hS : i = p.kS
  · subst hS
    obtain ⟨oS, ty, e1, e2, e3, e4, e5, e6, ⟨e, he, hb, hon⟩, hmk⟩ := F.store
    have : oj = oS := Option.some.inj (hoj.symm.trans e1)
    subst this
    rw [if_pos (wanted_plain e4 _)]
    refine .inl ?_
    have hG := h1 (wanted_plain e4 _)
    unfold G at hG
    rw [if_pos rfl] at hG
    obtain ⟨cells, c1, c2, c3⟩ := hG
    obtain ⟨l1, l2, l3, l4⟩ := hL
    have hkA : ∀ i, p.kA = some i → listed.getD i false = true := fun i hi => by
      obtain ⟨e', he', hb', hon'⟩ := hmk i hi
      rw [← hon']
      exact hall e' he' hb'
    obtain ⟨g, cs, q1, q2, ⟨t, q3⟩, q4, _⟩ := l2 hkA
    refine wp_store_row ty _ _ e2 g cells q2 c1 t cs q3 (by rw [c2]; exact e6) (by rw [q4, c2]) c3 ?_
    have hput : ∀ v, a.put oj.dst v = a := fun v => by rw [e3]; rfl
    refine h _ _ ?_ (h2 undef (by unfold may; rw [if_pos (wanted_plain e4 _)]; exact F.void))
    rw [hput]
    refine ⟨below_setRow l1 q1 _, fun _ => ⟨g, cells, q1, q2, ⟨t, setRow_heap w g cs cells t _ q3⟩, c2, fun _ => c1⟩, fun _ => ⟨getD_set_true (by rw [← hon]; exact hall e he hb), fun j hj => getD_set_true (hkA j hj)⟩, l4⟩
  · by_cases hA : p.kA = some i
    · obtain ⟨o, zs, t, m1, m2, m3, m4, m5, m6⟩ := F.make i hA
      have : oj = o := Option.some.inj (hoj.symm.trans m1)
      subst this
      rw [if_pos (wanted_plain m2 _)]
      refine .inl ?_
      unfold Oper.wp
      rw [m6 a w]
      obtain ⟨l1, l2, l3, l4⟩ := hL
      have hB : p.B ≤ w.heap.size := Nat.le_trans F.hBW l1.size
      refine h _ _ ?_ (h2 _ (by unfold may; rw [if_pos (wanted_plain m2 _)]; exact m5 _ hB))
      have hno : listed.getD p.kS false = false := by
        cases hc : listed.getD p.kS false with
        | false => rfl
        | true =>
          have := (l3 hc).2 i hA
          rw [not_listed hun] at this
          cases this
      have hk : (listed.setIfInBounds i true).getD p.kS false = false := by rw [getD_set_ne false hS]; exact hno
      refine ⟨l1.alloc hB _, fun _ => ⟨w.heap.size, zs, hB, ?_, ⟨t, heap_alloc_new w _⟩, m4, fun hc => ?_⟩, fun hc => ?_, by rw [put_size]; exact l4⟩
      · rw [m3]
        exact eval_put_self _ _ _ l4
      · rw [hk] at hc; cases hc
      · rw [hk] at hc; cases hc
    · split
      · rename_i hwt
        refine .inl ?_
        have hG := h1 hwt
        unfold G at hG
        rw [if_neg hS, if_neg hA] at hG
        have hg := hG w hL.1
        have fin : ∀ v w', S i v → Below w.heap.size w w' → K' (a.put oj.dst v) w' := fun v w' hT hb =>
          h _ _ (L_keep p S F hL hun hoj hS hA hb) (h2 v (by unfold may; rw [if_pos hwt]; exact hT))
        unfold Oper.wp
        generalize (execOp a.eval oj).run P w = r at hg
        cases r with
        | halt h' w' => exact hg.elim
        | ok n w' =>
          cases n <;> first | exact hg.elim | skip
          case value u => exact fin _ _ hg.2 hg.1
          case skip => exact fin _ _ hg.2 hg.1
          case enter f args =>
            refine Calls.mono hg fun e w'' ⟨v, he, hT, hC⟩ => ?_
            subst he
            exact fin _ _ hT hC
      · rename_i hwt
        exact h _ _ (L_keep p S F hL hun hoj hS hA (Below.refl _ _)) (h2 undef (by unfold may; rw [if_neg hwt]))

theorem wpAny_of_all {Q : Array Bool → Act → Prop} {Q' : Exit → Act → World → Prop} (F : Fit P md ops p S) (hQ : ∀ listed a w, L p listed a w → Q listed a → Q' .normal a w) : ∀ (n : Nat) (listed : Array Bool) (a : Act) (w : World), L p listed a w →
    all P md ops p S Q n listed a → wpAny P md ops Q' n listed a w
  | 0, _, _, _, hw, h => ⟨h.1, hQ _ _ _ hw h.2⟩
  | n + 1, _, _, _, hw, h => ⟨fun h0 => hQ _ _ _ hw (h.1 h0), fun i hi => wpOp_of_step p S F hw hi (fun a' w' hw' => wpAny_of_all F hQ n _ a' w' hw') (h.2 i hi)⟩

theorem G_put (F : Fit P md ops p S) {j : Nat} {oi oj : Oper} (hoj : ops[j]? = some oj) (h1 : ∀ d, oi.dst = some d → d ∉ oj.looksAt ops) (a : Act) (v : Value) : G P p S j oj (a.put oi.dst v) ↔ G P p S j oj a := by
  unfold G
  by_cases hS : j = p.kS
  · rw [if_pos hS, if_pos hS]
    obtain ⟨oS, ty, e1, e2, e3, e4, e5, _⟩ := F.store
    have : oj = oS := Option.some.inj (hoj.symm.trans (by rw [hS]; exact e1))
    subst this
    rw [Act.eval_put fun d hd hx => h1 d hd (by cases hx; exact e5)]
  · rw [if_neg hS, if_neg hS]
    by_cases hA : p.kA = some j
    · rw [if_pos hA, if_pos hA]
    · rw [if_neg hA, if_neg hA]
      unfold good
      rw [execOp_put oj (fun cs b => F.nosel j oj cs b hoj) a oi.dst v h1]

/-- An operation that may come up now may be taken first. -/
theorem all_first {Q : Array Bool → Act → Prop} (F : Fit P md ops p S) (hne : ∀ i, ∃ v, S i v) {i : Nat} {oi : Oper} (hi : ops[i]? = some oi) :
    ∀ (n : Nat) (listed : Array Bool) (a : Act),
      (∀ j oj, ops[j]? = some oj → j ≠ i → listed.getD j true = false → (∀ e ∈ oj.after, Region.binds md e = true → e.on ≠ i) → oi.apart ops oj = true) →
      i ∈ Region.ready md ops listed → (Region.wanted oi (yielded ops a.tmps) = true → G P p S i oi a) →
      (∀ v, may ops S i oi a v → all P md ops p S Q n (listed.setIfInBounds i true) (a.put oi.dst v)) → all P md ops p S Q (n + 1) listed a := by
  have some_v : ∀ a : Act, ∃ v, may ops S i oi a v := fun a => by
    unfold may
    split
    · exact hne i
    · exact ⟨undef, rfl⟩
  have own : ∀ a : Act, (Region.wanted oi (yielded ops a.tmps) = true → G P p S i oi a) → ∀ K : Act → Prop, (∀ v, may ops S i oi a v → K (a.put oi.dst v)) → step P ops p S i K a := fun a hg K hK => by
    unfold step
    rw [hi]
    exact ⟨hg, hK⟩
  intro n
  induction n with
  | zero =>
    intro listed a _ hr hg H
    refine ⟨fun h => absurd hr (by rw [h]; exact List.not_mem_nil), fun j hj => ?_⟩
    by_cases hji : j = i
    · subst hji; exact own a hg _ H
    · obtain ⟨v, hv⟩ := some_v a
      have h1 := ready_mono hj hji
      rw [(H v hv).1] at h1
      cases h1
  | succ n ih =>
    intro listed a hfree hr hg H
    refine ⟨fun h => absurd hr (by rw [h]; exact List.not_mem_nil), fun j hj => ?_⟩
    by_cases hji : j = i
    · subst hji; exact own a hg _ H
    · obtain ⟨hjun, oj, hoj, hall⟩ := mem_ready.1 hj
      have hnot : ∀ e ∈ oj.after, Region.binds md e = true → e.on ≠ i := by
        rintro e he hb rfl
        have listed_yes := hall e he hb
        have listed_no := not_listed (mem_ready.1 hr).1
        rw [listed_no] at listed_yes
        cases listed_yes
      have hap := hfree j oj hoj hji hjun hnot
      obtain ⟨a1, a2, a3⟩ := Oper.apart_spec hap
      have each : ∀ v, may ops S i oi a v → (Region.wanted oj (yielded ops a.tmps) = true → G P p S j oj a) ∧
          ∀ u, may ops S j oj a u → all P md ops p S Q n ((listed.setIfInBounds i true).setIfInBounds j true) ((a.put oi.dst v).put oj.dst u) := fun v hv => by
        have h1 := (H v hv).2 j (ready_mono hj hji)
        unfold step at h1
        rw [hoj] at h1
        dsimp only at h1
        unfold may at h1 ⊢
        rw [wanted_put oj a oi.dst v a1, G_put p S F hoj a1] at h1
        exact h1
      obtain ⟨v0, hv0⟩ := some_v a
      have hst : step P ops p S j (all P md ops p S Q (n + 1) (listed.setIfInBounds j true)) a := by
        unfold step
        rw [hoj]
        refine ⟨(each v0 hv0).1, fun u hu => ?_⟩
        have hw : Region.wanted oi (yielded ops (a.put oj.dst u).tmps) = Region.wanted oi (yielded ops a.tmps) := wanted_put oi a oj.dst u a3
        have hge : G P p S i oi (a.put oj.dst u) ↔ G P p S i oi a := G_put p S F hi a3 a u
        have hm : ∀ v, may ops S i oi (a.put oj.dst u) v ↔ may ops S i oi a v := fun v => by
          unfold may
          rw [hw]
        refine ih (listed.setIfInBounds j true) (a.put oj.dst u) ?_ (ready_mono hr (Ne.symm hji)) (by rw [hw, hge]; exact hg) fun v hv => ?_
        · intro k ok hk hki hun hno
          refine hfree k ok hk hki ?_ hno
          by_cases hjk : j = k
          · subst hjk; exact hjun
          · rw [getD_set_ne true hjk] at hun; exact hun
        · have h2 := (each v ((hm v).1 hv)).2 u hu
          rw [Array.setIfInBounds_comm _ _ (Ne.symm hji), Act.put_comm a v u a2] at h2
          exact h2
      exact hst

theorem all_of_line {Q : Act → Prop} (F : Fit P md ops p S) (hne : ∀ i, ∃ v, S i v) (hkS : p.kS < ops.size) : ∀ (l : List Oper) (k : Nat) (listed : Array Bool) (a : Act), (∀ j, l[j]? = ops[k + j]?) →
    listed.size = ops.size → (∀ j, j < k → listed.getD j false = true) → Region.lexFrom md ops l.length k listed = true → line P ops p S Q k l a → all P md ops p S (fun listed a => listed.getD p.kS false = true ∧ Q a) l.length listed a
  | [], k, listed, _, hl, _, hd, hB, h => ⟨by simpa [Region.lexFrom] using hB, hd _ (by
      have := hl 0
      simp at this
      omega), h⟩
  | o :: l, k, listed, a, hl, hz, hd, hB, h => by
    have h0 : ops[k]? = some o := by simpa using (hl 0).symm
    simp only [List.length_cons, Region.lexFrom, Bool.and_eq_true] at hB
    obtain ⟨⟨hr, hf⟩, hB'⟩ := hB
    have hr' : k ∈ Region.ready md ops listed := by simpa using hr
    exact all_first p S F hne h0 l.length listed a (Region.free_spec h0 hf) hr' h.1 fun v hv =>
      all_of_line F hne hkS l (k + 1) _ _ (fun j => by have := hl (j + 1); simpa [Nat.add_assoc, Nat.add_comm 1 j] using this) (by simpa using hz)
        (fun j hj => by
          by_cases hjk : j = k
          · subst hjk; exact set_self (mem_ready.1 hr').1
          · exact getD_set_true (hd j (by omega))) hB' (h.2 v hv)

/-- A region that draws its order: one walk in the order of the text. -/
theorem region {id : Nat} {Q : Exit → Act → World → Prop} {a : Act} {w : World} {l : List Oper} (hm : P.follows .mixedOrders = true) (F : Fit P .any l.toArray p S) (hB : Region.lexB .any l.toArray = true) (hkS : p.kS < l.length) (hsz : p.sA < a.tmps.size) (hW : p.W = w)
    (h0 : p.kA = none → ∃ g cs, p.B ≤ g ∧ a.eval (.tmp p.sA) = .pointer (some ⟨g, 0, none⟩) ∧ Own w g cs ∧ cs.size = p.n) (hne : ∀ i, ∃ v, S i v)
    (h : line P l.toArray p S (fun a' => ∀ w' g cs, Below p.B w w' → p.B ≤ g → a'.eval (.tmp p.sA) = .pointer (some ⟨g, 0, none⟩) → Own w' g cs → a'.eval (.tmp p.sY) = .agg cs → Q .normal a' w') 0 l a) : (Code.region id l.toArray true).wp P Q a w := by
  simp only [Region.lexB, Bool.and_eq_true] at hB
  subst hW
  have hn : ∀ i, (Array.replicate l.toArray.size false).getD i false = false := fun i => by
    rw [Array.getD_eq_getD_getElem?, Array.getElem?_replicate]
    split <;> rfl
  refine wp_region_any hm (wpAny_of_all p S (Q := fun listed a' => listed.getD p.kS false = true ∧ ∀ w' g cs, Below p.B p.W w' → p.B ≤ g → a'.eval (.tmp p.sA) = .pointer (some ⟨g, 0, none⟩) → Own w' g cs → a'.eval (.tmp p.sY) = .agg cs → Q .normal a' w') F (fun listed a' w' hL hq => ?_) _ _ _ _ ?_ ?_)
  · obtain ⟨l1, l2, l3, _⟩ := hL
    obtain ⟨g, cs, q1, q2, q3, _, q5⟩ := l2 (l3 hq.1).2
    exact hq.2 w' g cs l1 q1 q2 q3 (q5 hq.1)
  · refine ⟨(Below.refl _ _).drew, fun hall => ?_, fun hc => ?_, hsz⟩
    · cases hk : p.kA with
      | some i =>
        have := hall i hk
        rw [hn] at this
        cases this
      | none =>
        obtain ⟨g, cs, q1, q2, q3, q4⟩ := h0 hk
        exact ⟨g, cs, q1, q2, q3, q4, fun hc => by rw [hn] at hc; cases hc⟩
    · rw [hn] at hc; cases hc
  · have := all_of_line (P := P) (md := .any) p S F hne (by simpa using hkS) l 0 (Array.replicate l.toArray.size false) a (by simp) (by simp) (fun j hj => absurd hj (Nat.not_lt_zero j)) (by simpa using hB.2) h
    simpa using this
end

/-! ## What is looked up, by one check -/
def edgeB (md : Region.Mode) (o : Oper) (i : Nat) : Bool := o.after.any fun e => Region.binds md e && e.on == i
def fitB (md : Region.Mode) (ops : Array Oper) (kS iY : Nat) (sY sA : Tmp) (kA : Option Nat) (ty : TypeId) : Bool :=
  (match ops[kS]? with
  | none => false
  | some oS => (match oS.op with | .store t (.tmp x) (.tmp y) => t == ty && x == sA && y == sY | _ => false) && oS.dst.isNone && oS.guard.isNone && (oS.looksAt ops).contains sY && edgeB md oS iY &&
      (match kA with | none => true | some i => edgeB md oS i)) &&
  (match kA with | none => true | some i => i != kS && (match ops[i]? with | some o => o.guard.isNone && o.dst == some sA && (match o.op with | .alloc t => t == ty | _ => false) | none => false)) &&
  (List.range ops.size).all (fun i => match ops[i]? with | some o => (kA == some i || o.dst != some sA) && (i == iY || o.dst != some sY) | none => true) && Region.noSelect ops

theorem edge_spec {md : Region.Mode} {o : Oper} {i : Nat} (h : edgeB md o i = true) : ∃ e ∈ o.after, Region.binds md e = true ∧ e.on = i := by
  unfold edgeB at h
  rw [← Array.any_toList] at h
  obtain ⟨e, he, hb⟩ := List.any_eq_true.1 h
  simp only [Bool.and_eq_true, beq_iff_eq] at hb
  exact ⟨e, by simpa using he, hb.1, hb.2⟩

theorem fit_of {P : Program} {md : Region.Mode} {ops : Array Oper} {p : Plan} {S : Nat → Value → Prop} {ty : TypeId} (h : fitB md ops p.kS p.iY p.sY p.sA p.kA ty = true) (hBW : p.B ≤ p.W.heap.size) (hi : (P.info? ty).map (·.size) = some p.n) (hv : S p.kS undef)
    (hmk : ∀ i, p.kA = some i → (∀ g, p.B ≤ g → S i (.pointer (some ⟨g, 0, none⟩))) ∧ ∃ zs : Array Value, zs.size = p.n ∧ ∀ (o : Oper) (a : Act) w, o.op = .alloc ty → (execOp a.eval o).run P w = .ok (.value (.pointer (some ⟨w.heap.size, 0, none⟩))) (w.alloc (.cells zs ty))) : Fit P md ops p S := by
  unfold fitB at h
  simp only [Bool.and_eq_true] at h
  obtain ⟨⟨⟨h1, h2⟩, h3⟩, h4⟩ := h
  have hall : ∀ (i : Nat) (o : Oper), ops[i]? = some o → (p.kA = some i ∨ o.dst ≠ some p.sA) ∧ (i = p.iY ∨ o.dst ≠ some p.sY) := fun i o ho => by
    have hlt : i < ops.size := (Array.getElem?_eq_some_iff.1 ho).1
    have := (List.all_eq_true.1 h3) i (List.mem_range.2 hlt)
    rw [ho] at this
    simpa using this
  refine ⟨hBW, ?_, ?_, fun i o ho hk => ?_, fun i o ho hk => ?_, fun i hk => ?_, hv, fun j o cs b => Region.noSelect_spec h4 j o cs b⟩
  · cases ho : ops[p.kS]? with
    | none => rw [ho] at h1; cases h1
    | some oS =>
      rw [ho] at h1
      simp only [Bool.and_eq_true] at h1
      obtain ⟨⟨⟨⟨⟨q1, q2⟩, q3⟩, q4⟩, q5⟩, q6⟩ := h1
      refine ⟨oS, ty, rfl, ?_, by simpa using q2, by simpa using q3, by simpa using q4, hi, edge_spec q5, fun i hk => ?_⟩
      · split at q1
        · rename_i t x y e
          simp only [Bool.and_eq_true, beq_iff_eq] at q1
          rw [e, q1.1.1, q1.1.2, q1.2]
        · cases q1
      · rw [hk] at q6
        exact edge_spec q6
  · intro hk
    rw [hk] at h2
    simp at h2
  · rcases (hall i o ho).1 with h | h
    · exact absurd h hk
    · exact h
  · rcases (hall i o ho).2 with h | h
    · exact absurd h hk
    · exact h
  · obtain ⟨m1, zs, m2, m3⟩ := hmk i hk
    rw [hk] at h2
    simp only [Bool.and_eq_true] at h2
    obtain ⟨_, h2⟩ := h2
    cases ho : ops[i]? with
    | none => rw [ho] at h2; cases h2
    | some o =>
      rw [ho] at h2
      simp only [Bool.and_eq_true] at h2
      obtain ⟨⟨q1, q2⟩, q3⟩ := h2
      refine ⟨o, zs, ty, rfl, by simpa using q1, by simpa using q2, m2, m1, fun a w => m3 o a w ?_⟩
      split at q3
      · rename_i t e
        rw [e, eq_of_beq q3]
      · cases q3

/-! ## The steps -/
section
variable {P : Program} {ops : Array Oper} {p : Plan} {S : Nat → Value → Prop} {Q : Act → Prop} {i : Nat} {o : Oper} {rest : List Oper} {a : Act} {B : Nat} {W : World} {f : FuncId} {args : Array Value}

theorem line_step {T : Value → Prop} (hw : Region.wanted o (yielded ops a.tmps) = true) (hT : S i = T) (h1 : (i == p.kS) = false) (h2 : (p.kA == some i) = false) (hg : good P p.B p.W o a T) (h : ∀ v, T v → line P ops p S Q (i + 1) rest (a.put o.dst v)) : line P ops p S Q i (o :: rest) a := by
  subst hT
  refine ⟨fun _ => ?_, fun v hv => h v ?_⟩
  · unfold G
    rw [if_neg (by simpa using h1), if_neg (by simpa using h2)]
    exact hg
  · unfold may at hv
    rw [if_pos hw] at hv
    exact hv
theorem line_skip (hw : Region.wanted o (yielded ops a.tmps) = false) (h : line P ops p S Q (i + 1) rest (a.put o.dst undef)) : line P ops p S Q i (o :: rest) a := by
  refine ⟨fun h' => (by rw [hw] at h'; cases h'), fun v hv => ?_⟩
  unfold may at hv
  rw [if_neg (by rw [hw]; exact Bool.false_ne_true)] at hv
  subst hv
  exact h
theorem line_store (hw : Region.wanted o (yielded ops a.tmps) = true) (hT : S i = Rg.one undef) (h1 : i = p.kS) (cells : Array Value) (hy : a.eval (.tmp p.sY) = .agg cells) (hn : cells.size = p.n) (hc : cells.all (·.oneCell') = true) (h : line P ops p S Q (i + 1) rest (a.put o.dst undef)) : line P ops p S Q i (o :: rest) a := by
  refine ⟨fun _ => ?_, fun v hv => ?_⟩
  · unfold G
    rw [if_pos h1]
    exact ⟨cells, hy, hn, hc⟩
  · unfold may at hv
    rw [if_pos hw, hT] at hv
    cases hv
    exact h
theorem line_make (hw : Region.wanted o (yielded ops a.tmps) = true) (hT : S i = fun v => ∃ g, p.B ≤ g ∧ v = .pointer (some ⟨g, 0, none⟩)) (h1 : (i == p.kS) = false) (h2 : p.kA = some i) (h : ∀ g, p.B ≤ g → line P ops p S Q (i + 1) rest (a.put o.dst (.pointer (some ⟨g, 0, none⟩)))) : line P ops p S Q i (o :: rest) a := by
  refine ⟨fun _ => ?_, fun v hv => ?_⟩
  · unfold G
    rw [if_neg (by simpa using h1), if_pos h2]
    trivial
  · unfold may at hv
    rw [if_pos hw, hT] at hv
    obtain ⟨g, hg, rfl⟩ := hv
    exact h g hg

theorem good_one {v : Value} (h : ∀ w, Below B W w → (execOp a.eval o).run P w = .ok (.value v) w) : good P B W o a (Rg.one v) := fun w hw => by rw [h w hw]; exact ⟨Below.refl _ _, rfl⟩
theorem good_val {v : Value} {T : Value → Prop} (hv : T v) (h : ∀ w, Below B W w → (execOp a.eval o).run P w = .ok (.value v) w) : good P B W o a T := fun w hw => by rw [h w hw]; exact ⟨Below.refl _ _, hv⟩
theorem good_call {T : Value → Prop} (h : ∀ w, (execOp a.eval o).run P w = .ok (.enter f args) w)
    (hc : ∀ w, Calls P f args w fun e w' => ∃ v, e = .returned v ∧ T v ∧ Below w.heap.size w w') : good P B W o a T := fun w _ => by rw [h w]; exact hc w
end

end Go.Proofs.Ytnkogheibofboaa.Rk
