/- A row of cells that a call makes and fills from the left: what is known of it. No conditions. -/
import Derived.WalkKit
import Derived.WalkSpells
import Derived.WalkLawsBesides
import Derived.Below
import Derived.Deep.Draws
namespace Go.Proofs.YtnilpooheaaleaaDoor
open Go.RowKit

/-- Block B is a row of n cells of type e, not frozen, whose first k hold 'val'. -/
def Made (w : World) (B : Nat) (e : TypeId) (n k : Nat) (val : Nat → Value) : Prop :=
  ∃ cur, w.heap[B]? = some (.cells cur e (0, 0)) ∧ cur.size = n ∧ ∀ j, j < k → cur[j]? = some (val j)

section
variable {w : World} {B : Nat} {e : TypeId} {n k : Nat} {val : Nat → Value}

theorem Made.lt (h : Made w B e n k val) : B < w.heap.size := by
  obtain ⟨cur, h1, _, _⟩ := h
  exact (Array.getElem?_eq_some_iff.1 h1).1
theorem Made.cell (h : Made w B e n k val) {j : Nat} (hj : j < k) : w.cell? ⟨B, j, none⟩ = some (val j) := by
  obtain ⟨cur, h1, _, h3⟩ := h
  simp [World.cell?, h1, h3 j hj]
theorem Made.some (h : Made w B e n k val) {j : Nat} (hj : j < n) : ∃ v, w.cell? ⟨B, j, none⟩ = some v := by
  obtain ⟨cur, h1, h2, _⟩ := h
  exact ⟨cur[j]'(by omega), by simp [World.cell?, h1, h2, hj]⟩
theorem Made.free (h : Made w B e n k val) (j : Nat) : w.frozen? ⟨B, j, none⟩ = false := by
  obtain ⟨cur, h1, _, _⟩ := h
  simp [World.frozen?, h1]
theorem Made.drewN (h : Made w B e n k val) (m : Nat) : Made (w.drewN m) B e n k val := h
theorem Made.start (w : World) (z : Array Value) (e : TypeId) (n : Nat) (val : Nat → Value) : Made (w.alloc (.cells (madeCells z n) e)) w.heap.size e n 0 val :=
  ⟨_, heap_alloc_new w _, size_madeCells z n, fun j hj => absurd hj (Nat.not_lt_zero j)⟩
theorem Made.store (h : Made w B e n k val) (hk : k < n) : Made (w.setCell ⟨B, k, none⟩ (val k)) B e n (k + 1) val := by
  obtain ⟨cur, h1, h2, h3⟩ := h
  refine ⟨cur.setIfInBounds k (val k), ?_, by simp [h2], fun j hj => ?_⟩
  · simp only [World.setCell, Array.getElem?_modify, h1]
    simp
  · rw [Array.getElem?_setIfInBounds]
    by_cases hjk : k = j
    · subst hjk
      simp [h2, hk]
    · rw [if_neg hjk]
      exact h3 j (by omega)
theorem Made.kept {w' : World} (h : Made w B e n k val) {A : Nat} (hb : Below A w w') (hA : B < A) : Made w' B e n k val := by
  obtain ⟨cur, h1, h2, h3⟩ := h
  exact ⟨cur, by rw [hb.block B hA]; exact h1, h2, h3⟩
theorem Made.alloc (h : Made w B e n k val) (o : Obj) : Made (w.alloc o) B e n k val := by
  have hl := h.lt
  obtain ⟨cur, h1, h2, h3⟩ := h
  exact ⟨cur, (Below.heap_alloc w o B hl).trans h1, h2, h3⟩
theorem Made.congr {val' : Nat → Value} (h : Made w B e n k val) (hv : ∀ j, j < k → val j = val' j) : Made w B e n k val' := by
  obtain ⟨cur, h1, h2, h3⟩ := h
  exact ⟨cur, h1, h2, fun j hj => by rw [← hv j hj]; exact h3 j hj⟩
end

/-- The slice value v of n elements leads to cells that hold 'val' (nothing is known of its address where it is empty). -/
def Leads (w : World) (v : Value) (n : Nat) (val : Nat → Value) : Prop :=
  n ≤ maxLen ∧ ((v = .slice none 0 0 ∧ n = 0) ∨ (∃ a cap, v = .slice (some a) n cap ∧ n = 0) ∨
    ∃ a cap, v = .slice (some a) n cap ∧ a.block < w.heap.size ∧ ∀ i, i < n → w.cell? (a.add i) = some (val i))

theorem add_block (a : Addr) (i : Nat) : (a.add i).block = a.block := by unfold Addr.add; split <;> rfl

theorem Leads.kept {w w' : World} {v : Value} {n : Nat} {val : Nat → Value} (h : Leads w v n val) (hb : Below w.heap.size w w') : Leads w' v n val := by
  refine ⟨h.1, ?_⟩
  rcases h.2 with h | h | ⟨a, cap, h1, h2, h3⟩
  · exact .inl h
  · exact .inr (.inl h)
  · exact .inr (.inr ⟨a, cap, h1, Nat.lt_of_lt_of_le h2 hb.size, fun i hi => by rw [hb.cell (p := a.add i) (by rw [add_block]; exact h2)]; exact h3 i hi⟩)
theorem Leads.of_made {w : World} {B : Nat} {e : TypeId} {n : Nat} {val : Nat → Value} (hm : n ≤ maxLen) (h : Made w B e n n val) (cap : Nat) : Leads w (.slice (some ⟨B, 0, none⟩) n cap) n val :=
  ⟨hm, .inr (.inr ⟨⟨B, 0, none⟩, cap, rfl, h.lt, fun i hi => by
    have e : (⟨B, 0, none⟩ : Addr).add i = ⟨B, i, none⟩ := by unfold Addr.add; split <;> simp_all
    rw [e]; exact h.cell hi⟩)⟩

end Go.Proofs.YtnilpooheaaleaaDoor
