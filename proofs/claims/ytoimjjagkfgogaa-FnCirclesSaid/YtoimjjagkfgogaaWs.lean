/- Walks: two words that read as one number are told to be the same. No conditions. -/
import Derived.Test.YtoimjjagkfgogaaFe
import Derived.Test.YtoimjjagkfgogaaFy
import Derived.Below
import Derived.Lib.Hide
namespace Go.Proofs.Ytoimjjagkfgogaa
open Go.RowKit

/-- The law's answer: true; nothing that was there has changed. -/
def Told (w : World) (e : Ending) (w' : World) : Prop := e = .returned (.bool true) ∧ Below w.heap.size w w'

theorem same_bool (b : Bool) : (b != b) = false := by cases b <;> rfl
theorem same_bool2 (b : Bool) : (b == b) = true := by cases b <;> rfl
theorem same_int (n : Int) : (n != n) = false := by simp

theorem ord_self {k : FloatKind} {x : Nat} (hn : nanW k x = false) : k.format.order x x = some .eq := by
  rcases kinds k x with ⟨h1, _, _⟩ | ⟨_, h1, _⟩ | ⟨_, _, h1⟩
  · exact order_self h1
  · show (k.decode x).order (k.decode x) = _
    rw [decode_inf h1]
    cases ng k.format x <;> rfl
  · rw [hn] at h1; cases h1

theorem neq_self {k : FloatKind} {X : Option Nat} {x : Nat} (hx : Ab k x X) : cmpA .neq k X X = decide (X = none) := by
  cases X with
  | none => rfl
  | some b =>
    obtain ⟨rfl, hn⟩ := hx.of_some
    show (k.format.order x x != some .eq) = _
    rw [ord_self hn]; rfl
theorem eql_self {k : FloatKind} {c x : Nat} (hx : Ab k x (some c)) : cmpA .eql k (some c) (some c) = true := by
  obtain ⟨rfl, hn⟩ := hx.of_some
  show (k.format.order x x == some .eq) = _
  rw [ord_self hn]; rfl


end Go.Proofs.Ytoimjjagkfgogaa
