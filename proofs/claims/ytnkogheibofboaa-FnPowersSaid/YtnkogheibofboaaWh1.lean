/- How lists of bytes that came in are opened. No conditions. -/
import Derived.Test.YtnkogheibofboaaWe2
import Derived.ChangeSlices
import Derived.ChangeOld
import Derived.Laws.Cover2
namespace Go.Proofs.Ytnkogheibofboaa
open Go.RowKit Go.ChangeShapes

theorem bytes_of_trod {H : Type} {enc : TypeId × Value → H} {P : Program} {w : World} {base : Nat} {held : Bool} {t e : TypeId} {a : Option Addr} {n cap : Nat} {d : DataW H} {p : List MemPlace} (ht : P.underlying t = some (.slice e)) (he : P.underlying e = some (.int .u8)) (hc : P.cellsOf e = 1)
    (h : DataW.Trod enc P w base (fun _ => true) held t (.slice a n cap) d p) : Bytes w a n := by
  obtain ⟨fuel, hf⟩ := h
  rcases open_ints ht he hc hf with ⟨hcs, _⟩ | ⟨b, len, c, zs, hcs, _, hl, _, hz, _, hcell, hwf⟩
  · simp [Value.cells] at hcs
    exact .inl hcs.2.1
  · simp [Value.cells] at hcs
    obtain ⟨rfl, rfl, rfl⟩ := hcs
    rw [if_pos rfl] at hz
    refine .inr ⟨b, fun i => zs.getD i 0, rfl, fun i hi => ?_⟩
    have hi' : i < zs.length := by omega
    have hm : zs.getD i 0 ∈ zs := by
      rw [List.getD_eq_getElem?_getD, List.getElem?_eq_getElem hi']
      exact List.getElem_mem hi'
    have hw := hwf _ hm
    have m1 : IntKind.u8.min = 0 := by decide
    have m2 : IntKind.u8.max = 255 := by decide
    simp only [Lit.wf, Bool.and_eq_true, decide_eq_true_eq, m1, m2] at hw
    show 0 ≤ zs.getD i 0 ∧ zs.getD i 0 < 256 ∧ _
    exact ⟨hw.1, by omega, hcell i hi'⟩

end Go.Proofs.Ytnkogheibofboaa
