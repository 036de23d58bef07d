/- Walks: the law of ReadComplex. No conditions. -/
import Derived.Test.YtnilpooheaaleaaDoorRc4
import Derived.Test.YtnilpooheaaleaaDoorRe5
namespace Go.Proofs.YtnilpooheaaleaaDoor.cx
open Go.RowKit
open hex (De)
open re (MaxLen drewN_below)
open row (Lists)
set_option maxRecDepth 8000

theorem list_len (l : List UInt8) : ((listOf l).getD []).length ≤ 256 := by
  cases h : listOf l with
  | none => simp
  | some xs => exact cut.readAll_length h
theorem list_small (l : List UInt8) : ∀ x ∈ (listOf l).getD [], Small x := by
  intro x hx
  unfold listOf cut.readAll at hx
  split at hx
  · cases hx
  · split at hx
    · rename_i h
      simp only [Option.getD_some, List.mem_map] at hx
      obtain ⟨p, hp, rfl⟩ := hx
      have h2 := List.all_eq_true.1 h.2 p hp
      cases hr : rdC p with
      | none => rw [hr] at h2; cases h2
      | some n => exact rdC_small hr
    · cases hx

set_option maxHeartbeats 4000000 in
theorem law_few (s : ByteArray) (hs : s.size ≤ 1048576) (w : World) (hH : dec.Held w) (hM : MaxLen w) (hD : De w) :
    Calls Tryd.prog 10 #[.string s] w fun e w' => e = .returned (.bool true) ∧ Below w.heap.size w w' := by
  have HS := spec_ReadComplex s hs w
  have HI := fun w' (hB : Below w.heap.size w w') => impl_ReadComplex s hs w' (hH.below hB) (hM.below hB) (nt.de_below hD hB)
  have hn := list_len s.data.toList
  have hsm := list_small s.data.toList
  generalize listOf s.data.toList = r at *
  unfold Lists at HS HI
  generalize r.isSome = ok at *
  generalize r.getD [] = xs at *
  have eok := dec.same_bool ok
  clear hH hM hD
  have hn2 : xs.length ≤ 1048576 := by omega
  have em : (((xs.length : Int) + 1) != ((xs.length : Int) + 1)) = false := by simp
  go_enter Tryd.func10, Tryd.ntmps10
  go_wp2_with (first | (go_at_call 33; refine HS.mono ?_; rintro e w1 ⟨vS, rfl, S1, B1⟩) | (go_at_call 34; refine (HI _ B1).mono ?_; rintro e w2 ⟨vG, rfl, G2, B2⟩; have S2 := row.Row.below S1 B2; have C2 := B1.trans (B2.mono B1.size)) | (go_at_call 35; refine (eq_rows hn2 hsm G2 S2).mono ?_; rintro e w3 ⟨rfl, m3, rfl⟩))
  have G3 := row.Row.drewN G2 m3
  have S3 := row.Row.drewN S2 m3
  have C3 := C2.trans ((drewN_below (w := w2) m3).mono C2.size)
  generalize w2.drewN m3 = w3 at *
  refine (mark_row hn G3).mono ?_
  rintro e w4 ⟨rfl, G4, gr⟩
  have S4 := row.Row.apart S1 (Nat.le_refl _) S3 G3 gr
  have C4 : Below w.heap.size w w4 := C3.grown gr C3.size (fun j hj => Nat.le_trans B1.size (G3.lt j hj).1)
  clear gr G3 S3 C3 G2 S2 C2 HS B2
  go_wp2_with (first | (go_at_call 37; refine (held_row hn G4).mono ?_; rintro e w5 ⟨rfl, rfl⟩) | (go_at_call 34; refine (HI _ C4).mono ?_; rintro e w6 ⟨vH, rfl, H6, B6⟩; have S6 := row.Row.below S4 B6; have G6 := row.Row.below G4 B6; have C6 := C4.trans (B6.mono C4.size); clear HI) | (go_at_call 35; refine (eq_rows hn2 hsm H6 S6).mono ?_; rintro e w7 ⟨rfl, m7, rfl⟩))
  refine (held_row hn (row.Row.drewN G6 m7)).mono ?_
  rintro e w8 ⟨rfl, rfl⟩
  go_wp2
  go_ret
  exact ⟨rfl, C6.trans ((drewN_below m7).mono C6.size)⟩

theorem law_ReadComplex (s : ByteArray) (_hs : s.size ≤ maxLen) (w : World) (hL : laidMetH Tryd.prog Rows.fnExactReadComplexRow.laid w) (hsh : w.ShapedOpen Tryd.prog) :
    Calls Tryd.prog 10 #[.string s] w fun e w' => e = .returned (.bool true) ∧ Below w.heap.size w w' := by
  have hH := dec.held_of_laid hL (by rfl) (by rfl) (by rfl)
  have hD : De w := nt.de_of_laid hL (by rfl)
  have hM : MaxLen w := Tryd.laysM146.s1_3 w hsh
  clear hL hsh
  by_cases hl : 1048576 < s.size
  · clear hH hM hD
    unfold maxLen at _hs
    go_enter Tryd.func10, Tryd.ntmps10
    go_wp2
    go_ret
    exact ⟨rfl, Below.refl _ _⟩
  · exact law_few s (by omega) w hH hM hD
end Go.Proofs.YtnilpooheaaleaaDoor.cx
