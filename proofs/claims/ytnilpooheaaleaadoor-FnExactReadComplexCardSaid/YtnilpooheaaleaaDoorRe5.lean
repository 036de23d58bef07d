/- Walks: the law of ReadList. No conditions. -/
import Derived.Test.YtnilpooheaaleaaDoorRe4
namespace Go.Proofs.YtnilpooheaaleaaDoor.re
open Go.RowKit
open cut (readAll)
open li (own_below)
set_option maxRecDepth 8000

theorem list_len (l : List UInt8) : ((listOf l).getD []).length ≤ 64 := by
  cases h : listOf l with
  | none => simp
  | some xs => exact cut.readAll_length h
theorem row_below {w w' : World} {base : Nat} {v : Value} {xs : List Int} (h : Row w base v xs) (hB : Below w.heap.size w w') : Row w' base v xs := own_below h hB
theorem row_apart {w w' w0 : World} {b1 b2 : Nat} {v1 v2 : Value} {xs ys : List Int} (h1 : Row w0 b1 v1 xs) (hs : w0.heap.size ≤ b2) (h : Row w b1 v1 xs) (h2 : Row w b2 v2 ys) (hG : w.grownBy w' v2.ownBlock) : Row w' b1 v1 xs := by
  refine World.ownsRow.kept h hG ?_
  cases e : v1.ownBlock with
  | none => exact .inl rfl
  | some k =>
    refine .inr fun e2 => ?_
    have l1 := (h1.lt k e).2
    have l2 := (h2.lt k e2.symm).1
    omega
theorem drewN_below {w : World} (m : Nat) : Below w.heap.size w (w.drewN m) := ⟨rfl, rfl, rfl, Nat.le_refl _, fun _ _ => rfl⟩
theorem row_drewN {w : World} {base : Nat} {v : Value} {xs : List Int} (h : Row w base v xs) (m : Nat) : Row (w.drewN m) base v xs := h

set_option maxHeartbeats 4000000 in
theorem law_few (s : ByteArray) (hs : s.size ≤ 1048576) (w : World) (hH : dec.Held w) (hM : MaxLen w) :
    Calls Tryd.prog 8 #[.string s] w fun e w' => e = .returned (.bool true) ∧ Below w.heap.size w w' := by
  have HS := spec_ReadList s hs w
  have HI := fun w' (hB : Below w.heap.size w w') => impl_ReadList s hs w' (hH.below hB) (hM.below hB)
  have hn := list_len s.data.toList
  generalize listOf s.data.toList = r at *
  unfold Lists at HS HI
  generalize r.isSome = ok at *
  generalize r.getD [] = xs at *
  have eok := dec.same_bool ok
  clear hH hM
  have hn2 : xs.length ≤ 1048576 := by omega
  have em : (((xs.length : Int) + 1) != ((xs.length : Int) + 1)) = false := by simp
  go_enter Tryd.func8, Tryd.ntmps8
  go_wp2_with (first | (go_at_call 25; refine HS.mono ?_; rintro e w1 ⟨vS, rfl, S1, B1⟩) | (go_at_call 26; refine (HI _ B1).mono ?_; rintro e w2 ⟨vG, rfl, G2, B2⟩; have S2 := row_below S1 B2; have C2 := B1.trans (B2.mono B1.size)) | (go_at_call 18; refine (eq_rows hn2 G2 S2).mono ?_; rintro e w3 ⟨rfl, m3, rfl⟩))
  have G3 := row_drewN G2 m3
  have S3 := row_drewN S2 m3
  have C3 := C2.trans ((drewN_below (w := w2) m3).mono C2.size)
  generalize w2.drewN m3 = w3 at *
  refine (mark_row hn2 G3).mono ?_
  rintro e w4 ⟨rfl, G4, gr⟩
  have S4 := row_apart S1 (Nat.le_refl _) S3 G3 gr
  have C4 : Below w.heap.size w w4 := C3.grown gr C3.size (fun j hj => Nat.le_trans B1.size (G3.lt j hj).1)
  clear gr G3 S3 C3 G2 S2 C2 HS B2
  go_wp2_with (first | (go_at_call 28; refine (held_row hn2 G4).mono ?_; rintro e w5 ⟨rfl, rfl⟩) | (go_at_call 26; refine (HI _ C4).mono ?_; rintro e w6 ⟨vH, rfl, H6, B6⟩; have S6 := row_below S4 B6; have G6 := row_below G4 B6; have C6 := C4.trans (B6.mono C4.size); clear HI) | (go_at_call 18; refine (eq_rows hn2 H6 S6).mono ?_; rintro e w7 ⟨rfl, m7, rfl⟩))
  refine (held_row hn2 (row_drewN G6 m7)).mono ?_
  rintro e w8 ⟨rfl, rfl⟩
  go_wp2
  go_ret
  exact ⟨rfl, C6.trans ((drewN_below m7).mono C6.size)⟩

theorem law_ReadList (s : ByteArray) (_hs : s.size ≤ maxLen) (w : World) (hL : laidMetH Tryd.prog Rows.fnExactReadListRow.laid w) (hsh : w.ShapedOpen Tryd.prog) :
    Calls Tryd.prog 8 #[.string s] w fun e w' => e = .returned (.bool true) ∧ Below w.heap.size w w' := by
  have hH := dec.held_of_laid hL (by rfl) (by rfl) (by rfl)
  have hM : MaxLen w := Tryd.laysM146.s1_3 w hsh
  clear hL hsh
  by_cases hl : 1048576 < s.size
  · clear hH hM
    unfold maxLen at _hs
    go_enter Tryd.func8, Tryd.ntmps8
    go_wp2
    go_ret
    exact ⟨rfl, Below.refl _ _⟩
  · exact law_few s (by omega) w hH hM
end Go.Proofs.YtnilpooheaaleaaDoor.re
