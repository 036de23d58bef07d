/- Walks: the bits of a number in hexadecimal. No conditions. -/
import Derived.Test.YtnilpooheaaleaaDoorHb
import Derived.Test.YtnilpooheaaleaaDoorSn
import Derived.Test.YtnilpooheaaleaaDoorWu
namespace Go.Proofs.YtnilpooheaaleaaDoor.hex
open Go.RowKit
set_option maxRecDepth 8000

theorem format_int (u : Nat) (hu : u < 4294967296) (w : World) (hD : De w) :
    Calls Tryd.prog 63 #[.int .i64 (u : Int), .int .i64 16] w fun e w' => e = .returned (.string ⟨(digits u).toArray⟩) ∧ Below w.heap.size w w' := by
  have hF := format_bits u hu w hD
  generalize (⟨(digits u).toArray⟩ : ByteArray) = t at *
  have hu2 : (u : Int) < 4294967296 := by omega
  clear hD hu
  go_enter Tryd.func63, Tryd.ntmps63
  go_wp2_with (go_at_call 88; refine hF.mono ?_; rintro e w' ⟨rfl, hB⟩)
  go_ret
  exact ⟨rfl, hB⟩
theorem format_pub (u : Nat) (hu : u < 4294967296) (w : World) (hD : De w) :
    Calls Tryd.prog 39 #[.int .i64 (u : Int), .int .i64 16] w fun e w' => e = .returned (.string ⟨(digits u).toArray⟩) ∧ Below w.heap.size w w' := by
  have hF := format_int u hu w hD
  generalize (⟨(digits u).toArray⟩ : ByteArray) = t at *
  clear hD hu
  go_enter Tryd.func39, Tryd.ntmps39
  go_wp2_with (go_at_call 63; refine hF.mono ?_; rintro e w' ⟨rfl, hB⟩)
  go_ret
  exact ⟨rfl, hB⟩

set_option maxHeartbeats 400000 in
theorem bits_of (x : Nat) (X : Option Nat) (hx : Ab .f32 x X) (w : World) :
    Calls Tryd.prog 74 #[.float .f32 x] w fun e w' => e = .returned (.int .i64 (bitsA X)) ∧ w = w' := by
  have e := neq_self hx
  have hl := le32 hx
  cases X with
  | none =>
    have e' : cmpA .neq .f32 none none = true := by simpa using e
    clear e
    go_enter Tryd.func74, Tryd.ntmps74
    go_wp2_with (first | (refine fl_arith rfl _ _ _ _ _ rfl rfl _ _ _ rfl rfl ?_; intro r n hr0; have hr := hr0 _ _ (by first | assumption | exact Ab.lit rfl (by decide)) (by first | assumption | exact Ab.lit rfl (by decide)); clear hr0) | (refine fl_cmp rfl _ _ _ _ _ rfl rfl _ _ _ rfl rfl ?_; intro b hb0; have hb := hb0 _ _ (by first | assumption | exact Ab.lit rfl (by decide)) (by first | assumption | exact Ab.lit rfl (by decide)); clear hb0; (try simp only [*] at hb); subst hb) | (refine fl_same rfl _ _ _ rfl _ _ rfl rfl rfl ?_) | (refine fl_wide rfl _ _ _ rfl _ rfl rfl rfl ?_; intro r n hr0; have hr := hr0 _ (by first | assumption | exact Ab.lit rfl (by decide)); clear hr0) | (refine fl_narrow rfl _ _ _ rfl _ rfl rfl rfl ?_; intro r n hl hr0; have hr := hr0 _ (by first | assumption | exact Ab.lit rfl (by decide)) (by assumption); clear hr0 hl) | (refine fl_neg rfl _ _ rfl _ _ rfl ?_; intro r hr0; have hr := hr0 _ (by first | assumption | exact Ab.lit rfl (by decide)); clear hr0) | go_in)
    go_ret
    exact ⟨rfl, rfl⟩
  | some b =>
    obtain ⟨rfl, _⟩ := hx.of_some
    have e' : cmpA .neq .f32 (some x) (some x) = false := by simpa using e
    clear e
    go_enter Tryd.func74, Tryd.ntmps74
    go_wp2_with (first | (refine fl_arith rfl _ _ _ _ _ rfl rfl _ _ _ rfl rfl ?_; intro r n hr0; have hr := hr0 _ _ (by first | assumption | exact Ab.lit rfl (by decide)) (by first | assumption | exact Ab.lit rfl (by decide)); clear hr0) | (refine fl_cmp rfl _ _ _ _ _ rfl rfl _ _ _ rfl rfl ?_; intro b hb0; have hb := hb0 _ _ (by first | assumption | exact Ab.lit rfl (by decide)) (by first | assumption | exact Ab.lit rfl (by decide)); clear hb0; (try simp only [*] at hb); subst hb) | (refine fl_same rfl _ _ _ rfl _ _ rfl rfl rfl ?_) | (refine fl_wide rfl _ _ _ rfl _ rfl rfl rfl ?_; intro r n hr0; have hr := hr0 _ (by first | assumption | exact Ab.lit rfl (by decide)); clear hr0) | (refine fl_narrow rfl _ _ _ rfl _ rfl rfl rfl ?_; intro r n hl hr0; have hr := hr0 _ (by first | assumption | exact Ab.lit rfl (by decide)) (by assumption); clear hr0 hl) | (refine fl_neg rfl _ _ rfl _ _ rfl ?_; intro r hr0; have hr := hr0 _ (by first | assumption | exact Ab.lit rfl (by decide)); clear hr0) | go_in)
    go_ret
    exact ⟨rfl, rfl⟩

/-- The word of a number's bits. -/
def wordA (X : Option Nat) : Nat := X.getD 2143289344
theorem bitsA_word (X : Option Nat) : bitsA X = ((wordA X : Nat) : Int) := by cases X <;> rfl
theorem word_lt {x : Nat} {X : Option Nat} (h : Ab .f32 x X) : wordA X < 4294967296 := by
  cases X with
  | none => decide
  | some b => obtain ⟨rfl, _⟩ := h.of_some; exact width32 h
/-- The text of a number. -/
def textA (X : Option Nat) : List UInt8 := lasts 8 (wordA X)
theorem textA_length (X : Option Nat) : (textA X).length = 8 := lasts_length 8 _

theorem rep (c : Nat) : Lib.repeatL [48] c = List.replicate c 48 := by
  have h := Lib.repeatL_replicate 48 1 c
  simpa using h
theorem join_two (J I : List UInt8) : (⟨J.toArray⟩ ++ ⟨I.toArray⟩ : ByteArray) = ⟨(J ++ I).toArray⟩ := by
  apply ByteArray.ext
  simp [ByteArray.data_append]

set_option maxHeartbeats 1000000 in
theorem bits_text (x : Nat) (X : Option Nat) (hx : Ab .f32 x X) (w : World) (hD : De w) :
    Calls Tryd.prog 50 #[.float .f32 x] w fun e w' => e = .returned (.string ⟨(textA X).toArray⟩) ∧ Below w.heap.size w w' := by
  have hB := fun w' => bits_of x X hx w'
  have hu := word_lt hx
  rw [bitsA_word] at hB
  obtain ⟨hp1, hp2⟩ := pad 8 (wordA X) (by decide) hu
  have hF := format_pub (wordA X) hu w hD
  have hdl := digits_pos (wordA X)
  have HT := Lib.hid (show textA X = List.replicate (8 - (digits (wordA X)).length) 48 ++ digits (wordA X) from hp2.symm)
  have hR := fun w' => Any.strings_Repeat Tryd.lays105 Tryd.extra105 ⟨#[48]⟩ (8 - (digits (wordA X)).length) w' (by omega) (by show 1 * _ ≤ _; omega)
  change ∀ w', Calls Tryd.prog 75 _ _ (fun e w'' => e = .returned (.string ⟨(Lib.repeatL [48] (8 - (digits (wordA X)).length)).toArray⟩) ∧ _) at hR
  rw [rep] at hR
  clear hp2 hD hx hu
  generalize digits (wordA X) = D at *
  generalize wordA X = u at *
  have hc : (8 : Int) - (D.length : Int) = ((8 - D.length : Nat) : Int) := by omega
  generalize hk : 8 - D.length = k at *
  go_enter Tryd.func50, Tryd.ntmps50
  go_wp2_with (first | (go_at_call 74; refine (hB _).mono ?_; rintro e w' ⟨rfl, rfl⟩) | (go_at_call 39; refine hF.mono ?_; rintro e w1 ⟨rfl, hB1⟩) | (go_at_call 75; (try rw [hc]); refine (hR _).mono ?_; rintro e w2 ⟨rfl, hB2⟩))
  go_ret
  exact ⟨by rw [HT.out, ← join_two]; rfl, hB1.trans (hB2.mono hB1.size)⟩
end Go.Proofs.YtnilpooheaaleaaDoor.hex
