/- Walks: texts of lists of 32-bit numbers. No conditions. -/
import Derived.Test.YtnilpooheaaleaaDoorHd
import Derived.Test.YtnilpooheaaleaaDoorLi4
import Derived.Test.YtnilpooheaaleaaDoorWf
namespace Go.Proofs.YtnilpooheaaleaaDoor.nt
open Go.RowKit
open hex (textA De)
open li (join_three own_below info_str own_cap join_cells told told_no told_yes)
set_option maxRecDepth 8000

theorem gD : Tryd.prog.globalNamed "math/bits.deBruijn64tab" = some 7 := by kernel_rfl
theorem gDType : (Tryd.prog.globals[7]?).map (·.type) = some 157 := by kernel_rfl
def tab64 : List Int := [0, 1, 56, 2, 57, 49, 28, 3, 61, 58, 42, 50, 38, 29, 17, 4, 62, 47, 59, 36, 45, 43, 51, 22, 53, 39, 33, 30, 24, 18, 12, 5, 63, 55, 48, 27, 60, 41, 37, 16, 46, 35, 44, 21, 52, 32, 23, 11, 54, 26, 40, 15, 34, 20, 31, 10, 25, 14, 19, 9, 13, 8, 7, 6]
theorem de_of_laid {W : World} {l : List (String × DataW Unit)} (h : laidMetH Tryd.prog l W) (hl : l.filter (fun x => x.1 == "math/bits.deBruijn64tab") = [("math/bits.deBruijn64tab", Lib.tabData .u8 tab64)]) : De W := by
  have h1 := h.filter (fun x => x.1 == "math/bits.deBruijn64tab")
  rw [hl, MakeChecks.laidMetH_plain _ _ _ (by kernel_rfl)] at h1
  have h2 := Lib.tabIs_of_head gD gDType Tryd.underlying157 Tryd.underlying5 (by kernel_rfl) (by kernel_rfl) h1
  exact Lib.TabIs.cell h2 gD 15 (by decide)
theorem de_below {W w : World} (h : De W) (hB : Below W.heap.size W w) : De w := (hB.cell (p := ⟨7, 15, none⟩) (World.block_lt_of_cell? _ _ h)).trans h

def words (n : Nat) (Z : Nat → Option Nat) : List (List UInt8) := (List.range n).map fun i => textA (Z i)
/-- The first k words, with commas between. -/
def joined (Z : Nat → Option Nat) (k : Nat) : List UInt8 := Lib.join (words k Z) [44]
def text (n : Nat) (Z : Nat → Option Nat) : List UInt8 := if n = 0 then [110, 111, 110, 101] else joined Z n

theorem words_succ (Z : Nat → Option Nat) (k : Nat) : words (k + 1) Z = words k Z ++ [textA (Z k)] := by
  unfold words
  rw [List.range_succ, List.map_append]
  rfl
theorem words_length (Z : Nat → Option Nat) (k : Nat) : (words k Z).length = k := by simp [words]
theorem joined_one (Z : Nat → Option Nat) : joined Z 1 = textA (Z 0) := by
  unfold joined
  rw [words_succ]
  exact Lib.join_one _ _
theorem joined_succ (Z : Nat → Option Nat) (k : Nat) (hk : 1 ≤ k) : joined Z (k + 1) = joined Z k ++ (44 :: textA (Z k)) := by
  unfold joined
  rw [words_succ]
  obtain ⟨x, r, e⟩ : ∃ x r, words k Z = x :: r := by
    cases h : words k Z with
    | nil => have := words_length Z k; rw [h] at this; simp at this; omega
    | cons x r => exact ⟨x, r, rfl⟩
  rw [e, List.cons_append, Lib.join_cons, Lib.join_cons]
  simp [Lib.joinTail]
theorem joined_len (Z : Nat → Option Nat) : ∀ k, (joined Z k).length ≤ 9 * k := by
  intro k
  induction k with
  | zero => simp [joined, words, Lib.join_nil]
  | succ k ih =>
    have h2 := hex.textA_length (Z k)
    by_cases h0 : k = 0
    · subst h0
      rw [joined_one]
      omega
    · rw [joined_succ Z k (by omega), List.length_append, List.length_cons]
      omega

set_option maxHeartbeats 1000000 in
theorem spec_text (n : Nat) (hn : n ≤ 256) (xs : Nat → Nat) (Z : Nat → Option Nat) (hx : ∀ i, i < n → Ab .f32 (xs i) (Z i)) (b cap : Nat) (w : World)
    (hb : ∀ i, i < n → w.cell? ⟨b, i, none⟩ = some (.float .f32 (xs i))) :
    Calls Tryd.prog 47 #[.slice (some ⟨b, 0, none⟩) n cap] w fun e w' => e = .returned (.string ⟨(text n Z).toArray⟩) ∧ Below w.heap.size w w' := by
  have hlt0 : ∀ i, i < n → b < w.heap.size := fun i hi => World.block_lt_of_cell? _ _ (hb i hi)
  have HB := Lib.hid hb
  have hD := fun k (hk : k < n) w' => hex.spec_hex (xs k) (Z k) (hx k hk) w'
  clear hb hx
  by_cases h0 : n = 0
  · have HT := Lib.hid (show text n Z = [110, 111, 110, 101] by rw [text, if_pos h0])
    go_enter Tryd.func47, Tryd.ntmps47
    go_wp2
    go_ret
    exact ⟨by rw [HT.out]; rfl, Below.refl _ _⟩
  · have HT := Lib.hid (show text n Z = joined Z n by rw [text, if_neg h0])
    have cb := HB.out 0 (by omega)
    have hbl := hlt0 0 (by omega)
    clear hlt0
    have hD0 := fun w' => hD 0 (by omega) w'
    rw [← joined_one] at hD0
    generalize xs 0 = z0 at *
    go_enter Tryd.func47, Tryd.ntmps47
    go_wp2_with ((go_at_call 73; refine (hD0 _).mono ?_; rintro e w' ⟨rfl, B0⟩))
    go_loopw [3, 4] (fun s i wr => ∃ k : Nat, 1 ≤ k ∧ k ≤ n ∧ i = .int .i64 k ∧ s = .string ⟨(joined Z k).toArray⟩ ∧ Below w.heap.size w wr) (fun _ i _ => n - (intOf i).toNat)
    case atStart => exact ⟨1, Nat.le_refl _, by omega, rfl, rfl, by assumption⟩
    case round =>
      obtain ⟨k, hk1, hk, rfl, rfl, bel⟩ := hrel
      by_cases hlt : k < n
      · have cb := (bel.cell (p := ⟨b, k, none⟩) hbl).trans (HB.out k hlt)
        have hDk := fun w' => hD k hlt w'
        have HS := Lib.hid (joined_succ Z k hk1)
        have hlen := joined_len Z k
        have hlen2 := hex.textA_length (Z k)
        generalize joined Z k = J at *
        generalize textA (Z k) = I at *
        generalize xs k = z at *
        go_wp2_with ((go_at_call 73; refine (hDk _).mono ?_; rintro e w' ⟨rfl, B1⟩))
        exact ⟨⟨k + 1, by omega, by omega, by go_num, by rw [HS.out, join_three], bel.trans (B1.mono bel.size)⟩, by simp [intOf]; omega⟩
      · have : k = n := by omega
        subst this
        clear hD hD0
        go_wp2
        go_ret
        exact ⟨by rw [HT.out]; rfl, bel⟩

theorem spec_few (n : Nat) (v : Option Addr) (cap : Nat) (w : World) : Calls Tryd.prog 46 #[.slice v n cap] w fun e w' => e = .returned (.bool (decide (n ≤ 256))) ∧ w = w' := by
  go_enter Tryd.func46, Tryd.ntmps46
  go_wp2
  go_ret
  exact ⟨by simp; omega, rfl⟩
theorem impl_few (n : Nat) (v : Option Addr) (cap : Nat) (w : World) : Calls Tryd.prog 48 #[.slice v n cap] w fun e w' => e = .returned (.bool (decide (n ≤ 256))) ∧ w = w' := by
  go_enter Tryd.func48, Tryd.ntmps48
  go_wp2
  go_ret
  exact ⟨by simp; omega, rfl⟩

set_option maxHeartbeats 1000000 in
theorem spec_NumbersText (n : Nat) (xs : Nat → Nat) (Z : Nat → Option Nat) (hx : ∀ i, i < n → Ab .f32 (xs i) (Z i)) (b cap : Nat) (w : World)
    (hb : ∀ i, i < n → w.cell? ⟨b, i, none⟩ = some (.float .f32 (xs i))) :
    Calls Tryd.prog 19 #[.slice (some ⟨b, 0, none⟩) n cap] w fun e w' => e = .returned (told (decide (n ≤ 256)) (text n Z)) ∧ Below w.heap.size w w' := by
  have hL := fun w' => spec_few n (some ⟨b, 0, none⟩) cap w'
  by_cases h : n ≤ 256
  · have HT := Lib.hid (told_yes (text n Z) (decide_eq_true h))
    have hX := spec_text n h xs Z hx b cap w hb
    rw [decide_eq_true h] at hL HT
    rw [decide_eq_true h]
    generalize text n Z = t at *
    clear hb hx
    go_enter Tryd.func19, Tryd.ntmps19
    go_wp2_with (first | (go_at_call 46; refine (hL _).mono ?_; rintro e w' ⟨rfl, rfl⟩) | (go_at_call 47; refine (hX).mono ?_; rintro e w' ⟨rfl, hB⟩))
    go_ret2
    exact ⟨by rw [HT.out]; rfl, hB⟩
  · have HT := Lib.hid (told_no (text n Z) (decide_eq_false h))
    rw [decide_eq_false h] at hL HT
    rw [decide_eq_false h]
    clear hb hx
    go_enter Tryd.func19, Tryd.ntmps19
    go_wp2_with ((go_at_call 46; refine (hL _).mono ?_; rintro e w' ⟨rfl, rfl⟩))
    go_ret2
    exact ⟨by rw [HT.out]; rfl, Below.refl _ _⟩

def wordsB (k : Nat) (Z : Nat → Option Nat) : List ByteArray := (List.range k).map fun i => ⟨(textA (Z i)).toArray⟩
def wordsV (k : Nat) (Z : Nat → Option Nat) : List Value := (wordsB k Z).map Value.string
theorem wordsB_length (k : Nat) (Z : Nat → Option Nat) : (wordsB k Z).length = k := by simp [wordsB]
theorem wordsV_succ (k : Nat) (Z : Nat → Option Nat) : wordsV (k + 1) Z = wordsV k Z ++ [.string ⟨(textA (Z k)).toArray⟩] := by
  unfold wordsV wordsB
  rw [List.range_succ, List.map_append, List.map_append]
  rfl
theorem wordsB_lists (k : Nat) (Z : Nat → Option Nat) : (wordsB k Z).map (·.data.toList) = words k Z := by
  unfold wordsB words
  rw [List.map_map]
  rfl

set_option maxHeartbeats 2000000 in
theorem impl_join (n : Nat) (hn : n ≤ 256) (xs : Nat → Nat) (Z : Nat → Option Nat) (hx : ∀ i, i < n → Ab .f32 (xs i) (Z i)) (b cap : Nat) (w : World)
    (hb : ∀ i, i < n → w.cell? ⟨b, i, none⟩ = some (.float .f32 (xs i))) (hT : De w) :
    Calls Tryd.prog 49 #[.slice (some ⟨b, 0, none⟩) n cap, .func (.func 50) #[] #[]] w fun e w' => e = .returned (.string ⟨(text n Z).toArray⟩) ∧ Below w.heap.size w w' := by
  obtain ⟨iu, hiu, hzu, hsu, hbu⟩ := info_parts info_str
  have hlt0 : ∀ i, i < n → b < w.heap.size := fun i hi => World.block_lt_of_cell? _ _ (hb i hi)
  have HB := Lib.hid hb
  have HT := Lib.hid hT
  have hD := fun k (hk : k < n) w' (hB : Below w.heap.size w w') => hex.bits_text (xs k) (Z k) (hx k hk) w' (de_below HT.out hB)
  clear hb hT hx
  by_cases h0 : n = 0
  · have HX := Lib.hid (show text n Z = [110, 111, 110, 101] by rw [text, if_pos h0])
    go_enter Tryd.func49, Tryd.ntmps49
    go_wp2
    go_ret
    exact ⟨by rw [HX.out]; rfl, Below.refl _ _⟩
  · have HX := Lib.hid (show text n Z = joined Z n by rw [text, if_neg h0])
    have hbl := hlt0 0 (by omega)
    clear hlt0
    have hn0 : ((n : Int) == 0) = false := by simp; omega
    go_enter Tryd.func49, Tryd.ntmps49
    go_wp2
    go_loopw [5, 7, 13] (fun v _ i wr => ∃ k : Nat, k ≤ n ∧ i = .int .i64 k ∧ wr.ownsRow w.heap.size 9 1 v k (wordsV k Z) ∧ Below w.heap.size w wr) (fun _ _ i _ => n - (intOf i).toNat)
    case atStart => exact ⟨0, Nat.zero_le _, rfl, World.ownsRow_nil _ _ _ _, Below.refl _ _⟩
    case round =>
      obtain ⟨k, hk, rfl, hown, bel⟩ := hrel
      by_cases hlt : k < n
      · have cb := (bel.cell (p := ⟨b, k, none⟩) hbl).trans (HB.out k hlt)
        have hDk := hD k hlt _ bel
        have HS := Lib.hid (wordsV_succ k Z)
        generalize (⟨(textA (Z k)).toArray⟩ : ByteArray) = S at *
        generalize xs k = z at *
        clear hD
        go_wp2_with (first | (go_at_call 50; refine hDk.mono ?_; rintro e w1 ⟨rfl, B1⟩; have own1 := own_below hown B1; have bel1 := bel.trans (B1.mono bel.size)) | (refine wpList_append_own _ rfl _ _ _ rfl w.heap.size 9 iu _ 1 16 Tryd.underlying80 hiu hzu hsu hbu rfl (by decide) _ k _ rfl (own1.alloc _) _ 1 _ [.string S] rfl rfl (cell_one_new _ _ _) (by simp [Value.oneCell']) (by unfold maxLen; omega) (by omega) (Nat.le_trans bel1.size (by simp)) ?_; intro v2 w2 o2 g2 _))
        have bel2 := (Below.alloc bel1 bel1.size _).grown g2 (Nat.le_trans bel1.size (by simp)) (fun j hj => (own1.lt j hj).1)
        go_roundw
        case rel => exact ⟨k + 1, by omega, by go_num, by rw [HS.out]; exact o2, bel2⟩
        case measure => simp [intOf]; omega
      · have : k = n := by omega
        subst this
        obtain ⟨g, cp, rfl⟩ := dec.own_shape hown h0
        have hJ := Any.strings_Join Tryd.lays156 Tryd.extra156 g 0 cp (wordsB k Z) ⟨#[44]⟩ wr (join_cells hown) (own_cap hown).2 (by rw [wordsB_length]; omega) (by rw [wordsB_length]; exact (own_cap hown).1)
          (by rw [wordsB_lists]; have h1 := joined_len Z k; unfold joined at h1; change (Lib.join (words k Z) [44]).length ≤ _; omega)
        rw [wordsB_length, wordsB_lists] at hJ
        change Calls Tryd.prog 72 _ _ (fun e w' => e = .returned (.string ⟨(joined Z k).toArray⟩) ∧ _) at hJ
        obtain ⟨t, ht⟩ : ∃ t, joined Z k = t := ⟨_, rfl⟩
        rw [ht] at hJ
        have HY := Lib.hid (HX.out.trans ht)
        clear hD hown ht HX
        go_wp2_with (go_at_call 72; refine hJ.mono ?_; rintro e w1 ⟨rfl, B1⟩)
        go_ret
        exact ⟨by rw [HY.out]; rfl, bel.trans (B1.mono bel.size)⟩

set_option maxHeartbeats 1000000 in
theorem impl_NumbersText (n : Nat) (xs : Nat → Nat) (Z : Nat → Option Nat) (hx : ∀ i, i < n → Ab .f32 (xs i) (Z i)) (b cap : Nat) (w : World)
    (hb : ∀ i, i < n → w.cell? ⟨b, i, none⟩ = some (.float .f32 (xs i))) (hT : De w) :
    Calls Tryd.prog 21 #[.slice (some ⟨b, 0, none⟩) n cap] w fun e w' => e = .returned (told (decide (n ≤ 256)) (text n Z)) ∧ Below w.heap.size w w' := by
  have hL := fun w' => impl_few n (some ⟨b, 0, none⟩) cap w'
  by_cases h : n ≤ 256
  · have HT := Lib.hid (told_yes (text n Z) (decide_eq_true h))
    have hX := impl_join n h xs Z hx b cap w hb hT
    rw [decide_eq_true h] at hL HT
    rw [decide_eq_true h]
    generalize text n Z = t at *
    clear hb hx hT
    go_enter Tryd.func21, Tryd.ntmps21
    go_wp2_with (first | (go_at_call 48; refine (hL _).mono ?_; rintro e w' ⟨rfl, rfl⟩) | (go_at_call 49; refine (hX).mono ?_; rintro e w' ⟨rfl, hB⟩))
    go_ret2
    exact ⟨by rw [HT.out]; rfl, hB⟩
  · have HT := Lib.hid (told_no (text n Z) (decide_eq_false h))
    rw [decide_eq_false h] at hL HT
    rw [decide_eq_false h]
    clear hb hx hT
    go_enter Tryd.func21, Tryd.ntmps21
    go_wp2_with ((go_at_call 48; refine (hL _).mono ?_; rintro e w' ⟨rfl, rfl⟩))
    go_ret2
    exact ⟨by rw [HT.out]; rfl, Below.refl _ _⟩

theorem law_many (v : Option Addr) (n cap : Nat) (hn : 1048576 < n) (w : World) :
    Calls Tryd.prog 6 #[.slice v n cap] w fun e w' => e = .returned (.bool true) ∧ Below w.heap.size w w' := by
  go_enter Tryd.func6, Tryd.ntmps6
  go_wp2
  go_ret
  exact ⟨rfl, Below.refl _ _⟩

set_option maxHeartbeats 2000000 in
theorem law_few (a : Option Addr) (n cap : Nat) (xs : Nat → Nat) (wx : ∀ i, i < n → (Lit.float .f32 (xs i)).wf = true) (w : World) (hL : Leads w (.slice a n cap) n fun i => .float .f32 (xs i)) (hn : n ≤ 1048576) (hT : De w) :
    Calls Tryd.prog 6 #[.slice a n cap] w fun e w' => e = .returned (.bool true) ∧ Below w.heap.size w w' := by
  have hx : ∀ i, i < n → Ab .f32 (xs i) (ab .f32 (xs i)) := fun i hi => Ab.of_wf (wx i hi)
  clear wx
  generalize hZ : (fun i => ab .f32 (xs i)) = Z
  have hx' : ∀ i, i < n → Ab .f32 (xs i) (Z i) := by subst hZ; exact hx
  clear hZ hx
  have HS := fun b w' hb' => spec_NumbersText n xs Z hx' b n w' hb'
  have HI := fun b w' hb' (hB : Below w.heap.size w w') => impl_NumbersText n xs Z hx' b n w' hb' (de_below hT hB)
  have HE := fun b c w' hb' hc' => eq_f32 n hn xs xs Z hx' hx' b c n n w' hb' hc'
  have HK := fun w' h' => copy_f32 (.slice a n cap) n hn xs w' h'
  have HL := Lib.hid hL
  unfold told at HS HI
  generalize (⟨(if decide (n ≤ 256) then text n Z else []).toArray⟩ : ByteArray) = t at HS HI
  generalize decide (n ≤ 256) = ok at HS HI
  have eok := same_bool ok
  have et := li.same_text t
  clear hL hx' hT
  go_enter Tryd.func6, Tryd.ntmps6
  go_wp2_with (first | (go_at_call 20; (with_reducible_and_instances refine Calls.mono (HK w ?_) ?_); (next => exact HL.out); rintro e w' ⟨rfl, M1, B1⟩) | (go_at_call 19; (with_reducible_and_instances refine Calls.mono (HS _ _ ?_) ?_); (next => exact fun i hi => M1.cell hi); rintro e w' ⟨rfl, S1⟩; have B2 := B1.trans (S1.mono B1.size)) | (go_at_call 20; (with_reducible_and_instances refine Calls.mono (HK _ ?_) ?_); (next => (with_reducible exact HL.out.kept B2)); rintro e w' ⟨rfl, M3, B3⟩; have B4 := B2.trans (B3.mono B2.size)) | (go_at_call 21; (with_reducible_and_instances refine Calls.mono (HI _ _ ?_ ?_) ?_); (next => exact fun i hi => M3.cell hi); (next => exact B4); rintro e w' ⟨rfl, S5⟩; have B5 := B4.trans (S5.mono B4.size); have M5 := M3.kept S5 M3.lt) | (go_at_call 20; (with_reducible_and_instances refine Calls.mono (HK _ ?_) ?_); (next => (with_reducible exact HL.out.kept B5)); rintro e w' ⟨rfl, M6, B6⟩; have B7 := B5.trans (B6.mono B5.size); have M7 := M5.kept B6 M5.lt) | (go_at_call 22; (with_reducible_and_instances refine Calls.mono (HE _ _ _ ?_ ?_) ?_); (next => exact fun i hi => M7.cell hi); (next => exact fun i hi => M6.cell hi); rintro e w' ⟨rfl, m4, rfl⟩))
  go_ret
  exact ⟨rfl, B7.trans ((li.drewN_below _).mono B7.size)⟩

theorem law_NumbersText (a : Option Addr) (n cap : Nat) (xs : Nat → Nat) (wx : ∀ i, i < n → (Lit.float .f32 (xs i)).wf = true) (w : World) (hL : Leads w (.slice a n cap) n fun i => .float .f32 (xs i))
    (hT : laidMetH Tryd.prog Rows.fnExactNumbersTextRow.laid w) :
    Calls Tryd.prog 6 #[.slice a n cap] w fun e w' => e = .returned (.bool true) ∧ Below w.heap.size w w' := by
  rcases Nat.lt_or_ge 1048576 n with h | h
  · exact law_many a n cap h w
  · exact law_few a n cap xs wx w hL h (de_of_laid hT (by rfl))

section
open Go.ChangeShapes
variable {H : Type} {enc : TypeId × Value → H} {P : Program} {w : World} {base : Nat} {spare : Nat → Bool} {held : Bool}
theorem trod_float {t : TypeId} {k : FloatKind} {fuel : Nat} {v : Value} {x : DataW H × List MemPlace} (ht : P.underlying t = some (.float k)) (h : DataW.trod enc P w base spare held fuel t [v] = some x) :
    ∃ b, v = .float k b ∧ x = (.lit (.float k b), []) ∧ (Lit.float k b).wf = true := by
  cases fuel with
  | zero => simp [DataW.trod] at h
  | succ n =>
    unfold DataW.trod at h
    rw [ht] at h
    split at h <;> simp_all
/-- A list of 32-bit numbers that came in. -/
theorem leads_of_trod {t e : TypeId} {a : Option Addr} {n cap : Nat} {d : DataW H} {p : List MemPlace} (ht : P.underlying t = some (.slice e)) (he : P.underlying e = some (.float .f32)) (hc : P.cellsOf e = 1)
    (h : DataW.Trod enc P w base (fun _ => true) held t (.slice a n cap) d p) : ∃ xs : Nat → Nat, (∀ i, i < n → (Lit.float .f32 (xs i)).wf = true) ∧ Leads w (.slice a n cap) n fun i => .float .f32 (xs i) := by
  obtain ⟨fuel, hf⟩ := h
  rcases Deep.open_slice1 ht hc hf with ⟨hcs, _⟩ | ⟨b, len, c, m, q, V, D, Pl, hcs, hb, hl, hm, hmm, hx, hall⟩
  · simp [Value.cells] at hcs
    obtain ⟨rfl, rfl, rfl⟩ := hcs
    exact ⟨fun _ => 0, fun i hi => absurd hi (Nat.not_lt_zero i), Nat.zero_le _, .inl ⟨rfl, rfl⟩⟩
  · simp [Value.cells] at hcs
    obtain ⟨rfl, rfl, rfl⟩ := hcs
    have each : ∀ i, ∃ z, i < n → w.cell? (b.add i) = some (.float .f32 z) ∧ (Lit.float .f32 z).wf = true := fun i => by
      by_cases hi : i < n
      · have hi' : i < m := by simp at hmm; omega
        obtain ⟨h1, h2⟩ := hall i hi'
        obtain ⟨z, hz, _, hw⟩ := trod_float he h2
        exact ⟨z, fun _ => ⟨by rw [h1, hz], hw⟩⟩
      · exact ⟨0, fun h => absurd h hi⟩
    obtain ⟨xs, hxs⟩ := Classical.axiomOfChoice each
    refine ⟨xs, fun i hi => (hxs i hi).2, Nat.le_trans hl hm, ?_⟩
    by_cases hn : n = 0
    · exact .inr (.inl ⟨b, cap, rfl, hn⟩)
    · refine .inr (.inr ⟨b, cap, rfl, ?_, fun i hi => (hxs i hi).1⟩)
      have h0 := (hxs 0 (by omega)).1
      have e : b.add 0 = b := by simp [Addr.add]
      rw [e] at h0
      rcases Nat.lt_or_ge b.block w.heap.size with h | h
      · exact h
      · have : w.heap[b.block]? = none := Array.getElem?_eq_none h
        simp [World.cell?, this] at h0
end
end Go.Proofs.YtnilpooheaaleaaDoor.nt
