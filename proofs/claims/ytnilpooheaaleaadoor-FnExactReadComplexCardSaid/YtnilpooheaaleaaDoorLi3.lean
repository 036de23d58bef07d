/- Walks: texts of lists of 64-bit numbers: the program's side. No conditions. -/
import Derived.Test.YtnilpooheaaleaaDoorLi2
import Derived.Maps.AppendAt
namespace Go.Proofs.YtnilpooheaaleaaDoor.li
open Go.RowKit
set_option maxRecDepth 8000

theorem info_str : (Tryd.prog.info? 9).map (fun i => (i.zero, i.size, i.bytes)) = some (some (.string ByteArray.empty), 1, 16) := by kernel_rfl
def wordsB (k : Nat) (zs : Nat → Int) : List ByteArray := (List.range k).map fun i => ⟨(Lib.itoa (zs i)).toArray⟩
def wordsV (k : Nat) (zs : Nat → Int) : List Value := (wordsB k zs).map Value.string
theorem wordsB_length (k : Nat) (zs : Nat → Int) : (wordsB k zs).length = k := by simp [wordsB]
theorem wordsV_length (k : Nat) (zs : Nat → Int) : (wordsV k zs).length = k := by simp [wordsV, wordsB]
theorem wordsV_succ (k : Nat) (zs : Nat → Int) : wordsV (k + 1) zs = wordsV k zs ++ [.string ⟨(Lib.itoa (zs k)).toArray⟩] := by
  unfold wordsV wordsB
  rw [List.range_succ, List.map_append, List.map_append]
  rfl
theorem wordsB_lists (k : Nat) (zs : Nat → Int) : (wordsB k zs).map (·.data.toList) = words k zs := by
  unfold wordsB words
  rw [List.map_map]
  rfl

theorem grown_of_below {w w' : World} (h : Below w.heap.size w w') : w.grownBy w' none := ⟨h.os, h.tape, h.output, h.size, fun k hk _ => h.block k hk⟩
theorem own_below {w w' : World} {base : Nat} {e : TypeId} {size : Nat} {v : Value} {n : Nat} {xs : List Value} (h : w.ownsRow base e size v n xs) (hB : Below w.heap.size w w') : w'.ownsRow base e size v n xs :=
  h.kept (grown_of_below hB) (by cases hv : v.ownBlock <;> simp)
theorem own_cap {w : World} {base : Nat} {e : TypeId} {g cap k n : Nat} {xs : List Value} (h : w.ownsRow base e 1 (.slice (some ⟨g, 0, none⟩) k cap) n xs) : n ≤ cap ∧ g < w.heap.size := by
  refine ⟨?_, (h.lt g rfl).2⟩
  rcases h.2 with ⟨h1, _⟩ | ⟨g', cap', cur, h1, _, _, h2, _⟩
  · cases h1
  · cases h1
    exact h2
theorem join_cells {w : World} {base : Nat} {e : TypeId} {g k n cap : Nat} {bs : List ByteArray} (h : w.ownsRow base e 1 (.slice (some ⟨g, 0, none⟩) k cap) n (bs.map Value.string)) : ∀ (j : Nat) x, bs[j]? = some x → w.cell? ⟨g, 0 + j, none⟩ = some (.string x) := by
  intro j x hj
  have h1 := h.cells rfl j (.string x) (by rw [List.getElem?_map, hj]; rfl)
  rw [Addr.add_lit] at h1
  exact h1

set_option maxHeartbeats 2000000 in
theorem impl_join (n : Nat) (hn : n ≤ 64) (zs : Nat → Int) (b cap : Nat) (w : World) (hz : ∀ i, i < n → -1000000000000000 ≤ zs i ∧ zs i ≤ 1000000000000000)
    (hb : ∀ i, i < n → w.cell? ⟨b, i, none⟩ = some (.int .i64 (zs i))) (hT : Lib.TabIs Tryd.prog w "internal/strconv.uint64pow10" .u64 Lib.pow10Tab) :
    Calls Tryd.prog 45 #[.slice (some ⟨b, 0, none⟩) n cap, .func (.func 12) #[] #[]] w fun e w' => e = .returned (.string ⟨(text n zs).toArray⟩) ∧ Below w.heap.size w w' := by
  obtain ⟨iu, hiu, hzu, hsu, hbu⟩ := info_parts info_str
  have hlt0 : ∀ i, i < n → b < w.heap.size := fun i hi => World.block_lt_of_cell? _ _ (hb i hi)
  have HB := Lib.hid hb
  have HZ := Lib.hid hz
  have HT := Lib.hid hT
  clear hb hz hT
  by_cases h0 : n = 0
  · have HX := Lib.hid (show text n zs = [110, 111, 110, 101] by rw [text, if_pos h0])
    go_enter Tryd.func45, Tryd.ntmps45
    go_wp2
    go_ret
    exact ⟨by rw [HX.out]; rfl, Below.refl _ _⟩
  · have HX := Lib.hid (show text n zs = joined zs n by rw [text, if_neg h0])
    have hbl := hlt0 0 (by omega)
    clear hlt0
    have hD := fun k (hk : k < n) w' (hB : Below w.heap.size w w') => dec.impl_Decimal (zs k) (by have := HZ.out k hk; omega) (by have := HZ.out k hk; omega) w' (Lib.tabBelow_of_tabIs HT.out _ hB)
    have hn0 : ((n : Int) == 0) = false := by simp; omega
    go_enter Tryd.func45, Tryd.ntmps45
    go_wp2
    go_loopw [5, 7, 13] (fun v _ i wr => ∃ k : Nat, k ≤ n ∧ i = .int .i64 k ∧ wr.ownsRow w.heap.size 9 1 v k (wordsV k zs) ∧ Below w.heap.size w wr) (fun _ _ i _ => n - (intOf i).toNat)
    case atStart => exact ⟨0, Nat.zero_le _, rfl, World.ownsRow_nil _ _ _ _, Below.refl _ _⟩
    case round =>
      obtain ⟨k, hk, rfl, hown, bel⟩ := hrel
      by_cases hlt : k < n
      · have cb := (bel.cell (p := ⟨b, k, none⟩) hbl).trans (HB.out k hlt)
        have hDk := hD k hlt _ bel
        have HS := Lib.hid (wordsV_succ k zs)
        generalize (⟨(Lib.itoa (zs k)).toArray⟩ : ByteArray) = S at *
        generalize zs k = z at *
        clear hD
        go_wp2_with (first | (go_at_call 12; refine hDk.mono ?_; rintro e w1 ⟨rfl, B1⟩; have own1 := own_below hown B1; have bel1 := bel.trans (B1.mono bel.size)) | (refine wpList_append_own _ rfl _ _ _ rfl w.heap.size 9 iu _ 1 16 Tryd.underlying80 hiu hzu hsu hbu rfl (by decide) _ k _ rfl (own1.alloc _) _ 1 _ [.string S] rfl rfl (cell_one_new _ _ _) (by simp [Value.oneCell']) (by unfold maxLen; omega) (by omega) (Nat.le_trans bel1.size (by simp)) ?_; intro v2 w2 o2 g2 _))
        have bel2 := (Below.alloc bel1 bel1.size _).grown g2 (Nat.le_trans bel1.size (by simp)) (fun j hj => (own1.lt j hj).1)
        go_roundw
        case rel => exact ⟨k + 1, by omega, by go_num, by rw [HS.out]; exact o2, bel2⟩
        case measure => simp [intOf]; omega
      · have : k = n := by omega
        subst this
        obtain ⟨g, cp, rfl⟩ := dec.own_shape hown h0
        have hJ := Any.strings_Join Tryd.lays156 Tryd.extra156 g 0 cp (wordsB k zs) ⟨#[44]⟩ wr (join_cells hown) (own_cap hown).2 (by rw [wordsB_length]; omega) (by rw [wordsB_length]; exact (own_cap hown).1)
          (by rw [wordsB_lists]; have h1 := joined_len HZ.out k (by omega) (Nat.le_refl _); unfold joined at h1; change (Lib.join (words k zs) [44]).length ≤ _; omega)
        rw [wordsB_length, wordsB_lists] at hJ
        change Calls Tryd.prog 72 _ _ (fun e w' => e = .returned (.string ⟨(joined zs k).toArray⟩) ∧ _) at hJ
        obtain ⟨t, ht⟩ : ∃ t, joined zs k = t := ⟨_, rfl⟩
        rw [ht] at hJ
        have HY := Lib.hid (HX.out.trans ht)
        clear hD hown ht HX
        go_wp2_with (go_at_call 72; refine hJ.mono ?_; rintro e w1 ⟨rfl, B1⟩)
        go_ret
        exact ⟨by rw [HY.out]; rfl, bel.trans (B1.mono bel.size)⟩
end Go.Proofs.YtnilpooheaaleaaDoor.li
