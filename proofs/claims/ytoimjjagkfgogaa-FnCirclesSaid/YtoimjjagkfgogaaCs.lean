/- Tenths of decibels of products of eighths: all. No conditions. -/
import Derived.Test.YtoimjjagkfgogaaCr0
import Derived.Test.YtoimjjagkfgogaaCr1
import Derived.Test.YtoimjjagkfgogaaCr2
import Derived.Test.YtoimjjagkfgogaaCr3
import Derived.Test.YtoimjjagkfgogaaCr4
import Derived.Test.YtoimjjagkfgogaaCr5
import Derived.Test.YtoimjjagkfgogaaCr6
import Derived.Test.YtoimjjagkfgogaaCr7
namespace Go.Proofs.Ytoimjjagkfgogaa.fast
open Ieee

/-! Where an eighth lies in the table. -/
def posT : List Nat := [0, 1, 8, 2, 15, 9, 21, 3, 26, 16, 31, 10, 36, 22, 40, 4, 44, 27, 48, 17, 52, 32, 56, 11, 60, 37, 64, 23, 67, 41, 70, 5, 73, 45, 76, 28, 79, 49, 82, 18, 85, 53, 88, 33, 91, 57, 94, 12, 97, 61, 100, 38, 102, 65, 104, 24, 106, 68, 108, 42, 110, 71, 112, 6, 114, 74, 116, 46, 118, 77, 120, 29, 122, 80, 124, 50, 126, 83, 128, 19, 130, 86, 132, 54, 134, 89, 136, 34, 138, 92, 140, 58, 142, 95, 144, 13, 146, 98, 148, 62, 150, 101, 151, 39, 152, 103, 153, 66, 154, 105, 155, 25, 156, 107, 157, 69, 158, 109, 159, 43, 160, 111, 161, 72, 162, 113, 163, 7, 164, 115, 165, 75, 166, 117, 167, 47, 168, 119, 169, 78, 170, 121, 171, 30, 172, 123, 173, 81, 174, 125, 175, 51, 176, 127, 177, 84, 178, 129, 179, 20, 180, 131, 181, 87, 182, 133, 183, 55, 184, 135, 185, 90, 186, 137, 187, 35, 188, 139, 189, 93, 190, 141, 191, 59, 192, 143, 193, 96, 194, 145, 195, 14, 196, 147, 197, 99, 198, 149, 199, 63]
def pos (i : Nat) : Nat := posT.getD i 0
theorem pos_lt : ∀ i, i < 200 → pos i < 200 := by decide +kernel
def entry (i : Nat) : Nat × Nat × Nat := tab.getD (pos i) (0, 0, 0)
noncomputable def oneOk (i : Nat) : Bool :=
  (opA .quo .f32 (some (floatOfInt .f32 (1 + (i : Int)))) (some 1090519040) == some (entry i).2.1) && ok32 (entry i).2.1 &&
  force (i + 1) fun P => force (log2N P) fun l => force (sel (Nat.ble (Nat.mul 3 (Nat.pow 2 l)) (Nat.mul 2 P)) (Nat.succ l) l) fun kk => force (kk - 3) fun a => force (3 - kk) fun b =>
  Nat.ble kk 12 && chk (fun o => Nat.beq o (entry i).2.2) (entry i).2.1 a b (elT.getD (a + 6 - b) 0)
theorem one_all : ∀ i, i < 200 → oneOk i = true := by decide +kernel
theorem tab_length : tab.length = 200 := by decide +kernel
theorem entry_at (i : Nat) (h : i < 200) : tab[pos i]? = some (entry i) := by
  have hl : pos i < tab.length := by rw [tab_length]; exact pos_lt i h
  unfold entry
  rw [List.getD_eq_getElem?_getD, List.getElem?_eq_getElem hl]
  rfl
theorem one_spec (i : Nat) (h : i < 200) : opA .quo .f32 (some (floatOfInt .f32 (1 + (i : Int)))) (some 1090519040) = some (entry i).2.1 ∧ ok32 (entry i).2.1 = true ∧ Tenths (entry i).2.1 (entry i).2.2 := by
  have h1 := one_all i h
  unfold oneOk at h1
  simp only [force_eq, Bool.and_eq_true, beq_iff_eq] at h1
  obtain ⟨⟨h2, h3⟩, h4, h5⟩ := h1
  refine ⟨h2, h3, ?_⟩
  generalize sel (Nat.ble (Nat.mul 3 (Nat.pow 2 (log2N (i + 1)))) (Nat.mul 2 (i + 1))) (Nat.succ (log2N (i + 1))) (log2N (i + 1)) = kk at *
  have h4 := ble_le h4
  have hel := el_all (kk - 3 + 6 - (3 - kk)) (by omega)
  have e : ((kk - 3 + 6 - (3 - kk) : Nat) : Int) - 6 = ((kk - 3 : Nat) : Int) - ((3 - kk : Nat) : Int) := by omega
  rw [e] at hel
  obtain ⟨o, k1, k2⟩ := chk_spec hel h5
  have k3 : o = (entry i).2.2 := Nat.eq_of_beq_eq_true k1
  rw [← k3]
  exact k2
theorem part {lo n i j : Nat} {s t : Nat × Nat × Nat} (h : rows n (tab.drop lo) = true) (h1 : lo ≤ i) (h2 : i < lo + n) (hij : i ≤ j) (hs : tab[i]? = some s) (ht : tab[j]? = some t) : pairOk s t = true := by
  refine rows_spec n _ h (i - lo) (j - lo) (by omega) (by omega) s t ?_ ?_
  · rw [List.getElem?_drop, show lo + (i - lo) = i by omega]; exact hs
  · rw [List.getElem?_drop, show lo + (j - lo) = j by omega]; exact ht
theorem pair_up (i j : Nat) (hi : i < 200) (hj : j < 200) (hij : pos i ≤ pos j) : pairOk (entry i) (entry j) = true := by
  have hs := entry_at i hi
  have ht := entry_at j hj
  have hp := pos_lt i hi
  have hc : (0 ≤ pos i ∧ pos i < 31) ∨ (31 ≤ pos i ∧ pos i < 52) ∨ (52 ≤ pos i ∧ pos i < 73) ∨ (73 ≤ pos i ∧ pos i < 97) ∨ (97 ≤ pos i ∧ pos i < 116) ∨ (116 ≤ pos i ∧ pos i < 140) ∨ (140 ≤ pos i ∧ pos i < 161) ∨ (161 ≤ pos i ∧ pos i < 200) := by omega
  rcases hc with ⟨c1, c2⟩ | ⟨c1, c2⟩ | ⟨c1, c2⟩ | ⟨c1, c2⟩ | ⟨c1, c2⟩ | ⟨c1, c2⟩ | ⟨c1, c2⟩ | ⟨c1, c2⟩
  · exact part (lo := 0) (n := 31) rows_0 (by omega) (by omega) hij hs ht
  · exact part (lo := 31) (n := 21) rows_1 (by omega) (by omega) hij hs ht
  · exact part (lo := 52) (n := 21) rows_2 (by omega) (by omega) hij hs ht
  · exact part (lo := 73) (n := 24) rows_3 (by omega) (by omega) hij hs ht
  · exact part (lo := 97) (n := 19) rows_4 (by omega) (by omega) hij hs ht
  · exact part (lo := 116) (n := 24) rows_5 (by omega) (by omega) hij hs ht
  · exact part (lo := 140) (n := 21) rows_6 (by omega) (by omega) hij hs ht
  · exact part (lo := 161) (n := 39) rows_7 (by omega) (by omega) hij hs ht
theorem mul32_comm (x y : Nat) : mul32 x y = mul32 y x := by
  unfold mul32
  simp only [force_eq]
  rw [show Nat.mul (mg32 (rn32 x)) (mg32 (rn32 y)) = Nat.mul (mg32 (rn32 y)) (mg32 (rn32 x)) from Nat.mul_comm _ _, show Nat.add (pl32 (rn32 x)) (pl32 (rn32 y)) = Nat.add (pl32 (rn32 y)) (pl32 (rn32 x)) from Nat.add_comm _ _, Bool.xor_comm]
/-- The tenths of two eighths and of their product. -/
theorem pair_spec (i j : Nat) (hi : i < 200) (hj : j < 200) : ∃ p o, opA .mul .f32 (some (entry i).2.1) (some (entry j).2.1) = some p ∧ Tenths p o ∧ (entry i).2.2 + (entry j).2.2 ≤ o + 1001 ∧ o + 999 ≤ (entry i).2.2 + (entry j).2.2 := by
  have e := mul32_eq (one_spec i hi).2.1 (one_spec j hj).2.1
  rcases Nat.le_total (pos i) (pos j) with h | h
  · obtain ⟨o, o1, o2, o3⟩ := pairOk_spec (pair_up i j hi hj h)
    exact ⟨_, o, e, o3, o1, o2⟩
  · obtain ⟨o, o1, o2, o3⟩ := pairOk_spec (pair_up j i hj hi h)
    rw [mul32_comm] at o3
    exact ⟨_, o, e, o3, by omega, by omega⟩
theorem chk_one : chk (fun o => Nat.beq o 1000) 1065353216 0 0 (elT.getD 6 0) = true := by decide +kernel
theorem tenths_one : Tenths 1065353216 1000 := by
  obtain ⟨o, k1, k2⟩ := chk_spec (a := 0) (b := 0) (el_all 6 (by decide)) chk_one
  have k3 : o = 1000 := Nat.eq_of_beq_eq_true k1
  rw [← k3]
  exact k2
end Go.Proofs.Ytoimjjagkfgogaa.fast
