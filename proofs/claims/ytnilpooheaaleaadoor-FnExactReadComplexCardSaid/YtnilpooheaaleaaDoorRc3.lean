/- Walks: the complex numbers of a list with a text: the reference's side. No conditions. -/
import Derived.Test.YtnilpooheaaleaaDoorRc2
namespace Go.Proofs.YtnilpooheaaleaaDoor.cx
open Go.RowKit
open hex (dg lasts rdBits Own Not8)
open li (own_below)
open re (strs part_cell)
open row (Lists lists_none lists_some vals vals_succ vals_length vals_all)
open fl (Upto digit_of letter_of bad_byte not_own not_long)
set_option maxRecDepth 8000

theorem first_part (q : ByteArray) : (q.extract 0 8).data.toList = q.data.toList.take 8 := by rw [Lib.extract_data]; simp
theorem rest_part (q : ByteArray) : (q.extract 8 q.size).data.toList = q.data.toList.drop 8 := by
  rw [Lib.extract_data, List.take_of_length_le]
  simp
theorem first_size (q : ByteArray) (h : q.size = 16) : (q.extract 0 8).size = 8 := by rw [ByteArray.size_extract]; omega
theorem rest_size (q : ByteArray) (h : q.size = 16) : (q.extract 8 q.size).size = 8 := by rw [ByteArray.size_extract]; omega

set_option maxRecDepth 100000 in
set_option maxHeartbeats 1000000 in
theorem spec_cread (s : ByteArray) (hs : s.size ≤ 1048576) (w : World) :
    Calls Tryd.prog 59 #[.string s] w (Lists 68 cval (listOf s.data.toList) w) := by
  obtain ⟨iu, hiu, hzu, hsu, hbu⟩ := info_parts info_c
  by_cases h0 : s.data.toList = [110, 111, 110, 101]
  · have HN := Lib.hid (cut.readAll_none (rd := rdC) (z := (0, 0)) (most := 256) h0)
    have he : (s.toList == [110, 111, 110, 101]) = true := by rw [Lib.toList_data, h0]; rfl
    go_enter Tryd.func59, Tryd.ntmps59
    go_wp2
    go_ret2
    exact lists_some HN.out (World.ownsRow_lit w #[] 0 (Nat.le_refl _) (by decide) rfl) ((Below.refl _ _).alloc (Nat.le_refl _) _)
  · have he : (s.toList == [110, 111, 110, 101]) = false := by rw [Lib.toList_data]; simpa using h0
    have hcut := fun w' => re.spec_cut s hs w'
    obtain ⟨ps, hps⟩ : ∃ ps, cut.cut s.data.toList = ps := ⟨_, rfl⟩
    rw [hps] at hcut
    have HP := Lib.hid hps
    by_cases hm : 256 < ps.length
    · have HN := Lib.hid (cut.readAll_many (rd := rdC) (z := (0, 0)) (most := 256) h0 (by rw [hps]; exact hm))
      clear hps
      go_enter Tryd.func59, Tryd.ntmps59
      go_wp2_with ((go_at_call 78; refine (hcut _).mono ?_; rintro e w' ⟨g, cap, rfl, hO, hB⟩))
      go_ret2
      exact lists_none HN.out (((Below.refl _ _).alloc (Nat.le_refl _) _).trans (hB.mono (by simp)))
    · clear hps
      go_enter Tryd.func59, Tryd.ntmps59
      go_wp2_with (go_at_call 78; refine (hcut _).mono ?_; rintro e w1 ⟨gp, capp, rfl, hO, hB⟩)
      have hgp : w.heap.size < gp := by have h1 := (hO.lt gp rfl).1; simp at h1; omega
      have bel1 : Below w.heap.size w w1 := ((Below.refl _ _).alloc (Nat.le_refl _) _).trans (hB.mono (by simp))
      have hR0 : Row w1 w.heap.size (.slice (some ⟨w.heap.size, 0, none⟩) 0 0) [] := own_below (World.ownsRow_lit w #[] 0 (Nat.le_refl _) (by decide) rfl) hB
      have HO := Lib.hid (show w1.ownsRow (w.heap.size + 1) 9 1 (.slice (some ⟨gp, 0, none⟩) ps.length capp) ps.length (strs ps) by
        have h := hO
        rw [show (w.alloc (.cells #[] 68)).heap.size = w.heap.size + 1 by simp] at h
        exact h)
      clear hO
      go_loopw [4, 6, 7, 8, 9, 10] (fun v i _ _ _ _ wr => ∃ (g cap k : Nat), v = .slice (some ⟨g, 0, none⟩) k cap ∧ k ≤ ps.length ∧ i = .int .i64 k ∧ g ≠ gp ∧ Row wr w.heap.size v (vals val ps k) ∧ wr.ownsRow (w.heap.size + 1) 9 1 (.slice (some ⟨gp, 0, none⟩) ps.length capp) ps.length (strs ps) ∧ Below w.heap.size w wr ∧ ∀ (j : Nat) p, j < k → ps[j]? = some p → (rdC p).isSome = true) (fun _ i _ _ _ _ _ => ps.length - (intOf i).toNat)
      case atStart => exact ⟨w.heap.size, 0, 0, rfl, Nat.zero_le _, rfl, by omega, hR0, HO.out, bel1, fun j p hj => absurd hj (Nat.not_lt_zero j)⟩
      case round =>
        obtain ⟨g, cap, k, rfl, hk, rfl, hne, hR, hO, bel, hall⟩ := hrel
        have HA := Lib.hid hall
        clear hall hB hR0 bel1
        by_cases hlt : k < ps.length
        · obtain ⟨p, hp⟩ : ∃ p, ps[k]? = some p := ⟨_, List.getElem?_eq_getElem hlt⟩
          have hc := part_cell hO k p hp
          have HPk := Lib.hid hp
          have hq : p = (cut.mk p).data.toList := rfl
          have hqs : (cut.mk p).size = p.length := rfl
          clear hp
          generalize cut.mk p = q at *
          by_cases h16 : p.length = 16
          · rw [h16] at hqs
            have hqs8 : ((q.size : Int) != 16) = false := by rw [hqs]; rfl
            have hqi : (q.size : Int) = 16 := by omega
            have hD1 := fun w' => spec_digits (q.extract 0 8) (first_size q hqs) w'
            have hD2 := fun w' => spec_digits (q.extract 8 q.size) (rest_size q hqs) w'
            rw [first_part, ← hq] at hD1
            rw [rest_part, ← hq] at hD2
            have hle8 : (8 : Int) ≤ (q.size : Int) := by omega
            clear hqs hq
            cases r1 : rdBits (p.take 8) with
            | none =>
              have HN := Lib.hid (cut.readAll_bad (rd := rdC) (z := (0, 0)) (most := 256) h0 (by rw [HP.out]; exact HPk.out) (rdC_no1 r1))
              rw [r1] at hD1
              unfold told at hD1 hD2
              dsimp only [Option.getD_none, Option.isSome_none] at hD1
              generalize (rdBits (p.drop 8)).getD 0 = y2 at hD2
              generalize (rdBits (p.drop 8)).isSome = o2 at hD2
              clear r1
              go_wp2_with (first | (go_at_call 84; (with_reducible_and_instances refine Calls.mono (hD1 _) ?_); rintro e w' ⟨rfl, rfl⟩) | (go_at_call 84; (with_reducible_and_instances refine Calls.mono (hD2 _) ?_); rintro e w' ⟨rfl, rfl⟩))
              go_ret2
              exact lists_none HN.out bel
            | some n1 =>
              cases r2 : rdBits (p.drop 8) with
              | none =>
                have HN := Lib.hid (cut.readAll_bad (rd := rdC) (z := (0, 0)) (most := 256) h0 (by rw [HP.out]; exact HPk.out) (rdC_no2 r2))
                rw [r1] at hD1
                rw [r2] at hD2
                unfold told at hD1 hD2
                dsimp only [Option.getD_none, Option.isSome_none, Option.getD_some, Option.isSome_some] at hD1 hD2
                clear r1 r2
                go_wp2_with (first | (go_at_call 84; (with_reducible_and_instances refine Calls.mono (hD1 _) ?_); rintro e w' ⟨rfl, rfl⟩) | (go_at_call 84; (with_reducible_and_instances refine Calls.mono (hD2 _) ?_); rintro e w' ⟨rfl, rfl⟩))
                go_ret2
                exact lists_none HN.out bel
              | some n2 =>
                have hr : rdC p = some (n1, n2) := rdC_yes h16 r1 r2
                have HS := Lib.hid (show vals val ps (k + 1) = vals val ps k ++ [(n1, n2)] by rw [vals_succ val ps k p HPk.out, val, hr]; rfl)
                have HK := Lib.hid (show ∀ (j : Nat) q, j < k + 1 → ps[j]? = some q → (rdC q).isSome = true from fun j q hj hq => by
                  by_cases h : j = k
                  · subst h
                    rw [HPk.out] at hq
                    injection hq with hq
                    subst hq
                    rw [hr]
                    rfl
                  · exact HA.out j q (by omega) hq)
                have hvl := vals_length val ps k hk
                have hR2 : wr.ownsRow w.heap.size 68 1 (.slice (some ⟨g, 0, none⟩) k cap) k ((vals val ps k).map cval) := by
                  have h := hR
                  unfold Row row.Row at h
                  rw [hvl] at h
                  exact h
                rw [r1] at hD1
                rw [r2] at hD2
                unfold told at hD1 hD2
                dsimp only [Option.getD_some, Option.isSome_some] at hD1 hD2
                clear r1 r2 hr h16
                go_wp2_with (first | (go_at_call 84; (with_reducible_and_instances refine Calls.mono (hD1 _) ?_); rintro e w' ⟨rfl, rfl⟩) | (go_at_call 84; (with_reducible_and_instances refine Calls.mono (hD2 _) ?_); rintro e w' ⟨rfl, rfl⟩) | (refine wpList_append_own_at _ rfl _ _ _ rfl w.heap.size 68 iu _ 1 8 Tryd.underlying44 hiu hzu hsu hbu rfl (by decide) (.slice (some ⟨g, 0, none⟩) k cap) k _ rfl (hR2.alloc _) _ 1 _ [.complex .f32 n1 n2] rfl rfl (cell_one_new _ _ _) (by simp [Value.oneCell']) (by unfold maxLen; omega) (by omega) (Nat.le_trans bel.size (by simp)) ?_; intro v3 w3 o3 g3 _ at3))
                obtain ⟨gg, cc, rfl⟩ := dec.own_shape o3 (by omega)
                have bel3 := (Below.alloc bel bel.size (.cells #[.complex .f32 n1 n2] 68)).grown g3 (Nat.le_trans bel.size (by simp)) (fun j hj => (hR2.lt j hj).1)
                have hne3 : gg ≠ gp := by
                  have hl := (hO.lt gp rfl).2
                  rcases at3 with h | h
                  · simp [Value.ownBlock] at h; omega
                  · simp [Value.ownBlock] at h; omega
                have hO3 := (hO.alloc (.cells #[.complex .f32 n1 n2] 68)).kept g3 (.inr (by simp [Value.ownBlock]; omega))
                have hR3 : Row w3 w.heap.size (.slice (some ⟨gg, 0, none⟩) (k + 1) cc) (vals val ps (k + 1)) := by
                  unfold Row row.Row
                  rw [vals_length val ps (k + 1) (by omega), HS.out, List.map_append]
                  exact o3
                go_roundw
                case rel => exact ⟨gg, cc, k + 1, rfl, by omega, by go_num, hne3, hR3, hO3, bel3, HK.out⟩
                case measure => simp [intOf]; omega
          · have HN := Lib.hid (cut.readAll_bad (rd := rdC) (z := (0, 0)) (most := 256) h0 (by rw [HP.out]; exact HPk.out) (rdC_long h16))
            have hqs8 : ((q.size : Int) != 16) = true := by
              have : ¬ (q.size : Int) = 16 := by omega
              simpa using this
            clear hq hqs h16
            go_wp2
            go_ret2
            exact lists_none HN.out bel
        · obtain rfl : k = ps.length := by omega
          have HN := Lib.hid (show listOf s.data.toList = some (vals val ps ps.length) by
            rw [vals_all, ← HP.out]
            exact cut.readAll_good h0 (by rw [HP.out]; omega) fun j p hj => HA.out j p (by rw [← HP.out]; exact (List.getElem?_eq_some_iff.1 hj).1) (by rw [← HP.out]; exact hj))
          go_wp2
          go_ret2
          exact lists_some HN.out hR bel
end Go.Proofs.YtnilpooheaaleaaDoor.cx
