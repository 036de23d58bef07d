/- Walks: the numbers of a list with a text: the program's side. No conditions. -/
import Derived.Test.YtnilpooheaaleaaDoorRe3
import Derived.Test.YtnilpooheaaleaaDoorSm
import Derived.Deep.Onto
namespace Go.Proofs.YtnilpooheaaleaaDoor.re
open Go.RowKit
open cut (mk cutB readAll)
open dcp (readDec)
open li (own_below info_str info_i64)
set_option maxRecDepth 8000

/-- internal/bytealg.MaxLen holds some number. -/
def MaxLen (w : World) : Prop := ∃ m, w.cell? ⟨Tryd.laysM146_ren.g 1, 0, none⟩ = some (.int .i64 m)
theorem MaxLen.below {W w : World} (h : MaxLen W) (hB : Below W.heap.size W w) : MaxLen w := by
  obtain ⟨m, hm⟩ := h
  exact ⟨m, (hB.cell (p := ⟨Tryd.laysM146_ren.g 1, 0, none⟩) (World.block_lt_of_cell? _ _ hm)).trans hm⟩

theorem count_eq (s : ByteArray) : Lib.countB s ⟨#[44]⟩ + 1 = (cut.cut s.data.toList).length := by
  have h := Lib.splitB_all ⟨#[44]⟩ (by decide) 0 _ s rfl
  rw [cut.splitB_cutB] at h
  rw [← h]
  simp [cutB]
theorem split_to (s : ByteArray) (hs : s.size ≤ 1048576) (w : World) (hm : MaxLen w) :
    Calls Tryd.prog 79 #[.string s, .string ⟨#[44]⟩] w fun e w' => e = .returned (.slice (some ⟨w.heap.size, 0, none⟩) (cut.cut s.data.toList).length (cut.cut s.data.toList).length) ∧
      w'.ownsRow w.heap.size 9 1 (.slice (some ⟨w.heap.size, 0, none⟩) (cut.cut s.data.toList).length (cut.cut s.data.toList).length) (cut.cut s.data.toList).length (strs (cut.cut s.data.toList)) ∧ w'.heap.size = w.heap.size + 1 ∧ Below w.heap.size w w' := by
  obtain ⟨m, hm⟩ := hm
  have hcon := Any.strings_Split { Tryd.laysM146 with } Tryd.laysM146.i9 s ⟨#[44]⟩ m w (by omega) hm (by decide)
  rw [cut.splitB_cutB, count_eq] at hcon
  change Calls Tryd.prog 79 _ _ _ at hcon
  refine hcon.mono ?_
  rintro e w' ⟨rfl, rfl⟩
  have hlen : (cut.cut s.data.toList).length ≤ maxLen := by
    have := cut.cut_count s.data.toList
    have e : s.data.toList.length = s.size := by simp
    unfold maxLen; omega
  refine ⟨rfl, ?_, by simp, (Below.refl _ _).alloc (Nat.le_refl _) _⟩
  have h := World.ownsRow_lit (e := 9) (size := 1) (base := w.heap.size) w ((cutB s).map Value.string).toArray (cut.cut s.data.toList).length (Nat.le_refl _) hlen (by simp [cutB])
  have e2 : ((cutB s).map Value.string).toArray.toList = strs (cut.cut s.data.toList) := by
    simp [cutB, strs]
  rw [e2] at h
  exact h

set_option maxHeartbeats 4000000 in
theorem impl_texts (s : ByteArray) (hs : s.size ≤ 1048576) (w : World) (hH : dec.Held w) (hM : MaxLen w) :
    Calls Tryd.prog 55 #[.string s, .int .i64 64, .func (.func 24) #[] #[]] w (Lists (listOf s.data.toList) w) := by
  obtain ⟨iu, hiu, hzu, hsu, hbu⟩ := info_parts info_i64
  by_cases h0 : s.data.toList = [110, 111, 110, 101]
  · have HN := Lib.hid (cut.readAll_none (rd := readDec) (z := 0) (most := 64) h0)
    have he : (s.toList == [110, 111, 110, 101]) = true := by rw [Lib.toList_data, h0]; rfl
    clear hH hM
    go_enter Tryd.func55, Tryd.ntmps55
    go_wp2
    go_ret2
    exact lists_some HN.out (row_nil _ _) (Below.refl _ _)
  · have he : (s.toList == [110, 111, 110, 101]) = false := by rw [Lib.toList_data]; simpa using h0
    have hcut := split_to s hs w hM
    obtain ⟨ps, hps⟩ : ∃ ps, cut.cut s.data.toList = ps := ⟨_, rfl⟩
    have hle := cut.cut_le s.data.toList
    have hcnt := cut.cut_count s.data.toList
    rw [hps] at hcut hle hcnt
    have esz : s.data.toList.length = s.size := by simp
    have HP := Lib.hid hps
    have HLE := Lib.hid hle
    have HH := Lib.hid hH
    clear hps hle hH hM
    go_enter Tryd.func55, Tryd.ntmps55
    go_wp2_with (go_at_call 79; refine hcut.mono ?_; rintro e w1 ⟨rfl, hO, hz, hB⟩)
    have HO := Lib.hid hO
    clear hO
    go_loopw [8, 10, 11, 12, 18] (fun v _ _ _ i wr => ∃ (k : Nat) (c : Option Addr) (cp : Nat), v = .slice c k cp ∧ k ≤ ps.length ∧ k ≤ 64 ∧ i = .int .i64 k ∧ wr.ownsRow (w.heap.size + 1) 2 1 v k (ints (vals ps k)) ∧ Below w1.heap.size w1 wr ∧ ∀ (j : Nat) p, j < k → ps[j]? = some p → (readDec p).isSome = true) (fun _ _ _ _ i _ => ps.length - (intOf i).toNat)
    case atStart => exact ⟨0, none, 0, rfl, Nat.zero_le _, Nat.zero_le _, rfl, World.ownsRow_nil _ _ _ _, Below.refl _ _, fun j p hj => absurd hj (Nat.not_lt_zero j)⟩
    case round =>
      obtain ⟨k, c, cp, rfl, hk, hk64, rfl, hR, bel, hall⟩ := hrel
      have HA := Lib.hid hall
      clear hall
      have belw : Below w.heap.size w wr := hB.trans (bel.mono hB.size)
      by_cases hlt : k < ps.length
      · obtain ⟨p, hp⟩ : ∃ p, ps[k]? = some p := ⟨_, List.getElem?_eq_getElem hlt⟩
        have hc0 := part_cell HO.out k p hp
        have hc := (bel.cell (p := ⟨w.heap.size, k, none⟩) (by show w.heap.size < w1.heap.size; omega)).trans hc0
        have hsz := HLE.out p (List.mem_of_getElem? hp)
        have hV := dec.impl_ReadDecimal (mk p) (by rw [show (mk p).size = p.length from rfl]; omega) wr (HH.out.below belw)
        rw [cut.data_mk] at hV
        unfold dec.ans at hV
        have HPk := Lib.hid hp
        clear hp hc0
        cases hr : readDec p with
        | none =>
          have HN := Lib.hid (cut.readAll_bad (rd := readDec) (z := 0) (most := 64) h0 (by rw [HP.out]; exact HPk.out) hr)
          rw [hr] at hV
          clear hr
          go_wp2_with ((go_at_call 24; refine (hV).mono ?_; rintro e w' ⟨rfl, hB2⟩))
          go_ret2
          exact lists_none HN.out (belw.trans (hB2.mono belw.size))
        | some x =>
          rw [hr] at hV
          by_cases h64 : k = 64
          · have HN := Lib.hid (cut.readAll_many (rd := readDec) (z := 0) (most := 64) h0 (by rw [HP.out]; omega))
            subst h64
            clear hr
            go_wp2_with ((go_at_call 24; refine (hV).mono ?_; rintro e w' ⟨rfl, hB2⟩))
            go_ret2
            exact lists_none HN.out (belw.trans (hB2.mono belw.size))
          · have HS := Lib.hid (show vals ps (k + 1) = vals ps k ++ [x] by rw [vals_succ ps k p HPk.out, val, hr]; rfl)
            have HK := Lib.hid (show ∀ (j : Nat) q, j < k + 1 → ps[j]? = some q → (readDec q).isSome = true from fun j q hj hq => by
              by_cases h : j = k
              · subst h
                rw [HPk.out] at hq
                injection hq with hq
                subst hq
                rw [hr]
                rfl
              · exact HA.out j q (by omega) hq)
            have hkk : ((k : Int) == 64) = false := by simp; omega
            clear hr
            go_wp2_with (first | (go_at_call 24; refine hV.mono ?_; rintro e w2 ⟨rfl, hB2⟩; have hR2 := own_below hR hB2; have bel2 := bel.trans (hB2.mono bel.size)) | (refine wpList_append_own _ rfl _ _ _ rfl (w.heap.size + 1) 2 iu _ 1 8 Tryd.underlying25 hiu hzu hsu hbu rfl (by decide) (.slice c k cp) k _ rfl (hR2.alloc _) _ 1 _ [.int .i64 x] rfl rfl (cell_one_new _ _ _) (by simp [Value.oneCell']) (by unfold maxLen; omega) (by omega) (by have := bel2.size; simp; omega) ?_; intro v3 w3 o3 g3 _))
            obtain ⟨gg, cc, rfl⟩ := dec.own_shape o3 (by omega)
            have bel3 := (Below.alloc bel2 bel2.size (.cells #[.int .i64 x] 2)).grown g3 (Nat.le_trans bel2.size (by simp)) (fun j hj => by have := (hR2.lt j hj).1; omega)
            go_roundw
            case rel => exact ⟨k + 1, _, cc, rfl, by omega, by omega, by go_num, by rw [HS.out, ints_snoc]; exact o3, bel3, HK.out⟩
            case measure => simp [intOf]; omega
      · obtain rfl : k = ps.length := by omega
        have HN := Lib.hid (show listOf s.data.toList = some (vals ps ps.length) by
          rw [vals_all, ← HP.out]
          exact cut.readAll_good h0 (by rw [HP.out]; omega) fun j p hj => HA.out j p (by rw [← HP.out]; exact (List.getElem?_eq_some_iff.1 hj).1) (by rw [← HP.out]; exact hj))
        have hR2 : Row wr w.heap.size (.slice c ps.length cp) (vals ps ps.length) := by
          unfold Row
          rw [vals_length ps _ (Nat.le_refl _)]
          exact hR.mono (by omega)
        go_wp2
        go_ret2
        exact lists_some HN.out hR2 belw

set_option maxHeartbeats 1000000 in
theorem impl_ReadList (s : ByteArray) (hs : s.size ≤ 1048576) (w : World) (hH : dec.Held w) (hM : MaxLen w) :
    Calls Tryd.prog 26 #[.string s] w (Lists (listOf s.data.toList) w) := by
  have hT := impl_texts s hs w hH hM
  generalize listOf s.data.toList = r at *
  clear hH hM
  go_enter Tryd.func26, Tryd.ntmps26
  go_wp2_with ((go_at_call 55; refine (hT).mono ?_; rintro e w' ⟨v, rfl, hR, hB⟩))
  go_ret2
  exact ⟨v, rfl, hR, hB⟩

set_option maxHeartbeats 1000000 in
theorem spec_ReadList (s : ByteArray) (hs : s.size ≤ 1048576) (w : World) :
    Calls Tryd.prog 25 #[.string s] w (Lists (listOf s.data.toList) w) := by
  have hT := spec_numbers s hs w
  generalize listOf s.data.toList = r at *
  go_enter Tryd.func25, Tryd.ntmps25
  go_wp2_with ((go_at_call 54; refine (hT).mono ?_; rintro e w' ⟨v, rfl, hR, hB⟩))
  go_ret2
  exact ⟨v, rfl, hR, hB⟩
end Go.Proofs.YtnilpooheaaleaaDoor.re
