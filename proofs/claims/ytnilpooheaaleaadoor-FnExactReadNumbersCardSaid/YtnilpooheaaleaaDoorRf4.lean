/- Walks: the 32-bit numbers of a list with a text: the program's side. No conditions. -/
import Derived.Test.YtnilpooheaaleaaDoorRf3
namespace Go.Proofs.YtnilpooheaaleaaDoor.fl
open Go.RowKit
open hex (dg lasts rdBits Own Not8 De)
open li (own_below info_str)
open re (strs part_cell MaxLen split_to)
open row (Lists lists_none lists_some vals vals_succ vals_length vals_all row_nil)

set_option maxRecDepth 8000

theorem read_no {t : ByteArray} {w : World} {P : Ending → World → Prop} (hr : rdBits t.data.toList = none)
    (h : Calls Tryd.prog 58 #[.string t] w fun e w' => hex.Reads t.data.toList e ∧ P e w') :
    Calls Tryd.prog 58 #[.string t] w fun e w' => (∃ x, e = .returned (.tuple #[.float .f32 x, .bool false])) ∧ P e w' := by
  refine h.mono ?_
  rintro e w' ⟨⟨x, he, _⟩, hp⟩
  rw [hr] at he
  exact ⟨⟨x, he⟩, hp⟩
theorem read_yes {t : ByteArray} {w : World} {n : Nat} {P : Ending → World → Prop} (hr : rdBits t.data.toList = some n)
    (h : Calls Tryd.prog 58 #[.string t] w fun e w' => hex.Reads t.data.toList e ∧ P e w') :
    Calls Tryd.prog 58 #[.string t] w fun e w' => e = .returned (.tuple #[.float .f32 n, .bool true]) ∧ P e w' := by
  refine h.mono ?_
  rintro e w' ⟨⟨x, he, hx⟩, hp⟩
  rw [hr] at he
  rw [hx n hr] at he
  exact ⟨he, hp⟩

set_option maxHeartbeats 4000000 in
theorem impl_texts (s : ByteArray) (hs : s.size ≤ 1048576) (w : World) (hH : dec.Held w) (hM : MaxLen w) (hD : De w) :
    Calls Tryd.prog 57 #[.string s, .int .i64 256, .func (.func 58) #[] #[]] w (Lists 55 (Value.float .f32) (listOf s.data.toList) w) := by
  obtain ⟨iu, hiu, hzu, hsu, hbu⟩ := info_parts info_f
  by_cases h0 : s.data.toList = [110, 111, 110, 101]
  · have HN := Lib.hid (cut.readAll_none (rd := rdBits) (z := 0) (most := 256) h0)
    have he : (s.toList == [110, 111, 110, 101]) = true := by rw [Lib.toList_data, h0]; rfl
    clear hH hM hD
    go_enter Tryd.func57, Tryd.ntmps57
    go_wp2
    go_ret2
    exact lists_some HN.out (row_nil _ _) (Below.refl _ _)
  · have he : (s.toList == [110, 111, 110, 101]) = false := by rw [Lib.toList_data]; simpa using h0
    have hcut := split_to s hs w hM
    obtain ⟨ps, hps⟩ : ∃ ps, cut.cut s.data.toList = ps := ⟨_, rfl⟩
    have hle := cut.cut_le s.data.toList
    have hcnt := cut.cut_count s.data.toList
    rw [hps] at hcut hle hcnt
    have esz : s.data.toList.length = s.size := by simp
    have HP := Lib.hid hps
    have HLE := Lib.hid hle
    have HH := Lib.hid hH
    have HD := Lib.hid hD
    clear hps hle hH hM hD
    go_enter Tryd.func57, Tryd.ntmps57
    go_wp2_with (go_at_call 79; refine hcut.mono ?_; rintro e w1 ⟨rfl, hO, hz, hB⟩)
    have HO := Lib.hid hO
    clear hO
    go_loopw [8, 10, 11, 12, 18] (fun v _ _ _ i wr => ∃ (k : Nat) (c : Option Addr) (cp : Nat), v = .slice c k cp ∧ k ≤ ps.length ∧ k ≤ 256 ∧ i = .int .i64 k ∧ wr.ownsRow (w.heap.size + 1) 55 1 v k ((vals val ps k).map (Value.float .f32)) ∧ Below w1.heap.size w1 wr ∧ ∀ (j : Nat) p, j < k → ps[j]? = some p → (rdBits p).isSome = true) (fun _ _ _ _ i _ => ps.length - (intOf i).toNat)
    case atStart => exact ⟨0, none, 0, rfl, Nat.zero_le _, Nat.zero_le _, rfl, World.ownsRow_nil _ _ _ _, Below.refl _ _, fun j p hj => absurd hj (Nat.not_lt_zero j)⟩
    case round =>
      obtain ⟨k, c, cp, rfl, hk, hk64, rfl, hR, bel, hall⟩ := hrel
      have HA := Lib.hid hall
      clear hall
      have belw : Below w.heap.size w wr := hB.trans (bel.mono hB.size)
      by_cases hlt : k < ps.length
      · obtain ⟨p, hp⟩ : ∃ p, ps[k]? = some p := ⟨_, List.getElem?_eq_getElem hlt⟩
        have hc0 := part_cell HO.out k p hp
        have hc := (bel.cell (p := ⟨w.heap.size, k, none⟩) (by show w.heap.size < w1.heap.size; omega)).trans hc0
        have hsz := HLE.out p (List.mem_of_getElem? hp)
        have hV := hex.read_bits (cut.mk p) (by rw [show (cut.mk p).size = p.length from rfl]; omega) wr (HH.out.below belw) (nt.de_below HD.out belw)
        have hpd : (cut.mk p).data.toList = p := cut.data_mk p
        have HPk := Lib.hid hp
        clear hp hc0
        cases hr : rdBits p with
        | none =>
          have HN := Lib.hid (cut.readAll_bad (rd := rdBits) (z := 0) (most := 256) h0 (by rw [HP.out]; exact HPk.out) hr)
          have hV2 := read_no (by rw [hpd]; exact hr) hV
          clear hr hV hpd
          go_wp2_with ((go_at_call 58; refine (hV2).mono ?_; rintro e w' ⟨⟨x, rfl⟩, hB2⟩))
          go_ret2
          exact lists_none HN.out (belw.trans (hB2.mono belw.size))
        | some x =>
          have hV2 := read_yes (by rw [hpd]; exact hr) hV
          clear hV hpd
          by_cases h64 : k = 256
          · have HN := Lib.hid (cut.readAll_many (rd := rdBits) (z := 0) (most := 256) h0 (by rw [HP.out]; omega))
            subst h64
            clear hr
            go_wp2_with ((go_at_call 58; refine (hV2).mono ?_; rintro e w' ⟨rfl, hB2⟩))
            go_ret2
            exact lists_none HN.out (belw.trans (hB2.mono belw.size))
          · have HS := Lib.hid (show vals val ps (k + 1) = vals val ps k ++ [x] by rw [vals_succ val ps k p HPk.out, val, hr]; rfl)
            have HK := Lib.hid (show ∀ (j : Nat) q, j < k + 1 → ps[j]? = some q → (rdBits q).isSome = true from fun j q hj hq => by
              by_cases h : j = k
              · subst h
                rw [HPk.out] at hq
                injection hq with hq
                subst hq
                rw [hr]
                rfl
              · exact HA.out j q (by omega) hq)
            have hkk : ((k : Int) == 256) = false := by simp; omega
            clear hr
            go_wp2_with (first | (go_at_call 58; refine hV2.mono ?_; rintro e w2 ⟨rfl, hB2⟩; have hR2 := own_below hR hB2; have bel2 := bel.trans (hB2.mono bel.size)) | (refine wpList_append_own _ rfl _ _ _ rfl (w.heap.size + 1) 55 iu _ 1 4 Tryd.underlying31 hiu hzu hsu hbu rfl (by decide) (.slice c k cp) k _ rfl (hR2.alloc _) _ 1 _ [.float .f32 x] rfl rfl (cell_one_new _ _ _) (by simp [Value.oneCell']) (by unfold maxLen; omega) (by omega) (by have := bel2.size; simp; omega) ?_; intro v3 w3 o3 g3 _))
            obtain ⟨gg, cc, rfl⟩ := dec.own_shape o3 (by omega)
            have bel3 := (Below.alloc bel2 bel2.size (.cells #[.float .f32 x] 55)).grown g3 (Nat.le_trans bel2.size (by simp)) (fun j hj => by have := (hR2.lt j hj).1; omega)
            go_roundw
            case rel => exact ⟨k + 1, _, cc, rfl, by omega, by omega, by go_num, by rw [HS.out, List.map_append]; exact o3, bel3, HK.out⟩
            case measure => simp [intOf]; omega
      · obtain rfl : k = ps.length := by omega
        have HN := Lib.hid (show listOf s.data.toList = some (vals val ps ps.length) by
          rw [vals_all, ← HP.out]
          exact cut.readAll_good h0 (by rw [HP.out]; omega) fun j p hj => HA.out j p (by rw [← HP.out]; exact (List.getElem?_eq_some_iff.1 hj).1) (by rw [← HP.out]; exact hj))
        have hR2 : Row wr w.heap.size (.slice c ps.length cp) (vals val ps ps.length) := by
          unfold Row row.Row
          rw [vals_length val ps _ (Nat.le_refl _)]
          exact hR.mono (by omega)
        go_wp2
        go_ret2
        exact lists_some HN.out hR2 belw

set_option maxHeartbeats 1000000 in
theorem impl_ReadNumbers (s : ByteArray) (hs : s.size ≤ 1048576) (w : World) (hH : dec.Held w) (hM : MaxLen w) (hD : De w) :
    Calls Tryd.prog 30 #[.string s] w (Lists 55 (Value.float .f32) (listOf s.data.toList) w) := by
  have hT := impl_texts s hs w hH hM hD
  generalize listOf s.data.toList = r at *
  clear hH hM hD
  go_enter Tryd.func30, Tryd.ntmps30
  go_wp2_with ((go_at_call 57; refine (hT).mono ?_; rintro e w' ⟨v, rfl, hR, hB⟩))
  go_ret2
  exact ⟨v, rfl, hR, hB⟩

set_option maxHeartbeats 1000000 in
theorem spec_ReadNumbers (s : ByteArray) (hs : s.size ≤ 1048576) (w : World) :
    Calls Tryd.prog 29 #[.string s] w (Lists 55 (Value.float .f32) (listOf s.data.toList) w) := by
  have hT := spec_nread s hs w
  generalize listOf s.data.toList = r at *
  go_enter Tryd.func29, Tryd.ntmps29
  go_wp2_with ((go_at_call 56; refine (hT).mono ?_; rintro e w' ⟨v, rfl, hR, hB⟩))
  go_ret2
  exact ⟨v, rfl, hR, hB⟩
end Go.Proofs.YtnilpooheaaleaaDoor.fl
