/- Walks: the law of ReadDecimal. No conditions. -/
import Derived.Test.YtnilpooheaaleaaDoorWd2
import Derived.Test.YtnilpooheaaleaaDoorDp
import Derived.Test.YtnilpooheaaleaaDoorSj
import Derived.Stop.LaidErr
import Derived.LaidSub
namespace Go.Proofs.YtnilpooheaaleaaDoor.dec
open Go.RowKit
open dcp (readDec spell spelt dig)
set_option maxRecDepth 8000

theorem take_snoc (s : ByteArray) (k : Nat) (h : k < s.size) : s.data.toList.take (k + 1) = s.data.toList.take k ++ [s[k]] := by
  rw [List.take_succ_eq_append_getElem (by simpa using h)]; rfl
theorem byte_le (c : UInt8) : (c.toNat : Int) ≤ 255 := by have := c.toNat_lt; omega
theorem spell_yes (s : ByteArray) (k m : Nat) (h : k < s.size) (hm : spell (s.data.toList.take k) = m) (h1 : 48 ≤ s[k].toNat) (h2 : s[k].toNat ≤ 57) : spell (s.data.toList.take (k + 1)) = 10 * m + (s[k].toNat - 48) := by
  rw [take_snoc s k h, dcp.spell_snoc, hm, dig, if_pos ⟨h1, h2⟩]
theorem spell_no (s : ByteArray) (k m : Nat) (h : k < s.size) (hm : spell (s.data.toList.take k) = m) (h1 : ¬ (48 ≤ s[k].toNat ∧ s[k].toNat ≤ 57)) : spell (s.data.toList.take (k + 1)) = m := by
  rw [take_snoc s k h, dcp.spell_snoc, hm, dig, if_neg h1]
theorem head_is (s : ByteArray) (h : 0 < s.size) : s.data.toList.head? = some s[0] := by
  have e : s[0] = s.data.toList[0]'(by simpa using h) := rfl
  have h2 : s.data.toList.head? = s.data.toList[0]? := List.head?_eq_getElem?
  rw [e, h2]
  exact List.getElem?_eq_getElem (by simpa using h)
theorem toList_ne {r s : ByteArray} (h : r.data.toList ≠ s.data.toList) : (!r.toList == s.toList) = true := by
  rw [Lib.toList_data, Lib.toList_data]
  simpa using h
/-- Both results. -/
def ans (r : Option Int) : Value := .tuple #[.int .i64 (r.getD 0), .bool r.isSome]
theorem ans_none {l : List UInt8} (h : readDec l = none) : ans (readDec l) = .tuple #[.int .i64 0, .bool false] := by rw [h]; rfl
theorem ans_some {l : List UInt8} {v : Int} (h : readDec l = some v) : ans (readDec l) = .tuple #[.int .i64 v, .bool true] := by rw [h]; rfl

set_option maxHeartbeats 2000000 in
theorem spec_value (s : ByteArray) (hs : s.size ≤ maxLen) (w : World) :
    Calls Tryd.prog 52 #[.string s] w fun e w' => e = .returned (ans (readDec s.data.toList)) ∧ Below w.heap.size w w' := by
  unfold maxLen at hs
  by_cases hl : s.size < 1 ∨ 17 < s.size
  · have HN := Lib.hid (ans_none (dcp.none_of_len (l := s.data.toList) (by simpa using hl)))
    rcases hl with hl | hl
    · go_enter Tryd.func52, Tryd.ntmps52
      go_wp2
      go_ret2
      exact ⟨by rw [HN.out]; rfl, Below.refl _ _⟩
    · go_enter Tryd.func52, Tryd.ntmps52
      go_wp2
      go_ret2
      exact ⟨by rw [HN.out]; rfl, Below.refl _ _⟩
  · have h1 : 1 ≤ s.size := by omega
    have h17 : s.size ≤ 17 := by omega
    clear hl
    go_enter Tryd.func52, Tryd.ntmps52
    go_wp2
    go_loop [4, 5] (fun n i => ∃ k m : Nat, k ≤ s.size ∧ i = .int .i64 k ∧ n = .int .i64 m ∧ spell (s.data.toList.take k) = m) (fun _ i => s.size - (intOf i).toNat)
    case atStart => exact ⟨0, 0, Nat.zero_le _, rfl, rfl, rfl⟩
    case round =>
      obtain ⟨k, m, hk, rfl, rfl, hm⟩ := hrel
      have hml : m < 10 ^ k := by
        have := dcp.spell_lt (s.data.toList.take k)
        rw [hm, List.length_take, Nat.min_eq_left (by simpa using hk)] at this
        exact this
      by_cases hlt : k < s.size
      · have hm16 : m < 10000000000000000 := Nat.lt_of_lt_of_le hml (Nat.pow_le_pow_right (by decide) (by omega : k ≤ 16))
        have hb := byte_le s[k]
        clear hml
        by_cases c1 : (s[k].toNat : Int) < 48
        · have HS := Lib.hid (spell_no s k m hlt hm (by omega))
          clear hm
          go_wp2
          go_round
          case rel => exact ⟨k + 1, m, by omega, by go_num, rfl, HS.out⟩
          case measure => simp [intOf]; omega
        · by_cases c2 : (57 : Int) < s[k].toNat
          · have HS := Lib.hid (spell_no s k m hlt hm (by omega))
            clear hm
            go_wp2
            go_round
            case rel => exact ⟨k + 1, m, by omega, by go_num, rfl, HS.out⟩
            case measure => simp [intOf]; omega
          · have HS := Lib.hid (spell_yes s k m hlt hm (by omega) (by omega))
            clear hm
            go_wp2
            go_round
            case rel => exact ⟨k + 1, _, by omega, by go_num, by go_num, HS.out⟩
            case measure => simp [intOf]; omega
      · have hm17 : m < 100000000000000000 := Nat.lt_of_lt_of_le hml (Nat.pow_le_pow_right (by decide) (by omega : k ≤ 17))
        have e : s.data.toList.take k = s.data.toList := List.take_of_length_le (by simp; omega)
        rw [e] at hm
        clear e hml
        have hhd := head_is s h1
        have hb := byte_le s[0]
        by_cases c0 : (s[0].toNat : Int) = 45
        · have hsp : spelt s.data.toList = -(m : Int) := by
            have e45 : s[0] = 45 := UInt8.toNat_inj.1 (by have : (45 : UInt8).toNat = 45 := rfl; omega)
            rw [spelt, hhd, e45, if_pos rfl, hm]
          clear hm hhd
          by_cases hr : (m : Int) ≤ 1000000000000000
          · have hD := fun w' => spec_dec (-(m : Int)) (by omega) (by omega) w'
            by_cases he : Lib.itoa (-(m : Int)) = s.data.toList
            · have HA := Lib.hid (ans_some (dcp.readDec_some (by omega) (by omega) he))
              rw [he, Lib.mk_data] at hD
              clear hsp he
              go_wp2_with (first | (go_at_call 38; refine (hD _).mono ?_; rintro e w' ⟨rfl, hB⟩) | go_in)
              go_ret2
              exact ⟨by rw [HA.out]; rfl, hB⟩
            · have HA := Lib.hid (ans_none (dcp.none_of_spelt (l := s.data.toList) (by rw [hsp]; exact fun h => he h.2.2)))
              have hne := toList_ne (r := ⟨(Lib.itoa (-(m : Int))).toArray⟩) (s := s) (by simpa using he)
              generalize (⟨(Lib.itoa (-(m : Int))).toArray⟩ : ByteArray) = r at *
              clear hsp he
              go_wp2_with (first | (go_at_call 38; refine (hD _).mono ?_; rintro e w' ⟨rfl, hB⟩) | go_in)
              go_ret2
              exact ⟨by rw [HA.out]; rfl, hB⟩
          · have HA := Lib.hid (ans_none (dcp.none_of_spelt (l := s.data.toList) (by rw [hsp]; omega)))
            clear hsp
            go_wp2
            go_ret2
            exact ⟨by rw [HA.out]; rfl, Below.refl _ _⟩
        · have hsp : spelt s.data.toList = (m : Int) := by
            have e45 : ¬ some s[0] = some 45 := fun h => c0 (by injection h with h; rw [h]; rfl)
            rw [spelt, hhd, if_neg e45, hm]
          clear hm hhd
          by_cases hr : (m : Int) ≤ 1000000000000000
          · have hD := fun w' => spec_dec (m : Int) (by omega) (by omega) w'
            by_cases he : Lib.itoa (m : Int) = s.data.toList
            · have HA := Lib.hid (ans_some (dcp.readDec_some (by omega) (by omega) he))
              rw [he, Lib.mk_data] at hD
              clear hsp he
              go_wp2_with (first | (go_at_call 38; refine (hD _).mono ?_; rintro e w' ⟨rfl, hB⟩) | go_in)
              go_ret2
              exact ⟨by rw [HA.out]; rfl, hB⟩
            · have HA := Lib.hid (ans_none (dcp.none_of_spelt (l := s.data.toList) (by rw [hsp]; exact fun h => he h.2.2)))
              have hne := toList_ne (r := ⟨(Lib.itoa (m : Int)).toArray⟩) (s := s) (by simpa using he)
              generalize (⟨(Lib.itoa (m : Int)).toArray⟩ : ByteArray) = r at *
              clear hsp he
              go_wp2_with (first | (go_at_call 38; refine (hD _).mono ?_; rintro e w' ⟨rfl, hB⟩) | go_in)
              go_ret2
              exact ⟨by rw [HA.out]; rfl, hB⟩
          · have HA := Lib.hid (ans_none (dcp.none_of_spelt (l := s.data.toList) (by rw [hsp]; omega)))
            clear hsp
            go_wp2
            go_ret2
            exact ⟨by rw [HA.out]; rfl, Below.refl _ _⟩

set_option maxHeartbeats 1000000 in
theorem spec_ReadDecimal (s : ByteArray) (hs : s.size ≤ maxLen) (w : World) :
    Calls Tryd.prog 23 #[.string s] w fun e w' => e = .returned (ans (readDec s.data.toList)) ∧ Below w.heap.size w w' := by
  have hV := fun w' => spec_value s hs w'
  unfold ans at *
  generalize readDec s.data.toList = r at *
  go_enter Tryd.func23, Tryd.ntmps23
  go_wp2_with (first | (go_at_call 52; refine (hV _).mono ?_; rintro e w' ⟨rfl, hB⟩) | go_in)
  go_ret2
  exact ⟨rfl, hB⟩

/-- What the tables hold. -/
structure Held (w : World) : Prop where
  tab : Lib.TabIs Tryd.prog w "internal/strconv.uint64pow10" .u64 Lib.pow10Tab
  syn : ∃ tp p, w.var? Tryd.prog "strconv.ErrSyntax" = some #[.iface tp p]
  rng : ∃ tp p, w.var? Tryd.prog "strconv.ErrRange" = some #[.iface tp p]

theorem gS : Tryd.prog.globalNamed "strconv.ErrSyntax" = some 2 := by kernel_rfl
theorem gSType : (Tryd.prog.globals[2]?).map (·.type) = some 61 := by kernel_rfl
theorem gR : Tryd.prog.globalNamed "strconv.ErrRange" = some 3 := by kernel_rfl
theorem gRType : (Tryd.prog.globals[3]?).map (·.type) = some 61 := by kernel_rfl
theorem cellsEs : Tryd.prog.cellsOf 154 = 1 := by kernel_rfl
theorem cellsStr : Tryd.prog.cellsOf 9 = 1 := by kernel_rfl
theorem star : "*" ++ "errors.errorString" = "*errors.errorString" := by decide
theorem rowEs (u : TypeId) (h : Tryd.prog.typeName? 3 u = some "*errors.errorString") : u = 152 :=
  typeName_ptr_named (nm := "errors.errorString") (by rw [star]; kernel_rfl) (by kernel_rfl) (by decide) u (by rw [star]; exact h)

theorem held_of_laid {W : World} {l : List (String × DataW Unit)} (h : laidMetH Tryd.prog l W)
    (hl : l.filter (fun x => x.1 == "internal/strconv.uint64pow10") = [("internal/strconv.uint64pow10", Lib.tabData .u64 Lib.pow10Tab)])
    (hs : l.filter (fun x => x.1 == "strconv.ErrSyntax") = [("strconv.ErrSyntax", .iface "*errors.errorString" (.ptr (.agg [.lit (.string [105, 110, 118, 97, 108, 105, 100, 32, 115, 121, 110, 116, 97, 120])])))])
    (hr : l.filter (fun x => x.1 == "strconv.ErrRange") = [("strconv.ErrRange", .iface "*errors.errorString" (.ptr (.agg [.lit (.string [118, 97, 108, 117, 101, 32, 111, 117, 116, 32, 111, 102, 32, 114, 97, 110, 103, 101])])))]) : Held W := by
  refine ⟨tab_of_laid h hl, ?_, ?_⟩
  · have h1 := h.filter (fun x => x.1 == "strconv.ErrSyntax")
    rw [hs, MakeChecks.laidMetH_plain _ _ _ (by kernel_rfl)] at h1
    obtain ⟨a0, s0, hv, _⟩ := laid_sentinel h1 gS gSType Tryd.underlying61 rowEs Tryd.underlying152 Tryd.underlying154 rfl rfl Tryd.underlying9 cellsEs cellsStr
    exact ⟨_, _, hv⟩
  · have h1 := h.filter (fun x => x.1 == "strconv.ErrRange")
    rw [hr, MakeChecks.laidMetH_plain _ _ _ (by kernel_rfl)] at h1
    obtain ⟨a0, s0, hv, _⟩ := laid_sentinel h1 gR gRType Tryd.underlying61 rowEs Tryd.underlying152 Tryd.underlying154 rfl rfl Tryd.underlying9 cellsEs cellsStr
    exact ⟨_, _, hv⟩

theorem var_below {n : String} {W w : World} {cs : Array Value} (h : W.var? Tryd.prog n = some cs) (hB : Below W.heap.size W w) : w.var? Tryd.prog n = some cs := by
  unfold World.var? at h ⊢
  cases hg : Tryd.prog.globalNamed n with
  | none => simp [hg] at h
  | some g =>
    simp only [hg, Option.bind_some] at h ⊢
    have hlt : g < W.heap.size := by
      rcases Nat.lt_or_ge g W.heap.size with h' | h'
      · exact h'
      · simp [Array.getElem?_eq_none h'] at h
    rw [hB.block g hlt]
    exact h
theorem Held.below {W w : World} (h : Held W) (hB : Below W.heap.size W w) : Held w := by
  obtain ⟨ht, ⟨tp, p, h1⟩, ⟨tq, q, h2⟩⟩ := h
  exact ⟨Lib.tabBelow_of_tabIs ht _ hB, ⟨tp, p, var_below h1 hB⟩, ⟨tq, q, var_below h2 hB⟩⟩

set_option maxHeartbeats 1000000 in
theorem impl_ReadDecimal (s : ByteArray) (hs : s.size ≤ 1048576) (w : World) (hw : Held w) :
    Calls Tryd.prog 24 #[.string s] w fun e w' => e = .returned (ans (readDec s.data.toList)) ∧ Below w.heap.size w w' := by
  rcases hp : Lib.parseIntB 64 s.data.toList with v | _ | _
  · skip
    have hcon := Any.strconv_ParseInt_10_at64_ok Tryd.laysC174 s (by omega) v hp w
    change Calls Tryd.prog 53 _ _ _ at hcon
    replace hcon : Calls Tryd.prog 53 #[.string s, .int .i64 10, .int .i64 64] w fun e w' => e = .returned (.tuple #[.int .i64 v, .nilIface]) ∧ Below w.heap.size w w' := by
      refine hcon.mono ?_
      rintro e w' ⟨he, rfl | ⟨t, rfl⟩⟩
      · exact ⟨he, Below.refl _ _⟩
      · exact ⟨he, Lib.bytesWorld_below _ _ _⟩
    have hv := Lib.parseIntB_bounds hp
    by_cases hr : -1000000000000000 ≤ v ∧ v ≤ 1000000000000000
    · obtain ⟨hr0, hr1⟩ := hr
      have hD := fun w' (hB : Below w.heap.size w w') => impl_Decimal v (by omega) (by omega) w' (hw.below hB).tab
      clear hw hv
      by_cases he : Lib.itoa v = s.data.toList
      · have HA := Lib.hid (ans_some (dcp.readDec_some hr0 hr1 he))
        rw [he, Lib.mk_data] at hD
        clear he hp
        go_enter Tryd.func24, Tryd.ntmps24
        go_wp2_with (first | (go_at_call 53; refine hcon.mono ?_; rintro e w' ⟨rfl, hB⟩) | (go_at_call 12; refine (hD _ ‹_›).mono ?_; rintro e w2 ⟨rfl, hB2⟩) | go_in)
        go_ret2
        exact ⟨by rw [HA.out]; rfl, hB.trans (hB2.mono hB.size)⟩
      · have HA := Lib.hid (ans_none (dcp.none_of_not (l := s.data.toList) hp (fun h => he h.2.2)))
        have hne := toList_ne (r := ⟨(Lib.itoa v).toArray⟩) (s := s) (by simpa using he)
        generalize (⟨(Lib.itoa v).toArray⟩ : ByteArray) = r at *
        clear he hp
        go_enter Tryd.func24, Tryd.ntmps24
        go_wp2_with (first | (go_at_call 53; refine hcon.mono ?_; rintro e w' ⟨rfl, hB⟩) | (go_at_call 12; refine (hD _ ‹_›).mono ?_; rintro e w2 ⟨rfl, hB2⟩) | go_in)
        go_ret2
        exact ⟨by rw [HA.out]; rfl, hB.trans (hB2.mono hB.size)⟩
    · have HA := Lib.hid (ans_none (dcp.none_of_not (l := s.data.toList) hp (fun h => hr ⟨h.1, h.2.1⟩)))
      clear hw hp
      have hv0 : -9223372036854775808 ≤ v := by omega
      have hv1 : v < 9223372036854775808 := by omega
      clear hv
      by_cases hr0 : v < -1000000000000000
      · clear hr
        go_enter Tryd.func24, Tryd.ntmps24
        go_wp2_with (first | (go_at_call 53; refine hcon.mono ?_; rintro e w' ⟨rfl, hB⟩) | go_in)
        go_ret2
        exact ⟨by rw [HA.out]; rfl, hB⟩
      · have hr1 : 1000000000000000 < v := by omega
        clear hr hr0
        go_enter Tryd.func24, Tryd.ntmps24
        go_wp2_with (first | (go_at_call 53; refine hcon.mono ?_; rintro e w' ⟨rfl, hB⟩) | go_in)
        go_ret2
        exact ⟨by rw [HA.out]; rfl, hB⟩
  · skip
    have HA := Lib.hid (ans_none (dcp.none_of_parse (l := s.data.toList) (fun v h => by rw [hp] at h; cases h)))
    obtain ⟨tp, p, hv⟩ := hw.syn
    have hcon := Any.strconv_ParseInt_10_at64_syntax_var Tryd.laysC174 s (by omega) hp tp p w hv
    change Calls Tryd.prog 53 _ _ _ at hcon
    clear hw hp hv
    go_enter Tryd.func24, Tryd.ntmps24
    go_wp2_with (first | (go_at_call 53; refine hcon.mono ?_; rintro e w' ⟨N, rfl, hN, hX, hB⟩) | go_in)
    go_ret2
    exact ⟨by rw [HA.out]; rfl, hB⟩
  · skip
    have HA := Lib.hid (ans_none (dcp.none_of_parse (l := s.data.toList) (fun v h => by rw [hp] at h; cases h)))
    obtain ⟨tp, p, hv⟩ := hw.rng
    have hcon := Any.strconv_ParseInt_10_at64_range_var Tryd.laysC174 s (by omega) hp tp p w hv
    change Calls Tryd.prog 53 _ _ _ at hcon
    clear hw hp hv
    go_enter Tryd.func24, Tryd.ntmps24
    go_wp2_with (first | (go_at_call 53; refine hcon.mono ?_; rintro e w' ⟨N, rfl, hN, hX, hB⟩) | go_in)
    go_ret2
    exact ⟨by rw [HA.out]; rfl, hB⟩

theorem same_bool (b : Bool) : (b != b) = false := by cases b <;> rfl

set_option maxHeartbeats 1000000 in
theorem law_ReadDecimal (s : ByteArray) (hs : s.size ≤ maxLen) (w : World) (hL : laidMetH Tryd.prog Rows.fnExactReadDecimalRow.laid w) :
    Calls Tryd.prog 7 #[.string s] w fun e w' => e = .returned (.bool true) ∧ Below w.heap.size w w' := by
  have hH := held_of_laid hL (by rfl) (by rfl) (by rfl)
  clear hL
  by_cases hl : 1048576 < s.size
  · clear hH
    unfold maxLen at hs
    go_enter Tryd.func7, Tryd.ntmps7
    go_wp2
    go_ret
    exact ⟨rfl, Below.refl _ _⟩
  · have HS := fun w' => spec_ReadDecimal s hs w'
    have HI := fun w' (hB : Below w.heap.size w w') => impl_ReadDecimal s (by omega) w' (hH.below hB)
    unfold ans at *
    generalize (readDec s.data.toList).getD 0 = r at *
    generalize (readDec s.data.toList).isSome = b at *
    have eok := same_bool b
    clear hH hs
    go_enter Tryd.func7, Tryd.ntmps7
    go_wp2_with (first | (go_at_call 23; refine (HS _).mono ?_; rintro e w' ⟨rfl, hB⟩) | (go_at_call 24; refine (HI _ hB).mono ?_; rintro e w2 ⟨rfl, hB2⟩) | go_in)
    go_ret
    exact ⟨rfl, hB.trans (hB2.mono hB.size)⟩

end Go.Proofs.YtnilpooheaaleaaDoor.dec
