/- Walks: the law of ListText. No conditions. -/
import Derived.Test.YtnilpooheaaleaaDoorLi3
namespace Go.Proofs.YtnilpooheaaleaaDoor.li
open Go.RowKit
set_option maxRecDepth 8000

set_option maxHeartbeats 2000000 in
theorem impl_ListText (n : Nat) (zs : Nat → Int) (b cap : Nat) (w : World)
    (hb : ∀ i, i < n → w.cell? ⟨b, i, none⟩ = some (.int .i64 (zs i))) (hT : Lib.TabIs Tryd.prog w "internal/strconv.uint64pow10" .u64 Lib.pow10Tab) :
    Calls Tryd.prog 17 #[.slice (some ⟨b, 0, none⟩) n cap] w fun e w' => e = .returned (told (listOk n zs) (text n zs)) ∧ Below w.heap.size w w' := by
  by_cases h64 : n ≤ 64
  · have hJ := fun hz => impl_join n h64 zs b cap w hz hb hT
    have HB := Lib.hid hb
    have HJ := Lib.hid hJ
    clear hb hT hJ
    go_enter Tryd.func17, Tryd.ntmps17
    go_wp2
    go_loop [5, 11] (fun _ i => ∃ k : Nat, k ≤ n ∧ i = .int .i64 k ∧ ∀ i, i < k → -1000000000000000 ≤ zs i ∧ zs i ≤ 1000000000000000) (fun _ i => n - (intOf i).toNat)
    case atStart => exact ⟨0, Nat.zero_le _, rfl, fun i hi => absurd hi (Nat.not_lt_zero i)⟩
    case round =>
      obtain ⟨k, hk, rfl, hg⟩ := hrel
      have HG := Lib.hid hg
      clear hg
      by_cases hlt : k < n
      · have cb := HB.out k hlt
        have hV := fun w' => is_value (zs k) w'
        by_cases h0 : -1000000000000000 ≤ zs k ∧ zs k ≤ 1000000000000000
        · have HK := Lib.hid (show ∀ i, i < k + 1 → -1000000000000000 ≤ zs i ∧ zs i ≤ 1000000000000000 from fun i hi => by
            by_cases h : i = k
            · subst h; exact h0
            · exact HG.out i (by omega))
          rw [decide_eq_true h0] at hV
          generalize zs k = z at *
          go_wp2_with ((go_at_call 44; refine (hV _).mono ?_; rintro e w' ⟨rfl, rfl⟩))
          exact ⟨⟨k + 1, by omega, by go_num, HK.out⟩, by simp [intOf]; omega⟩
        · have HF := Lib.hid (told_no (text n zs) (listOk_bad (zs := zs) hlt h0))
          rw [decide_eq_false h0] at hV
          generalize zs k = z at *
          go_wp2_with ((go_at_call 44; refine (hV _).mono ?_; rintro e w' ⟨rfl, rfl⟩))
          go_ret2
          exact ⟨by rw [HF.out]; rfl, Below.refl _ _⟩
      · have : k = n := by omega
        subst this
        have HF := Lib.hid (told_yes (text k zs) (listOk_good h64 HG.out))
        have hJ := HJ.out HG.out
        obtain ⟨t, ht⟩ : ∃ t, text k zs = t := ⟨_, rfl⟩
        rw [ht] at hJ HF
        have HY := Lib.hid ht
        clear HG HJ ht
        go_wp2_with ((go_at_call 45; refine (hJ).mono ?_; rintro e w' ⟨rfl, hB⟩))
        go_ret2
        exact ⟨by rw [HY.out, HF.out]; rfl, hB⟩
  · have HF := Lib.hid (told_no (text n zs) (listOk_many (zs := zs) (show 64 < n by omega)))
    clear hb hT
    go_enter Tryd.func17, Tryd.ntmps17
    go_wp2
    go_ret2
    exact ⟨by rw [HF.out]; rfl, Below.refl _ _⟩

theorem law_ListText_many (v : Option Addr) (n cap : Nat) (hn : 1048576 < n) (w : World) :
    Calls Tryd.prog 5 #[.slice v n cap] w fun e w' => e = .returned (.bool true) ∧ Below w.heap.size w w' := by
  go_enter Tryd.func5, Tryd.ntmps5
  go_wp2
  go_ret
  exact ⟨rfl, Below.refl _ _⟩

theorem drewN_below {w : World} (m : Nat) : Below w.heap.size w (w.drewN m) := ⟨rfl, rfl, rfl, Nat.le_refl _, fun _ _ => rfl⟩
theorem same_text (s : ByteArray) : (!s.toList == s.toList) = false := by simp

set_option maxHeartbeats 2000000 in
theorem law_ListText_few (a : Option Addr) (n cap : Nat) (zs : Nat → Int) (wx : ∀ i, i < n → (Lit.int .i64 (zs i)).wf = true) (w : World) (hL : Leads w (.slice a n cap) n fun i => .int .i64 (zs i)) (hn : n ≤ 1048576)
    (hT : Lib.TabIs Tryd.prog w "internal/strconv.uint64pow10" .u64 Lib.pow10Tab) :
    Calls Tryd.prog 5 #[.slice a n cap] w fun e w' => e = .returned (.bool true) ∧ Below w.heap.size w w' := by
  have HS := fun b w' hb' => spec_ListText n hn zs b n w' wx hb'
  have HI := fun b w' hb' (hB : Below w.heap.size w w') => impl_ListText n zs b n w' hb' (Lib.tabBelow_of_tabIs hT _ hB)
  have HE := fun b c w' hb' hc' => eq_i64 n hn zs b c n n w' hb' hc'
  have HK := fun w' h' => copy_i64 (.slice a n cap) n hn zs w' h'
  have HL := Lib.hid hL
  unfold told at HS HI
  generalize (⟨(if listOk n zs then text n zs else []).toArray⟩ : ByteArray) = t at HS HI
  generalize listOk n zs = ok at HS HI
  have eok := dec.same_bool ok
  have et := same_text t
  clear hL wx hT
  go_enter Tryd.func5, Tryd.ntmps5
  go_wp2_with (first | (go_at_call 16; (with_reducible_and_instances refine Calls.mono (HK w ?_) ?_); (next => exact HL.out); rintro e w' ⟨rfl, M1, B1⟩) | (go_at_call 15; (with_reducible_and_instances refine Calls.mono (HS _ _ ?_) ?_); (next => exact fun i hi => M1.cell hi); rintro e w' ⟨rfl, S1⟩; have B2 := B1.trans (S1.mono B1.size)) | (go_at_call 16; (with_reducible_and_instances refine Calls.mono (HK _ ?_) ?_); (next => (with_reducible exact HL.out.kept B2)); rintro e w' ⟨rfl, M3, B3⟩; have B4 := B2.trans (B3.mono B2.size)) | (go_at_call 17; (with_reducible_and_instances refine Calls.mono (HI _ _ ?_ ?_) ?_); (next => exact fun i hi => M3.cell hi); (next => exact B4); rintro e w' ⟨rfl, S5⟩; have B5 := B4.trans (S5.mono B4.size); have M5 := M3.kept S5 M3.lt) | (go_at_call 16; (with_reducible_and_instances refine Calls.mono (HK _ ?_) ?_); (next => (with_reducible exact HL.out.kept B5)); rintro e w' ⟨rfl, M6, B6⟩; have B7 := B5.trans (B6.mono B5.size); have M7 := M5.kept B6 M5.lt) | (go_at_call 18; (with_reducible_and_instances refine Calls.mono (HE _ _ _ ?_ ?_) ?_); (next => exact fun i hi => M7.cell hi); (next => exact fun i hi => M6.cell hi); rintro e w' ⟨rfl, m4, rfl⟩))
  go_ret
  exact ⟨rfl, B7.trans ((drewN_below _).mono B7.size)⟩

theorem law_ListText (a : Option Addr) (n cap : Nat) (zs : Nat → Int) (wx : ∀ i, i < n → (Lit.int .i64 (zs i)).wf = true) (w : World) (hL : Leads w (.slice a n cap) n fun i => .int .i64 (zs i))
    (hT : laidMetH Tryd.prog Rows.fnExactListTextRow.laid w) :
    Calls Tryd.prog 5 #[.slice a n cap] w fun e w' => e = .returned (.bool true) ∧ Below w.heap.size w w' := by
  rcases Nat.lt_or_ge 1048576 n with h | h
  · exact law_ListText_many a n cap h w
  · exact law_ListText_few a n cap zs wx w hL h (dec.tab_of_laid hT (by rfl))

end Go.Proofs.YtnilpooheaaleaaDoor.li
