/- Walks: texts cut at their commas by the reference; rows that hold lists. No conditions. -/
import Derived.Test.YtnilpooheaaleaaDoorLi3
import Derived.Test.YtnilpooheaaleaaDoorSp
namespace Go.Proofs.YtnilpooheaaleaaDoor.re
open Go.RowKit
open cut (mk cutB readAll At)
open li (own_below info_str info_i64)
set_option maxRecDepth 8000

theorem seg_next (l : List UInt8) (f k : Nat) (c : UInt8) (hf : f ≤ k) (hk : l[k]? = some c) : (l.drop f).take (k + 1 - f) = (l.drop f).take (k - f) ++ [c] := by
  have e : k + 1 - f = (k - f) + 1 := by omega
  rw [e, List.take_add_one, List.getElem?_drop, show f + (k - f) = k by omega, hk]
  rfl
theorem drop_at (l : List UInt8) (k : Nat) (c : UInt8) (hk : l[k]? = some c) : l.drop k = c :: l.drop (k + 1) := by
  obtain ⟨h, h2⟩ := List.getElem?_eq_some_iff.1 hk
  rw [List.drop_eq_getElem_cons h, h2]
theorem byte_at (s : ByteArray) (k : Nat) (h : k < s.size) : s.data.toList[k]? = some s[k] := List.getElem?_eq_getElem (by simpa using h)
theorem seg_mk (s : ByteArray) (f k : Nat) : s.extract f k = mk ((s.data.toList.drop f).take (k - f)) := by
  rw [← cut.mk_data (s.extract f k), Lib.extract_data]
def strs (P : List (List UInt8)) : List Value := P.map fun p => .string (mk p)
theorem strs_snoc (P : List (List UInt8)) (p : List UInt8) : strs (P ++ [p]) = strs P ++ [.string (mk p)] := by simp [strs]
theorem strs_length (P : List (List UInt8)) : (strs P).length = P.length := by simp [strs]

/-- The loop of the reference: before the k-th byte, or behind the text. -/
def Cutting (l : List UInt8) (f k : Nat) (P : List (List UInt8)) : Prop :=
  (k ≤ l.length ∧ f ≤ k ∧ At l P ((l.drop f).take (k - f)) (l.drop k)) ∨ (k = l.length + 1 ∧ P = cut.cut l)
theorem Cutting.few {l : List UInt8} {f k : Nat} {P : List (List UInt8)} (h : Cutting l f k P) : P.length ≤ l.length + 1 := by
  have := cut.cut_count l
  rcases h with ⟨_, _, h⟩ | ⟨_, rfl⟩
  · rw [h.eq, List.length_append] at this; omega
  · exact this

set_option maxHeartbeats 4000000 in
theorem spec_cut (s : ByteArray) (hs : s.size ≤ 1048576) (w : World) :
    Calls Tryd.prog 78 #[.string s, .int .u8 44] w fun e w' => ∃ g cap, e = .returned (.slice (some ⟨g, 0, none⟩) (cut.cut s.data.toList).length cap) ∧
      w'.ownsRow w.heap.size 9 1 (.slice (some ⟨g, 0, none⟩) (cut.cut s.data.toList).length cap) (cut.cut s.data.toList).length (strs (cut.cut s.data.toList)) ∧ Below w.heap.size w w' := by
  obtain ⟨iu, hiu, hzu, hsu, hbu⟩ := info_parts info_str
  have esz : s.data.toList.length = s.size := by simp
  go_enter Tryd.func78, Tryd.ntmps78
  go_wp2
  go_loopw [5, 6, 7] (fun v f i wr => ∃ (g cap a k : Nat) (P : List (List UInt8)), v = .slice (some ⟨g, 0, none⟩) P.length cap ∧ f = .int .i64 a ∧ i = .int .i64 k ∧ a ≤ k ∧ k ≤ s.size + 1 ∧ Cutting s.data.toList a k P ∧ wr.ownsRow w.heap.size 9 1 v P.length (strs P) ∧ Below w.heap.size w wr) (fun _ _ i _ => s.size + 1 - (intOf i).toNat)
  case atStart => exact ⟨_, _, 0, 0, [], rfl, rfl, rfl, Nat.le_refl _, by omega, .inl ⟨Nat.zero_le _, Nat.le_refl _, At.start _⟩, World.ownsRow_lit w #[] 0 (Nat.le_refl _) (by decide) rfl, (Below.refl _ _).alloc (Nat.le_refl _) _⟩
  case round =>
    obtain ⟨g, cap, a, k, P, rfl, rfl, rfl, hak, hk1, hC, hown, bel⟩ := hrel
    have hfew := hC.few
    have HC := Lib.hid hC
    clear hC
    by_cases hlt : k < s.size
    · have hb := dec.byte_le s[k]
      have HA := Lib.hid (show At s.data.toList P ((s.data.toList.drop a).take (k - a)) (s[k] :: s.data.toList.drop (k + 1)) by
        rcases HC.out with ⟨_, _, h⟩ | ⟨h, _⟩
        · rw [drop_at _ k _ (byte_at s k hlt)] at h; exact h
        · omega)
      clear HC
      have hkz : ((k : Int) == (s.size : Int)) = false := by simp; omega
      by_cases hc : s[k] = 44
      · have hcz : ((s[k].toNat : Int) == 44) = true := by rw [hc]; rfl
        have HN := Lib.hid (show Cutting s.data.toList (k + 1) (k + 1) (P ++ [(s.data.toList.drop a).take (k - a)]) from .inl ⟨by omega, Nat.le_refl _, by
          have h := HA.out
          rw [hc] at h
          have h2 := h.mark
          rw [show k + 1 - (k + 1) = 0 by omega, List.take_zero]
          exact h2⟩)
        have HS := Lib.hid (show strs P ++ [.string (s.extract a k)] = strs (P ++ [(s.data.toList.drop a).take (k - a)]) by rw [strs_snoc, seg_mk])
        clear HA hc
        go_wp2_with (refine wpList_append_own _ rfl _ _ _ rfl w.heap.size 9 iu _ 1 16 Tryd.underlying80 hiu hzu hsu hbu rfl (by decide) _ P.length _ rfl (hown.alloc _) _ 1 _ [.string (s.extract a k)] rfl rfl (cell_one_new _ _ _) (by simp [Value.oneCell']) (by unfold maxLen; omega) (by omega) (Nat.le_trans bel.size (by simp)) ?_; intro v2 w2 o2 g2 _; obtain ⟨gg, cc, rfl⟩ := dec.own_shape o2 (by omega); have bel2 := (Below.alloc bel bel.size _).grown g2 (Nat.le_trans bel.size (by simp)) (fun j hj => (hown.lt j hj).1))
        go_roundw
        case rel => exact ⟨_, _, k + 1, k + 1, _, by rw [List.length_append]; rfl, by go_num, by go_num, Nat.le_refl _, by omega, HN.out, by rw [List.length_append, ← HS.out]; exact o2, bel2⟩
        case measure => simp [intOf]; omega
      · have hcz : ((s[k].toNat : Int) == 44) = false := by
          simp
          intro h
          exact hc (UInt8.toNat_inj.1 (by have : (44 : UInt8).toNat = 44 := rfl; omega))
        have HN := Lib.hid (show Cutting s.data.toList a (k + 1) P from .inl ⟨by omega, by omega, by
          rw [seg_next _ a k _ hak (byte_at s k hlt)]
          exact HA.out.next hc⟩)
        clear HA hc
        go_wp2
        go_roundw
        case rel => exact ⟨_, _, a, k + 1, P, rfl, rfl, by go_num, by omega, by omega, HN.out, hown, bel⟩
        case measure => simp [intOf]; omega
    · by_cases hend : k = s.size
      · have HA := Lib.hid (show cut.cut s.data.toList = P ++ [(s.data.toList.drop a).take (k - a)] by
          rcases HC.out with ⟨_, _, h⟩ | ⟨h, _⟩
          · rw [show s.data.toList.drop k = [] from List.drop_of_length_le (by omega)] at h
            exact h.done
          · omega)
        have HN := Lib.hid (show Cutting s.data.toList (k + 1) (k + 1) (P ++ [(s.data.toList.drop a).take (k - a)]) from .inr ⟨by omega, HA.out.symm⟩)
        have HS := Lib.hid (show strs P ++ [.string (s.extract a k)] = strs (P ++ [(s.data.toList.drop a).take (k - a)]) by rw [strs_snoc, seg_mk])
        clear HA HC
        subst hend
        go_wp2_with (refine wpList_append_own _ rfl _ _ _ rfl w.heap.size 9 iu _ 1 16 Tryd.underlying80 hiu hzu hsu hbu rfl (by decide) _ P.length _ rfl (hown.alloc _) _ 1 _ [.string (s.extract a s.size)] rfl rfl (cell_one_new _ _ _) (by simp [Value.oneCell']) (by unfold maxLen; omega) (by omega) (Nat.le_trans bel.size (by simp)) ?_; intro v2 w2 o2 g2 _; obtain ⟨gg, cc, rfl⟩ := dec.own_shape o2 (by omega); have bel2 := (Below.alloc bel bel.size _).grown g2 (Nat.le_trans bel.size (by simp)) (fun j hj => (hown.lt j hj).1))
        go_roundw
        case rel => exact ⟨_, _, s.size + 1, s.size + 1, _, by rw [List.length_append]; rfl, by go_num, by go_num, Nat.le_refl _, by omega, HN.out, by rw [List.length_append, ← HS.out]; exact o2, bel2⟩
        case measure => simp [intOf]
      · have hP : P = cut.cut s.data.toList := by
          rcases HC.out with ⟨h, _⟩ | ⟨_, h⟩
          · omega
          · exact h
        subst hP
        clear HC
        go_wp2
        go_ret
        exact ⟨g, cap, rfl, hown, bel⟩
end Go.Proofs.YtnilpooheaaleaaDoor.re
