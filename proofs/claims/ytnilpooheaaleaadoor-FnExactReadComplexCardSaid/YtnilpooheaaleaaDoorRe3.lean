/- Walks: the numbers of a list with a text: the reference's side. No conditions. -/
import Derived.Test.YtnilpooheaaleaaDoorRe2
namespace Go.Proofs.YtnilpooheaaleaaDoor.re
open Go.RowKit
open cut (mk cutB readAll)
open dcp (readDec)
open li (own_below info_str info_i64)
set_option maxRecDepth 8000

def val (p : List UInt8) : Int := (readDec p).getD 0
/-- What the first k parts spell. -/
def vals (ps : List (List UInt8)) (k : Nat) : List Int := (ps.take k).map val
theorem vals_zero (ps : List (List UInt8)) : vals ps 0 = [] := rfl
theorem vals_succ (ps : List (List UInt8)) (k : Nat) (p : List UInt8) (h : ps[k]? = some p) : vals ps (k + 1) = vals ps k ++ [val p] := by
  unfold vals
  rw [List.take_add_one, h, List.map_append]
  rfl
theorem vals_length (ps : List (List UInt8)) (k : Nat) (h : k ≤ ps.length) : (vals ps k).length = k := by
  simp [vals, Nat.min_eq_left h]
theorem vals_all (ps : List (List UInt8)) : vals ps ps.length = ps.map val := by
  unfold vals
  rw [List.take_length]
theorem ints_snoc (xs : List Int) (x : Int) : ints (xs ++ [x]) = ints xs ++ [.int .i64 x] := by simp [ints]

/-- A list and whether there is one. -/
def Lists (r : Option (List Int)) (w : World) (e : Ending) (w' : World) : Prop :=
  ∃ v, e = .returned (.tuple #[v, .bool r.isSome]) ∧ Row w' w.heap.size v (r.getD []) ∧ Below w.heap.size w w'
theorem row_nil (w : World) (base : Nat) : Row w base (.slice none 0 0) [] := World.ownsRow_nil _ _ _ _
theorem lists_none {r : Option (List Int)} (h : r = none) {w w' : World} (hB : Below w.heap.size w w') : Lists r w (.returned (.tuple #[.slice none 0 0, .bool false])) w' := by
  subst h
  exact ⟨_, rfl, row_nil _ _, hB⟩
theorem lists_some {r : Option (List Int)} {xs : List Int} (h : r = some xs) {w w' : World} {v : Value} (hR : Row w' w.heap.size v xs) (hB : Below w.heap.size w w') : Lists r w (.returned (.tuple #[v, .bool true])) w' := by
  subst h
  exact ⟨_, rfl, hR, hB⟩
theorem part_cell {w : World} {base g n cap : Nat} {ps : List (List UInt8)} (h : w.ownsRow base 9 1 (.slice (some ⟨g, 0, none⟩) n cap) n (strs ps)) (k : Nat) (p : List UInt8) (hk : ps[k]? = some p) : w.cell? ⟨g, k, none⟩ = some (.string (mk p)) := by
  have h1 := h.cells rfl k (.string (mk p)) (by unfold strs; rw [List.getElem?_map, hk]; rfl)
  have h2 : (⟨g, 0, none⟩ : Addr).add k = ⟨g, k, none⟩ := by unfold Addr.add; split <;> simp_all
  rw [h2] at h1
  exact h1
/-- The law's own most: 64. -/
def listOf (l : List UInt8) : Option (List Int) := readAll readDec 0 64 l

set_option maxHeartbeats 4000000 in
theorem spec_numbers (s : ByteArray) (hs : s.size ≤ 1048576) (w : World) :
    Calls Tryd.prog 54 #[.string s] w (Lists (listOf s.data.toList) w) := by
  obtain ⟨iu, hiu, hzu, hsu, hbu⟩ := info_parts info_i64
  by_cases h0 : s.data.toList = [110, 111, 110, 101]
  · have HN := Lib.hid (cut.readAll_none (rd := readDec) (z := 0) (most := 64) h0)
    have he : (s.toList == [110, 111, 110, 101]) = true := by rw [Lib.toList_data, h0]; rfl
    go_enter Tryd.func54, Tryd.ntmps54
    go_wp2
    go_ret2
    exact lists_some HN.out (World.ownsRow_lit w #[] 0 (Nat.le_refl _) (by decide) rfl) ((Below.refl _ _).alloc (Nat.le_refl _) _)
  · have he : (s.toList == [110, 111, 110, 101]) = false := by rw [Lib.toList_data]; simpa using h0
    have hcut := fun w' => spec_cut s hs w'
    obtain ⟨ps, hps⟩ : ∃ ps, cut.cut s.data.toList = ps := ⟨_, rfl⟩
    have hle := cut.cut_le s.data.toList
    rw [hps] at hcut hle
    have esz : s.data.toList.length = s.size := by simp
    have HP := Lib.hid hps
    have HLE := Lib.hid hle
    by_cases hm : 64 < ps.length
    · have HN := Lib.hid (cut.readAll_many (rd := readDec) (z := 0) (most := 64) h0 (by rw [hps]; exact hm))
      clear hps hle
      go_enter Tryd.func54, Tryd.ntmps54
      go_wp2_with ((go_at_call 78; refine (hcut _).mono ?_; rintro e w' ⟨g, cap, rfl, hO, hB⟩))
      go_ret2
      exact lists_none HN.out (((Below.refl _ _).alloc (Nat.le_refl _) _).trans (hB.mono (by simp)))
    · clear hps hle
      go_enter Tryd.func54, Tryd.ntmps54
      go_wp2_with (go_at_call 78; refine (hcut _).mono ?_; rintro e w1 ⟨gp, capp, rfl, hO, hB⟩)
      have hgp : w.heap.size < gp := by have h1 := (hO.lt gp rfl).1; simp at h1; omega
      have bel1 : Below w.heap.size w w1 := ((Below.refl _ _).alloc (Nat.le_refl _) _).trans (hB.mono (by simp))
      have hR0 : Row w1 w.heap.size (.slice (some ⟨w.heap.size, 0, none⟩) 0 0) [] := own_below (World.ownsRow_lit w #[] 0 (Nat.le_refl _) (by decide) rfl) hB
      have HO := Lib.hid (show w1.ownsRow (w.heap.size + 1) 9 1 (.slice (some ⟨gp, 0, none⟩) ps.length capp) ps.length (strs ps) by
        have h := hO
        rw [show (w.alloc (.cells #[] 2)).heap.size = w.heap.size + 1 by simp] at h
        exact h)
      clear hO
      go_loopw [4, 6, 7, 8] (fun v i _ _ wr => ∃ (g cap k : Nat), v = .slice (some ⟨g, 0, none⟩) k cap ∧ k ≤ ps.length ∧ i = .int .i64 k ∧ g ≠ gp ∧ Row wr w.heap.size v (vals ps k) ∧ wr.ownsRow (w.heap.size + 1) 9 1 (.slice (some ⟨gp, 0, none⟩) ps.length capp) ps.length (strs ps) ∧ Below w.heap.size w wr ∧ ∀ (j : Nat) p, j < k → ps[j]? = some p → (readDec p).isSome = true) (fun _ i _ _ _ => ps.length - (intOf i).toNat)
      case atStart => exact ⟨w.heap.size, 0, 0, rfl, Nat.zero_le _, rfl, by omega, hR0, HO.out, bel1, fun j p hj => absurd hj (Nat.not_lt_zero j)⟩
      case round =>
        obtain ⟨g, cap, k, rfl, hk, rfl, hne, hR, hO, bel, hall⟩ := hrel
        have HA := Lib.hid hall
        clear hall hB hR0 bel1
        by_cases hlt : k < ps.length
        · obtain ⟨p, hp⟩ : ∃ p, ps[k]? = some p := ⟨_, List.getElem?_eq_getElem hlt⟩
          have hc := part_cell hO k p hp
          have hsz := HLE.out p (List.mem_of_getElem? hp)
          have hV := fun w' => dec.spec_value (mk p) (by rw [show (mk p).size = p.length from rfl]; unfold maxLen; omega) w'
          rw [cut.data_mk] at hV
          unfold dec.ans at hV
          have HPk := Lib.hid hp
          clear hp
          cases hr : readDec p with
          | none =>
            have HN := Lib.hid (cut.readAll_bad (rd := readDec) (z := 0) (most := 64) h0 (by rw [HP.out]; exact HPk.out) hr)
            rw [hr] at hV
            clear hr
            go_wp2_with ((go_at_call 52; refine (hV _).mono ?_; rintro e w' ⟨rfl, hB2⟩))
            go_ret2
            exact lists_none HN.out (bel.trans (hB2.mono bel.size))
          | some x =>
            rw [hr] at hV
            have HS := Lib.hid (show vals ps (k + 1) = vals ps k ++ [x] by rw [vals_succ ps k p HPk.out, val, hr]; rfl)
            have HK := Lib.hid (show ∀ (j : Nat) q, j < k + 1 → ps[j]? = some q → (readDec q).isSome = true from fun j q hj hq => by
              by_cases h : j = k
              · subst h
                rw [HPk.out] at hq
                injection hq with hq
                subst hq
                rw [hr]
                rfl
              · exact HA.out j q (by omega) hq)
            clear hr
            have hvl := vals_length ps k hk
            unfold Row at hR
            rw [hvl] at hR
            go_wp2_with (first | (go_at_call 52; refine (hV _).mono ?_; rintro e w2 ⟨rfl, hB2⟩; have hO2 := own_below hO hB2; have hR2 := own_below hR hB2; have bel2 := bel.trans (hB2.mono bel.size)) | (refine wpList_append_own_at _ rfl _ _ _ rfl w.heap.size 2 iu _ 1 8 Tryd.underlying25 hiu hzu hsu hbu rfl (by decide) (.slice (some ⟨g, 0, none⟩) k cap) k _ rfl (hR2.alloc _) _ 1 _ [.int .i64 x] rfl rfl (cell_one_new _ _ _) (by simp [Value.oneCell']) (by unfold maxLen; omega) (by omega) (Nat.le_trans bel2.size (by simp)) ?_; intro v3 w3 o3 g3 _ at3))
            obtain ⟨gg, cc, rfl⟩ := dec.own_shape o3 (by omega)
            have bel3 := (Below.alloc bel2 bel2.size _).grown g3 (Nat.le_trans bel2.size (by simp)) (fun j hj => (hR2.lt j hj).1)
            have hne3 : gg ≠ gp := by
              have hl := (hO2.lt gp rfl).2
              rcases at3 with h | h
              · simp [Value.ownBlock] at h
                omega
              · simp [Value.ownBlock] at h
                omega
            have hO3 := (hO2.alloc (.cells #[.int .i64 x] 2)).kept g3 (.inr (by simp [Value.ownBlock]; omega))
            have hR3 : Row w3 w.heap.size (.slice (some ⟨gg, 0, none⟩) (k + 1) cc) (vals ps (k + 1)) := by
              unfold Row
              rw [vals_length ps (k + 1) (by omega), HS.out, ints_snoc]
              exact o3
            go_roundw
            case rel => exact ⟨gg, cc, k + 1, rfl, by omega, by go_num, hne3, hR3, hO3, bel3, HK.out⟩
            case measure => simp [intOf]; omega
        · obtain rfl : k = ps.length := by omega
          have HN := Lib.hid (show listOf s.data.toList = some (vals ps ps.length) by
            rw [vals_all, ← HP.out]
            exact cut.readAll_good h0 (by rw [HP.out]; omega) fun j p hj => HA.out j p (by rw [← HP.out]; exact (List.getElem?_eq_some_iff.1 hj).1) (by rw [← HP.out]; exact hj))
          go_wp2
          go_ret2
          exact lists_some HN.out hR bel
end Go.Proofs.YtnilpooheaaleaaDoor.re
