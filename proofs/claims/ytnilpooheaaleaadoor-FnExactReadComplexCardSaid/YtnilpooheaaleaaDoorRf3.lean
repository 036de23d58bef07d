/- Walks: the 32-bit numbers of a list with a text: the reference's side. No conditions. -/
import Derived.Test.YtnilpooheaaleaaDoorRf2
import Derived.Test.YtnilpooheaaleaaDoorPh2
namespace Go.Proofs.YtnilpooheaaleaaDoor.fl
open Go.RowKit
open hex (dg lasts rdBits Own Not8)
open li (own_below info_str)
open re (strs part_cell)
open row (Lists lists_none lists_some vals vals_succ vals_length vals_all)
set_option maxRecDepth 8000

theorem info_f : (Tryd.prog.info? 55).map (fun i => (i.zero, i.size, i.bytes)) = some (some (.float .f32 0), 1, 4) := by kernel_rfl
noncomputable def val (p : List UInt8) : Nat := (rdBits p).getD 0
noncomputable def listOf (l : List UInt8) : Option (List Nat) := cut.readAll rdBits 0 256 l

theorem digit_of (c : UInt8) (h1 : 48 ≤ c.toNat) (h2 : c.toNat ≤ 57) : dg (c.toNat - 48) = c := by
  have h : ∀ n : Fin 256, 48 ≤ n.val → n.val ≤ 57 → dg (n.val - 48) = UInt8.ofNat n.val := by decide +kernel
  have := h ⟨c.toNat, c.toNat_lt⟩ h1 h2
  simpa using this
theorem letter_of (c : UInt8) (h1 : 97 ≤ c.toNat) (h2 : c.toNat ≤ 102) : dg (c.toNat - 87) = c := by
  have h : ∀ n : Fin 256, 97 ≤ n.val → n.val ≤ 102 → dg (n.val - 87) = UInt8.ofNat n.val := by decide +kernel
  have := h ⟨c.toNat, c.toNat_lt⟩ h1 h2
  simpa using this
theorem dg_range : ∀ d : Fin 16, (48 ≤ (dg d.val).toNat ∧ (dg d.val).toNat ≤ 57) ∨ (97 ≤ (dg d.val).toNat ∧ (dg d.val).toNat ≤ 102) := by decide +kernel
theorem bad_byte {l : List UInt8} {j : Nat} {c : UInt8} (hc : l[j]? = some c) (h1 : ¬ (48 ≤ c.toNat ∧ c.toNat ≤ 57)) (h2 : ¬ (97 ≤ c.toNat ∧ c.toNat ≤ 102)) : Not8 l := fun n _ hl => by
  have hj : j < 8 := by
    have h3 := (List.getElem?_eq_some_iff.1 hc).1
    rw [hl, hex.lasts_length] at h3
    exact h3
  rw [hl, hex.lasts_get 8 n j hj] at hc
  injection hc with hc
  subst hc
  rcases dg_range ⟨n / 16 ^ (8 - 1 - j) % 16, Nat.mod_lt _ (by decide)⟩ with h | h
  · exact h1 h
  · exact h2 h
/-- The first j bytes are the digits of n. -/
def Upto (l : List UInt8) (j n : Nat) : Prop := n < 16 ^ j ∧ l.take j = lasts j n
theorem Upto.start (l : List UInt8) : Upto l 0 0 := ⟨by decide, rfl⟩
theorem Upto.push {l : List UInt8} {j n d : Nat} {c : UInt8} (h : Upto l j n) (hc : l[j]? = some c) (hd : d < 16) (he : dg d = c) : Upto l (j + 1) (16 * n + d) := by
  refine ⟨by rw [Nat.pow_succ]; have := h.1; omega, ?_⟩
  rw [List.take_add_one, hc, h.2, lasts, show (16 * n + d) / 16 = n by omega, show (16 * n + d) % 16 = d by omega, he]
  rfl
theorem Upto.lt {l : List UInt8} {j n : Nat} (h : Upto l j n) (hj : j ≤ 7) : n < 268435456 :=
  Nat.lt_of_lt_of_le h.1 (Nat.le_trans (Nat.pow_le_pow_right (by decide) hj) (by decide))
theorem Upto.done {l : List UInt8} {n : Nat} (h : Upto l 8 n) (hl : l.length = 8) : n < 4294967296 ∧ l = lasts 8 n := by
  refine ⟨by have := h.1; simpa using this, ?_⟩
  rw [← h.2, List.take_of_length_le (by omega)]
theorem not_own {l : List UInt8} {n : Nat} (hn : n < 4294967296) (hl : l = lasts 8 n) (h : hex.wordA (ab .f32 n) ≠ n) : rdBits l = none :=
  hex.rdBits_none fun m hm hl2 => by
    have e := hex.lasts_inj 8 n m (by simpa using hn) (by simpa using hm.1) (hl.symm.trans hl2)
    subst e
    exact h hm.2
theorem not_long {l : List UInt8} (h : l.length ≠ 8) : Not8 l := fun n _ hl => h (by rw [hl, hex.lasts_length])

theorem word_le (n : Nat) : hex.wordA (ab .f32 n) ≤ 4294967295 ∨ 4294967296 ≤ n := by
  by_cases h : n < 4294967296
  · have := hex.word_lt (Ab.self (k := .f32) (b := n) h)
    left; omega
  · right; omega

set_option maxRecDepth 100000 in
set_option maxHeartbeats 8000000 in
theorem spec_nread (s : ByteArray) (hs : s.size ≤ 1048576) (w : World) :
    Calls Tryd.prog 56 #[.string s] w (Lists 55 (Value.float .f32) (listOf s.data.toList) w) := by
  obtain ⟨iu, hiu, hzu, hsu, hbu⟩ := info_parts info_f
  by_cases h0 : s.data.toList = [110, 111, 110, 101]
  · have HN := Lib.hid (cut.readAll_none (rd := rdBits) (z := 0) (most := 256) h0)
    have he : (s.toList == [110, 111, 110, 101]) = true := by rw [Lib.toList_data, h0]; rfl
    go_enter Tryd.func56, Tryd.ntmps56
    go_wp2
    go_ret2
    exact lists_some HN.out (World.ownsRow_lit w #[] 0 (Nat.le_refl _) (by decide) rfl) ((Below.refl _ _).alloc (Nat.le_refl _) _)
  · have he : (s.toList == [110, 111, 110, 101]) = false := by rw [Lib.toList_data]; simpa using h0
    have hcut := fun w' => re.spec_cut s hs w'
    obtain ⟨ps, hps⟩ : ∃ ps, cut.cut s.data.toList = ps := ⟨_, rfl⟩
    rw [hps] at hcut
    have HP := Lib.hid hps
    by_cases hm : 256 < ps.length
    · have HN := Lib.hid (cut.readAll_many (rd := rdBits) (z := 0) (most := 256) h0 (by rw [hps]; exact hm))
      clear hps
      go_enter Tryd.func56, Tryd.ntmps56
      go_wp2_with ((go_at_call 78; refine (hcut _).mono ?_; rintro e w' ⟨g, cap, rfl, hO, hB⟩))
      go_ret2
      exact lists_none HN.out (((Below.refl _ _).alloc (Nat.le_refl _) _).trans (hB.mono (by simp)))
    · clear hps
      go_enter Tryd.func56, Tryd.ntmps56
      go_wp2_with (go_at_call 78; refine (hcut _).mono ?_; rintro e w1 ⟨gp, capp, rfl, hO, hB⟩)
      have hgp : w.heap.size < gp := by have h1 := (hO.lt gp rfl).1; simp at h1; omega
      have bel1 : Below w.heap.size w w1 := ((Below.refl _ _).alloc (Nat.le_refl _) _).trans (hB.mono (by simp))
      have hR0 : Row w1 w.heap.size (.slice (some ⟨w.heap.size, 0, none⟩) 0 0) [] := own_below (World.ownsRow_lit w #[] 0 (Nat.le_refl _) (by decide) rfl) hB
      have HO := Lib.hid (show w1.ownsRow (w.heap.size + 1) 9 1 (.slice (some ⟨gp, 0, none⟩) ps.length capp) ps.length (strs ps) by
        have h := hO
        rw [show (w.alloc (.cells #[] 55)).heap.size = w.heap.size + 1 by simp] at h
        exact h)
      clear hO
      go_loopw [4, 6, 7, 8, 9, 10, 11] (fun v i _ _ _ _ _ wr => ∃ (g cap k : Nat), v = .slice (some ⟨g, 0, none⟩) k cap ∧ k ≤ ps.length ∧ i = .int .i64 k ∧ g ≠ gp ∧ Row wr w.heap.size v (vals val ps k) ∧ wr.ownsRow (w.heap.size + 1) 9 1 (.slice (some ⟨gp, 0, none⟩) ps.length capp) ps.length (strs ps) ∧ Below w.heap.size w wr ∧ ∀ (j : Nat) p, j < k → ps[j]? = some p → (rdBits p).isSome = true) (fun _ i _ _ _ _ _ _ => ps.length - (intOf i).toNat)
      case atStart => exact ⟨w.heap.size, 0, 0, rfl, Nat.zero_le _, rfl, by omega, hR0, HO.out, bel1, fun j p hj => absurd hj (Nat.not_lt_zero j)⟩
      case round =>
        obtain ⟨g, cap, k, rfl, hk, rfl, hne, hR, hO, bel, hall⟩ := hrel
        have HA := Lib.hid hall
        clear hall hB hR0 bel1
        by_cases hlt : k < ps.length
        · obtain ⟨p, hp⟩ : ∃ p, ps[k]? = some p := ⟨_, List.getElem?_eq_getElem hlt⟩
          have hc := part_cell hO k p hp
          have HPk := Lib.hid hp
          have hq : p = (cut.mk p).data.toList := rfl
          have hqs : (cut.mk p).size = p.length := rfl
          clear hp
          generalize cut.mk p = q at *
          by_cases h8 : p.length = 8
          · rw [h8] at hqs
            have hqs8 : ((q.size : Int) != 8) = false := by rw [hqs]; rfl
            have H8 := Lib.hid h8
            have HQ := Lib.hid hq
            have HQS := Lib.hid hqs
            clear h8 hq hqs
            go_wp2
            go_loop [7, 8, 9, 10] (fun n j _ _ => ∃ (jj nn : Nat), n = .int .i64 nn ∧ j = .int .i64 jj ∧ jj ≤ 8 ∧ Hid (Upto p jj nn)) (fun _ j _ _ => 8 - (intOf j).toNat)
            case atStart => exact ⟨0, 0, rfl, rfl, by decide, Lib.hid (Upto.start p)⟩
            case round =>
              obtain ⟨j, n, rfl, rfl, hj, HU⟩ := hrel
              by_cases hj8 : j < 8
              · have hn28 : (n : Int) < 268435456 := by have := HU.out.lt (by omega); omega
                have hn0 : (0 : Int) ≤ (n : Int) := by omega
                have hqs := HQS.out
                have hat : p[j]? = some (q[j]'(by omega)) := by rw [HQ.out]; exact List.getElem?_eq_getElem (by simp; omega)
                have hix : ∀ w, (Instr.index 9 (.string q) (.int .i64 (j : Int))).run Tryd.prog w = .ok (.int .u8 (((q[j]'(by omega)).toNat : Nat) : Int)) w := fun w => by
                  rw [run_index_string w 9 q .i64 _ Tryd.underlying9, dif_pos ⟨by omega, by omega⟩]
                  have e : ((j : Int)).toNat = j := by omega
                  simp only [e]
                generalize q[j]'(by omega) = c at hat hix
                clear hqs
                have hc255 : (c.toNat : Int) ≤ 255 := by have := c.toNat_lt; omega
                have hc0 : (0 : Int) ≤ (c.toNat : Int) := by omega
                have hj8i : (j : Int) < 8 := by omega
                by_cases hd : 48 ≤ c.toNat ∧ c.toNat ≤ 57
                · have HK : Hid (Upto p (j + 1) (16 * n + (c.toNat - 48))) := Lib.hid (HU.out.push hat (by omega) (digit_of c hd.1 hd.2))
                  have hd0 : (48 : Int) ≤ (c.toNat : Int) := by omega
                  have hd1 : (c.toNat : Int) ≤ 57 := by omega
                  have hd2 : ¬ (97 : Int) ≤ (c.toNat : Int) := by omega
                  have hsum : ((16 * n + (c.toNat - 48) : Nat) : Int) = 16 * (n : Int) + ((c.toNat : Int) - 48) := by omega
                  clear hat hd hj8 hj
                  generalize (c.toNat : Int) = z at *
                  have hng : decide (z - 48 < 0) = false := decide_eq_false (by omega)
                  go_wp2
                  exact ⟨⟨j + 1, 16 * n + (c.toNat - 48), by rw [hsum], by go_num, by omega, HK⟩, by simp [intOf]; omega⟩
                · by_cases hl : 97 ≤ c.toNat ∧ c.toNat ≤ 102
                  · have HK : Hid (Upto p (j + 1) (16 * n + (c.toNat - 87))) := Lib.hid (HU.out.push hat (by omega) (letter_of c hl.1 hl.2))
                    have hd0 : (48 : Int) ≤ (c.toNat : Int) := by omega
                    have hd1 : ¬ (c.toNat : Int) ≤ 57 := by omega
                    have hd2 : (97 : Int) ≤ (c.toNat : Int) := by omega
                    have hd3 : (c.toNat : Int) ≤ 102 := by omega
                    have hsum : ((16 * n + (c.toNat - 87) : Nat) : Int) = 16 * (n : Int) + ((c.toNat : Int) - 97 + 10) := by omega
                    clear hat hd hl hj8 hj
                    generalize (c.toNat : Int) = z at *
                    have hng : decide (z - 97 + 10 < 0) = false := decide_eq_false (by omega)
                    go_wp2
                    exact ⟨⟨j + 1, 16 * n + (c.toNat - 87), by rw [hsum], by go_num, by omega, HK⟩, by simp [intOf]; omega⟩
                  · have HN := Lib.hid (cut.readAll_bad (rd := rdBits) (z := 0) (most := 256) h0 (by rw [HP.out]; exact HPk.out) (hex.rdBits_not (bad_byte hat hd hl)))
                    have hway : (c.toNat : Int) < 48 ∨ (57 < (c.toNat : Int) ∧ (c.toNat : Int) < 97) ∨ 102 < (c.toNat : Int) := by omega
                    clear hat hd hl hj8 hj
                    generalize (c.toNat : Int) = z at *
                    rcases hway with hw | ⟨hw0, hw1⟩ | hw
                    · have f1 : ¬ (48 : Int) ≤ z := by omega
                      have f2 : ¬ (97 : Int) ≤ z := by omega
                      clear hw
                      go_wp2
                      go_ret2
                      exact lists_none HN.out bel
                    · have f1 : (48 : Int) ≤ z := by omega
                      have f3 : ¬ z ≤ (57 : Int) := by omega
                      have f2 : ¬ (97 : Int) ≤ z := by omega
                      clear hw0 hw1
                      go_wp2
                      go_ret2
                      exact lists_none HN.out bel
                    · have f1 : (48 : Int) ≤ z := by omega
                      have f3 : ¬ z ≤ (57 : Int) := by omega
                      have f2 : (97 : Int) ≤ z := by omega
                      have f4 : ¬ z ≤ (102 : Int) := by omega
                      clear hw
                      go_wp2
                      go_ret2
                      exact lists_none HN.out bel
              · obtain rfl : j = 8 := by omega
                obtain ⟨hn32, hpl⟩ := HU.out.done H8.out
                have hx : Ab .f32 n (ab .f32 n) := Ab.self (b := n) hn32
                have hb := fun w' => spec_l01Bits n (ab .f32 n) hx w'
                rw [hex.bitsA_word] at hb
                have hni : (n : Int) ≤ 4294967295 := by omega
                have hn0 : (0 : Int) ≤ (n : Int) := by omega
                by_cases hown : hex.wordA (ab .f32 n) = n
                · have hr : rdBits p = some n := hex.rdBits_some ⟨hn32, hown⟩ hpl
                  have HS := Lib.hid (show vals val ps (k + 1) = vals val ps k ++ [n] by rw [vals_succ val ps k p HPk.out, val, hr]; rfl)
                  have HK := Lib.hid (show ∀ (j : Nat) q, j < k + 1 → ps[j]? = some q → (rdBits q).isSome = true from fun j q hj hq => by
                    by_cases h : j = k
                    · subst h
                      rw [HPk.out] at hq
                      injection hq with hq
                      subst hq
                      rw [hr]
                      rfl
                    · exact HA.out j q (by omega) hq)
                  have hvl := vals_length val ps k hk
                  have hR2 : wr.ownsRow w.heap.size 55 1 (.slice (some ⟨g, 0, none⟩) k cap) k ((vals val ps k).map (Value.float .f32)) := by
                    have h := hR
                    unfold Row row.Row at h
                    rw [hvl] at h
                    exact h
                  rw [hown] at hb
                  have enn : ((n : Int) != (n : Int)) = false := by simp
                  clear hr hpl hx hown hn32 HU
                  go_wp2_with (first | (go_at_call 81; refine (hb _).mono ?_; rintro e w' ⟨rfl, rfl⟩) | go_in | (refine wpList_append_own_at _ rfl _ _ _ rfl w.heap.size 55 iu _ 1 4 Tryd.underlying31 hiu hzu hsu hbu rfl (by decide) (.slice (some ⟨g, 0, none⟩) k cap) k _ rfl (hR2.alloc _) _ 1 _ [.float .f32 n] rfl rfl (cell_one_new _ _ _) (by simp [Value.oneCell']) (by unfold maxLen; omega) (by omega) (Nat.le_trans bel.size (by simp)) ?_; intro v3 w3 o3 g3 _ at3))
                  obtain ⟨gg, cc, rfl⟩ := dec.own_shape o3 (by omega)
                  have bel3 := (Below.alloc bel bel.size (.cells #[.float .f32 n] 55)).grown g3 (Nat.le_trans bel.size (by simp)) (fun j hj => (hR2.lt j hj).1)
                  have hne3 : gg ≠ gp := by
                    have hl := (hO.lt gp rfl).2
                    rcases at3 with h | h
                    · simp [Value.ownBlock] at h; omega
                    · simp [Value.ownBlock] at h; omega
                  have hO3 := (hO.alloc (.cells #[.float .f32 n] 55)).kept g3 (.inr (by simp [Value.ownBlock]; omega))
                  have hR3 : Row w3 w.heap.size (.slice (some ⟨gg, 0, none⟩) (k + 1) cc) (vals val ps (k + 1)) := by
                    unfold Row row.Row
                    rw [vals_length val ps (k + 1) (by omega), HS.out, List.map_append]
                    exact o3
                  exact ⟨⟨gg, cc, k + 1, rfl, by omega, by go_num, hne3, hR3, hO3, bel3, HK.out⟩, by simp [intOf]; omega⟩
                · have HN := Lib.hid (cut.readAll_bad (rd := rdBits) (z := 0) (most := 256) h0 (by rw [HP.out]; exact HPk.out) (not_own hn32 hpl hown))
                  have enn : (((hex.wordA (ab .f32 n) : Nat) : Int) != (n : Int)) = true := by simp; omega
                  have hwl := hex.word_lt hx
                  have hwl2 : ((hex.wordA (ab .f32 n) : Nat) : Int) ≤ 4294967295 := by omega
                  clear hpl hx hown hn32 HU hwl
                  generalize hex.wordA (ab .f32 n) = m at *
                  go_wp2_with (first | (go_at_call 81; refine (hb _).mono ?_; rintro e w' ⟨rfl, rfl⟩) | go_in)
                  go_ret2
                  exact lists_none HN.out bel
          · have HN := Lib.hid (cut.readAll_bad (rd := rdBits) (z := 0) (most := 256) h0 (by rw [HP.out]; exact HPk.out) (hex.rdBits_not (not_long h8)))
            have hqs8 : ((q.size : Int) != 8) = true := by
              have : ¬ (q.size : Int) = 8 := by omega
              simpa using this
            clear hq hqs h8
            go_wp2
            go_ret2
            exact lists_none HN.out bel
        · obtain rfl : k = ps.length := by omega
          have HN := Lib.hid (show listOf s.data.toList = some (vals val ps ps.length) by
            rw [vals_all, ← HP.out]
            exact cut.readAll_good h0 (by rw [HP.out]; omega) fun j p hj => HA.out j p (by rw [← HP.out]; exact (List.getElem?_eq_some_iff.1 hj).1) (by rw [← HP.out]; exact hj))
          go_wp2
          go_ret2
          exact lists_some HN.out hR bel
end Go.Proofs.YtnilpooheaaleaaDoor.fl
