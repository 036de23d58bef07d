/- Walks: the complex numbers of a list with a text: the program's side. No conditions. -/
import Derived.Test.YtnilpooheaaleaaDoorRc3
namespace Go.Proofs.YtnilpooheaaleaaDoor.cx
open Go.RowKit
open hex (rdBits De)
open li (own_below)
open re (strs part_cell MaxLen split_to)
open row (Lists lists_none lists_some vals vals_succ vals_length vals_all row_nil)
set_option maxRecDepth 8000

/-- What the program's reading of one complex number gives. -/
def Reads (l : List UInt8) (e : Ending) : Prop := ∃ x y : Nat, e = .returned (.tuple #[.complex .f32 x y, .bool (rdC l).isSome]) ∧ ∀ z, rdC l = some z → (x, y) = z
theorem reads_none {l : List UInt8} (h : rdC l = none) (x y : Nat) : Reads l (.returned (.tuple #[.complex .f32 x y, .bool false])) := ⟨x, y, by rw [h]; rfl, fun n hn => by rw [h] at hn; cases hn⟩
theorem reads_some {l : List UInt8} {x y : Nat} (h : rdC l = some (x, y)) : Reads l (.returned (.tuple #[.complex .f32 x y, .bool true])) := ⟨x, y, by rw [h]; rfl, fun n hn => by rw [h] at hn; injection hn⟩

/-- What readBits gives, by what there is to read. -/
theorem bits_told {t : ByteArray} {w : World} {P : Ending → World → Prop} (h : Calls Tryd.prog 58 #[.string t] w fun e w' => hex.Reads t.data.toList e ∧ P e w') {o : Option Nat} (ho : rdBits t.data.toList = o) :
    Calls Tryd.prog 58 #[.string t] w fun e w' => (∃ x, e = .returned (.tuple #[.float .f32 x, .bool o.isSome]) ∧ ∀ n, o = some n → x = n) ∧ P e w' := by
  subst ho
  exact h

set_option maxHeartbeats 4000000 in
theorem impl_one (q : ByteArray) (w : World) (hH : dec.Held w) (hD : De w) :
    Calls Tryd.prog 61 #[.string q] w fun e w' => Reads q.data.toList e ∧ Below w.heap.size w w' := by
  have hlen : q.data.toList.length = q.size := by simp
  by_cases h16 : q.size = 16
  · have h1 := hex.read_bits (q.extract 0 8) (by rw [first_size q h16]; decide) w hH hD
    have h2 := fun w' (hB : Below w.heap.size w w') => hex.read_bits (q.extract 8 q.size) (by rw [rest_size q h16]; decide) w' (hH.below hB) (nt.de_below hD hB)
    have hD1 := bits_told h1 (o := rdBits (q.data.toList.take 8)) (by rw [first_part])
    have hD2 := fun w' hB => bits_told (h2 w' hB) (o := rdBits (q.data.toList.drop 8)) (by rw [rest_part])
    have hqs8 : ((q.size : Int) != 16) = false := by rw [h16]; rfl
    have hle8 : (8 : Int) ≤ (q.size : Int) := by omega
    obtain ⟨p, hp⟩ : ∃ p, q.data.toList = p := ⟨_, rfl⟩
    rw [hp] at hD1 hD2 hlen ⊢
    clear h1 h2 hH hD hp
    have hpl : p.length = 16 := by omega
    clear hlen h16
    cases r1 : rdBits (p.take 8) with
    | none =>
      have HN := Lib.hid (fun x y => reads_none (rdC_no1 r1) x y)
      rw [r1] at hD1
      dsimp only [Option.isSome_none] at hD1
      generalize rdBits (p.drop 8) = o2 at hD2
      clear r1
      generalize o2.isSome = k2 at hD2
      go_enter Tryd.func61, Tryd.ntmps61
      go_wp2_with (first | (go_at_call 58; (with_reducible_and_instances refine Calls.mono hD1 ?_); rintro e w1 ⟨⟨x1, rfl, _⟩, hB1⟩) | (go_at_call 58; (with_reducible_and_instances refine Calls.mono (hD2 _ hB1) ?_); rintro e w2 ⟨⟨x2, rfl, _⟩, hB2⟩))
      go_ret2
      exact ⟨HN.out _ _, hB1.trans (hB2.mono hB1.size)⟩
    | some n1 =>
      cases r2 : rdBits (p.drop 8) with
      | none =>
        have HN := Lib.hid (fun x y => reads_none (rdC_no2 r2) x y)
        rw [r1] at hD1
        rw [r2] at hD2
        dsimp only [Option.isSome_none, Option.isSome_some] at hD1 hD2
        clear r1 r2
        go_enter Tryd.func61, Tryd.ntmps61
        go_wp2_with (first | (go_at_call 58; (with_reducible_and_instances refine Calls.mono hD1 ?_); rintro e w1 ⟨⟨x1, rfl, _⟩, hB1⟩) | (go_at_call 58; (with_reducible_and_instances refine Calls.mono (hD2 _ hB1) ?_); rintro e w2 ⟨⟨x2, rfl, _⟩, hB2⟩))
        go_ret2
        exact ⟨HN.out _ _, hB1.trans (hB2.mono hB1.size)⟩
      | some n2 =>
        have HN := Lib.hid (reads_some (rdC_yes hpl r1 r2))
        rw [r1] at hD1
        rw [r2] at hD2
        dsimp only [Option.isSome_some] at hD1 hD2
        clear r1 r2
        go_enter Tryd.func61, Tryd.ntmps61
        go_wp2_with (first | (go_at_call 58; (with_reducible_and_instances refine Calls.mono hD1 ?_); rintro e w1 ⟨⟨x1, rfl, hx1⟩, hB1⟩; obtain rfl := hx1 _ rfl) | (go_at_call 58; (with_reducible_and_instances refine Calls.mono (hD2 _ hB1) ?_); rintro e w2 ⟨⟨x2, rfl, hx2⟩, hB2⟩; obtain rfl := hx2 _ rfl))
        go_ret2
        exact ⟨HN.out, hB1.trans (hB2.mono hB1.size)⟩
  · have HN := Lib.hid (reads_none (rdC_long (l := q.data.toList) (by omega)) 0 0)
    have hqs8 : ((q.size : Int) != 16) = true := by
      have : ¬ (q.size : Int) = 16 := by omega
      simpa using this
    clear hH hD hlen h16
    go_enter Tryd.func61, Tryd.ntmps61
    go_wp2
    go_ret2
    exact ⟨HN.out, Below.refl _ _⟩

theorem read_no {t : ByteArray} {w : World} {P : Ending → World → Prop} (hr : rdC t.data.toList = none)
    (h : Calls Tryd.prog 61 #[.string t] w fun e w' => Reads t.data.toList e ∧ P e w') :
    Calls Tryd.prog 61 #[.string t] w fun e w' => (∃ x y, e = .returned (.tuple #[.complex .f32 x y, .bool false])) ∧ P e w' := by
  refine h.mono ?_
  rintro e w' ⟨⟨x, y, he, _⟩, hp⟩
  rw [hr] at he
  exact ⟨⟨x, y, he⟩, hp⟩
theorem read_yes {t : ByteArray} {w : World} {n m : Nat} {P : Ending → World → Prop} (hr : rdC t.data.toList = some (n, m))
    (h : Calls Tryd.prog 61 #[.string t] w fun e w' => Reads t.data.toList e ∧ P e w') :
    Calls Tryd.prog 61 #[.string t] w fun e w' => e = .returned (.tuple #[.complex .f32 n m, .bool true]) ∧ P e w' := by
  refine h.mono ?_
  rintro e w' ⟨⟨x, y, he, hx⟩, hp⟩
  rw [hr] at he
  have h2 := hx _ hr
  injection h2 with h3 h4
  subst h3 h4
  exact ⟨he, hp⟩

set_option maxHeartbeats 4000000 in
theorem impl_texts (s : ByteArray) (hs : s.size ≤ 1048576) (w : World) (hH : dec.Held w) (hM : MaxLen w) (hD : De w) :
    Calls Tryd.prog 60 #[.string s, .int .i64 256, .func (.func 61) #[] #[]] w (Lists 68 cval (listOf s.data.toList) w) := by
  obtain ⟨iu, hiu, hzu, hsu, hbu⟩ := info_parts info_c
  by_cases h0 : s.data.toList = [110, 111, 110, 101]
  · have HN := Lib.hid (cut.readAll_none (rd := rdC) (z := (0, 0)) (most := 256) h0)
    have he : (s.toList == [110, 111, 110, 101]) = true := by rw [Lib.toList_data, h0]; rfl
    clear hH hM hD
    go_enter Tryd.func60, Tryd.ntmps60
    go_wp2
    go_ret2
    exact lists_some HN.out (row_nil _ _) (Below.refl _ _)
  · have he : (s.toList == [110, 111, 110, 101]) = false := by rw [Lib.toList_data]; simpa using h0
    have hcut := split_to s hs w hM
    obtain ⟨ps, hps⟩ : ∃ ps, cut.cut s.data.toList = ps := ⟨_, rfl⟩
    have hle := cut.cut_le s.data.toList
    have hcnt := cut.cut_count s.data.toList
    rw [hps] at hcut hle hcnt
    have esz : s.data.toList.length = s.size := by simp
    have HP := Lib.hid hps
    have HLE := Lib.hid hle
    have HH := Lib.hid hH
    have HD := Lib.hid hD
    clear hps hle hH hM hD
    go_enter Tryd.func60, Tryd.ntmps60
    go_wp2_with (go_at_call 79; refine hcut.mono ?_; rintro e w1 ⟨rfl, hO, hz, hB⟩)
    have HO := Lib.hid hO
    clear hO
    go_loopw [8, 10, 11, 12, 18] (fun v _ _ _ i wr => ∃ (k : Nat) (c : Option Addr) (cp : Nat), v = .slice c k cp ∧ k ≤ ps.length ∧ k ≤ 256 ∧ i = .int .i64 k ∧ wr.ownsRow (w.heap.size + 1) 68 1 v k ((vals val ps k).map cval) ∧ Below w1.heap.size w1 wr ∧ ∀ (j : Nat) p, j < k → ps[j]? = some p → (rdC p).isSome = true) (fun _ _ _ _ i _ => ps.length - (intOf i).toNat)
    case atStart => exact ⟨0, none, 0, rfl, Nat.zero_le _, Nat.zero_le _, rfl, World.ownsRow_nil _ _ _ _, Below.refl _ _, fun j p hj => absurd hj (Nat.not_lt_zero j)⟩
    case round =>
      obtain ⟨k, c, cp, rfl, hk, hk64, rfl, hR, bel, hall⟩ := hrel
      have HA := Lib.hid hall
      clear hall
      have belw : Below w.heap.size w wr := hB.trans (bel.mono hB.size)
      by_cases hlt : k < ps.length
      · obtain ⟨p, hp⟩ : ∃ p, ps[k]? = some p := ⟨_, List.getElem?_eq_getElem hlt⟩
        have hc0 := part_cell HO.out k p hp
        have hc := (bel.cell (p := ⟨w.heap.size, k, none⟩) (by show w.heap.size < w1.heap.size; omega)).trans hc0
        have hsz := HLE.out p (List.mem_of_getElem? hp)
        have hV := impl_one (cut.mk p) wr (HH.out.below belw) (nt.de_below HD.out belw)
        have hpd : (cut.mk p).data.toList = p := cut.data_mk p
        have HPk := Lib.hid hp
        clear hp hc0
        cases hr : rdC p with
        | none =>
          have HN := Lib.hid (cut.readAll_bad (rd := rdC) (z := (0, 0)) (most := 256) h0 (by rw [HP.out]; exact HPk.out) hr)
          have hV2 := read_no (by rw [hpd]; exact hr) hV
          clear hr hV hpd
          go_wp2_with ((go_at_call 61; refine (hV2).mono ?_; rintro e w' ⟨⟨x, y, rfl⟩, hB2⟩))
          go_ret2
          exact lists_none HN.out (belw.trans (hB2.mono belw.size))
        | some z =>
          obtain ⟨x, y⟩ := z
          have hV2 := read_yes (by rw [hpd]; exact hr) hV
          clear hV hpd
          by_cases h64 : k = 256
          · have HN := Lib.hid (cut.readAll_many (rd := rdC) (z := (0, 0)) (most := 256) h0 (by rw [HP.out]; omega))
            subst h64
            clear hr
            go_wp2_with ((go_at_call 61; refine (hV2).mono ?_; rintro e w' ⟨rfl, hB2⟩))
            go_ret2
            exact lists_none HN.out (belw.trans (hB2.mono belw.size))
          · have HS := Lib.hid (show vals val ps (k + 1) = vals val ps k ++ [(x, y)] by rw [vals_succ val ps k p HPk.out, val, hr]; rfl)
            have HK := Lib.hid (show ∀ (j : Nat) q, j < k + 1 → ps[j]? = some q → (rdC q).isSome = true from fun j q hj hq => by
              by_cases h : j = k
              · subst h
                rw [HPk.out] at hq
                injection hq with hq
                subst hq
                rw [hr]
                rfl
              · exact HA.out j q (by omega) hq)
            have hkk : ((k : Int) == 256) = false := by simp; omega
            clear hr
            go_wp2_with (first | (go_at_call 61; refine hV2.mono ?_; rintro e w2 ⟨rfl, hB2⟩; have hR2 := own_below hR hB2; have bel2 := bel.trans (hB2.mono bel.size)) | (refine wpList_append_own _ rfl _ _ _ rfl (w.heap.size + 1) 68 iu _ 1 8 Tryd.underlying44 hiu hzu hsu hbu rfl (by decide) (.slice c k cp) k _ rfl (hR2.alloc _) _ 1 _ [.complex .f32 x y] rfl rfl (cell_one_new _ _ _) (by simp [Value.oneCell']) (by unfold maxLen; omega) (by omega) (by have := bel2.size; simp; omega) ?_; intro v3 w3 o3 g3 _))
            obtain ⟨gg, cc, rfl⟩ := dec.own_shape o3 (by omega)
            have bel3 := (Below.alloc bel2 bel2.size (.cells #[.complex .f32 x y] 68)).grown g3 (Nat.le_trans bel2.size (by simp)) (fun j hj => by have := (hR2.lt j hj).1; omega)
            go_roundw
            case rel => exact ⟨k + 1, _, cc, rfl, by omega, by omega, by go_num, by rw [HS.out, List.map_append]; exact o3, bel3, HK.out⟩
            case measure => simp [intOf]; omega
      · obtain rfl : k = ps.length := by omega
        have HN := Lib.hid (show listOf s.data.toList = some (vals val ps ps.length) by
          rw [vals_all, ← HP.out]
          exact cut.readAll_good h0 (by rw [HP.out]; omega) fun j p hj => HA.out j p (by rw [← HP.out]; exact (List.getElem?_eq_some_iff.1 hj).1) (by rw [← HP.out]; exact hj))
        have hR2 : Row wr w.heap.size (.slice c ps.length cp) (vals val ps ps.length) := by
          unfold Row row.Row
          rw [vals_length val ps _ (Nat.le_refl _)]
          exact hR.mono (by omega)
        go_wp2
        go_ret2
        exact lists_some HN.out hR2 belw

set_option maxHeartbeats 1000000 in
theorem impl_ReadComplex (s : ByteArray) (hs : s.size ≤ 1048576) (w : World) (hH : dec.Held w) (hM : MaxLen w) (hD : De w) :
    Calls Tryd.prog 34 #[.string s] w (Lists 68 cval (listOf s.data.toList) w) := by
  have hT := impl_texts s hs w hH hM hD
  generalize listOf s.data.toList = r at *
  clear hH hM hD
  go_enter Tryd.func34, Tryd.ntmps34
  go_wp2_with ((go_at_call 60; refine (hT).mono ?_; rintro e w' ⟨v, rfl, hR, hB⟩))
  go_ret2
  exact ⟨v, rfl, hR, hB⟩

set_option maxHeartbeats 1000000 in
theorem spec_ReadComplex (s : ByteArray) (hs : s.size ≤ 1048576) (w : World) :
    Calls Tryd.prog 33 #[.string s] w (Lists 68 cval (listOf s.data.toList) w) := by
  have hT := spec_cread s hs w
  generalize listOf s.data.toList = r at *
  go_enter Tryd.func33, Tryd.ntmps33
  go_wp2_with ((go_at_call 59; refine (hT).mono ?_; rintro e w' ⟨v, rfl, hR, hB⟩))
  go_ret2
  exact ⟨v, rfl, hR, hB⟩
end Go.Proofs.YtnilpooheaaleaaDoor.cx
