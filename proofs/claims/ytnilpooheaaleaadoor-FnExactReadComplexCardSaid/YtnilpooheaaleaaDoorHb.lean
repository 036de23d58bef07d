/- Walks: numbers written in hexadecimal by the library. No conditions. -/
import Derived.Test.YtnilpooheaaleaaDoorWd3
import Derived.Test.YtnilpooheaaleaaDoorHx
import Derived.Lib.ItoaWalk
namespace Go.Proofs.YtnilpooheaaleaaDoor.hex
open Go.RowKit
set_option maxRecDepth 100000

/-- The one cell of the table that is read. -/
def De (w : World) : Prop := w.cell? ⟨7, 15, none⟩ = some (.int .u8 4)

theorem is_power (w : World) : Calls Tryd.prog 109 #[.int .i64 16] w fun e w' => e = .returned (.bool true) ∧ w = w' := by
  go_enter Tryd.func109, Tryd.ntmps109
  go_wp2
  go_ret
  exact ⟨rfl, rfl⟩
theorem zeros64 (w : World) (hD : De w) : Calls Tryd.prog 128 #[.int .u64 16] w fun e w' => e = .returned (.int .i64 4) ∧ w = w' := by
  unfold De at hD
  have key : (IntKind.u64.wrap (bits .and .u64 16 (IntKind.u64.wrap (-16)) * 285870213051353865) / 288230376151711744) = 15 := by decide +kernel
  go_enter Tryd.func128, Tryd.ntmps128
  go_wp2_with (simp only [key])
  go_ret
  exact ⟨rfl, rfl⟩
theorem zeros (w : World) (hD : De w) : Calls Tryd.prog 110 #[.int .u64 16] w fun e w' => e = .returned (.int .i64 4) ∧ w = w' := by
  have hZ := zeros64 w hD
  clear hD
  go_enter Tryd.func110, Tryd.ntmps110
  go_wp2_with (go_at_call 128; refine hZ.mono ?_; rintro e w' ⟨rfl, rfl⟩)
  go_ret
  exact ⟨rfl, rfl⟩

/-- The library's buffer of 65 bytes: from i on it holds D. -/
def Buf (w : World) (B i : Nat) (D : List UInt8) : Prop :=
  ∃ cur, w.heap[B]? = some (.cells cur 126 (0, 0)) ∧ cur.size = 65 ∧ cur.toList.drop i = D.map fun b => Value.int .u8 (b.toNat : Int)
section
variable {w : World} {B i : Nat} {D : List UInt8}
theorem Buf.some (h : Buf w B i D) {j : Nat} (hj : j < 65) : ∃ v, w.cell? ⟨B, j, none⟩ = some v := by
  obtain ⟨cur, h1, h2, _⟩ := h
  exact ⟨cur[j]'(by omega), by simp [World.cell?, h1, h2, hj]⟩
theorem Buf.free (h : Buf w B i D) (j : Nat) : w.frozen? ⟨B, j, none⟩ = false := by
  obtain ⟨cur, h1, _, _⟩ := h
  simp [World.frozen?, h1]
theorem Buf.start (w : World) : Buf (w.alloc (.cells Tryd.zeroCells126 126)) w.heap.size 65 [] :=
  ⟨_, heap_alloc_new w _, by kernel_rfl, by
    have h : Tryd.zeroCells126.toList.length = 65 := by kernel_rfl
    rw [List.drop_of_length_le (by omega)]
    rfl⟩
theorem Buf.store (h : Buf w B (i + 1) D) (hi : i < 65) (c : UInt8) : Buf (w.setCell ⟨B, i, none⟩ (.int .u8 (c.toNat : Int))) B i (c :: D) := by
  obtain ⟨cur, h1, h2, h3⟩ := h
  refine ⟨cur.setIfInBounds i (.int .u8 (c.toNat : Int)), ?_, by simp [h2], ?_⟩
  · simp only [World.setCell, Array.getElem?_modify, h1]
    simp
  · rw [Array.toList_setIfInBounds, List.drop_set, if_neg (by omega), Nat.sub_self]
    have hl : i < cur.toList.length := by simp [h2]; exact hi
    rw [List.drop_eq_getElem_cons hl, List.set_cons_zero, h3]
    rfl
theorem Buf.cells (h : Buf w B i D) : ∀ (j : Nat) u, (D.map fun b => Value.int .u8 (b.toNat : Int))[j]? = Option.some u → w.cell? ((⟨B, i, none⟩ : Addr).add j) = Option.some u := by
  obtain ⟨cur, h1, h2, h3⟩ := h
  intro j u hu
  rw [← h3, List.getElem?_drop] at hu
  rw [Addr.add_lit, cell_of_row w B (i + j) cur 126 (0, 0) h1]
  simpa using hu
end

theorem dg_at : ∀ d : Fin 16, Lib.digits36.data.toList.getD d.val 0 = dg d.val := by decide +kernel
/-- A digit of the library's 36. -/
theorem idx {P : Program} (t : TypeId) (ht : P.underlying t = some .string) (k : IntKind) (d : Nat) (hd : d < 16) (w : World) :
    (Instr.index t (.string Lib.digits36) (.int k (d : Int))).run P w = .ok (.int .u8 ((dg d).toNat : Int)) w := by
  rw [run_index_string w t Lib.digits36 k _ ht, dif_pos ⟨by omega, by rw [Lib.digits36_size]; omega⟩]
  have e : ((d : Int)).toNat = d := by omega
  simp only [e]
  rw [Lib.getD_at, dg_at ⟨d, hd⟩]

/-- Behind some rounds: r is left, D are the digits behind it. -/
structure Hex (u r : Nat) (D : List UInt8) : Prop where
  eq : digits u = digits r ++ D
  pow : r * 16 ^ D.length ≤ u
theorem Hex.start (u : Nat) : Hex u u [] := ⟨by simp, by simp⟩
theorem Hex.next {u r : Nat} {D : List UInt8} (h : Hex u r D) (hr : 16 ≤ r) : Hex u (r / 16) (dg (r % 16) :: D) := ⟨by
  rw [h.eq, digits_big hr]
  simp, by
  refine Nat.le_trans ?_ h.pow
  rw [List.length_cons, Nat.pow_succ, Nat.mul_comm (16 ^ D.length), ← Nat.mul_assoc]
  exact Nat.mul_le_mul_right _ (Nat.div_mul_le_self r 16)⟩
theorem Hex.few {u r : Nat} {D : List UInt8} (h : Hex u r D) (hu : u < 4294967296) (hr : 1 ≤ r) : D.length ≤ 7 ∧ r ≤ u := by
  have h1 : 16 ^ D.length ≤ u := Nat.le_trans (Nat.le_mul_of_pos_left _ hr) h.pow
  have h2 : D.length < 8 := (Nat.pow_lt_pow_iff_right (a := 16) (by decide)).1 (Nat.lt_of_le_of_lt h1 (by simpa using hu))
  exact ⟨by omega, Nat.le_trans (Nat.le_mul_of_pos_right _ (Nat.pos_of_ne_zero (by simp))) h.pow⟩
theorem and15 (r : Nat) (hr : r < 18446744073709551616) : bits .and .u64 (r : Int) 15 = ((r % 16 : Nat) : Int) := by
  have hx : r &&& 15 < 2 ^ 64 := Nat.and_lt_two_pow _ (by omega)
  have h1 : (BitVec.ofInt 64 (r : Int)).toNat = r := by
    rw [BitVec.ofInt_natCast, BitVec.toNat_ofNat]; exact Nat.mod_eq_of_lt (by omega)
  have h2 : (BitVec.ofInt 64 15).toNat = 15 := by decide
  show IntKind.u64.wrap ((BitVec.ofInt 64 (r : Int) &&& BitVec.ofInt 64 15).toNat : Int) = _
  rw [BitVec.toNat_and, h1, h2, IntKind.wrap_u64]
  have h3 : r &&& 15 = r % 16 := Nat.and_two_pow_sub_one_eq_mod r 4
  rw [h3]
  omega

set_option maxHeartbeats 4000000 in
theorem format_bits (u : Nat) (hu : u < 4294967296) (w : World) (hD : De w) :
    Calls Tryd.prog 88 #[.slice none 0 0, .int .u64 (u : Int), .int .i64 16, .bool false, .bool false] w fun e w' => e = .returned (.tuple #[.slice none 0 0, .string ⟨(digits u).toArray⟩]) ∧ Below w.heap.size w w' := by
  have hu2 : (u : Int) < 4294967296 := by omega
  go_enter Tryd.func88, Tryd.ntmps88
  go_name_bytes X1 hX1
  go_name_bytes X2 hX2
  have eX2 : X2 = Lib.digits36 := by rw [← hX2]; decide +kernel
  subst eX2
  clear hX1 hX2
  have hD1 : De (w.alloc (.cells Tryd.zeroCells126 126)) := by
    unfold De at *
    rw [World.cell?_alloc_old _ _ _ (Nat.ne_of_lt (World.block_lt_of_cell? _ _ hD))]
    exact hD
  go_wp2_with (first | (go_at_call 109; refine (is_power _).mono ?_; rintro e w' ⟨rfl, rfl⟩) | (go_at_call 110; refine (zeros _ hD1).mono ?_; rintro e w' ⟨rfl, rfl⟩))
  clear hD hD1
  go_loopw [1, 13] (fun a i wr => ∃ (r k : Nat) (D : List UInt8), a = .int .u64 (r : Int) ∧ i = .int .i64 ((k : Int) + 1) ∧ k + 1 + D.length = 65 ∧ Hex u r D ∧ Buf wr w.heap.size (k + 1) D ∧ Below w.heap.size w wr) (fun a _ _ => (intOf a).toNat)
  case atStart => exact ⟨u, 64, [], rfl, rfl, rfl, Hex.start u, Buf.start w, (Below.refl _ _).alloc (Nat.le_refl _) _⟩
  case round =>
    obtain ⟨r, k, D, rfl, rfl, hk, hx, hb, bel⟩ := hrel
    by_cases hr : 16 ≤ r
    · obtain ⟨hf, hru⟩ := hx.few hu (by omega)
      have hand := and15 r (by omega)
      obtain ⟨v0, hc⟩ := hb.some (show k < 65 by omega)
      have hfr := hb.free k
      have HX := Lib.hid (hx.next hr)
      have HB := Lib.hid hb
      clear hx hb
      have hd := Nat.mod_lt r (show 0 < 16 by decide)
      have hri : (16 : Int) ≤ (r : Int) := by omega
      generalize r % 16 = d at *
      clear hr hru hu2
      have hix := fun w => idx (P := Tryd.prog) 9 Tryd.underlying9 .u64 d hd w
      generalize Lib.digits36 = DG at *
      go_wp2_with (simp only [hand])
      exact ⟨⟨r / 16, k - 1, dg d :: D, by go_num, by rw [show ((k - 1 : Nat) : Int) + 1 = (k : Int) by omega], by rw [List.length_cons]; omega, HX.out, by rw [show k - 1 + 1 = k by omega]; exact HB.out.store (by omega) (dg d), bel.setCell (Nat.le_refl _) _⟩, by simp [intOf]; omega⟩
    · skip
      have hlt : r < 16 := by omega
      have HE := Lib.hid (show digits u = dg r :: D by rw [hx.eq, digits_small hlt]; rfl)
      obtain ⟨v0, hc⟩ := hb.some (show k < 65 by omega)
      have hfr := hb.free k
      have HB := Lib.hid (hb.store (by omega) (dg r))
      have hri : ¬ (16 : Int) ≤ (r : Int) := by omega
      have hix := fun w => idx (P := Tryd.prog) 9 Tryd.underlying9 .u64 r hlt w
      generalize Lib.digits36 = DG at *
      have hkk : (k : Int) ≤ 64 := by omega
      have hal : Tryd.prog.arrayLen 126 = 65 := by simp [Program.arrayLen, Tryd.underlying126]
      have hsl : ∀ W, (Instr.sliceAt 126 (.pointer (some ⟨w.heap.size, 0, none⟩)) (some (.int .i64 (k : Int))) none none).run Tryd.prog W = .ok (.slice (some ⟨w.heap.size, k, none⟩) (dg r :: D).length (dg r :: D).length) W := fun W => by
        rw [run_sliceAt_array_l W 126 ⟨w.heap.size, 0, none⟩ (by simp [Program.arrayLen, Program.elem, Tryd.underlying126]) .i64 (k : Int) (by omega) (by rw [hal]; omega)]
        go_simp
        exact ⟨fun h => by omega, by omega⟩
      have hcv : (convert 72 9 (.slice (some ⟨w.heap.size, k, none⟩) (dg r :: D).length (dg r :: D).length)).run Tryd.prog (wr.setCell ⟨w.heap.size, k, none⟩ (.int .u8 ((dg r).toNat : Int))) = .ok (.string ⟨(dg r :: D).toArray⟩) (wr.setCell ⟨w.heap.size, k, none⟩ (.int .u8 ((dg r).toNat : Int))) :=
        run_convert_bytes_back (P := Tryd.prog) _ 72 9 5 ⟨w.heap.size, k, none⟩ (dg r :: D).length (dg r :: D) Tryd.underlying72 Tryd.underlying5 Tryd.underlying9 (fun j hj => HB.out.cells j _ (by rw [List.getElem?_map, List.getElem?_eq_getElem hj]; rfl))
      obtain ⟨L, hL⟩ : ∃ L, (dg r :: D).length = L := ⟨_, rfl⟩
      obtain ⟨t, ht⟩ : ∃ t, (⟨(dg r :: D).toArray⟩ : ByteArray) = t := ⟨_, rfl⟩
      rw [hL, ht] at hcv
      rw [hL] at hsl
      have HT := Lib.hid ht
      clear hx hb hr hu2 hlt hal ht hL
      go_wp2
      go_ret2
      exact ⟨by rw [HE.out, HT.out]; rfl, bel.setCell (Nat.le_refl _) _⟩
end Go.Proofs.YtnilpooheaaleaaDoor.hex
