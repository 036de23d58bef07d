/- Walks: the reference's decimal numerals. No conditions. -/
import Derived.Test.YtnilpooheaaleaaDoorSh
import Derived.Test.YtnilpooheaaleaaDoorRows
import Derived.WalkKit
import Derived.WalkSpells
import Derived.WalkLawsBesides
import Derived.Below
import Derived.Lib.Hide
import Derived.OwnWalk
import Derived.Laws.OwnMore
import Derived.Laws.BytesString
namespace Go.Proofs.YtnilpooheaaleaaDoor.dec
open Go.RowKit
set_option maxRecDepth 8000

theorem info_u8 : (Tryd.prog.info? 5).map (fun i => (i.zero, i.size, i.bytes)) = some (some (.int .u8 0), 1, 1) := by kernel_rfl
def lenOf : Value → Nat | .slice _ l _ => l | _ => 0
/-- Bytes as cells. -/
def bytesV (D : List UInt8) : List Value := D.map fun b => .int .u8 (b.toNat : Int)
theorem bytesV_length (D : List UInt8) : (bytesV D).length = D.length := by simp [bytesV]
theorem bytesV_one (D : List UInt8) : ∀ u ∈ bytesV D, u.oneCell' = true := by
  intro u hu
  obtain ⟨b, _, rfl⟩ := List.mem_map.1 hu
  rfl

/-- Behind some rounds: R is left, D are the digits behind it. -/
structure Inv (m R : Nat) (D : List UInt8) : Prop where
  eq : Lib.decDigits m = (if R = 0 ∧ D ≠ [] then [] else Lib.decDigits R) ++ D
  le : R ≤ m
  pow : R * 10 ^ D.length ≤ m
  len : D.length ≤ 19
theorem Inv.start (m : Nat) : Inv m m [] := ⟨by simp, Nat.le_refl _, by simp, by simp⟩
theorem digits_step (R : Nat) : Lib.decDigits R = (if R / 10 = 0 then [] else Lib.decDigits (R / 10)) ++ [UInt8.ofNat (48 + R % 10)] := by
  rw [Lib.decDigits]
  by_cases h : R < 10
  · rw [dif_pos h, if_pos (by omega), Nat.mod_eq_of_lt h]; rfl
  · rw [dif_neg h, if_neg (by omega)]
theorem Inv.next {m R : Nat} {D : List UInt8} (h : Inv m R D) (hm : m < 10 ^ 19) (hc : D.length = 0 ∨ R ≠ 0) : Inv m (R / 10) (UInt8.ofNat (48 + R % 10) :: D) := by
  have e : ¬ (R = 0 ∧ D ≠ []) := fun ⟨h1, h2⟩ => hc.elim (fun h3 => h2 (List.eq_nil_of_length_eq_zero h3)) (fun h3 => h3 h1)
  refine ⟨?_, Nat.le_trans (Nat.div_le_self _ _) h.le, ?_, ?_⟩
  · rw [h.eq, if_neg e, digits_step R]
    simp
  · refine Nat.le_trans ?_ h.pow
    rw [List.length_cons, Nat.pow_succ, Nat.mul_comm (10 ^ D.length), ← Nat.mul_assoc]
    exact Nat.mul_le_mul_right _ (Nat.div_mul_le_self R 10)
  · rw [List.length_cons]
    rcases hc with h0 | h0
    · omega
    · have h1 : 10 ^ D.length ≤ m := Nat.le_trans (Nat.le_mul_of_pos_left _ (Nat.pos_of_ne_zero h0)) h.pow
      have h2 : D.length < 19 := (Nat.pow_lt_pow_iff_right (by decide)).1 (Nat.lt_of_le_of_lt h1 hm)
      omega
theorem Inv.done {m : Nat} {D : List UInt8} (h : Inv m 0 D) (hD : D.length ≠ 0) : Lib.decDigits m = D := by
  rw [h.eq, if_pos ⟨rfl, fun h => hD (by rw [h]; rfl)⟩]
  rfl

theorem own_shape {w : World} {base : Nat} {e : TypeId} {v : Value} {k : Nat} {xs : List Value} (h : w.ownsRow base e 1 v k xs) (hk : k ≠ 0) : ∃ g cap, v = .slice (some ⟨g, 0, none⟩) k cap := by
  rcases h.2 with ⟨_, h0⟩ | ⟨g, cap, _, hv, _⟩
  · exact absurd h0 hk
  · exact ⟨g, cap, hv⟩

theorem push_all (D : List UInt8) : ∀ s : ByteArray, (D.map fun b => ((b.toNat : Nat) : Int)).foldl (fun r n => r.push (UInt8.ofNat n.toNat)) s = ⟨s.data ++ D.toArray⟩ := by
  induction D with
  | nil => intro s; simp
  | cons b D ih =>
    intro s
    rw [List.map_cons, List.foldl_cons, ih]
    have : UInt8.ofNat ((b.toNat : Int)).toNat = b := by simp
    rw [this]
    have : (s.push b).data = s.data.push b := rfl
    rw [this]
    simp

section
variable {P : Program} {ops : Array Oper} {rest : List Oper} {o : Oper} {a : Act} {w : World} {Q : Exit → Act → World → Prop}
/-- A list of one's own bytes, made a text. -/
theorem fl_text (hg : o.guard = none) (src dst : TypeId) (x : Operand) (ho : o.op = .convert src dst x) (base : Nat) (g cap len : Nat) (D : List UInt8) (hx : a.eval x = .slice (some ⟨g, 0, none⟩) len cap)
    (e et : TypeId) (hown : w.ownsRow base et 1 (.slice (some ⟨g, 0, none⟩) len cap) len (bytesV D)) (hlen : len = D.length) (hs : P.underlying src = some (.slice e)) (he : P.underlying e = some (.int .u8)) (hd : P.underlying dst = some .string)
    (h : wpList P ops Q rest (a.put o.dst (.string ⟨D.toArray⟩)) w) : wpList P ops Q (o :: rest) a w := by
  refine wpList_plain hg fun K hK => ?_
  subst hlen
  have hl := run_loadCells_list (P := P) w ⟨g, 0, none⟩ (bytesV D) (World.ownsRow.cells hown rfl)
  rw [bytesV_length] at hl
  have hb := run_bytesToString (P := P) w ⟨g, 0, none⟩ D.length cap (D.map fun b => ((b.toNat : Nat) : Int)) (by rw [hl, List.map_map]; rfl)
  rw [push_all] at hb
  have e0 : (⟨ByteArray.empty.data ++ D.toArray⟩ : ByteArray) = ⟨D.toArray⟩ := by
    rw [show ByteArray.empty.data = #[] from rfl, Array.empty_append]
  rw [e0] at hb
  have e1 : (execOp a.eval o).run P w = .ok (.value (.string ⟨D.toArray⟩)) w := by simp [execOp, ho, hx, run_convert_bytes_string w src dst e _ _ _ hs he hd, hb]
  unfold Oper.wp
  rw [e1]
  exact hK _ _ h
end

theorem own_conv {w : World} {base : Nat} {e : TypeId} {v : Value} {D : List UInt8} {R : Nat} {z : Int} (hz : z = 48 + (R : Int) % 10) (h : w.ownsRow base e 1 v (1 + D.length) (#[Value.int .u8 z].toList ++ bytesV D)) : w.ownsRow base e 1 v (UInt8.ofNat (48 + R % 10) :: D).length (bytesV (UInt8.ofNat (48 + R % 10) :: D)) := by
  subst hz
  have e0 : (UInt8.ofNat (48 + R % 10)).toNat = 48 + R % 10 := by
    rw [UInt8.toNat_ofNat']
    omega
  have e1 : ((UInt8.ofNat (48 + R % 10)).toNat : Int) = 48 + (R : Int) % 10 := by rw [e0]; omega
  have e2 : bytesV (UInt8.ofNat (48 + R % 10) :: D) = #[Value.int .u8 (48 + (R : Int) % 10)].toList ++ bytesV D := by
    unfold bytesV
    rw [List.map_cons, e1]
    rfl
  rw [e2, List.length_cons, Nat.add_comm]
  exact h

set_option maxHeartbeats 2000000 in
theorem dec_pos (m : Nat) (h1 : m ≤ 9223372036854775807) (w : World) :
    Calls Tryd.prog 38 #[.int .i64 (m : Int)] w fun e w' => e = .returned (.string ⟨(Lib.decDigits m).toArray⟩) ∧ Below w.heap.size w w' := by
  obtain ⟨iu, hiu, hzu, hsu, hbu⟩ := info_parts info_u8
  have hm19 : m < 10 ^ 19 := by omega
  have hneg : ¬ (m : Int) < 0 := by omega
  go_enter Tryd.func38, Tryd.ntmps38
  go_wp2
  go_loopw [3, 4] (fun v r wr => ∃ (g cap R : Nat) (D : List UInt8), v = .slice (some ⟨g, 0, none⟩) D.length cap ∧ r = .int .i64 (R : Int) ∧ wr.ownsRow w.heap.size 5 1 v D.length (bytesV D) ∧ Below w.heap.size w wr ∧ Inv m R D) (fun v r _ => (intOf r).natAbs + (if lenOf v = 0 then 1 else 0))
  case atStart => exact ⟨_, _, m, [], rfl, rfl, World.ownsRow_lit w #[] 0 (Nat.le_refl _) (by decide) rfl, (Below.refl _ _).alloc (Nat.le_refl _) _, Inv.start m⟩
  case round =>
    obtain ⟨g, cap, R, D, rfl, rfl, hown, bel, hI⟩ := hrel
    have HI := Lib.hid hI
    have hR : R ≤ m := hI.le
    clear hI
    have hlen : D.length ≤ 19 := HI.out.len
    by_cases hD : D.length = 0
    · have HN := Lib.hid (HI.out.next hm19 (.inl hD))
      obtain rfl : D = [] := List.eq_nil_of_length_eq_zero hD
      clear hD
      go_wp2_with (refine wpList_append_own _ rfl _ _ _ rfl w.heap.size 5 iu _ 1 1 Tryd.underlying72 hiu hzu hsu hbu rfl (by decide) _ 1 _ rfl (World.ownsRow_lit _ _ 1 bel.size (by decide) rfl) _ _ _ _ rfl (by rw [bytesV_length]; exact (Nat.mul_one _).symm) (World.ownsRow.cells (hown.alloc _) rfl) (bytesV_one _) (by unfold maxLen; omega) (by omega) (Nat.le_trans bel.size (by simp)) ?_; intro v2 w2 o2 g2 _; obtain ⟨gg, cc, rfl⟩ := own_shape o2 (by omega); have bel2 := (Below.alloc bel bel.size _).grown g2 (Nat.le_trans bel.size (by simp)) (fun k hk => by cases hk; exact bel.size))
      all_goals
        go_roundw
        case rel => exact ⟨_, _, R / 10, UInt8.ofNat (48 + R % 10) :: [], rfl, by go_num, own_conv (D := []) (by omega) o2, bel2, HN.out⟩
        case measure => simp [intOf, lenOf] <;> omega
    · have hc1 : (((D.length : Nat) : Int) == 0) = false := by simp; intro h; exact hD (by rw [h]; rfl)
      by_cases hR0 : R = 0
      · have HE := Lib.hid (show Lib.decDigits m = D by
          have := HI.out
          rw [hR0] at this
          exact this.done hD)
        have hc2 : (((R : Nat) : Int) != 0) = false := by rw [hR0]; rfl
        clear HI hR hR0
        go_wp2_with (refine fl_text rfl _ _ _ rfl _ _ _ _ _ rfl _ _ (by assumption) (by first | rfl | (rw [List.length_cons, Nat.add_comm])) Tryd.underlying72 Tryd.underlying5 Tryd.underlying9 ?_)
        all_goals first | (exfalso; omega) | (go_ret; exact ⟨by rw [HE.out]; rfl, bel⟩)
      · have HN := Lib.hid (HI.out.next hm19 (.inr hR0))
        have hc2 : (((R : Nat) : Int) != 0) = true := by simp; omega
        go_wp2_with (refine wpList_append_own _ rfl _ _ _ rfl w.heap.size 5 iu _ 1 1 Tryd.underlying72 hiu hzu hsu hbu rfl (by decide) _ 1 _ rfl (World.ownsRow_lit _ _ 1 bel.size (by decide) rfl) _ _ _ _ rfl (by rw [bytesV_length]; exact (Nat.mul_one _).symm) (World.ownsRow.cells (hown.alloc _) rfl) (bytesV_one _) (by unfold maxLen; omega) (by omega) (Nat.le_trans bel.size (by simp)) ?_; intro v2 w2 o2 g2 _; obtain ⟨gg, cc, rfl⟩ := own_shape o2 (by omega); have bel2 := (Below.alloc bel bel.size _).grown g2 (Nat.le_trans bel.size (by simp)) (fun k hk => by cases hk; exact bel.size))
        all_goals
          go_roundw
          case rel => exact ⟨_, _, R / 10, UInt8.ofNat (48 + R % 10) :: D, by rw [List.length_cons, Nat.add_comm], by go_num, own_conv (D := D) (by omega) o2, bel2, HN.out⟩
          case measure => simp [intOf, lenOf] <;> omega

set_option maxHeartbeats 2000000 in
theorem dec_neg (m : Nat) (h0 : 0 < m) (h1 : m ≤ 9223372036854775808) (w : World) :
    Calls Tryd.prog 38 #[.int .i64 (-(m : Int))] w fun e w' => e = .returned (.string ⟨(45 :: Lib.decDigits m).toArray⟩) ∧ Below w.heap.size w w' := by
  obtain ⟨iu, hiu, hzu, hsu, hbu⟩ := info_parts info_u8
  have hm19 : m < 10 ^ 19 := by omega
  have hneg : -(m : Int) < 0 := by omega
  go_enter Tryd.func38, Tryd.ntmps38
  go_wp2
  go_loopw [3, 4] (fun v r wr => ∃ (g cap R : Nat) (D : List UInt8), v = .slice (some ⟨g, 0, none⟩) D.length cap ∧ r = .int .i64 (-(R : Int)) ∧ wr.ownsRow w.heap.size 5 1 v D.length (bytesV D) ∧ Below w.heap.size w wr ∧ Inv m R D) (fun v r _ => (intOf r).natAbs + (if lenOf v = 0 then 1 else 0))
  case atStart => exact ⟨_, _, m, [], rfl, rfl, World.ownsRow_lit w #[] 0 (Nat.le_refl _) (by decide) rfl, (Below.refl _ _).alloc (Nat.le_refl _) _, Inv.start m⟩
  case round =>
    obtain ⟨g, cap, R, D, rfl, rfl, hown, bel, hI⟩ := hrel
    have HI := Lib.hid hI
    have hR : R ≤ m := hI.le
    clear hI
    have hlen : D.length ≤ 19 := HI.out.len
    by_cases hD : D.length = 0
    · have HN := Lib.hid (HI.out.next hm19 (.inl hD))
      obtain rfl : D = [] := List.eq_nil_of_length_eq_zero hD
      clear hD
      go_wp2_with (refine wpList_append_own _ rfl _ _ _ rfl w.heap.size 5 iu _ 1 1 Tryd.underlying72 hiu hzu hsu hbu rfl (by decide) _ 1 _ rfl (World.ownsRow_lit _ _ 1 bel.size (by decide) rfl) _ _ _ _ rfl (by rw [bytesV_length]; exact (Nat.mul_one _).symm) (World.ownsRow.cells (hown.alloc _) rfl) (bytesV_one _) (by unfold maxLen; omega) (by omega) (Nat.le_trans bel.size (by simp)) ?_; intro v2 w2 o2 g2 _; obtain ⟨gg, cc, rfl⟩ := own_shape o2 (by omega); have bel2 := (Below.alloc bel bel.size _).grown g2 (Nat.le_trans bel.size (by simp)) (fun k hk => by cases hk; exact bel.size))
      all_goals
        go_roundw
        case rel => exact ⟨_, _, R / 10, UInt8.ofNat (48 + R % 10) :: [], rfl, by go_num, own_conv (D := []) (by omega) o2, bel2, HN.out⟩
        case measure => simp [intOf, lenOf] <;> omega
    · have hc1 : (((D.length : Nat) : Int) == 0) = false := by simp; intro h; exact hD (by rw [h]; rfl)
      by_cases hR0 : R = 0
      · have HE := Lib.hid (show Lib.decDigits m = D by
          have := HI.out
          rw [hR0] at this
          exact this.done hD)
        have hc2 : (((R : Nat) : Int) != 0) = false := by rw [hR0]; rfl
        clear HI hR hR0
        go_wp2_with (first | (refine wpList_append_own _ rfl _ _ _ rfl w.heap.size 5 iu _ 1 1 Tryd.underlying72 hiu hzu hsu hbu rfl (by decide) _ 1 _ rfl (World.ownsRow_lit _ _ 1 bel.size (by decide) rfl) _ _ _ _ rfl (by rw [bytesV_length]; exact (Nat.mul_one _).symm) (World.ownsRow.cells (hown.alloc _) rfl) (bytesV_one _) (by unfold maxLen; omega) (by omega) (Nat.le_trans bel.size (by simp)) ?_; intro v2 w2 o2 g2 _; obtain ⟨gg, cc, rfl⟩ := own_shape o2 (by omega); have bel2 := (Below.alloc bel bel.size _).grown g2 (Nat.le_trans bel.size (by simp)) (fun k hk => by cases hk; exact bel.size); have o3 : w2.ownsRow w.heap.size 5 1 (.slice (some ⟨gg, 0, none⟩) (1 + D.length) cc) (1 + D.length) (bytesV (45 :: D)) := o2; clear hown) | (refine fl_text rfl _ _ _ rfl _ _ _ _ _ rfl _ _ (by assumption) (by first | rfl | (rw [List.length_cons, Nat.add_comm])) Tryd.underlying72 Tryd.underlying5 Tryd.underlying9 ?_))
        all_goals first | (exfalso; omega) | (go_ret; exact ⟨by rw [HE.out]; rfl, bel2⟩)
      · have HN := Lib.hid (HI.out.next hm19 (.inr hR0))
        have hc2 : (((R : Nat) : Int) != 0) = true := by simp; omega
        go_wp2_with (refine wpList_append_own _ rfl _ _ _ rfl w.heap.size 5 iu _ 1 1 Tryd.underlying72 hiu hzu hsu hbu rfl (by decide) _ 1 _ rfl (World.ownsRow_lit _ _ 1 bel.size (by decide) rfl) _ _ _ _ rfl (by rw [bytesV_length]; exact (Nat.mul_one _).symm) (World.ownsRow.cells (hown.alloc _) rfl) (bytesV_one _) (by unfold maxLen; omega) (by omega) (Nat.le_trans bel.size (by simp)) ?_; intro v2 w2 o2 g2 _; obtain ⟨gg, cc, rfl⟩ := own_shape o2 (by omega); have bel2 := (Below.alloc bel bel.size _).grown g2 (Nat.le_trans bel.size (by simp)) (fun k hk => by cases hk; exact bel.size))
        all_goals
          go_roundw
          case rel => exact ⟨_, _, R / 10, UInt8.ofNat (48 + R % 10) :: D, by rw [List.length_cons, Nat.add_comm], by go_num, own_conv (D := D) (by omega) o2, bel2, HN.out⟩
          case measure => simp [intOf, lenOf] <;> omega

end Go.Proofs.YtnilpooheaaleaaDoor.dec
