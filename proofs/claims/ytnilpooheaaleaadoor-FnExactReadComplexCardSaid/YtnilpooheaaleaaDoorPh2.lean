/- Walks: numbers read from their bits by the program. No conditions. -/
import Derived.Test.YtnilpooheaaleaaDoorPh1
import Derived.Test.YtnilpooheaaleaaDoorNt1
namespace Go.Proofs.YtnilpooheaaleaaDoor.hex
open Go.RowKit
set_option maxRecDepth 8000

/-- How the library's call ends. -/
def Ended (l : List UInt8) (e : Ending) : Prop :=
  (∃ u : Nat, e = .returned (.tuple #[.int .u64 (u : Int), .nilIface]) ∧ u ≤ 4294967295 ∧ ∀ n, n < 4294967296 → l = lasts 8 n → u = n) ∨
  (∃ (u : Int) (t : TypeId) (v : Value), e = .returned (.tuple #[.int .u64 u, .iface t v]) ∧ Not8 l)
theorem var_cell {n : String} {w : World} {x : Value} {g : Nat} (hg : Tryd.prog.globalNamed n = some g) (h : w.var? Tryd.prog n = some #[x]) : w.cell? ⟨g, 0, none⟩ = some x := by
  have h0 := World.var?_cell hg h 0
  simpa using h0

theorem to_range (fn t : ByteArray) (ht : t.size ≤ 1048576) (w : World) (hH : dec.Held w) :
    Calls Tryd.prog 77 #[.string fn, .string t, .int .i64 16, .int .i64 32, .iface 118 (.int .i64 1)] w fun e w' => (∃ v, e = .returned (.iface 119 v)) ∧ Below w.heap.size w w' := by
  obtain ⟨tp, p, hv⟩ := hH.rng
  have h := Any.strconv_toError_range { Tryd.laysC174 with } fn t 16 32 _ w (by omega) (var_cell dec.gR hv) (.inr ⟨tp, p, rfl⟩)
  refine Calls.mono (show Calls Tryd.prog 77 _ _ _ from h) ?_
  rintro e w' ⟨N, rfl, _, _, hB⟩
  exact ⟨⟨_, rfl⟩, hB⟩
theorem to_syn (fn t : ByteArray) (ht : t.size ≤ 1048576) (w : World) (hH : dec.Held w) :
    Calls Tryd.prog 77 #[.string fn, .string t, .int .i64 16, .int .i64 32, .iface 118 (.int .i64 2)] w fun e w' => (∃ v, e = .returned (.iface 119 v)) ∧ Below w.heap.size w w' := by
  obtain ⟨tp, p, hv⟩ := hH.syn
  have h := Any.strconv_toError_syntax { Tryd.laysC174 with } fn t 16 32 _ w (by omega) (var_cell dec.gS hv) (.inr ⟨tp, p, rfl⟩)
  refine Calls.mono (show Calls Tryd.prog 77 _ _ _ from h) ?_
  rintro e w' ⟨N, rfl, _, _, hB⟩
  exact ⟨⟨_, rfl⟩, hB⟩

set_option maxHeartbeats 2000000 in
theorem parse_pub (t : ByteArray) (hmax : t.size ≤ 1048576) (w : World) (hH : dec.Held w) :
    Calls Tryd.prog 82 #[.string t, .int .i64 16, .int .i64 32] w fun e w' => Ended t.data.toList e ∧ Below w.heap.size w w' := by
  have hP := parse_in t hmax w
  have hE1 := fun fn w' (hB : Below w.heap.size w w') => to_range fn t hmax w' (hH.below hB)
  have hE2 := fun fn w' (hB : Below w.heap.size w w') => to_syn fn t hmax w' (hH.below hB)
  clear hH
  go_enter Tryd.func82, Tryd.ntmps82
  go_wp2_with fail
  refine hP.mono ?_
  rintro e w1 ⟨⟨u, rfl, hu, hn⟩ | ⟨u, hu, hn⟩, hB⟩
  · have HN := Lib.hid hn
    clear hn hE1 hE2 hP
    go_wp2
    go_ret2
    exact ⟨.inl ⟨u, rfl, hu, HN.out⟩, hB⟩
  · have HN := Lib.hid hn
    clear hn hP
    rcases hu with rfl | rfl
    · go_wp2_with (go_at_call 77; refine (hE1 _ _ hB).mono ?_; rintro e w2 ⟨⟨v, rfl⟩, hB2⟩)
      go_ret2
      exact ⟨.inr ⟨_, _, _, rfl, HN.out⟩, hB.trans (hB2.mono hB.size)⟩
    · go_wp2_with (go_at_call 77; refine (hE2 _ _ hB).mono ?_; rintro e w2 ⟨⟨v, rfl⟩, hB2⟩)
      go_ret2
      exact ⟨.inr ⟨_, _, _, rfl, HN.out⟩, hB.trans (hB2.mono hB.size)⟩

/-- The word is its own number's word: no number's other spelling. -/
def Own (n : Nat) : Prop := n < 4294967296 ∧ wordA (ab .f32 n) = n
open Classical in
/-- The number with a text: its word. -/
noncomputable def rdBits (l : List UInt8) : Option Nat := if h : ∃ n, Own n ∧ l = lasts 8 n then some h.choose else none
theorem lasts_inj : ∀ (k n m : Nat), n < 16 ^ k → m < 16 ^ k → lasts k n = lasts k m → n = m
  | 0, n, m, hn, hm, _ => by simp at hn hm; omega
  | k + 1, n, m, hn, hm, h => by
    rw [lasts, lasts] at h
    rw [Nat.pow_succ] at hn hm
    obtain ⟨h1, h2⟩ := List.append_inj h (by rw [lasts_length, lasts_length])
    have h3 := lasts_inj k (n / 16) (m / 16) (by omega) (by omega) h1
    have h4 : dg (n % 16) = dg (m % 16) := by injection h2
    have h5 : ∀ a b : Fin 16, dg a.val = dg b.val → a.val = b.val := by decide +kernel
    have h6 := h5 ⟨n % 16, Nat.mod_lt _ (by decide)⟩ ⟨m % 16, Nat.mod_lt _ (by decide)⟩ h4
    have h7 : n % 16 = m % 16 := h6
    omega
theorem rdBits_eq {l : List UInt8} {n : Nat} (h : rdBits l = some n) : Own n ∧ l = lasts 8 n := by
  unfold rdBits at h
  split at h
  · rename_i hx
    injection h with h
    subst h
    exact hx.choose_spec
  · cases h
theorem rdBits_some {l : List UInt8} {n : Nat} (h : Own n) (hl : l = lasts 8 n) : rdBits l = some n := by
  have hx : ∃ n, Own n ∧ l = lasts 8 n := ⟨n, h, hl⟩
  have h2 := hx.choose_spec
  unfold rdBits
  rw [dif_pos hx]
  congr 1
  exact lasts_inj 8 _ _ h2.1.1 h.1 (h2.2.symm.trans hl)
theorem rdBits_none {l : List UInt8} (h : ∀ n, Own n → l ≠ lasts 8 n) : rdBits l = none := by
  unfold rdBits
  rw [dif_neg fun ⟨n, h1, h2⟩ => h n h1 h2]
theorem rdBits_not {l : List UInt8} (h : Not8 l) : rdBits l = none := rdBits_none fun n hn => h n hn.1
theorem own_text (l : List UInt8) (u : Nat) (hu : u < 4294967296) (h : ∀ n, n < 4294967296 → l = lasts 8 n → u = n) (hl : textA (ab .f32 u) = l) : rdBits l = some u := by
  have h1 : wordA (ab .f32 u) < 4294967296 := word_lt (Ab.self hu)
  have h2 := h _ h1 hl.symm
  exact rdBits_some ⟨hu, h2.symm⟩ (by rw [← hl, textA, ← h2])
theorem not_text (l : List UInt8) (u : Nat) (h : ∀ n, n < 4294967296 → l = lasts 8 n → u = n) (hl : textA (ab .f32 u) ≠ l) : rdBits l = none :=
  rdBits_none fun n hn hl2 => by
    have h1 := h n hn.1 hl2
    subst h1
    exact hl (by rw [textA, hn.2, hl2])

/-- What the program's reading of one number gives. -/
def Reads (l : List UInt8) (e : Ending) : Prop := ∃ x : Nat, e = .returned (.tuple #[.float .f32 x, .bool (rdBits l).isSome]) ∧ ∀ n, rdBits l = some n → x = n
theorem reads_none {l : List UInt8} (h : rdBits l = none) (x : Nat) : Reads l (.returned (.tuple #[.float .f32 x, .bool false])) := ⟨x, by rw [h]; rfl, fun n hn => by rw [h] at hn; cases hn⟩
theorem reads_some {l : List UInt8} {x : Nat} (h : rdBits l = some x) : Reads l (.returned (.tuple #[.float .f32 x, .bool true])) := ⟨x, by rw [h]; rfl, fun n hn => by rw [h] at hn; injection hn⟩

set_option maxHeartbeats 2000000 in
theorem read_bits (t : ByteArray) (hmax : t.size ≤ 1048576) (w : World) (hH : dec.Held w) (hD : De w) :
    Calls Tryd.prog 58 #[.string t] w fun e w' => Reads t.data.toList e ∧ Below w.heap.size w w' := by
  have hP := parse_pub t hmax w hH
  have HT := Lib.hid (fun u (hu : u < 4294967296) w' (hB : Below w.heap.size w w') => bits_text u (ab .f32 u) (Ab.self hu) w' (nt.de_below hD hB))
  clear hH hD
  go_enter Tryd.func58, Tryd.ntmps58
  go_wp2_with fail
  refine hP.mono ?_
  rintro e w1 ⟨⟨u, rfl, hu, hn⟩ | ⟨u, tt, v, rfl, hn⟩, hB⟩
  · have hT := HT.out u (by omega) w1 hB
    have ht := own_text t.data.toList u (by omega) hn
    have hf := not_text t.data.toList u hn
    have hu2 : (u : Int) ≤ 4294967295 := by omega
    clear hP hn HT
    by_cases he : textA (ab .f32 u) = t.data.toList
    · have HR := Lib.hid (reads_some (ht he))
      rw [he, Lib.mk_data] at hT
      have heq : (t.toList == t.toList) = true := by simp
      clear ht hf he hu
      go_wp2_with (first | (go_at_call 50; refine hT.mono ?_; rintro e w2 ⟨rfl, hB2⟩) | go_in)
      go_ret2
      exact ⟨HR.out, hB.trans (hB2.mono hB.size)⟩
    · have HR := Lib.hid (reads_none (hf he) u)
      have hne : ((⟨(textA (ab .f32 u)).toArray⟩ : ByteArray).toList == t.toList) = false := by rw [Lib.toList_data, Lib.toList_data]; simpa using he
      generalize (⟨(textA (ab .f32 u)).toArray⟩ : ByteArray) = r at *
      clear ht hf he hu
      go_wp2_with (first | (go_at_call 50; refine hT.mono ?_; rintro e w2 ⟨rfl, hB2⟩) | go_in)
      go_ret2
      exact ⟨HR.out, hB.trans (hB2.mono hB.size)⟩
  · have HR := Lib.hid (reads_none (rdBits_not hn) 0)
    clear hn hP HT
    go_wp2
    go_ret2
    exact ⟨HR.out, hB⟩
end Go.Proofs.YtnilpooheaaleaaDoor.hex
