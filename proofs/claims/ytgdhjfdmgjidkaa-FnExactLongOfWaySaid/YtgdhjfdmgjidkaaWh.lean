/- Walks: the laws of SumNumbers and DotNumbers; how a list of 32-bit numbers is opened. No conditions. -/
import Derived.Test.YtgdhjfdmgjidkaaWg
import Derived.ChangeOld
import Derived.Deep.Slices
import Derived.Laws.Cover2
namespace Go.Proofs.Ytgdhjfdmgjidkaa
open Go.RowKit Go.ChangeShapes

section
variable {H : Type} {enc : TypeId × Value → H} {P : Program} {w : World} {base : Nat} {spare : Nat → Bool} {held : Bool}

theorem trod_float {t : TypeId} {k : FloatKind} {fuel : Nat} {v : Value} {x : DataW H × List MemPlace} (ht : P.underlying t = some (.float k)) (h : DataW.trod enc P w base spare held fuel t [v] = some x) :
    ∃ b, v = .float k b ∧ x = (.lit (.float k b), []) ∧ (Lit.float k b).wf = true := by
  cases fuel with
  | zero => simp [DataW.trod] at h
  | succ n =>
    unfold DataW.trod at h
    rw [ht] at h
    split at h <;> simp_all

/-- A list of 32-bit numbers that came in. -/
theorem leads_of_trod {t e : TypeId} {a : Option Addr} {n cap : Nat} {d : DataW H} {p : List MemPlace} (ht : P.underlying t = some (.slice e)) (he : P.underlying e = some (.float .f32)) (hc : P.cellsOf e = 1)
    (h : DataW.Trod enc P w base (fun _ => true) held t (.slice a n cap) d p) : ∃ xs : Nat → Nat, (∀ i, i < n → (Lit.float .f32 (xs i)).wf = true) ∧ Leads w (.slice a n cap) n fun i => .float .f32 (xs i) := by
  obtain ⟨fuel, hf⟩ := h
  rcases Deep.open_slice1 ht hc hf with ⟨hcs, _⟩ | ⟨b, len, c, m, q, V, D, Pl, hcs, hb, hl, hm, hmm, hx, hall⟩
  · simp [Value.cells] at hcs
    obtain ⟨rfl, rfl, rfl⟩ := hcs
    exact ⟨fun _ => 0, fun i hi => absurd hi (Nat.not_lt_zero i), Nat.zero_le _, .inl ⟨rfl, rfl⟩⟩
  · simp [Value.cells] at hcs
    obtain ⟨rfl, rfl, rfl⟩ := hcs
    have each : ∀ i, ∃ z, i < n → w.cell? (b.add i) = some (.float .f32 z) ∧ (Lit.float .f32 z).wf = true := fun i => by
      by_cases hi : i < n
      · have hi' : i < m := by simp at hmm; omega
        obtain ⟨h1, h2⟩ := hall i hi'
        obtain ⟨z, hz, _, hw⟩ := trod_float he h2
        exact ⟨z, fun _ => ⟨by rw [h1, hz], hw⟩⟩
      · exact ⟨0, fun h => absurd h hi⟩
    obtain ⟨xs, hxs⟩ := Classical.axiomOfChoice each
    refine ⟨xs, fun i hi => (hxs i hi).2, Nat.le_trans hl hm, ?_⟩
    by_cases hn : n = 0
    · exact .inr (.inl ⟨b, cap, rfl, hn⟩)
    · refine .inr (.inr ⟨b, cap, rfl, ?_, fun i hi => (hxs i hi).1⟩)
      have h0 := (hxs 0 (by omega)).1
      have e : b.add 0 = b := by simp [Addr.add]
      rw [e] at h0
      rcases Nat.lt_or_ge b.block w.heap.size with h | h
      · exact h
      · have : w.heap[b.block]? = none := Array.getElem?_eq_none h
        simp [World.cell?, this] at h0
end

theorem Leads.drewN {w : World} {v : Value} {n : Nat} {val : Nat → Value} (h : Leads w v n val) (m : Nat) : Leads (w.drewN m) v n val := h

theorem law_SumNumbers_many (v : Option Addr) (n cap : Nat) (hn : 1048576 < n) (w : World) :
    Calls Try.prog 11 #[.slice v n cap] w (Told w) := by
  go_enter Try.func11, Try.ntmps11
  go_wp2
  go_ret
  exact ⟨rfl, Below.refl _ _⟩

set_option maxHeartbeats 2000000 in
theorem law_SumNumbers_few (a : Option Addr) (n cap : Nat) (xs : Nat → Nat) (wx : ∀ i, i < n → (Lit.float .f32 (xs i)).wf = true) (w : World) (hL : Leads w (.slice a n cap) n fun i => .float .f32 (xs i)) (hn : n ≤ 1048576) :
    Calls Try.prog 11 #[.slice a n cap] w (Told w) := by
  have hx : ∀ i, i < n → Ab .f32 (xs i) (ab .f32 (xs i)) := fun i hi => Ab.of_wf (wx i hi)
  clear wx
  generalize hv : Value.slice a n cap = v at hL
  generalize hZ : (fun i => ab .f32 (xs i)) = Z
  have hx' : ∀ i, i < n → Ab .f32 (xs i) (Z i) := by subst hZ; exact hx
  clear hZ hx
  subst hv
  have HS := fun b w' hb' => spec_SumNumbers n hn xs Z hx' b n w' hb'
  have HI := fun b w' hb' => impl_SumNumbers n hn xs Z hx' b n w' hb'
  have HE := fun b c w' hb' hc' => eq_f32 n hn xs xs Z hx' hx' b c n n w' hb' hc'
  have HK := fun w' h' => copy_f32 (.slice a n cap) n hn xs w' h'
  have HL := Lib.hid hL
  generalize hok : decide (n ≤ 256) = ok at HS HI
  have eok : (ok != ok) = false := same_bool ok
  clear hL hx' hok
  go_enter Try.func11, Try.ntmps11
  go_wp2_with (first | (refine fl_arith rfl _ _ _ _ _ rfl rfl _ _ _ rfl rfl ?_; intro r n hr0; have hr := hr0 _ _ (by first | assumption | exact Ab.lit rfl (by decide)) (by first | assumption | exact Ab.lit rfl (by decide)); clear hr0) | (refine fl_cmp rfl _ _ _ _ _ rfl rfl _ _ _ rfl rfl ?_; intro b hb0; have hb := hb0 _ _ (by first | assumption | exact Ab.lit rfl (by decide)) (by first | assumption | exact Ab.lit rfl (by decide)); clear hb0; (try simp only [*] at hb); subst hb) | (refine fl_same rfl _ _ _ rfl _ _ rfl rfl rfl ?_) | (refine fl_wide rfl _ _ _ rfl _ rfl rfl rfl ?_; intro r n hr0; have hr := hr0 _ (by first | assumption | exact Ab.lit rfl (by decide)); clear hr0) | (refine fl_narrow rfl _ _ _ rfl _ rfl rfl rfl ?_; intro r n hl hr0; have hr := hr0 _ (by first | assumption | exact Ab.lit rfl (by decide)) (by assumption); clear hr0 hl) | (refine fl_neg rfl _ _ rfl _ _ rfl ?_; intro r hr0; have hr := hr0 _ (by first | assumption | exact Ab.lit rfl (by decide)); clear hr0) | (go_at_call 34; refine (HK w HL.out).mono ?_; rintro e w' ⟨rfl, M1, B1⟩) | (go_at_call 37; refine (HS _ _ (fun i hi => M1.cell hi)).mono ?_; rintro e w' ⟨r1, m1, rfl, h1, rfl⟩) | (go_at_call 34; refine Calls.mono (HK _ (HL.out.kept (below_drewN B1 _))) ?_; rintro e w' ⟨rfl, M2, B2⟩; have B12 := (below_drewN B1 _).trans (B2.mono B1.size)) | (go_at_call 38; refine (HI _ _ (fun i hi => M2.cell hi)).mono ?_; rintro e w' ⟨r2, m2, rfl, h2, rfl⟩) | (go_at_call 17; refine (same_float _ _ _ (by assumption) (by assumption) _).mono ?_; rintro e w' ⟨rfl, m3, rfl⟩) | (go_at_call 34; refine Calls.mono (HK _ (HL.out.kept (below_drewN B12 _))) ?_; rintro e w' ⟨rfl, M3, B3⟩) | (go_at_call 36; refine (HE _ _ _ (fun i hi => ((M2.drewN _).kept B3 M2.lt).cell hi) (fun i hi => M3.cell hi)).mono ?_; rintro e w' ⟨rfl, m4, rfl⟩))
  go_ret
  exact ⟨rfl, below_drewN ((below_drewN B12 _).trans (B3.mono B12.size)) _⟩

theorem law_SumNumbers (v : Option Addr) (n cap : Nat) (xs : Nat → Nat) (wx : ∀ i, i < n → (Lit.float .f32 (xs i)).wf = true) (w : World) (hL : Leads w (.slice v n cap) n fun i => .float .f32 (xs i)) :
    Calls Try.prog 11 #[.slice v n cap] w (Told w) := by
  rcases Nat.lt_or_ge 1048576 n with h | h
  · exact law_SumNumbers_many v n cap h w
  · exact law_SumNumbers_few v n cap xs wx w hL h

/-! How a struct of three 32-bit numbers is opened and shut. -/
theorem trod_float_mk {H : Type} {enc : TypeId × Value → H} {P : Program} {w : World} {base : Nat} {spare : Nat → Bool} {held : Bool} {t : TypeId} {k : FloatKind} {b : Nat} (ht : P.underlying t = some (.float k)) (hw : (Lit.float k b).wf = true) :
    ∃ n, DataW.trod enc P w base spare held n t [.float k b] = some (.lit (.float k b), []) := ⟨1, by simp [DataW.trod, ht, hw]⟩

end Go.Proofs.Ytgdhjfdmgjidkaa
