/- Walks: CrossWays. No conditions. -/
import Derived.Test.YtnkogheibofboaaWx
import Derived.Test.YtnkogheibofboaaRk
namespace Go.Proofs.Ytnkogheibofboaa.B
open Go.RowKit
set_option maxRecDepth 8000

theorem results_cell_slotK {P : Program} {fn : Func} {p q : Tmp} {ty : TypeId} (h : fn.results = #[.cell p ty, .tmp q]) (tmps : Array Value) (w : World) (g : Nat) (cs : Array Value) (v : Value) (d : TypeDesc)
    (hp : tmps.getD p undef = .pointer (some ⟨g, 0, none⟩)) (hv : tmps.getD q undef = v) (hg : Rk.Own w g cs)
    (hu : P.underlying ty = some d) (hd : (match d with | .struct _ | .array _ _ => true | _ => false) = true) (hi : (P.info? ty).map (·.size) = some cs.size) :
    (results fn tmps).run P w = .ok (.tuple #[.agg cs, v]) w := by
  obtain ⟨t, hg⟩ := hg
  have hp' : tmps[p]?.getD undef = .pointer (some ⟨g, 0, none⟩) := by simpa using hp
  have hv' : tmps[q]?.getD undef = v := by simpa using hv
  simp [results, h, hp', hv', asAddr, run_loadVar_row w g t ty cs _ d hg hu hd hi]

theorem Own.boxK {w : World} {b : Nat} {cs : Array Value} (h : Rk.Own w b cs) : Box w b cs := let ⟨t, h⟩ := h; ⟨t, _, h⟩

/-- A struct as an argument, and one's own cell for a result. -/
theorem box_ownK (w : World) (t u : TypeId) (cs ds : Array Value) : ∃ W, (w.alloc (.cells cs t)).alloc (.cells ds u) = W ∧ Box W w.heap.size cs ∧ Rk.Own W (w.heap.size + 1) ds ∧ Below w.heap.size w W := by
  refine ⟨_, rfl, (Box.start w cs t (0, 0)).alloc _, ⟨u, ?_⟩, ((Below.refl _ _).alloc (Nat.le_refl _) _).alloc (by simp) _⟩
  have h := heap_alloc_new (w.alloc (.cells cs t)) (.cells ds u)
  have e : (w.alloc (.cells cs t)).heap.size = w.heap.size + 1 := by simp
  rw [e] at h
  exact h

section
variable {P : Program} {ops : Array Oper} {rest : List Oper} {o : Oper} {a : Act} {w : World} {Q : Exit → Act → World → Prop} {n : Nat}
theorem fl_putK (hg : Region.wanted o (yielded ops a.tmps) = true) (ty : TypeId) (x y : Operand) (ho : o.op = .store ty x y) (g : Nat) (hx : a.eval x = .pointer (some ⟨g, 0, none⟩)) (cells : Array Value) (hy : a.eval y = .agg cells)
    (old : Array Value) (hO : Rk.Own w g old) (hs : cells.size = n) (hso : old.size = n) (hi : (P.info? ty).map (·.size) = some n) (h1 : cells.all (·.oneCell') = true)
    (h : ∀ W, Rk.Own W g cells → (∀ k cs, k ≠ g → Box w k cs → Box W k cs) → (∀ B a', B ≤ g → Below B a' w → Below B a' W) → wpList P ops Q rest (a.put o.dst undef) W) : wpList P ops Q (o :: rest) a w := by
  obtain ⟨t, hO⟩ := hO
  refine wpList_wanted hg fun K hK => wp_store_row ty x y ho g cells hx hy t old hO (by rw [hs]; exact hi) (by rw [hs, hso]) h1 (hK _ _ ?_)
  refine h _ ⟨t, setRow_heap w g old cells t _ hO⟩ (fun k cs hk hB => ?_) fun B a' hB hb => below_setRow hb hB _
  obtain ⟨t', fr', hB⟩ := hB
  exact ⟨t', fr', (setRow_other w g k cells hk).trans hB⟩
end

section
variable {x y z x' y' z' : Nat} {X Y Z X' Y' Z' : Option Nat} (hx : Ab .f32 x X) (hy : Ab .f32 y Y) (hz : Ab .f32 z Z) (hx' : Ab .f32 x' X') (hy' : Ab .f32 y' Y') (hz' : Ab .f32 z' Z') (w : World)

include hx hy hz in
set_option maxHeartbeats 1000000 in
theorem impl_finiteWay (ok : Bool) : Calls Try.prog 81 #[.agg #[.float .f32 x, .float .f32 y, .float .f32 z], .bool ok] w (SaysWayIf (ok && finWay X Y Z) X Y Z w) := by
  have HV := fun w' => impl_isWay hx hy hz w'
  cases ok
  · go_enter Try.func81, Try.ntmps81
    go_wp2_with (first | (refine fl_arith rfl _ _ _ _ _ rfl rfl _ _ _ rfl rfl ?_; intro r n hr0; have hr := hr0 _ _ (by first | assumption | exact Ab.lit rfl (by decide)) (by first | assumption | exact Ab.lit rfl (by decide)); clear hr0) | (refine fl_cmp rfl _ _ _ _ _ rfl rfl _ _ _ rfl rfl ?_; intro b hb0; have hb := hb0 _ _ (by first | assumption | exact Ab.lit rfl (by decide)) (by first | assumption | exact Ab.lit rfl (by decide)); clear hb0; (try simp only [*] at hb); subst hb) | (refine fl_same rfl _ _ _ rfl _ _ rfl rfl rfl ?_) | (refine fl_wide rfl _ _ _ rfl _ rfl rfl rfl ?_; intro r n hr0; have hr := hr0 _ (by first | assumption | exact Ab.lit rfl (by decide)); clear hr0) | (refine fl_narrow rfl _ _ _ rfl _ rfl rfl rfl ?_; intro r n hl hr0; have hr := hr0 _ (by first | assumption | exact Ab.lit rfl (by decide)) (by assumption); clear hr0 hl) | (refine fl_neg rfl _ _ rfl _ _ rfl ?_; intro r hr0; have hr := hr0 _ (by first | assumption | exact Ab.lit rfl (by decide)); clear hr0) | (refine fl_box (n := 3) rfl _ _ rfl _ rfl _ (by first | assumption | exact Box.alloc (by assumption) _ | exact Box.start _ _ _ _) (by rfl) _ Try.underlying37 rfl info_way ?_))
    exact bodyPost_ret (v := .tuple #[.agg #[.float .f32 0, .float .f32 0, .float .f32 0], .bool false]) (by simp [results, Try.results81, go_sem]) rfl ⟨0, 0, 0, rfl, Ab.lit rfl (by decide), Ab.lit rfl (by decide), Ab.lit rfl (by decide), ((Below.refl _ _).alloc (Nat.le_refl _) _).alloc (by simp) _⟩
  · cases c : finWay X Y Z <;> rw [c] at HV
    all_goals
      go_enter Try.func81, Try.ntmps81
      go_wp2_with (first | (refine fl_arith rfl _ _ _ _ _ rfl rfl _ _ _ rfl rfl ?_; intro r n hr0; have hr := hr0 _ _ (by first | assumption | exact Ab.lit rfl (by decide)) (by first | assumption | exact Ab.lit rfl (by decide)); clear hr0) | (refine fl_cmp rfl _ _ _ _ _ rfl rfl _ _ _ rfl rfl ?_; intro b hb0; have hb := hb0 _ _ (by first | assumption | exact Ab.lit rfl (by decide)) (by first | assumption | exact Ab.lit rfl (by decide)); clear hb0; (try simp only [*] at hb); subst hb) | (refine fl_same rfl _ _ _ rfl _ _ rfl rfl rfl ?_) | (refine fl_wide rfl _ _ _ rfl _ rfl rfl rfl ?_; intro r n hr0; have hr := hr0 _ (by first | assumption | exact Ab.lit rfl (by decide)); clear hr0) | (refine fl_narrow rfl _ _ _ rfl _ rfl rfl rfl ?_; intro r n hl hr0; have hr := hr0 _ (by first | assumption | exact Ab.lit rfl (by decide)) (by assumption); clear hr0 hl) | (refine fl_neg rfl _ _ rfl _ _ rfl ?_; intro r hr0; have hr := hr0 _ (by first | assumption | exact Ab.lit rfl (by decide)); clear hr0) | (go_at_call 68; obtain ⟨W, hW, b1, o1, bel⟩ := box_ownK w 37 37 #[.float .f32 x, .float .f32 y, .float .f32 z] #[.float .f32 0, .float .f32 0, .float .f32 0]; rw [hW]; clear hW; (with_reducible_and_instances refine Calls.mono (HV W) ?_); rintro e w' ⟨rfl, B1⟩; have b2 := b1.kept B1 b1.lt; have o2 := o1.kept B1 o1.lt; have bel1 := bel.trans (B1.mono bel.size); clear b1 o1 bel) | (refine fl_box (n := 3) rfl _ _ rfl _ rfl _ (by first | assumption | exact Box.alloc (by assumption) _ | exact Box.start _ _ _ _) (by rfl) _ Try.underlying37 rfl info_way ?_) | (refine fl_putK (n := 3) rfl _ _ _ rfl _ rfl _ rfl _ (by assumption) (by rfl) (by rfl) info_way (by simp [Value.oneCell']) ?_; intro W3 o3 j3 k3))
    · exact bodyPost_ret (results_cell_slotK Try.results81 _ _ _ _ _ _ rfl rfl o3 Try.underlying37 rfl info_way) rfl ⟨0, 0, 0, rfl, Ab.lit rfl (by decide), Ab.lit rfl (by decide), Ab.lit rfl (by decide), k3 _ _ (Nat.le_succ _) bel1⟩
    · exact bodyPost_ret (results_cell_slotK Try.results81 _ _ _ _ _ _ rfl rfl o3 Try.underlying37 rfl info_way) rfl ⟨x, y, z, rfl, hx, hy, hz, k3 _ _ (Nat.le_succ _) bel1⟩

end
end Go.Proofs.Ytnkogheibofboaa.B
