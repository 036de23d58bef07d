/- Plain laws: a text cut at its commas. No conditions. -/
import Derived.Lib.SplitLaws
namespace Go.Proofs.YtnilpooheaaleaaDoor.cut
open Go.Lib

def prepend (seg : List UInt8) : List (List UInt8) → List (List UInt8)
  | [] => [seg]
  | p :: ps => (seg ++ p) :: ps
/-- The parts between commas. -/
def cut : List UInt8 → List (List UInt8)
  | [] => [[]]
  | c :: r => if c = 44 then [] :: cut r else prepend [c] (cut r)

theorem cut_ne (l : List UInt8) : cut l ≠ [] := by
  cases l with
  | nil => simp [cut]
  | cons c r =>
    unfold cut
    split
    · simp
    · cases cut r <;> simp [prepend]
theorem prepend_nil {ps : List (List UInt8)} (h : ps ≠ []) : prepend [] ps = ps := by
  cases ps with
  | nil => exact absurd rfl h
  | cons p ps => simp [prepend]
theorem prepend_snoc (seg : List UInt8) (c : UInt8) {ps : List (List UInt8)} (h : ps ≠ []) : prepend seg (prepend [c] ps) = prepend (seg ++ [c]) ps := by
  cases ps with
  | nil => exact absurd rfl h
  | cons p ps => simp [prepend]

theorem index_head (r : List UInt8) : index (44 :: r) [44] = 0 := by
  simp [index]
theorem index_next (c : UInt8) (r : List UInt8) (h : c ≠ 44) : index (c :: r) [44] = if index r [44] == -1 then -1 else index r [44] + 1 := by
  have e : List.isPrefixOf [44] (c :: r) = false := by
    simp [List.isPrefixOf]
    exact fun h2 => h h2.symm
  rw [index, e]
  rfl

/-- What the library's split says. -/
theorem split_cut : ∀ l : List UInt8, splitK [44] 0 (count l [44]) l = cut l
  | [] => rfl
  | c :: r => by
    have ih := split_cut r
    by_cases h : c = 44
    · subst h
      rw [count_cons_eq, Nat.add_comm, splitK, index_head, cut, if_pos rfl]
      simp [ih]
    · rw [count_cons_ne c 44 r h, cut, if_neg h, ← ih]
      cases hk : count r [44] with
      | zero => simp [splitK, prepend]
      | succ k =>
        rw [splitK, splitK, index_next c r h]
        by_cases hi : index r [44] = -1
        · simp [hi, prepend]
        · have h1 := index_ge r [44]
          have h2 : ¬ index r [44] + 1 = -1 := by omega
          have h3 : (index r [44] + 1).toNat = (index r [44]).toNat + 1 := by omega
          simp [hi, h2, h3, prepend]

theorem prepend_le (c : UInt8) (n : Nat) {ps : List (List UInt8)} (h : ∀ p ∈ ps, p.length ≤ n) : ∀ p ∈ prepend [c] ps, p.length ≤ n + 1 := by
  cases ps with
  | nil => intro p hp; simp [prepend] at hp; subst hp; simp
  | cons q ps =>
    intro p hp
    simp only [prepend, List.mem_cons] at hp
    rcases hp with rfl | hp
    · have := h q (by simp); simp; omega
    · have := h p (by simp [hp]); omega
theorem cut_le : ∀ (l : List UInt8), ∀ p ∈ cut l, p.length ≤ l.length
  | [] => by intro p hp; simp [cut] at hp; subst hp; simp
  | c :: r => by
    intro p hp
    have ih := cut_le r
    rw [cut] at hp
    split at hp
    · rw [List.mem_cons] at hp
      rcases hp with rfl | hp
      · simp
      · have := ih p hp; simp; omega
    · exact prepend_le c _ ih p hp
theorem prepend_length (seg : List UInt8) {ps : List (List UInt8)} (h : ps ≠ []) : (prepend seg ps).length = ps.length := by
  cases ps with
  | nil => exact absurd rfl h
  | cons p ps => rfl
theorem cut_count : ∀ (l : List UInt8), (cut l).length ≤ l.length + 1
  | [] => by simp [cut]
  | c :: r => by
    have ih := cut_count r
    rw [cut]
    split
    · simp; omega
    · rw [prepend_length _ (cut_ne r)]; simp; omega

/-- A loop that cuts: P are the parts behind it, seg is what stands since the last comma, r is ahead. -/
structure At (l : List UInt8) (P : List (List UInt8)) (seg r : List UInt8) : Prop where
  eq : cut l = P ++ prepend seg (cut r)
theorem At.start (l : List UInt8) : At l [] [] l := ⟨by rw [prepend_nil (cut_ne l)]; rfl⟩
theorem At.mark {l : List UInt8} {P : List (List UInt8)} {seg r : List UInt8} (h : At l P seg (44 :: r)) : At l (P ++ [seg]) [] r := ⟨by
  rw [h.eq, cut, if_pos rfl, prepend_nil (cut_ne r)]
  simp [prepend]⟩
theorem At.next {l : List UInt8} {P : List (List UInt8)} {seg r : List UInt8} {c : UInt8} (h : At l P seg (c :: r)) (hc : c ≠ 44) : At l P (seg ++ [c]) r := ⟨by
  rw [h.eq, cut, if_neg hc, prepend_snoc seg c (cut_ne r)]⟩
theorem At.done {l : List UInt8} {P : List (List UInt8)} {seg : List UInt8} (h : At l P seg []) : cut l = P ++ [seg] := by
  rw [h.eq]
  simp [cut, prepend]

/-- As texts. -/
def mk (l : List UInt8) : ByteArray := ⟨l.toArray⟩
def cutB (s : ByteArray) : List ByteArray := (cut s.data.toList).map mk
theorem mk_data (b : ByteArray) : mk b.data.toList = b := by cases b; rfl
theorem data_mk (l : List UInt8) : (mk l).data.toList = l := rfl
theorem splitB_cutB (s : ByteArray) : splitB ⟨#[44]⟩ 0 (countB s ⟨#[44]⟩) s = cutB s := by
  have h := splitB_data ⟨#[44]⟩ 0 (countB s ⟨#[44]⟩) s
  have h2 : splitK (⟨#[44]⟩ : ByteArray).data.toList 0 (countB s ⟨#[44]⟩) s.data.toList = cut s.data.toList := split_cut s.data.toList
  rw [h2] at h
  unfold cutB
  rw [← h, List.map_map]
  have : (mk ∘ fun x : ByteArray => x.data.toList) = id := by
    funext x
    exact mk_data x
  rw [this, List.map_id]

/-- What reading all parts gives. -/
def readAll {α : Type} (rd : List UInt8 → Option α) (z : α) (most : Nat) (l : List UInt8) : Option (List α) :=
  if l = [110, 111, 110, 101] then some []
  else if (cut l).length ≤ most ∧ (cut l).all (fun p => (rd p).isSome) = true then some ((cut l).map fun p => (rd p).getD z) else none
section
variable {α : Type} {rd : List UInt8 → Option α} {z : α} {most : Nat} {l : List UInt8}
theorem readAll_none (h : l = [110, 111, 110, 101]) : readAll rd z most l = some [] := by rw [readAll, if_pos h]
theorem readAll_many (h : l ≠ [110, 111, 110, 101]) (h2 : most < (cut l).length) : readAll rd z most l = none := by
  rw [readAll, if_neg h, if_neg fun h3 => by omega]
theorem readAll_bad (h : l ≠ [110, 111, 110, 101]) {k : Nat} {p : List UInt8} (hk : (cut l)[k]? = some p) (h2 : rd p = none) : readAll rd z most l = none := by
  rw [readAll, if_neg h, if_neg fun h3 => by
    have h4 := List.all_eq_true.1 h3.2 p (List.mem_of_getElem? hk)
    rw [h2] at h4
    cases h4]
theorem readAll_good (h : l ≠ [110, 111, 110, 101]) (h2 : (cut l).length ≤ most) (h3 : ∀ (k : Nat) (p : List UInt8), (cut l)[k]? = some p → (rd p).isSome = true) : readAll rd z most l = some ((cut l).map fun p => (rd p).getD z) := by
  rw [readAll, if_neg h, if_pos ⟨h2, List.all_eq_true.2 fun p hp => by
    obtain ⟨k, hk⟩ := List.getElem?_of_mem hp
    exact h3 k p hk⟩]
theorem readAll_length {vs : List α} (h : readAll rd z most l = some vs) : vs.length ≤ most := by
  unfold readAll at h
  split at h
  · injection h with h; subst h; simp
  · split at h
    · rename_i h2
      injection h with h
      subst h
      rw [List.length_map]
      exact h2.1
    · cases h
end
end Go.Proofs.YtnilpooheaaleaaDoor.cut
