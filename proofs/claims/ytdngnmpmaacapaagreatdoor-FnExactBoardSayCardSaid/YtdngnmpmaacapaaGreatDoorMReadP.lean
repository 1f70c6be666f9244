/-
  Merged: ReadP.
-/
import Derived.Test.YtdngnmpmaacapaaGreatDoorMJournal
import Derived.Lib.Split
import Derived.Lib.SplitLaws
set_option linter.unusedVariables false
set_option linter.unusedSimpArgs false
/-
  Plain laws: what stands between the bytes of one kind. No program is named here.
-/
namespace Go.Proofs.YtdngnmpmaacapaaGreatDoor
open Go.RowKit

/-- The pieces of a list between the bytes c. -/
def cutL (c : UInt8) : List UInt8 → List (List UInt8)
  | [] => [[]]
  | b :: l => if b = c then [] :: cutL c l else match cutL c l with
    | [] => [[b]]
    | p :: r => (b :: p) :: r
theorem cutL_ne (c : UInt8) (l : List UInt8) : cutL c l ≠ [] := by
  cases l with
  | nil => simp [cutL]
  | cons b l => unfold cutL; split
                · simp
                · split <;> simp
theorem cutL_free {c : UInt8} {l : List UInt8} (h : c ∉ l) : cutL c l = [l] := by
  induction l with
  | nil => rfl
  | cons b l ih =>
    simp only [List.mem_cons, not_or] at h
    unfold cutL
    rw [if_neg (fun e => h.1 e.symm), ih h.2]
theorem cutL_hit {c : UInt8} {a r : List UInt8} (h : c ∉ a) : cutL c (a ++ c :: r) = a :: cutL c r := by
  induction a with
  | nil => simp [cutL]
  | cons b a ih =>
    simp only [List.mem_cons, not_or] at h
    show cutL c (b :: (a ++ c :: r)) = _
    rw [cutL, if_neg (fun e => h.1 e.symm), ih h.2]
theorem cutL_len (c : UInt8) (l : List UInt8) : (cutL c l).length = l.count c + 1 := by
  induction l with
  | nil => rfl
  | cons b l ih =>
    unfold cutL
    by_cases h : b = c
    · rw [if_pos h, List.length_cons, ih, h, List.count_cons_self]
    · rw [if_neg h, List.count_cons_of_ne (by simpa using h)]
      split
      · next e => exact absurd e (cutL_ne c l)
      · next p r e => rw [e] at ih; simpa using ih
/-- The first c in a list. -/
theorem first_c (c : UInt8) (l : List UInt8) : c ∉ l ∨ ∃ a r, l = a ++ c :: r ∧ c ∉ a := by
  induction l with
  | nil => exact .inl (by simp)
  | cons b l ih =>
    by_cases h : b = c
    · exact .inr ⟨[], l, by simp [h], by simp⟩
    · rcases ih with h2 | ⟨a, r, rfl, h2⟩
      · exact .inl (by simp only [List.mem_cons, not_or]; exact ⟨fun e => h e.symm, h2⟩)
      · exact .inr ⟨b :: a, r, rfl, by simp only [List.mem_cons, not_or]; exact ⟨fun e => h e.symm, h2⟩⟩
theorem index_miss {c : UInt8} {l : List UInt8} (h : c ∉ l) : Lib.index l [c] = -1 := by
  induction l with
  | nil => rfl
  | cons b l ih =>
    simp only [List.mem_cons, not_or] at h
    unfold Lib.index
    have h1 : ([c] : List UInt8).isPrefixOf (b :: l) = false := by simp [List.isPrefixOf]; exact h.1
    rw [h1, ih h.2]; rfl
theorem index_hit {c : UInt8} {a r : List UInt8} (h : c ∉ a) : Lib.index (a ++ c :: r) [c] = (a.length : Int) := by
  induction a with
  | nil => unfold Lib.index; simp [List.isPrefixOf]
  | cons b a ih =>
    simp only [List.mem_cons, not_or] at h
    show Lib.index (b :: (a ++ c :: r)) [c] = _
    unfold Lib.index
    have h1 : ([c] : List UInt8).isPrefixOf (b :: (a ++ c :: r)) = false := by simp [List.isPrefixOf]; exact h.1
    rw [h1, ih h.2]
    have h2 : ((a.length : Int) == -1) = false := by rw [beq_eq_false_iff_ne]; omega
    simp [h2]
theorem countFrom_eq (c : UInt8) : ∀ (f : Nat) (l : List UInt8), l.length < f → Lib.countFrom [c] f l = l.count c
  | 0, _, h => by omega
  | f + 1, l, h => by
    unfold Lib.countFrom
    rcases first_c c l with hm | ⟨a, r, rfl, ha⟩
    · rw [index_miss hm]; simp [List.count_eq_zero.2 hm]
    · rw [index_hit ha]
      have h2 : ((a.length : Int) == -1) = false := by rw [beq_eq_false_iff_ne]; omega
      have h3 : (a ++ c :: r).drop ((a.length : Int).toNat + [c].length) = r := by
        have : a ++ c :: r = (a ++ [c]) ++ r := by simp
        rw [this]
        have h4 : ((a.length : Int).toNat + [c].length) = (a ++ [c]).length := by simp
        rw [h4, List.drop_left']; rfl
      rw [h2, h3]
      simp only [List.length_append, List.length_cons] at h
      rw [countFrom_eq c f r (by omega)]
      simp [List.count_append, List.count_eq_zero.2 ha]; omega
theorem splitK_eq (c : UInt8) : ∀ (k : Nat) (l : List UInt8), l.count c ≤ k → Lib.splitK [c] 0 k l = cutL c l
  | 0, l, h => by
    have hm : c ∉ l := List.count_eq_zero.1 (by omega)
    rw [cutL_free hm]; rfl
  | k + 1, l, h => by
    unfold Lib.splitK
    rcases first_c c l with hm | ⟨a, r, rfl, ha⟩
    · rw [index_miss hm, cutL_free hm]; rfl
    · rw [index_hit ha]
      have h2 : ((a.length : Int) == -1) = false := by rw [beq_eq_false_iff_ne]; omega
      have h3 : (a ++ c :: r).drop ((a.length : Int).toNat + [c].length) = r := by
        have : a ++ c :: r = (a ++ [c]) ++ r := by simp
        rw [this]
        have h4 : ((a.length : Int).toNat + [c].length) = (a ++ [c]).length := by simp
        rw [h4, List.drop_left']; rfl
      have h5 : (a ++ c :: r).take ((a.length : Int).toNat + 0) = a := by simp
      rw [h2, h3, h5, cutL_hit ha, splitK_eq c k r]
      · rfl
      · simp only [List.count_append, List.count_cons_self] at h; omega
theorem splitB_eq (s : ByteArray) (c : UInt8) : (Lib.splitB ⟨#[c]⟩ 0 (Lib.countB s ⟨#[c]⟩) s).map (·.data.toList) = cutL c s.data.toList := by
  rw [Lib.splitB_data]
  show Lib.splitK [c] 0 _ _ = _
  apply splitK_eq
  have : Lib.countB s ⟨#[c]⟩ = s.data.toList.count c := countFrom_eq c _ _ (by show _ < _ + 1; omega)
  omega
end Go.Proofs.YtdngnmpmaacapaaGreatDoor
