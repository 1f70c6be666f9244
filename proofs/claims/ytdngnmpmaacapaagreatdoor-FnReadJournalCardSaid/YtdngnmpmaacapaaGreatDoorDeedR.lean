/-
  Plain laws: the text of a deed and what is read of it.
-/
import Derived.Test.YtdngnmpmaacapaaGreatDoorReadB
import Derived.Test.YtdngnmpmaacapaaGreatDoorDrawDeed
namespace Go.Proofs.YtdngnmpmaacapaaGreatDoor
open Go.RowKit

theorem app_data (a b : ByteArray) : (a ++ b).data.toList = a.data.toList ++ b.data.toList := by simp [ByteArray.data_append]
theorem numOk_free {s : ByteArray} (h : numOk s = true) : (32 : UInt8) ∉ s.data.toList := by
  intro hm
  obtain ⟨i, hi, e⟩ := List.mem_iff_getElem.1 hm
  have hi' : i < s.size := by simpa using hi
  have hd := byte_dig h i hi'
  have : s[i] = 32 := by rw [← e]; simp; rfl
  rw [this] at hd
  exact absurd hd.1 (by decide)
theorem words_take {x : Tst} (h1 : numOk x.1 = true) (h2 : numOk x.2.1 = true) (h3 : numOk x.2.2 = true) : wordsB (takeS x) = [⟨#[116, 97, 107, 101]⟩, x.1, x.2.1, x.2.2] := by
  have e : (takeS x).data.toList = [116, 97, 107, 101] ++ 32 :: (x.1.data.toList ++ 32 :: (x.2.1.data.toList ++ 32 :: x.2.2.data.toList)) := by
    unfold takeS; simp [ByteArray.data_append]
  unfold wordsB
  rw [e, cutL_hit (by decide), cutL_hit (numOk_free h1), cutL_hit (numOk_free h2), cutL_free (numOk_free h3)]
  show [mkB [116, 97, 107, 101], mkB x.1.data.toList, mkB x.2.1.data.toList, mkB x.2.2.data.toList] = _
  rw [mkB_data, mkB_data, mkB_data]; rfl
theorem takeS_size (x : Tst) : (takeS x).size = 7 + x.1.size + x.2.1.size + x.2.2.size := by
  unfold takeS; simp only [ByteArray.size_append]; show (5 + x.1.size + 1 + x.2.1.size + 1 + x.2.2.size) = _; omega
theorem tiny_text {d : Dd} (h : tiny d.2) : (deedT d).size ≤ 37 := by
  obtain ⟨a, b, c⟩ := h
  unfold deedT
  split
  · split <;> decide
  · split
    · rw [takeS_size]; omega
    · decide
theorem text_cases (d : Dd) : deedT d = ⟨#[]⟩ ∨ (d = (true, noTest) ∧ deedT d = backS) ∨ (∃ x, d = (false, x) ∧ numOk x.1 = true ∧ numOk x.2.1 = true ∧ numOk x.2.2 = true ∧ deedT d = takeS x) := by
  obtain ⟨b, x⟩ := d
  cases b
  · by_cases h : (numOk x.1 && (numOk x.2.1 && numOk x.2.2)) = true
    · simp only [Bool.and_eq_true] at h
      exact .inr (.inr ⟨x, rfl, h.1, h.2.1, h.2.2, (deedT_take h.1 h.2.1 h.2.2).symm⟩)
    · exact .inl (by unfold deedT; simp only [Bool.false_eq_true, if_false]; rw [if_neg h])
  · by_cases h : x = noTest
    · exact .inr (.inl ⟨by rw [h], (deedT_back h).symm⟩)
    · exact .inl (deedT_nob h).symm
theorem takeS_ne {x : Tst} : takeS x ≠ backS ∧ takeS x ≠ ⟨#[]⟩ := by
  have h := takeS_size x
  constructor
  · intro e; rw [e] at h; have h4 : backS.size = 4 := rfl; omega
  · intro e; rw [e] at h; have h4 : (⟨#[]⟩ : ByteArray).size = 0 := rfl; omega
theorem readD_cases (s : ByteArray) : s = backS ∨ readD s = (noDeed, false) ∨ ∃ x a b c, wordsB s = [x, a, b, c] ∧ s ≠ ⟨#[]⟩ ∧ deedT (false, a, b, c) = s ∧ readD s = ((false, a, b, c), true) := by
  by_cases hb : s = backS
  · exact .inl hb
  · by_cases hl : (wordsB s).length = 4
    · obtain ⟨x, a, b, c, hw⟩ := four_of hl
      have h0 : s ≠ ⟨#[]⟩ := by intro e; rw [e, words_nil] at hl; simp at hl
      by_cases h2 : deedT (false, a, b, c) = s
      · exact .inr (.inr ⟨x, a, b, c, hw, h0, h2, (readD_yes hw hb h0 h2).symm⟩)
      · exact .inr (.inl (readD_no hw hb h2).symm)
    · exact .inr (.inl (readD_len rfl hb hl).symm)
/-- Texts of deeds are read. -/
theorem readD_text {d : Dd} (h : deedT d ≠ ⟨#[]⟩) : readD (deedT d) = (d, true) := by
  rcases text_cases d with h0 | ⟨rfl, e⟩ | ⟨x, rfl, h1, h2, h3, e⟩
  · exact absurd h0 h
  · rw [e]; exact readD_back.symm
  · have hw := words_take h1 h2 h3
    rw [e]
    exact (readD_yes hw takeS_ne.1 takeS_ne.2 e).symm
/-- What is read is no text but its own. -/
theorem readD_ok {s : ByteArray} (h : (readD s).2 = true) : deedT (readD s).1 = s ∧ s ≠ ⟨#[]⟩ := by
  rcases readD_cases s with rfl | e | ⟨x, a, b, c, _, h0, h2, e⟩
  · rw [← readD_back]
    exact ⟨(deedT_back (x := noTest) rfl).symm, by decide⟩
  · rw [e] at h; cases h
  · rw [e]; exact ⟨h2, h0⟩
theorem readD_not {s : ByteArray} (h : (readD s).2 = false) : (readD s).1 = noDeed := by
  rcases readD_cases s with rfl | e | ⟨x, a, b, c, _, h0, h2, e⟩
  · rw [← readD_back] at h; cases h
  · rw [e]
  · rw [e] at h; cases h
theorem readD_small {s : ByteArray} (hs : s.size ≤ 1048576) : small (readD s).1.2 := by
  rcases readD_cases s with rfl | e | ⟨x, a, b, c, hw, h0, h2, e⟩
  · rw [← readD_back]; exact small_back
  · rw [e]; exact small_back
  · rw [e]
    have h1 := words_le (s := s) (x := a) (by rw [hw]; simp)
    have h2 := words_le (s := s) (x := b) (by rw [hw]; simp)
    have h3 := words_le (s := s) (x := c) (by rw [hw]; simp)
    exact ⟨by show a.size ≤ _; omega, by show b.size ≤ _; omega, by show c.size ≤ _; omega⟩
theorem last_space (s : ByteArray) : (s ++ (⟨#[32]⟩ : ByteArray)).data.toList.getLast? = some 32 := by
  rw [app_data, List.getLast?_append]; rfl
theorem text_last (d : Dd) (s : ByteArray) : deedT d ≠ s ++ ⟨#[32]⟩ := by
  intro e
  have hl := last_space s
  rw [← e] at hl
  rcases text_cases d with h0 | ⟨rfl, e1⟩ | ⟨x, rfl, h1, h2, h3, e1⟩
  · rw [h0] at hl; revert hl; decide
  · rw [e1] at hl; revert hl; decide
  · rw [e1] at hl
    unfold takeS at hl
    rw [app_data, List.getLast?_append] at hl
    have hne : x.2.2.data.toList ≠ [] := by
      intro h0
      have hp := (numOk_pos h3).1
      have h5 : x.2.2.data.toList.length = x.2.2.size := by simp
      rw [h0] at h5; rw [List.length_nil] at h5; omega
    rw [List.getLast?_eq_some_getLast hne] at hl
    have h4 : x.2.2.data.toList.getLast hne = 32 := by simpa using hl
    exact numOk_free h3 (h4 ▸ List.getLast_mem hne)
/-- With a space behind it no text is read. -/
theorem readD_space (s : ByteArray) : (readD (s ++ ⟨#[32]⟩)).2 = false := by
  cases h : (readD (s ++ ⟨#[32]⟩)).2
  · rfl
  · exact absurd (readD_ok h).1 (text_last _ s)
end Go.Proofs.YtdngnmpmaacapaaGreatDoor
