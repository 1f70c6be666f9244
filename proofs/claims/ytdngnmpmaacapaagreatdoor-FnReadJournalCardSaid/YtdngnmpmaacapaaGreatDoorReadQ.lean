/-
  Plain laws: what is read of the beginnings of a journal, and the text of what was read. No program is named here.
-/
import Derived.Test.YtdngnmpmaacapaaGreatDoorDrawJ
namespace Go.Proofs.YtdngnmpmaacapaaGreatDoor
open Go.RowKit

theorem rj_prefix : ∀ (n : Nat) (r rest : List UInt8), r.length ≤ n → (∃ q, (rj (cutL 10 (r ++ rest))).1 = (rj (cutL 10 r)).1 ++ q) ∧ (rj (cutL 10 r)).2 ≤ r.length
  | 0, r, rest, h => by
    have : r = [] := List.eq_nil_of_length_eq_zero (by omega)
    subst this
    exact ⟨⟨(rj (cutL 10 ([] ++ rest))).1, rfl⟩, Nat.zero_le _⟩
  | n + 1, r, rest, h => by
    rcases first_c 10 r with h1 | ⟨a, b, e, ha⟩
    · rw [rj_end h1]; exact ⟨⟨_, rfl⟩, Nat.zero_le _⟩
    · subst e
      have hl : b.length ≤ n := by simp at h; omega
      obtain ⟨⟨q, hq⟩, h2⟩ := rj_prefix n b rest hl
      have e2 : a ++ 10 :: b ++ rest = a ++ 10 :: (b ++ rest) := by simp
      rw [e2]
      cases hd : (readD (mkB a)).2
      · rw [rj_no ha hd, rj_no ha hd]; exact ⟨⟨[], rfl⟩, Nat.zero_le _⟩
      · rw [rj_yes ha hd, rj_yes ha hd]
        refine ⟨⟨q, by simp [hq]⟩, ?_⟩
        simp; omega
theorem rj_text : ∀ (n : Nat) (l : List UInt8), l.length ≤ n → jL (rj (cutL 10 l)).1 = l.take (rj (cutL 10 l)).2 ∧ ∀ d ∈ (rj (cutL 10 l)).1, deedT d ≠ ⟨#[]⟩
  | 0, l, h => by
    have : l = [] := List.eq_nil_of_length_eq_zero (by omega)
    subst this
    rw [rj_end (by simp)]; simp [jL]
  | n + 1, l, h => by
    rcases first_c 10 l with h1 | ⟨a, b, e, ha⟩
    · rw [rj_end h1]; simp [jL]
    · subst e
      have hl : b.length ≤ n := by simp at h; omega
      obtain ⟨h2, h3⟩ := rj_text n b hl
      cases hd : (readD (mkB a)).2
      · rw [rj_no ha hd]; simp [jL]
      · rw [rj_yes ha hd]
        obtain ⟨ht, hne⟩ := readD_ok hd
        refine ⟨?_, ?_⟩
        · have e1 : ∀ x : List Dd, jL ((readD (mkB a)).1 :: x) = a ++ 10 :: jL x := by
            intro x
            have : (deedT (readD (mkB a)).1).data.toList = a := by rw [ht]; show a.toArray.toList = a; simp
            simp [jL, this]
          have e3 : a.length + 1 + (rj (cutL 10 b)).2 = a.length + ((rj (cutL 10 b)).2 + 1) := by omega
          rw [e1, h2]
          dsimp only
          rw [e3, List.take_length_add_append, List.take_succ_cons]
        · intro d hm
          simp only [List.mem_cons] at hm
          rcases hm with rfl | hm
          · rw [ht]; exact hne
          · exact h3 d hm
/-- Of a beginning of a text the first ones of its deeds are read. -/
theorem readJ_pre (s : ByteArray) (k : Nat) (hk : k ≤ s.size) : (∃ j, j ≤ (readJ s).1.length ∧ (readJ (s.extract 0 k)).1 = (readJ s).1.take j ∧ (readJ (s.extract 0 k)).1.length = j) ∧ (readJ (s.extract 0 k)).2 ≤ k := by
  have hl : s.data.toList.length = s.size := by simp
  have e : (s.extract 0 k).data.toList = s.data.toList.take k := by rw [Lib.extract_data]; simp
  have h1 := rj_prefix (s.data.toList.take k).length (s.data.toList.take k) (s.data.toList.drop k) (Nat.le_refl _)
  rw [List.take_append_drop] at h1
  obtain ⟨⟨q, hq⟩, h2⟩ := h1
  have hlt : (s.data.toList.take k).length = k := by rw [List.length_take]; omega
  unfold readJ
  rw [e]
  refine ⟨⟨(rj (cutL 10 (s.data.toList.take k))).1.length, ?_, ?_, rfl⟩, by omega⟩
  · rw [hq, List.length_append]; omega
  · rw [hq]; simp
theorem readJ_has (s : ByteArray) (d : Dd) (h : d ∈ (readJ s).1) : deedT d ≠ ⟨#[]⟩ := (rj_text _ _ (Nat.le_refl _)).2 d h
theorem readJ_le (s : ByteArray) : (readJ s).2 ≤ s.size := by
  have := (rj_prefix _ s.data.toList [] (Nat.le_refl _)).2
  have hl : s.data.toList.length = s.size := by simp
  unfold readJ; omega
/-- The text of the deeds that are read is the text that is read. -/
theorem readJ_back (s : ByteArray) : journalI (readJ s).1 = s.extract 0 (readJ s).2 := by
  have h1 : ∀ d ∈ (readJ s).1, hasText d = true := fun d hd => hasText_yes (readJ_has s d hd)
  have h2 : (readJ s).1.all hasText = true := List.all_eq_true.2 h1
  have e := jT_data (readJ s).1 (readJ s).1.length (Nat.le_refl _)
  have ej : jL (readJ s).1 = s.data.toList.take (readJ s).2 := (rj_text _ s.data.toList (Nat.le_refl _)).1
  rw [List.take_length, ej] at e
  have e2 : (s.extract 0 (readJ s).2).data.toList = s.data.toList.take (readJ s).2 := by rw [Lib.extract_data]; simp
  have e3 : (jT (readJ s).1 (readJ s).1.length).data.toList = s.data.toList.take (readJ s).2 := e
  have e4 : journalI (readJ s).1 = jT (readJ s).1 (readJ s).1.length := by unfold journalI; rw [if_pos h2]
  rw [e4, ← mkB_data (jT (readJ s).1 (readJ s).1.length), e3, ← e2, mkB_data]
theorem tiny_has {d : Dd} (h : deedT d ≠ ⟨#[]⟩) : tiny d.2 := by
  rcases text_cases d with h0 | ⟨rfl, _⟩ | ⟨x, rfl, h1, h2, h3, _⟩
  · exact absurd h0 h
  · exact ⟨by simp [noTest], by simp [noTest], by simp [noTest]⟩
  · exact ⟨Nat.le_trans (numOk_size h1) (by decide), Nat.le_trans (numOk_size h2) (by decide), Nat.le_trans (numOk_size h3) (by decide)⟩
theorem readJ_tiny (s : ByteArray) : TinyD (readJ s).1 := fun d hd => tiny_has (readJ_has s d hd)
end Go.Proofs.YtdngnmpmaacapaaGreatDoor
