/-
  Plain laws: the list of marks from the greatest down. No program is named here.
-/
import Derived.Test.YtoedenmimcmkoaaMarksE
namespace Go.Proofs.Ytoedenmimcmkoaa
open Go.RowKit

/-- The mark with a number. -/
def markAt (ms : List Int) (x : Int) : Int := ms.getD x.toNat 0
/-- x is told ahead of y. -/
def Ahead (ms : List Int) (x y : Int) : Prop := markAt ms y < markAt ms x ∨ (markAt ms x = markAt ms y ∧ x < y)
theorem Ahead.irrefl (ms : List Int) (x : Int) : ¬ Ahead ms x x := by unfold Ahead; omega
theorem Ahead.asymm {ms : List Int} {x y : Int} (h : Ahead ms x y) : ¬ Ahead ms y x := by unfold Ahead at *; omega
theorem Ahead.trans {ms : List Int} {x y z : Int} (h : Ahead ms x y) (k : Ahead ms y z) : Ahead ms x z := by unfold Ahead at *; omega
theorem ahead_le {ms : List Int} {x y : Int} (h : Ahead ms x y) : markAt ms y ≤ markAt ms x := by unfold Ahead at h; omega
/-- Two lists in order with the same members are one. -/
theorem same_list {ms : List Int} : ∀ {l k : List Int}, l.Pairwise (Ahead ms) → k.Pairwise (Ahead ms) → (∀ x, x ∈ l ↔ x ∈ k) → l = k := by
  intro l
  induction l with
  | nil =>
    intro k _ _ h
    cases k with
    | nil => rfl
    | cons b k => exact absurd ((h b).2 (by simp)) (by simp)
  | cons a l ih =>
    intro k hl hk h
    cases k with
    | nil => exact absurd ((h a).1 (by simp)) (by simp)
    | cons b k =>
      rw [List.pairwise_cons] at hl hk
      have hab : a = b := by
        rcases List.mem_cons.1 ((h a).1 (by simp)) with e | e
        · exact e
        · rcases List.mem_cons.1 ((h b).2 (by simp)) with e' | e'
          · exact e'.symm
          · exact absurd (hl.1 b e') (hk.1 a e).asymm
      subst hab
      congr 1
      refine ih hl.2 hk.2 fun x => ?_
      have hx := h x
      simp only [List.mem_cons] at hx
      constructor
      · intro hm
        rcases hx.1 (.inr hm) with e | e
        · subst e; exact absurd (hl.1 x hm) (Ahead.irrefl ms x)
        · exact e
      · intro hm
        rcases hx.2 (.inr hm) with e | e
        · subst e; exact absurd (hk.1 x hm) (Ahead.irrefl ms x)
        · exact e

/-- The numbers of the first n marks that are v. -/
def withI (ms : List Int) (v : Int) (n : Nat) : List Int := ((List.range n).filter fun i => decide (ms.getD i 0 = v)).map fun i : Nat => (i : Int)
theorem withI_succ (ms : List Int) (v : Int) (n : Nat) : withI ms v (n + 1) = if ms.getD n 0 = v then withI ms v n ++ [(n : Int)] else withI ms v n := by
  unfold withI
  rw [List.range_succ, List.filter_append, List.map_append]
  by_cases h : ms.getD n 0 = v
  · rw [if_pos h]; simp only [List.filter_cons, decide_eq_true h, if_true, List.filter_nil]; rfl
  · rw [if_neg h]; simp only [List.filter_cons, decide_eq_false h, List.filter_nil]; simp
theorem withI_len (ms : List Int) (v : Int) (n : Nat) : (withI ms v n).length ≤ n := by
  unfold withI; rw [List.length_map]; exact Nat.le_trans (List.length_filter_le _ _) (by simp)
theorem mem_withI {ms : List Int} {v : Int} {n : Nat} {x : Int} : x ∈ withI ms v n ↔ 0 ≤ x ∧ x < n ∧ markAt ms x = v := by
  unfold withI markAt
  simp only [List.mem_map, List.mem_filter, List.mem_range, decide_eq_true_eq]
  constructor
  · rintro ⟨i, ⟨h1, h2⟩, rfl⟩; exact ⟨by omega, by omega, by simpa using h2⟩
  · rintro ⟨h1, h2, h3⟩; exact ⟨x.toNat, ⟨by omega, h3⟩, by omega⟩
theorem withI_order (ms : List Int) (v : Int) (n : Nat) : (withI ms v n).Pairwise (Ahead ms) := by
  induction n with
  | zero => simp [withI]
  | succ n ih =>
    rw [withI_succ]
    split
    · rename_i h
      rw [List.pairwise_append]
      refine ⟨ih, by simp, fun x hx y hy => ?_⟩
      simp only [List.mem_singleton] at hy
      subst hy
      obtain ⟨h1, h2, h3⟩ := mem_withI.1 hx
      refine .inr ⟨?_, h2⟩
      rw [h3]; unfold markAt; simpa using h.symm
    · exact ih
/-- What the reference has told behind the marks 100 down to 101 - t. -/
def downI (ms : List Int) : Nat → List Int
  | 0 => []
  | t + 1 => downI ms t ++ withI ms (100 - (t : Int)) ms.length
theorem mem_downI {ms : List Int} {t : Nat} {x : Int} : x ∈ downI ms t ↔ 0 ≤ x ∧ x < ms.length ∧ 100 - (t : Int) < markAt ms x ∧ markAt ms x ≤ 100 := by
  induction t with
  | zero => simp [downI]
  | succ t ih =>
    simp only [downI, List.mem_append, ih, mem_withI]
    constructor
    · rintro (⟨a, b, c, d⟩ | ⟨a, b, c⟩)
      · exact ⟨a, b, by omega, d⟩
      · exact ⟨a, b, by omega, by omega⟩
    · rintro ⟨a, b, c, d⟩
      by_cases h : markAt ms x = 100 - (t : Int)
      · exact .inr ⟨a, b, h⟩
      · exact .inl ⟨a, b, by omega, d⟩
theorem downI_order (ms : List Int) (t : Nat) : (downI ms t).Pairwise (Ahead ms) := by
  induction t with
  | zero => simp [downI]
  | succ t ih =>
    simp only [downI]
    rw [List.pairwise_append]
    refine ⟨ih, withI_order _ _ _, fun x hx y hy => ?_⟩
    have h1 := mem_downI.1 hx
    have h2 := mem_withI.1 hy
    exact .inl (by omega)
/-- The list. -/
def listI (ms : List Int) : List Int := if marksOkB ms then downI ms 101 else []
theorem list_no {ms : List Int} (h : marksOkB ms = false) : [] = listI ms := by simp [listI, h]
theorem list_yes {ms : List Int} (h : marksOkB ms = true) : downI ms 101 = listI ms := by simp [listI, h]
theorem markAt_in {ms : List Int} (h : marksOkB ms = true) {x : Int} (h0 : 0 ≤ x) (h1 : x < ms.length) : 0 ≤ markAt ms x ∧ markAt ms x ≤ 100 := by
  have hk : x.toNat < ms.length := by omega
  have := marks_in h (ms.getD x.toNat 0) (by simp [List.getD_eq_getElem?_getD, hk])
  exact this
theorem mem_listI {ms : List Int} (h : marksOkB ms = true) {x : Int} : x ∈ listI ms ↔ 0 ≤ x ∧ x < ms.length := by
  rw [← list_yes h, mem_downI]
  constructor
  · rintro ⟨a, b, _⟩; exact ⟨a, b⟩
  · rintro ⟨a, b⟩; have := markAt_in h a b; exact ⟨a, b, by omega, by omega⟩
theorem listI_order (ms : List Int) : (listI ms).Pairwise (Ahead ms) := by
  unfold listI; split
  · exact downI_order _ _
  · simp

/-- The numbers a, a+1, .. -/
def upI (a n : Nat) : List Int := (List.range n).map fun i : Nat => ((a + i : Nat) : Int)
theorem upI_length (a n : Nat) : (upI a n).length = n := by simp [upI]
theorem upI_succ (a n : Nat) : upI a (n + 1) = (a : Int) :: upI (a + 1) n := by
  unfold upI
  rw [List.range_succ_eq_map, List.map_cons, List.map_map]
  congr 1
  apply List.map_congr_left
  intro i _
  simp; omega
/-- The state of the sort: i numbers in order, of which the last is on its way down, at place j. -/
structure Sorting (ms : List Int) (S : List Int) (i : Nat) : Prop where
  order : S.Pairwise (Ahead ms)
  mem : ∀ x, x ∈ S ↔ 0 ≤ x ∧ x < i
  len : S.length = i
theorem Sorting.start (ms : List Int) : Sorting ms [] 0 := ⟨by simp, by simp, rfl⟩
theorem Sorting.one (ms : List Int) : Sorting ms [0] 1 := ⟨by simp, by intro x; simp; omega, rfl⟩
theorem Sorting.next {ms : List Int} {S A B : List Int} {i : Nat} (h : Sorting ms S i) (hS : S = A ++ B) (hB : ∀ b ∈ B, markAt ms b < markAt ms i) (hA : ∀ y, A.getLast? = some y → markAt ms i ≤ markAt ms y) : Sorting ms (A ++ ((i : Int) :: B)) (i + 1) := by
  subst hS
  have ho := h.order
  rw [List.pairwise_append] at ho
  obtain ⟨hA1, hB1, hAB⟩ := ho
  have hAi : ∀ a ∈ A, Ahead ms a i := by
    intro a ha
    have hai : a < i := ((h.mem a).1 (by simp [ha])).2
    have hle : markAt ms i ≤ markAt ms a := by
      rcases List.eq_nil_or_concat A with e | ⟨A', y, e⟩
      · subst e; simp at ha
      · rw [List.concat_eq_append] at e
        subst e
        have hy := hA y (by simp)
        rcases List.mem_append.1 ha with ha' | ha'
        · rw [List.pairwise_append] at hA1
          have := ahead_le (hA1.2.2 a ha' y (by simp))
          omega
        · simp only [List.mem_singleton] at ha'; subst ha'; exact hy
    unfold Ahead; omega
  refine ⟨?_, fun x => ?_, ?_⟩
  · rw [List.pairwise_append, List.pairwise_cons]
    refine ⟨hA1, ⟨fun b hb => .inl (hB b hb), hB1⟩, fun a ha b hb => ?_⟩
    rcases List.mem_cons.1 hb with e | e
    · subst e; exact hAi a ha
    · exact hAB a ha b e
  · have := h.mem x
    simp only [List.mem_append, List.mem_cons] at this ⊢
    constructor
    · rintro (e | e | e)
      · have := this.1 (.inl e); omega
      · subst e; omega
      · have := this.1 (.inr e); omega
    · rintro ⟨e1, e2⟩
      by_cases e : x = i
      · exact .inr (.inl e)
      · rcases this.2 ⟨e1, by omega⟩ with e | e
        · exact .inl e
        · exact .inr (.inr e)
  · have := h.len; simp at this ⊢; omega
theorem Sorting.done {ms S : List Int} (h : Sorting ms S ms.length) (hm : marksOkB ms = true) : S = listI ms :=
  same_list h.order (listI_order ms) fun x => by rw [h.mem, mem_listI hm]
theorem listI_length {ms : List Int} (h : marksOkB ms = true) : ∀ {S}, Sorting ms S ms.length → (listI ms).length = ms.length := fun hS => by rw [← hS.done h, hS.len]
end Go.Proofs.Ytoedenmimcmkoaa
