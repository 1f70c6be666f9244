/-
  Plain laws on decks: what a day does. No program is named here.
-/
import Derived.Test.YtoedenmimcmkoaaDeckB
import Derived.Test.YtoedenmimcmkoaaDeckA
namespace Go.Proofs.Ytoedenmimcmkoaa
open Go.RowKit

/-- A card after a day. -/
def nextC (day : Int) (c : Int × Int) (kn : Int) : Int × Int :=
  if c.2 ≤ day then ((if kn = 1 then min (c.1 + 1) 5 else 1), day + waitZ (if kn = 1 then min (c.1 + 1) 5 else 1)) else c
def upTo (cs : List (Int × Int)) (day : Int) (ks : List Int) (k : Nat) : List (Int × Int) :=
  (List.range cs.length).map fun t => if t < k then nextC day (cs.getD t (0, 0)) (ks.getD t 0) else cs.getD t (0, 0)
theorem upTo_length (cs : List (Int × Int)) (day : Int) (ks : List Int) (k : Nat) : (upTo cs day ks k).length = cs.length := by simp [upTo]
theorem upTo_getD (cs : List (Int × Int)) (day : Int) (ks : List Int) (k t : Nat) (ht : t < cs.length) : (upTo cs day ks k).getD t (0, 0) = if t < k then nextC day (cs.getD t (0, 0)) (ks.getD t 0) else cs.getD t (0, 0) := by
  simp [upTo, List.getD_eq_getElem?_getD, ht]
theorem list_ext {α : Type} (d : α) {xs ys : List α} (hl : xs.length = ys.length) (h : ∀ t, t < xs.length → xs.getD t d = ys.getD t d) : xs = ys := by
  apply List.ext_getElem hl
  intro t h1 h2
  have := h t h1
  simpa [List.getD_eq_getElem?_getD, h1, h2] using this
theorem upTo_zero (cs : List (Int × Int)) (day : Int) (ks : List Int) : upTo cs day ks 0 = cs := by
  apply list_ext (0, 0) (upTo_length _ _ _ _)
  intro t ht
  rw [upTo_length] at ht
  rw [upTo_getD _ _ _ _ _ ht, if_neg (by omega)]
theorem upTo_set (cs : List (Int × Int)) (day : Int) (ks : List Int) (k : Nat) (hk : k < cs.length) : (upTo cs day ks k).set k (nextC day (cs.getD k (0, 0)) (ks.getD k 0)) = upTo cs day ks (k + 1) := by
  apply list_ext (0, 0) (by simp [upTo_length])
  intro t ht
  have ht' : t < cs.length := by simpa [upTo_length] using ht
  rw [upTo_getD _ _ _ _ _ ht', List.getD_eq_getElem?_getD, List.getElem?_set]
  by_cases h : k = t
  · subst h; rw [if_pos rfl, if_pos (by rw [upTo_length]; exact hk), if_pos (by omega)]; rfl
  · rw [if_neg h, ← List.getD_eq_getElem?_getD, upTo_getD _ _ _ _ _ ht']
    by_cases h2 : t < k
    · rw [if_pos h2, if_pos (by omega)]
    · rw [if_neg h2, if_neg (by omega)]
theorem upTo_take (cs : List (Int × Int)) (day : Int) (ks : List Int) (k : Nat) (hk : k < cs.length) : (upTo cs day ks cs.length).take (k + 1) = (upTo cs day ks cs.length).take k ++ [nextC day (cs.getD k (0, 0)) (ks.getD k 0)] := by
  have hl : k < (upTo cs day ks cs.length).length := by rw [upTo_length]; exact hk
  rw [List.take_succ_eq_append_getElem hl]
  have := upTo_getD cs day ks cs.length k hk
  rw [if_pos hk] at this
  rw [← this]; simp [List.getD_eq_getElem?_getD, hl]

def dueN (cs : List (Int × Int)) (day : Int) (k : Nat) : Nat := (dueTo cs day k).length
theorem dueN_succ (cs : List (Int × Int)) (day : Int) (k : Nat) : dueN cs day (k + 1) = dueN cs day k + if (cs.getD k (0, 0)).2 ≤ day then 1 else 0 := by
  unfold dueN; rw [dueTo_succ]; split <;> simp
theorem dueN_mono (cs : List (Int × Int)) (day : Int) {a b : Nat} (h : a ≤ b) : dueN cs day a ≤ dueN cs day b := by
  induction b with
  | zero => have : a = 0 := by omega
            subst this; exact Nat.le_refl _
  | succ b ih =>
    by_cases hb : a = b + 1
    · subst hb; exact Nat.le_refl _
    · rw [dueN_succ]; have := ih (by omega); omega
theorem not_due {cs : List (Int × Int)} {day : Int} {a b t : Nat} (h : dueN cs day a = dueN cs day b) (h1 : a ≤ t) (h2 : t < b) : ¬ (cs.getD t (0, 0)).2 ≤ day := by
  intro hd
  have e := dueN_succ cs day t
  rw [if_pos hd] at e
  have m1 := dueN_mono cs day h1
  have m2 := dueN_mono cs day (show t + 1 ≤ b from h2)
  omega
theorem upTo_same {cs : List (Int × Int)} {day : Int} {ks : List Int} {a b : Nat} (h : dueN cs day a = dueN cs day b) : upTo cs day ks a = upTo cs day ks b := by
  apply list_ext (0, 0) (by rw [upTo_length, upTo_length])
  intro t ht
  rw [upTo_length] at ht
  rw [upTo_getD _ _ _ _ _ ht, upTo_getD _ _ _ _ _ ht]
  by_cases ha : t < a <;> by_cases hb : t < b
  · rw [if_pos ha, if_pos hb]
  · rw [if_pos ha, if_neg hb, nextC, if_neg (not_due h.symm (by omega) ha)]
  · rw [if_neg ha, if_pos hb, nextC, if_neg (not_due h (by omega) hb)]
  · rw [if_neg ha, if_neg hb]
theorem due_at (cs : List (Int × Int)) (day : Int) (n j : Nat) (hj : j < dueN cs day n) : ∃ i, i < n ∧ (dueTo cs day n).getD j 0 = (i : Int) ∧ dueN cs day i = j ∧ (cs.getD i (0, 0)).2 ≤ day := by
  induction n with
  | zero => simp [dueN, dueTo] at hj
  | succ n ih =>
    by_cases hd : (cs.getD n (0, 0)).2 ≤ day
    · have e := dueTo_succ cs day n
      rw [if_pos hd] at e
      have el := dueN_succ cs day n
      rw [if_pos hd] at el
      by_cases hlt : j < dueN cs day n
      · obtain ⟨i, h1, h2, h3, h4⟩ := ih hlt
        refine ⟨i, by omega, ?_, h3, h4⟩
        rw [e, ← h2]
        simp only [List.getD_eq_getElem?_getD]
        rw [List.getElem?_append_left (by exact hlt)]
      · have : j = dueN cs day n := by omega
        refine ⟨n, by omega, ?_, this.symm, hd⟩
        rw [e, this]
        simp [List.getD_eq_getElem?_getD, dueN]
    · have e := dueTo_succ cs day n
      rw [if_neg hd] at e
      have el := dueN_succ cs day n
      rw [if_neg hd] at el
      obtain ⟨i, h1, h2, h3, h4⟩ := ih (by omega)
      exact ⟨i, by omega, by rw [e]; exact h2, h3, h4⟩

def knownB (cs : List (Int × Int)) (ks : List Int) : Bool := deckOkB cs && (decide (ks.length = cs.length) && ks.all fun n => inB n 0 1)
def dayOk (cs : List (Int × Int)) (day : Int) (ks : List Int) : Bool := knownB cs ks && inB day 0 200
def afterI (cs : List (Int × Int)) (day : Int) (ks : List Int) : List (Int × Int) := if dayOk cs day ks then upTo cs day ks cs.length else []
theorem afterI_len (cs : List (Int × Int)) (day : Int) (ks : List Int) : (afterI cs day ks).length ≤ 1048576 := by
  unfold afterI; split
  · next h => simp only [dayOk, knownB, Bool.and_eq_true] at h; have := deck_len h.1.1; rw [upTo_length]; omega
  · simp
theorem waitZ_bd {b : Int} (h : 1 ≤ b ∧ b ≤ 5) : 1 ≤ waitZ b ∧ waitZ b ≤ 16 := by
  have : b = 1 ∨ b = 2 ∨ b = 3 ∨ b = 4 ∨ b = 5 := by omega
  rcases this with rfl | rfl | rfl | rfl | rfl <;> decide
theorem nextC_ok {day : Int} {c : Int × Int} {kn : Int} (hc : cardOk c = true) (hd : 0 ≤ day ∧ day ≤ 200) : cardOk (nextC day c kn) = true := by
  unfold nextC
  simp only [cardOk, Bool.and_eq_true, inB_true] at hc
  split
  · have hb : 1 ≤ (if kn = 1 then min (c.1 + 1) 5 else 1) ∧ (if kn = 1 then min (c.1 + 1) 5 else 1) ≤ 5 := by split <;> omega
    have hw := waitZ_bd hb
    simp only [cardOk, Bool.and_eq_true, inB_true]
    omega
  · simp only [cardOk, Bool.and_eq_true, inB_true]; exact hc
theorem upTo_ok {cs : List (Int × Int)} {day : Int} {ks : List Int} {k : Nat} (h : deckOkB cs = true) (hd : 0 ≤ day ∧ day ≤ 200) : deckOkB (upTo cs day ks k) = true := by
  simp only [deckOkB, Bool.and_eq_true, List.all_eq_true, decide_eq_true_eq] at *
  refine ⟨fun x hx => ?_, by rw [upTo_length]; exact h.2⟩
  simp only [upTo, List.mem_map, List.mem_range] at hx
  obtain ⟨t, ht, rfl⟩ := hx
  have hc : cardOk (cs.getD t (0, 0)) = true := by
    have := h.1 cs[t] (List.getElem_mem ht)
    simpa [List.getD_eq_getElem?_getD, ht] using this
  split
  · exact nextC_ok hc hd
  · exact hc
end Go.Proofs.Ytoedenmimcmkoaa
