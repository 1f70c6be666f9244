/-
  Contracts: Reverse of a slice of numbers, and plain: digits as a numeral.
-/
import Derived.Test.YtjcjkdhfmdgjhaaDoorWaysA
import Derived.Test.YtjcjkdhfmdgjhaaDoorApp
namespace Go.Proofs.YtjcjkdhfmdgjhaaDoor
open Go.RowKit

/-- A list behind i swaps from both ends. -/
def revTo (xs : List Int) (i : Nat) : List Int := (List.range xs.length).map fun p => if p < i ∨ xs.length ≤ p + i then xs.getD (xs.length - 1 - p) 0 else xs.getD p 0
theorem revTo_length (xs : List Int) (i : Nat) : (revTo xs i).length = xs.length := by simp [revTo]
theorem revTo_getD (xs : List Int) (i p : Nat) (hp : p < xs.length) : (revTo xs i).getD p 0 = if p < i ∨ xs.length ≤ p + i then xs.getD (xs.length - 1 - p) 0 else xs.getD p 0 := by
  simp [revTo, List.getD_eq_getElem?_getD, hp]
theorem revTo_zero (xs : List Int) : revTo xs 0 = xs := by
  apply List.ext_getElem
  · simp [revTo]
  · intro p h1 h2
    have : ¬ xs.length ≤ p := by omega
    simp [revTo, List.getD_eq_getElem?_getD, h2, this]
theorem revTo_end (xs : List Int) (i : Nat) (h : xs.length ≤ 2 * i + 1) : revTo xs i = xs.reverse := by
  apply List.ext_getElem
  · simp [revTo]
  · intro p h1 h2
    have hp : p < xs.length := by simpa [revTo] using h1
    have hq : xs.length - 1 - p < xs.length := by omega
    have e : xs.reverse[p] = xs[xs.length - 1 - p] := List.getElem_reverse h2
    rw [e]
    simp only [revTo, List.getElem_map, List.getElem_range]
    split
    · simp [List.getD_eq_getElem?_getD, hq]
    · have : p = xs.length - 1 - p := by omega
      simp only [List.getD_eq_getElem?_getD, List.getElem?_eq_getElem hp, Option.getD_some]
      congr 1
theorem revTo_step (xs : List Int) (i : Nat) (h : i < xs.length - 1 - i) : ((revTo xs i).set i (xs.getD (xs.length - 1 - i) 0)).set (xs.length - 1 - i) (xs.getD i 0) = revTo xs (i + 1) := by
  apply List.ext_getElem
  · simp [revTo]
  · intro p h1 h2
    have hp : p < xs.length := by simpa [revTo] using h2
    rw [List.getElem_set, List.getElem_set]
    simp only [revTo, List.getElem_map, List.getElem_range]
    by_cases c1 : xs.length - 1 - i = p
    · subst c1
      rw [if_pos rfl, if_pos (.inr (by omega)), show xs.length - 1 - (xs.length - 1 - i) = i by omega]
    · rw [if_neg c1]
      by_cases c2 : i = p
      · subst c2
        rw [if_pos rfl, if_pos (.inl (by omega))]
      · rw [if_neg c2]
        by_cases c3 : p < i ∨ xs.length ≤ p + i
        · rw [if_pos c3, if_pos (by omega)]
        · rw [if_neg c3, if_neg (by omega)]
theorem ints_set (xs : List Int) (i : Nat) (v : Int) : (ints xs).set i (.int .i64 v) = ints (xs.set i v) := by simp [ints, List.map_set]

set_option maxHeartbeats 2000000 in
set_option maxRecDepth 100000 in
theorem reverse_any (g cap : Nat) (xs : List Int) (w : World) (base : Nat) (ho : Own w base 3 1 (.slice (some ⟨g, 0, none⟩) xs.length cap) xs.length (ints xs)) (hn : xs.length ≤ 1048576) :
    Calls Tryd.prog 56 #[.slice (some ⟨g, 0, none⟩) xs.length cap] w fun e w' => e = .returned (.tuple #[]) ∧ Own w' base 3 1 (.slice (some ⟨g, 0, none⟩) xs.length cap) xs.length (ints xs.reverse) ∧ Fr w.heap.size (some g) w w' := by
  have HO := Lib.hid ho; clear ho
  go_enter Tryd.func56, Tryd.ntmps56
  go_wp2
  go_loopw [2, 3] (fun i j wr => ∃ k : Nat, k ≤ xs.length ∧ i = .int .i64 k ∧ j = .int .i64 ((xs.length : Int) - 1 - (k : Int)) ∧ Own wr base 3 1 (.slice (some ⟨g, 0, none⟩) xs.length cap) xs.length (ints (revTo xs k)) ∧ Fr w.heap.size (some g) w wr) (fun i _ _ => xs.length - (intOf i).toNat)
  case atStart => exact ⟨0, Nat.zero_le _, rfl, by go_num, by rw [revTo_zero]; exact HO.out, Fr.refl _ _ _⟩
  case round =>
    obtain ⟨k, hk, rfl, rfl, ho, hF⟩ := hrel
    have HO2 := Lib.hid ho; have HF := Lib.hid hF; clear ho hF
    by_cases hlt : k < xs.length - 1 - k
    · obtain ⟨j, hj⟩ : ∃ j : Nat, j = xs.length - 1 - k := ⟨_, rfl⟩
      have hji : ((xs.length : Int) - 1 - (k : Int)) = (j : Int) := by omega
      have hst := Lib.hid (revTo_step xs k hlt)
      have k1 : k < xs.length := by omega
      have j1 : j < xs.length := by omega
      have e1 : (ints (revTo xs k))[k]? = some (.int .i64 (xs.getD k 0)) := by
        have := revTo_getD xs k k k1
        rw [if_neg (by omega)] at this
        simp [ints, List.getD_eq_getElem?_getD, revTo_length, k1] at this ⊢
        exact this
      have e2 : (ints (revTo xs k))[j]? = some (.int .i64 (xs.getD j 0)) := by
        have := revTo_getD xs k j j1
        rw [if_neg (by omega)] at this
        simp [ints, List.getD_eq_getElem?_getD, revTo_length, j1] at this ⊢
        exact this
      have c1 : wr.cell? ⟨g, k, none⟩ = some (.int .i64 (xs.getD k 0)) := (HO2.out.cellAt k (by omega)).trans e1
      have c2 : wr.cell? ⟨g, j, none⟩ = some (.int .i64 (xs.getD j 0)) := (HO2.out.cellAt j (by omega)).trans e2
      have f1 := HO2.out.frozenAt k
      have f2 := HO2.out.frozenAt j
      have o2 := (Own.stored (Own.drewN HO2.out 1) k (.int .i64 (xs.getD j 0))).stored j (.int .i64 (xs.getD k 0))
      rw [ints_set, ints_set, hj, hst.out, ← hj] at o2
      have O2 := Lib.hid o2
      have F2 := Lib.hid (((HF.out.drewN 1).setCell (p := ⟨g, k, none⟩) (.inr rfl) (.int .i64 (xs.getD j 0))).setCell (p := ⟨g, j, none⟩) (.inr rfl) (.int .i64 (xs.getD k 0)))
      have hjk := Lib.hid (show (j : Int) - 1 = (xs.length : Int) - 1 - ((k + 1 : Nat) : Int) by omega)
      have hkj : (k : Int) < (j : Int) := by omega
      have k0 : (0 : Int) ≤ (k : Int) := by omega
      have j0 : (0 : Int) ≤ (j : Int) := by omega
      have k2 : (k : Int) < (xs.length : Int) := by omega
      have j2 : (j : Int) < (xs.length : Int) := by omega
      have hne : ¬ j = k := by omega
      have hne2 : ¬ k = j := by omega
      rw [hji]
      clear o2 e1 e2 hj hji hst
      generalize xs.getD k 0 = x at *
      generalize xs.getD j 0 = y at *
      go_wp2
      go_region
      all_goals go_wp2
      all_goals go_roundw
      all_goals first
        | (refine ⟨k + 1, by omega, by go_num, by rw [← hjk.out], O2.out, F2.out⟩)
        | (simp [intOf]; omega)
    · have hge : ((xs.length : Int) - 1 - (k : Int)) ≤ (k : Int) := by omega
      have HE := Lib.hid (show Own wr base 3 1 (.slice (some ⟨g, 0, none⟩) xs.length cap) xs.length (ints xs.reverse) by rw [← revTo_end xs k (by omega)]; exact HO2.out)
      generalize ((xs.length : Int) - 1 - (k : Int)) = jj at *
      go_wp2
      go_end0
      exact ⟨rfl, HE.out, HF.out⟩
end Go.Proofs.YtjcjkdhfmdgjhaaDoor
