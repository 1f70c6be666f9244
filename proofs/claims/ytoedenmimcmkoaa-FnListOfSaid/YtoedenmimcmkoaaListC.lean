/-
  Contracts: MiddleMark, of the program and of the reference.
-/
import Derived.Test.YtoedenmimcmkoaaListB
namespace Go.Proofs.Ytoedenmimcmkoaa
open Go.RowKit

/-- The mark in the middle. -/
def middleI (ms : List Int) : Int := if (listI ms).length = 0 then -1 else markAt ms ((listI ms).getD (((listI ms).length - 1) / 2) 0)
theorem withI_count (ms : List Int) (v : Int) (n : Nat) (hn : n ≤ ms.length) : (withI ms v n).length = (ms.take n).countP fun m => decide (m = v) := by
  induction n with
  | zero => simp [withI]
  | succ n ih =>
    have hnl : n < ms.length := by omega
    have hg : ms.getD n 0 = ms[n] := by simp [List.getD_eq_getElem?_getD, hnl]
    rw [withI_succ, List.take_succ_eq_append_getElem (by omega), List.countP_append, ← ih (by omega), ← hg]
    by_cases h : ms.getD n 0 = v
    · rw [if_pos h]; simp only [List.countP_cons, List.countP_nil, decide_eq_true h, if_true, List.length_append, List.length_cons, List.length_nil]
    · rw [if_neg h]; simp only [List.countP_cons, List.countP_nil, decide_eq_false h]; simp
theorem count_split (ms : List Int) (v : Int) (hv : v ≤ 100) : (ms.countP fun m => decide (v ≤ m ∧ m ≤ 100)) = (ms.countP fun m => decide (v + 1 ≤ m ∧ m ≤ 100)) + ms.countP fun m => decide (m = v) := by
  induction ms with
  | nil => simp
  | cons m ms ih =>
    simp only [List.countP_cons, ih]
    by_cases h1 : m = v
    · have a1 : v ≤ m ∧ m ≤ 100 := by omega
      have a2 : ¬ (v + 1 ≤ m ∧ m ≤ 100) := by omega
      rw [decide_eq_true a1, decide_eq_false a2, decide_eq_true h1]; simp; omega
    · by_cases h2 : v + 1 ≤ m ∧ m ≤ 100
      · have a1 : v ≤ m ∧ m ≤ 100 := by omega
        rw [decide_eq_true a1, decide_eq_true h2, decide_eq_false h1]; simp; omega
      · have a1 : ¬ (v ≤ m ∧ m ≤ 100) := by omega
        rw [decide_eq_false a1, decide_eq_false h2, decide_eq_false h1]; simp
theorem downI_count (ms : List Int) (t : Nat) : (downI ms t).length = ms.countP fun m => decide (100 - (t : Int) + 1 ≤ m ∧ m ≤ 100) := by
  induction t with
  | zero =>
    symm
    simp only [downI, List.length_nil]
    rw [List.countP_eq_zero]
    intro m _; simp; omega
  | succ t ih =>
    simp only [downI, List.length_append, ih]
    rw [withI_count ms _ _ (Nat.le_refl _), List.take_length]
    have := count_split ms (100 - (t : Int)) (by omega)
    rw [← this]
    congr 1
    funext m
    apply decide_eq_decide.2
    omega
theorem listI_full {ms : List Int} (h : marksOkB ms = true) : (listI ms).length = ms.length := by
  rw [← list_yes h, downI_count, List.countP_eq_length]
  intro m hm
  have := marks_in h m hm
  rw [decide_eq_true_iff]; omega
theorem listI_len12 (ms : List Int) : (listI ms).length ≤ ms.length := by
  cases h : marksOkB ms
  · rw [← list_no h]; exact Nat.zero_le _
  · exact Nat.le_of_eq (listI_full h)

theorem implMiddleMark_any (a : Option Addr) (cap : Nat) (ms : List Int) (w : World) (hs : Sl w a (ints ms)) (hm : ms.length ≤ 1048576) :
    Calls Try.prog 36 #[.slice a ms.length cap] w fun e w' => e = .returned (.int .i64 (middleI ms)) ∧ Fr w.heap.size none w w' := by
  have HS := Lib.hid hs; clear hs
  by_cases h0 : (listI ms).length = 0
  · have hf := Lib.hid (show -1 = middleI ms by simp [middleI, h0])
    have hz : (((listI ms).length : Int) == 0) = true := by rw [h0]; rfl
    clear h0
    go_enter Try.func36, Try.ntmps36
    go_wp2_with fail
    refine (implListOf_any a cap ms _ HS.out hm).mono ?_; rintro e w1 ⟨fa, fc, rfl, fo, hF⟩
    have HF := Lib.hid hF; clear fo hF
    go_wp2
    go_ret
    exact ⟨ret_int hf.out, HF.out⟩
  · have hz : (((listI ms).length : Int) == 0) = false := by rw [beq_eq_false_iff_ne]; omega
    have hok : marksOkB ms = true := by
      cases h : marksOkB ms
      · rw [← list_no h] at h0; exact absurd rfl h0
      · rfl
    have hl := listI_len12 ms
    have hl2 := marks_len hok
    have hi : ((listI ms).length - 1) / 2 < (listI ms).length := by omega
    have hx := (mem_listI hok (x := (listI ms).getD (((listI ms).length - 1) / 2) 0)).1 (by simp [List.getD_eq_getElem?_getD, hi])
    have hf := Lib.hid (show markAt ms ((listI ms).getD (((listI ms).length - 1) / 2) 0) = middleI ms by simp only [middleI, if_neg h0])
    obtain ⟨hx0, hx1⟩ := hx
    obtain ⟨xn, hxn⟩ := Int.eq_ofNat_of_zero_le hx0
    rw [hxn] at hf hx1
    have hxl : xn < ms.length := by omega
    have hf2 := Lib.hid (show ms.getD xn 0 = middleI ms from hf.out)
    have HC := Lib.hid (implListOf_any a cap ms w HS.out hm)
    have HX := Lib.hid hxn
    clear hx0 hx1 hxn hok hf
    go_enter Try.func36, Try.ntmps36
    go_wp2_with fail
    refine HC.out.mono ?_; rintro e w1 ⟨fa, fc, rfl, fo, hF⟩
    obtain ⟨b2, off2, rfl, hc2⟩ := (HS.out.fr hF).int xn hxl
    obtain ⟨b1, off1, rfl, hc1⟩ := (own_sl fo).int (((listI ms).length - 1) / 2) hi
    rw [HX.out] at hc1
    have HF := Lib.hid hF; clear fo hF HC HX
    generalize ms.getD xn 0 = x at *
    have hxl' : (xn : Int) < (ms.length : Int) := by omega
    have hL : (listI ms).length = 1 ∨ (listI ms).length = 2 ∨ (listI ms).length = 3 ∨ (listI ms).length = 4 ∨ (listI ms).length = 5 ∨ (listI ms).length = 6 ∨ (listI ms).length = 7 ∨ (listI ms).length = 8 ∨ (listI ms).length = 9 ∨ (listI ms).length = 10 ∨ (listI ms).length = 11 ∨ (listI ms).length = 12 := by omega
    generalize (listI ms).length = L at *
    clear h0 hl hi hl2
    rcases hL with rfl | rfl | rfl | rfl | rfl | rfl | rfl | rfl | rfl | rfl | rfl | rfl
    all_goals
      clear hz
      try simp only [Nat.reduceSub, Nat.reduceDiv, Nat.add_zero] at hc1
      go_wp2
      go_ret
      exact ⟨ret_int hf2.out, HF.out⟩
theorem implMiddle_num (a : Option Addr) (cap : Nat) (ms : List Int) (w : World) (hs : Sl w a (ints ms)) (hm : ms.length ≤ 1048576) {n : Int} (h : middleI ms = n) :
    Calls Try.prog 36 #[.slice a ms.length cap] w fun e w' => e = .returned (.int .i64 n) ∧ Fr w.heap.size none w w' := h ▸ implMiddleMark_any a cap ms w hs hm

theorem specMiddleMark_any (a : Option Addr) (cap : Nat) (ms : List Int) (w : World) (hs : Sl w a (ints ms)) (hm : ms.length ≤ 1048576) :
    Calls Try.prog 35 #[.slice a ms.length cap] w fun e w' => e = .returned (.int .i64 (middleI ms)) ∧ Fr w.heap.size none w w' := by
  have HS := Lib.hid hs; clear hs
  by_cases h0 : (listI ms).length = 0
  · have hf := Lib.hid (show -1 = middleI ms by simp [middleI, h0])
    have hz : (((listI ms).length : Int) == 0) = true := by rw [h0]; rfl
    clear h0
    go_enter Try.func35, Try.ntmps35
    go_wp2_with fail
    refine (specListOf_any a cap ms _ HS.out hm).mono ?_; rintro e w1 ⟨fa, fc, rfl, fo, hF⟩
    have HF := Lib.hid hF; clear fo hF
    go_wp2
    go_ret
    exact ⟨ret_int hf.out, HF.out⟩
  · have hz : (((listI ms).length : Int) == 0) = false := by rw [beq_eq_false_iff_ne]; omega
    have hok : marksOkB ms = true := by
      cases h : marksOkB ms
      · rw [← list_no h] at h0; exact absurd rfl h0
      · rfl
    have hl := listI_len12 ms
    have hl2 := marks_len hok
    have hi : ((listI ms).length - 1) / 2 < (listI ms).length := by omega
    have hx := (mem_listI hok (x := (listI ms).getD (((listI ms).length - 1) / 2) 0)).1 (by simp [List.getD_eq_getElem?_getD, hi])
    have hf := Lib.hid (show markAt ms ((listI ms).getD (((listI ms).length - 1) / 2) 0) = middleI ms by simp only [middleI, if_neg h0])
    obtain ⟨hx0, hx1⟩ := hx
    obtain ⟨xn, hxn⟩ := Int.eq_ofNat_of_zero_le hx0
    rw [hxn] at hf hx1
    have hxl : xn < ms.length := by omega
    have hf2 := Lib.hid (show ms.getD xn 0 = middleI ms from hf.out)
    have HC := Lib.hid (specListOf_any a cap ms w HS.out hm)
    have HX := Lib.hid hxn
    clear hx0 hx1 hxn hok hf
    go_enter Try.func35, Try.ntmps35
    go_wp2_with fail
    refine HC.out.mono ?_; rintro e w1 ⟨fa, fc, rfl, fo, hF⟩
    obtain ⟨b2, off2, rfl, hc2⟩ := (HS.out.fr hF).int xn hxl
    obtain ⟨b1, off1, rfl, hc1⟩ := (own_sl fo).int (((listI ms).length - 1) / 2) hi
    rw [HX.out] at hc1
    have HF := Lib.hid hF; clear fo hF HC HX
    generalize ms.getD xn 0 = x at *
    have hxl' : (xn : Int) < (ms.length : Int) := by omega
    have hL : (listI ms).length = 1 ∨ (listI ms).length = 2 ∨ (listI ms).length = 3 ∨ (listI ms).length = 4 ∨ (listI ms).length = 5 ∨ (listI ms).length = 6 ∨ (listI ms).length = 7 ∨ (listI ms).length = 8 ∨ (listI ms).length = 9 ∨ (listI ms).length = 10 ∨ (listI ms).length = 11 ∨ (listI ms).length = 12 := by omega
    generalize (listI ms).length = L at *
    clear h0 hl hi hl2
    rcases hL with rfl | rfl | rfl | rfl | rfl | rfl | rfl | rfl | rfl | rfl | rfl | rfl
    all_goals
      clear hz
      try simp only [Nat.reduceSub, Nat.reduceDiv, Nat.add_zero] at hc1
      go_wp2
      go_ret
      exact ⟨ret_int hf2.out, HF.out⟩
theorem specMiddle_num (a : Option Addr) (cap : Nat) (ms : List Int) (w : World) (hs : Sl w a (ints ms)) (hm : ms.length ≤ 1048576) {n : Int} (h : middleI ms = n) :
    Calls Try.prog 35 #[.slice a ms.length cap] w fun e w' => e = .returned (.int .i64 n) ∧ Fr w.heap.size none w w' := h ▸ specMiddleMark_any a cap ms w hs hm
end Go.Proofs.Ytoedenmimcmkoaa
