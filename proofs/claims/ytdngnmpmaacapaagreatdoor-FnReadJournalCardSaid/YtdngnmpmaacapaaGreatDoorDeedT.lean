/-
  Contracts: DeedText, of the program and of the reference.
-/
import Derived.Test.YtdngnmpmaacapaaGreatDoorOrd
import Derived.Test.YtdngnmpmaacapaaGreatDoorBoardP
namespace Go.Proofs.YtdngnmpmaacapaaGreatDoor
open Go.RowKit

def backS : ByteArray := ⟨#[98, 97, 99, 107]⟩
def takeS (x : Tst) : ByteArray := (⟨#[116, 97, 107, 101, 32]⟩ : ByteArray) ++ x.1 ++ ⟨#[32]⟩ ++ x.2.1 ++ ⟨#[32]⟩ ++ x.2.2
/-- The text of a deed. -/
def deedT (d : Dd) : ByteArray := if d.1 then (if d.2 = noTest then backS else ⟨#[]⟩) else if numOk d.2.1 && (numOk d.2.2.1 && numOk d.2.2.2) then takeS d.2 else ⟨#[]⟩
theorem deedT_back {x : Tst} (h : x = noTest) : (⟨#[98, 97, 99, 107]⟩ : ByteArray) = deedT (true, x) := by simp [deedT, h, backS]
theorem deedT_nob {x : Tst} (h : x ≠ noTest) : (⟨#[]⟩ : ByteArray) = deedT (true, x) := by simp [deedT, h]
theorem deedT_no1 {x : Tst} (h : numOk x.1 = false) : (⟨#[]⟩ : ByteArray) = deedT (false, x) := by simp [deedT, h]
theorem deedT_no2 {x : Tst} (h : numOk x.2.1 = false) : (⟨#[]⟩ : ByteArray) = deedT (false, x) := by simp [deedT, h]
theorem deedT_no3 {x : Tst} (h : numOk x.2.2 = false) : (⟨#[]⟩ : ByteArray) = deedT (false, x) := by simp [deedT, h]
theorem deedT_take {x : Tst} (h1 : numOk x.1 = true) (h2 : numOk x.2.1 = true) (h3 : numOk x.2.2 = true) : takeS x = deedT (false, x) := by simp [deedT, h1, h2, h3]
theorem ret_str {a b : ByteArray} (h : a = b) : Ending.returned (.string a) = .returned (.string b) := by rw [h]

set_option maxHeartbeats 1000000 in
set_option maxRecDepth 100000 in
theorem implDeedText_any (d : Dd) (w : World) (hd : small d.2) :
    Calls Tryz.prog 34 #[.agg #[.bool d.1, .string d.2.1, .string d.2.2.1, .string d.2.2.2]] w fun e w' => e = .returned (.string (deedT d)) ∧ Fr w.heap.size none w w' := by
  obtain ⟨d0, x1, x2, x3⟩ := d
  obtain ⟨s1, s2, s3⟩ := hd
  dsimp only at s1 s2 s3
  cases d0
  · cases h1 : numOk x1
    · have hr := Lib.hid (deedT_no1 (x := (x1, x2, x3)) h1)
      have H1 := Lib.hid h1; clear h1
      go_enter Tryz.func34, Tryz.ntmps34
      go_wp2_with (go_at_call 55; refine (num_val s1 H1.out _).mono ?_; rintro e w' ⟨rfl, rfl⟩)
      go_ret
      exact ⟨ret_str hr.out, ((Fr.refl _ _ w).alloc (Nat.le_refl _) _).alloc (by simp) _⟩
    · cases h2 : numOk x2
      · have hr := Lib.hid (deedT_no2 (x := (x1, x2, x3)) h2)
        have H1 := Lib.hid h1; have H2 := Lib.hid h2; clear h1 h2
        go_enter Tryz.func34, Tryz.ntmps34
        go_wp2_with fail
        refine (num_val s1 H1.out _).mono ?_; rintro e w' ⟨rfl, rfl⟩
        go_wp2_with fail
        refine (num_val s2 H2.out _).mono ?_; rintro e w' ⟨rfl, rfl⟩
        go_wp2
        go_ret
        exact ⟨ret_str hr.out, ((Fr.refl _ _ w).alloc (Nat.le_refl _) _).alloc (by simp) _⟩
      · cases h3 : numOk x3
        · have hr := Lib.hid (deedT_no3 (x := (x1, x2, x3)) h3)
          have H1 := Lib.hid h1; have H2 := Lib.hid h2; have H3 := Lib.hid h3; clear h1 h2 h3
          go_enter Tryz.func34, Tryz.ntmps34
          go_wp2_with fail
          refine (num_val s1 H1.out _).mono ?_; rintro e w' ⟨rfl, rfl⟩
          go_wp2_with fail
          refine (num_val s2 H2.out _).mono ?_; rintro e w' ⟨rfl, rfl⟩
          go_wp2_with fail
          refine (num_val s3 H3.out _).mono ?_; rintro e w' ⟨rfl, rfl⟩
          go_wp2
          go_ret
          exact ⟨ret_str hr.out, ((Fr.refl _ _ w).alloc (Nat.le_refl _) _).alloc (by simp) _⟩
        · have hr := Lib.hid (deedT_take (x := (x1, x2, x3)) h1 h2 h3)
          have H1 := Lib.hid h1; have H2 := Lib.hid h2; have H3 := Lib.hid h3; clear h1 h2 h3
          have t0 : (⟨#[116, 97, 107, 101, 32]⟩ : ByteArray).size = 5 := rfl
          have t1 : (⟨#[32]⟩ : ByteArray).size = 1 := rfl
          have a1 := fun W => run_string_add_sum (P := Tryz.prog) W ⟨#[116, 97, 107, 101, 32]⟩ x1 (by omega)
          have a2 := fun W => run_string_add_sum (P := Tryz.prog) W ((⟨#[116, 97, 107, 101, 32]⟩ : ByteArray) ++ x1) ⟨#[32]⟩ (by simp only [ByteArray.size_append]; omega)
          have a3 := fun W => run_string_add_sum (P := Tryz.prog) W ((⟨#[116, 97, 107, 101, 32]⟩ : ByteArray) ++ x1 ++ ⟨#[32]⟩) x2 (by simp only [ByteArray.size_append]; omega)
          have a4 := fun W => run_string_add_sum (P := Tryz.prog) W ((⟨#[116, 97, 107, 101, 32]⟩ : ByteArray) ++ x1 ++ ⟨#[32]⟩ ++ x2) ⟨#[32]⟩ (by simp only [ByteArray.size_append]; omega)
          have a5 := fun W => run_string_add_sum (P := Tryz.prog) W ((⟨#[116, 97, 107, 101, 32]⟩ : ByteArray) ++ x1 ++ ⟨#[32]⟩ ++ x2 ++ ⟨#[32]⟩) x3 (by simp only [ByteArray.size_append]; omega)
          clear t0 t1
          go_enter Tryz.func34, Tryz.ntmps34
          go_wp2_with fail
          refine (num_val s1 H1.out _).mono ?_; rintro e w' ⟨rfl, rfl⟩
          go_wp2_with fail
          refine (num_val s2 H2.out _).mono ?_; rintro e w' ⟨rfl, rfl⟩
          go_wp2_with fail
          refine (num_val s3 H3.out _).mono ?_; rintro e w' ⟨rfl, rfl⟩
          go_wp2
          go_ret
          exact ⟨ret_str hr.out, ((Fr.refl _ _ w).alloc (Nat.le_refl _) _).alloc (by simp) _⟩
  · by_cases hx : (x1, x2, x3) = noTest
    · have hr := Lib.hid (deedT_back hx)
      simp only [noTest, Prod.mk.injEq] at hx
      obtain ⟨rfl, rfl, rfl⟩ := hx
      go_enter Tryz.func34, Tryz.ntmps34
      go_wp2
      go_ret
      exact ⟨ret_str hr.out, ((Fr.refl _ _ w).alloc (Nat.le_refl _) _).alloc (by simp) _⟩
    · have hr := Lib.hid (deedT_nob hx)
      have HX := Lib.hid hx; clear hx
      go_enter Tryz.func34, Tryz.ntmps34
      go_wp2
      all_goals first
        | (exfalso; apply HX.out; simp only [noTest, Prod.mk.injEq]; refine ⟨?_, ?_, ?_⟩ <;> (rw [← toList_nil_iff_emptyBytes]; assumption))
        | (go_ret; exact ⟨ret_str hr.out, ((Fr.refl _ _ w).alloc (Nat.le_refl _) _).alloc (by simp) _⟩)

set_option maxHeartbeats 1000000 in
set_option maxRecDepth 100000 in
theorem specDeedText_any (d : Dd) (w : World) (hd : small d.2) :
    Calls Tryz.prog 80 #[.agg #[.bool d.1, .string d.2.1, .string d.2.2.1, .string d.2.2.2]] w fun e w' => e = .returned (.string (deedT d)) ∧ Fr w.heap.size none w w' := by
  obtain ⟨d0, x1, x2, x3⟩ := d
  obtain ⟨s1, s2, s3⟩ := hd
  dsimp only at s1 s2 s3
  cases d0
  · cases h1 : numOk x1
    · have hr := Lib.hid (deedT_no1 (x := (x1, x2, x3)) h1)
      have H1 := Lib.hid h1; clear h1
      go_enter Tryz.func80, Tryz.ntmps80
      go_wp2_with (go_at_call 53; refine (numS_val s1 H1.out _).mono ?_; rintro e w' ⟨rfl, rfl⟩)
      go_ret
      exact ⟨ret_str hr.out, (Fr.refl _ _ w).alloc (Nat.le_refl _) _⟩
    · cases h2 : numOk x2
      · have hr := Lib.hid (deedT_no2 (x := (x1, x2, x3)) h2)
        have H1 := Lib.hid h1; have H2 := Lib.hid h2; clear h1 h2
        go_enter Tryz.func80, Tryz.ntmps80
        go_wp2_with fail
        refine (numS_val s1 H1.out _).mono ?_; rintro e w' ⟨rfl, rfl⟩
        go_wp2_with fail
        refine (numS_val s2 H2.out _).mono ?_; rintro e w' ⟨rfl, rfl⟩
        go_wp2
        go_ret
        exact ⟨ret_str hr.out, (Fr.refl _ _ w).alloc (Nat.le_refl _) _⟩
      · cases h3 : numOk x3
        · have hr := Lib.hid (deedT_no3 (x := (x1, x2, x3)) h3)
          have H1 := Lib.hid h1; have H2 := Lib.hid h2; have H3 := Lib.hid h3; clear h1 h2 h3
          go_enter Tryz.func80, Tryz.ntmps80
          go_wp2_with fail
          refine (numS_val s1 H1.out _).mono ?_; rintro e w' ⟨rfl, rfl⟩
          go_wp2_with fail
          refine (numS_val s2 H2.out _).mono ?_; rintro e w' ⟨rfl, rfl⟩
          go_wp2_with fail
          refine (numS_val s3 H3.out _).mono ?_; rintro e w' ⟨rfl, rfl⟩
          go_wp2
          go_ret
          exact ⟨ret_str hr.out, (Fr.refl _ _ w).alloc (Nat.le_refl _) _⟩
        · have hr := Lib.hid (deedT_take (x := (x1, x2, x3)) h1 h2 h3)
          have H1 := Lib.hid h1; have H2 := Lib.hid h2; have H3 := Lib.hid h3; clear h1 h2 h3
          have t0 : (⟨#[116, 97, 107, 101, 32]⟩ : ByteArray).size = 5 := rfl
          have t1 : (⟨#[32]⟩ : ByteArray).size = 1 := rfl
          have a1 := fun W => run_string_add_sum (P := Tryz.prog) W ⟨#[116, 97, 107, 101, 32]⟩ x1 (by omega)
          have a2 := fun W => run_string_add_sum (P := Tryz.prog) W ((⟨#[116, 97, 107, 101, 32]⟩ : ByteArray) ++ x1) ⟨#[32]⟩ (by simp only [ByteArray.size_append]; omega)
          have a3 := fun W => run_string_add_sum (P := Tryz.prog) W ((⟨#[116, 97, 107, 101, 32]⟩ : ByteArray) ++ x1 ++ ⟨#[32]⟩) x2 (by simp only [ByteArray.size_append]; omega)
          have a4 := fun W => run_string_add_sum (P := Tryz.prog) W ((⟨#[116, 97, 107, 101, 32]⟩ : ByteArray) ++ x1 ++ ⟨#[32]⟩ ++ x2) ⟨#[32]⟩ (by simp only [ByteArray.size_append]; omega)
          have a5 := fun W => run_string_add_sum (P := Tryz.prog) W ((⟨#[116, 97, 107, 101, 32]⟩ : ByteArray) ++ x1 ++ ⟨#[32]⟩ ++ x2 ++ ⟨#[32]⟩) x3 (by simp only [ByteArray.size_append]; omega)
          clear t0 t1
          go_enter Tryz.func80, Tryz.ntmps80
          go_wp2_with fail
          refine (numS_val s1 H1.out _).mono ?_; rintro e w' ⟨rfl, rfl⟩
          go_wp2_with fail
          refine (numS_val s2 H2.out _).mono ?_; rintro e w' ⟨rfl, rfl⟩
          go_wp2_with fail
          refine (numS_val s3 H3.out _).mono ?_; rintro e w' ⟨rfl, rfl⟩
          go_wp2
          go_ret
          exact ⟨ret_str hr.out, (Fr.refl _ _ w).alloc (Nat.le_refl _) _⟩
  · by_cases hx : (x1, x2, x3) = noTest
    · have hr := Lib.hid (deedT_back hx)
      simp only [noTest, Prod.mk.injEq] at hx
      obtain ⟨rfl, rfl, rfl⟩ := hx
      go_enter Tryz.func80, Tryz.ntmps80
      go_wp2
      go_ret
      exact ⟨ret_str hr.out, (Fr.refl _ _ w).alloc (Nat.le_refl _) _⟩
    · have hr := Lib.hid (deedT_nob hx)
      have HX := Lib.hid hx; clear hx
      go_enter Tryz.func80, Tryz.ntmps80
      go_wp2
      all_goals first
        | (exfalso; apply HX.out; simp only [noTest, Prod.mk.injEq]; refine ⟨?_, ?_, ?_⟩ <;> (rw [← toList_nil_iff_emptyBytes]; assumption))
        | (go_ret; exact ⟨ret_str hr.out, (Fr.refl _ _ w).alloc (Nat.le_refl _) _⟩)
end Go.Proofs.YtdngnmpmaacapaaGreatDoor
