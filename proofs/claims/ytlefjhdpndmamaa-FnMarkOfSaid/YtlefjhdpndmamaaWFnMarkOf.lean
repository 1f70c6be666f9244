/-
  For every code the law FnMarkOf of the given program returns true, and the code reads as before. No condition.
-/
import Derived.Test.YtlefjhdpndmamaaMarksD
import Derived.Test.YtlefjhdpndmamaaDrawM2
import Derived.Test.YtlefjhdpndmamaaNum
namespace Go.Proofs.Ytlefjhdpndmamaa.fnMarkOf
open Go.RowKit
theorem val {r x : Int} (hx : 1 ≤ x ∧ x ≤ 99) (hr : 0 ≤ r ∧ r ≤ x) : markOfZ r x = (200 * r + x) / (2 * x) :=
  (markOf_yes (inB_true.2 hx) (inB_true.2 hr)).symm
theorem near {r x : Int} (hx : 1 ≤ x ∧ x ≤ 99) (hr : 0 ≤ r ∧ r ≤ x) : 2 * (x * markOfZ r x) ≤ 200 * r + x ∧ 200 * r + x < 2 * (x * markOfZ r x) + 2 * x := by
  rw [val hx hr]
  have h1 := Int.mul_ediv_self_le (x := 200 * r + x) (k := 2 * x) (by omega)
  have h2 := Int.lt_mul_ediv_self_add (x := 200 * r + x) (k := 2 * x) (by omega)
  rw [Int.mul_assoc] at h1 h2
  omega
theorem bd {r x : Int} (hx : 1 ≤ x ∧ x ≤ 99) (hr : 0 ≤ r ∧ r ≤ x) : 0 ≤ markOfZ r x ∧ markOfZ r x ≤ 100 := by
  rw [val hx hr]
  constructor
  · exact Int.ediv_nonneg (by omega) (by omega)
  · have : (200 * r + x) / (2 * x) < 101 := Int.ediv_lt_of_lt_mul (by omega) (by omega)
    omega
theorem up {r x : Int} (hx : 1 ≤ x ∧ x ≤ 99) (hr : 0 ≤ r ∧ r < x) : markOfZ r x ≤ markOfZ (r + 1) x := by
  rw [val hx ⟨hr.1, by omega⟩, val hx ⟨by omega, by omega⟩]
  exact Int.ediv_le_ediv (by omega) (by omega)
theorem all {x : Int} (hx : 1 ≤ x ∧ x ≤ 99) : markOfZ x x = 100 := by
  rw [val hx ⟨by omega, by omega⟩]
  have h1 := Int.le_ediv_of_mul_le (a := 100) (b := 200 * x + x) (c := 2 * x) (by omega) (by omega)
  have h2 : (200 * x + x) / (2 * x) < 101 := Int.ediv_lt_of_lt_mul (by omega) (by omega)
  omega
theorem nought {x : Int} (hx : 1 ≤ x ∧ x ≤ 99) : markOfZ 0 x = 0 := by
  rw [val hx ⟨by omega, by omega⟩]
  exact Int.ediv_eq_zero_of_lt (by omega) (by omega)

theorem walk {w : World} (a : Option Addr) (cap : Nat) (bs : List Int) (hs : Sl w a (bs.map (Value.int .u8))) (hb : ∀ x ∈ bs, 0 ≤ x ∧ x ≤ 255) (hcap : bs.length ≤ cap) :
    Calls Try.prog 6 #[.slice a bs.length cap] w fun e w' => e = .returned (.bool true) ∧ Fr w.heap.size none w w' := by
  have HS : Hid (Sl w a (u8s bs)) := hs
  have HB := Lib.hid hb; clear hs hb
  by_cases hn : bs.length ≤ 1048576
  · go_enter Try.func6, Try.ntmps6
    go_wp2_with fail
    refine (drawMarkOf_any a cap bs _ HS.out HB.out hn hcap).mono ?_; rintro e w1 ⟨r, x, rfl, hr0, hr6, hx0, hx6, hF⟩
    have HF := Lib.hid hF; clear hF
    by_cases hok : (1 ≤ x ∧ x ≤ 99) ∧ (0 ≤ r ∧ r ≤ x)
    · obtain ⟨hx, hr⟩ := hok
      have h0 := bd hx hr
      have h1 := near hx hr
      have p1 := fun W => implMarkOf_any r x W
      have p2 := fun W => specMarkOf_any r x W
      have p3 := fun W => implMarkOf_any x x W
      have p4 := fun W => implMarkOf_any 0 x W
      have p5 := fun W => implMarkOf_any (r + 1) x W
      rw [all hx] at p3
      rw [nought hx] at p4
      have P3 := Lib.hid p3; have P4 := Lib.hid p4; clear p3 p4
      have hup := @up r x hx
      by_cases he : r = x
      · have he' : (r == x) = true := by rw [beq_iff_eq]; exact he
        clear he p5 hup
        generalize markOfZ r x = n at *
        rw [Int.mul_comm x n] at h1
        obtain ⟨hx1, hx2⟩ := hx; obtain ⟨hr1, hr2⟩ := hr; obtain ⟨hn1, hn2⟩ := h0; obtain ⟨hm1, hm2⟩ := h1
        have P1 := Lib.hid p1; have P2 := Lib.hid p2; clear p1 p2
        have hm3 : 0 ≤ n * x := Int.mul_nonneg hn1 (by omega)
        have hd1 : decide (2 * (n * x - 100 * r) ≤ x) = true := by rw [decide_eq_true_iff]; omega
        have hd2 : decide (-(2 * (n * x - 100 * r)) ≤ x) = true := by rw [decide_eq_true_iff]; omega
        go_wp2_with fail
        refine (P1.out _).mono ?_; rintro e w' ⟨rfl, rfl⟩
        go_wp2_with fail
        refine (P2.out _).mono ?_; rintro e w' ⟨rfl, rfl⟩
        go_wp2_with fail
        refine (P3.out _).mono ?_; rintro e w' ⟨rfl, rfl⟩
        go_wp2_with fail
        refine (P4.out _).mono ?_; rintro e w' ⟨rfl, rfl⟩
        go_wp2
        go_ret
        exact ⟨rfl, HF.out⟩
      · have he' : (r == x) = false := by rw [beq_eq_false_iff_ne]; exact he
        have hup2 := hup ⟨hr.1, by omega⟩
        clear he hup
        generalize markOfZ r x = n at *
        generalize markOfZ (r + 1) x = n2 at *
        rw [Int.mul_comm x n] at h1
        obtain ⟨hx1, hx2⟩ := hx; obtain ⟨hr1, hr2⟩ := hr; obtain ⟨hn1, hn2⟩ := h0; obtain ⟨hm1, hm2⟩ := h1
        have P1 := Lib.hid p1; have P2 := Lib.hid p2; have P5 := Lib.hid p5; clear p1 p2 p5
        have hm3 : 0 ≤ n * x := Int.mul_nonneg hn1 (by omega)
        have hd1 : decide (2 * (n * x - 100 * r) ≤ x) = true := by rw [decide_eq_true_iff]; omega
        have hd2 : decide (-(2 * (n * x - 100 * r)) ≤ x) = true := by rw [decide_eq_true_iff]; omega
        go_wp2_with fail
        refine (P1.out _).mono ?_; rintro e w' ⟨rfl, rfl⟩
        go_wp2_with fail
        refine (P2.out _).mono ?_; rintro e w' ⟨rfl, rfl⟩
        go_wp2_with fail
        refine (P5.out _).mono ?_; rintro e w' ⟨rfl, rfl⟩
        go_wp2_with fail
        refine (P3.out _).mono ?_; rintro e w' ⟨rfl, rfl⟩
        go_wp2_with fail
        refine (P4.out _).mono ?_; rintro e w' ⟨rfl, rfl⟩
        go_wp2
        go_ret
        exact ⟨rfl, HF.out⟩
    · have hz : markOfZ r x = -1 := by
        cases h1 : inB x 1 99
        · exact (markOf_no1 h1).symm
        · cases h2 : inB r 0 x
          · exact (markOf_no2 h1 h2).symm
          · exact absurd ⟨inB_true.1 h1, inB_true.1 h2⟩ hok
      have p1 := fun W => implMarkOf_any r x W
      have p2 := fun W => specMarkOf_any r x W
      rw [hz] at p1 p2
      have P1 := Lib.hid p1; have P2 := Lib.hid p2; clear p1 p2 hz hok
      go_wp2_with (first | (go_at_call 16; refine (P1.out _).mono ?_; rintro e w' ⟨rfl, rfl⟩) | (go_at_call 15; refine (P2.out _).mono ?_; rintro e w' ⟨rfl, rfl⟩) | (go_at_call 24; refine (alive_any _).mono ?_; rintro e w' ⟨rfl, rfl⟩))
      go_ret
      exact ⟨rfl, HF.out⟩
  · have hl : (1048576 : Int) < bs.length := by omega
    go_enter Try.func6, Try.ntmps6
    go_wp2
    go_ret
    exact ⟨rfl, Fr.refl _ _ _⟩
end Go.Proofs.Ytlefjhdpndmamaa.fnMarkOf
