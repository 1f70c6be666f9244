/-
  Contracts: MarkOf and GradeOf, of the program and of the reference.
-/
import Derived.Test.YtoedenmimcmkoaaMarksC
namespace Go.Proofs.Ytoedenmimcmkoaa
open Go.RowKit

def markOfZ (r e : Int) : Int := if inB e 1 99 && inB r 0 e then (200 * r + e) / (2 * e) else -1
theorem markOf_no1 {r e : Int} (h : inB e 1 99 = false) : -1 = markOfZ r e := by simp [markOfZ, h]
theorem markOf_no2 {r e : Int} (h : inB e 1 99 = true) (h2 : inB r 0 e = false) : -1 = markOfZ r e := by simp [markOfZ, h2]
theorem markOf_yes {r e : Int} (h : inB e 1 99 = true) (h2 : inB r 0 e = true) : (200 * r + e) / (2 * e) = markOfZ r e := by simp [markOfZ, h, h2]
def gradeOfZ (xs : List Int) (m : Int) : Int := if boundsOkB xs && inB m 0 100 then 1 + aboveN xs m else -1
theorem gradeOf_no1 {xs : List Int} {m : Int} (h : boundsOkB xs = false) : -1 = gradeOfZ xs m := by simp [gradeOfZ, h]
theorem gradeOf_no2 {xs : List Int} {m : Int} (h2 : inB m 0 100 = false) : -1 = gradeOfZ xs m := by simp [gradeOfZ, h2]
theorem gradeOf_yes {xs : List Int} {m : Int} (h : boundsOkB xs = true) (h2 : inB m 0 100 = true) : 1 + (aboveN xs m : Int) = gradeOfZ xs m := by simp [gradeOfZ, h, h2]
theorem bounds_len {xs : List Int} (h : boundsOkB xs = true) : xs.length ≤ 6 := by simp [boundsOkB] at h; exact h.2
theorem implBounds_val {a : Option Addr} {cap : Nat} {xs : List Int} {w : World} {b : Bool} (hs : Sl w a (ints xs)) (hm : xs.length ≤ 1048576) (h : boundsOkB xs = b) :
    Calls Try.prog 54 #[.slice a xs.length cap] w fun e w' => e = .returned (.bool b) ∧ w = w' := h ▸ implBoundsOk_any a cap xs w hs hm
theorem specBounds_val {a : Option Addr} {cap : Nat} {xs : List Int} {w : World} {b : Bool} (hs : Sl w a (ints xs)) (hm : xs.length ≤ 1048576) (h : boundsOkB xs = b) :
    Calls Try.prog 55 #[.slice a xs.length cap] w fun e w' => e = .returned (.bool b) ∧ ∃ m, w' = w.drewN m := h ▸ specBoundsOk_any a cap xs w hs hm

theorem specGradeOf_any (a : Option Addr) (cap : Nat) (xs : List Int) (m : Int) (w : World) (hs : Sl w a (ints xs)) (hm : xs.length ≤ 1048576) :
    Calls Try.prog 56 #[.slice a xs.length cap, .int .i64 m] w fun e w' => e = .returned (.int .i64 (gradeOfZ xs m)) ∧ ∃ m, w' = w.drewN m := by
  have HS := Lib.hid hs; clear hs
  cases h : boundsOkB xs
  · have hf := Lib.hid (gradeOf_no1 (m := m) h); have H := Lib.hid h; clear h
    go_enter Try.func56, Try.ntmps56
    go_wp2_with (go_at_call 55; refine (specBounds_val HS.out hm H.out).mono ?_; rintro e w' ⟨rfl, m, rfl⟩)
    go_ret
    exact ⟨ret_int hf.out, _, rfl⟩
  · have hl := bounds_len h
    have ha := aboveN_le xs m
    cases h2 : inB m 0 100
    · have hf := Lib.hid (gradeOf_no2 (xs := xs) h2); have H := Lib.hid h; have H2 := Lib.hid h2; clear h h2
      go_enter Try.func56, Try.ntmps56
      go_wp2_with (first | (go_at_call 55; refine (specBounds_val HS.out hm H.out).mono ?_; rintro e w' ⟨rfl, m, rfl⟩) | (go_at_call 65; refine (l1In_val H2.out _).mono ?_; rintro e w' ⟨rfl, rfl⟩))
      go_ret
      exact ⟨ret_int hf.out, _, rfl⟩
    · have hf := Lib.hid (gradeOf_yes h h2); have H := Lib.hid h; have H2 := Lib.hid h2; clear h h2
      go_enter Try.func56, Try.ntmps56
      go_wp2_with (first | (go_at_call 55; refine (specBounds_val HS.out hm H.out).mono ?_; rintro e w' ⟨rfl, q, rfl⟩) | (go_at_call 65; refine (l1In_val H2.out _).mono ?_; rintro e w' ⟨rfl, rfl⟩))
      go_loop [5, 6] (fun c i => ∃ k : Nat, k ≤ xs.length ∧ i = .int .i64 k ∧ c = .int .i64 (1 + aboveN (xs.take k) m)) (fun _ i => xs.length - (intOf i).toNat)
      case atStart => exact ⟨0, Nat.zero_le _, rfl, rfl⟩
      case round =>
        obtain ⟨k, hk, rfl, rfl⟩ := hrel
        have hle := aboveN_le (xs.take k) m
        have hl : (xs.take k).length ≤ k := List.length_take_le _ _
        by_cases hlt : k < xs.length
        · obtain ⟨b, off, rfl, hcell⟩ := (HS.out).int k hlt
          have hst := Lib.hid (aboveN_take xs m k hlt)
          generalize xs.getD k 0 = x at *
          go_wp2
          all_goals
            go_round
            case rel => exact ⟨k + 1, by omega, by go_num, by rw [hst.out]; first | rw [if_pos ‹_›]; go_num | (rw [if_neg (by omega)]; go_num)⟩
            case measure => simp [intOf]; omega
        · have hkk : k = xs.length := by omega
          have hst := Lib.hid (show aboveN (xs.take k) m = aboveN xs m by rw [hkk, List.take_length])
          clear hkk
          go_wp2
          go_ret
          exact ⟨ret_int (by rw [← hf.out, ← hst.out]), _, rfl⟩
end Go.Proofs.Ytoedenmimcmkoaa
