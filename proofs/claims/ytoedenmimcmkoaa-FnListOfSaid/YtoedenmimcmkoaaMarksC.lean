/-
  Contracts: BoundsOk, GradeOf, MarkOf, of the program and of the reference.
-/
import Derived.Test.YtoedenmimcmkoaaMarksB
namespace Go.Proofs.Ytoedenmimcmkoaa
open Go.RowKit

/-- One bound is right: in range, and less than the one before. -/
def bOk (xs : List Int) (j : Nat) : Bool := inB (xs.getD j 0) 0 100 && (decide (j = 0) || decide (xs.getD j 0 < xs.getD (j - 1) 0))
def boundsTo (xs : List Int) (k : Nat) : Bool := allTo (bOk xs) k
def boundsOkB (xs : List Int) : Bool := boundsTo xs xs.length && decide (xs.length ≤ 6)
theorem bOk_bad1 {xs : List Int} {j : Nat} (h : inB (xs.getD j 0) 0 100 = false) : bOk xs j = false := by simp only [bOk, h, Bool.false_and]
theorem bOk_first {xs : List Int} (h : inB (xs.getD 0 0) 0 100 = true) : bOk xs 0 = true := by simp only [bOk, h]; rfl
theorem bOk_next {xs : List Int} {j : Nat} (h : inB (xs.getD j 0) 0 100 = true) (hj : 0 < j) : bOk xs j = decide (xs.getD j 0 < xs.getD (j - 1) 0) := by
  simp only [bOk, h, Bool.true_and]; rw [show decide (j = 0) = false by simp; omega]; simp

theorem boundsTo_succ (xs : List Int) (k : Nat) : boundsTo xs (k + 1) = (boundsTo xs k && bOk xs k) := by unfold boundsTo; rw [allTo_succ]
theorem bounds_bad {xs : List Int} {k : Nat} (h : k < xs.length) (hb : bOk xs k = false) : false = boundsOkB xs := by
  rw [boundsOkB, show boundsTo xs xs.length = false from allTo_false h hb]; rfl
theorem bounds_next {xs : List Int} {k : Nat} (h : boundsTo xs k = true) (hb : bOk xs k = true) : boundsTo xs (k + 1) = true := by
  rw [boundsTo_succ, h, hb]; rfl
theorem bounds_end {xs : List Int} (h : boundsTo xs xs.length = true) : decide (xs.length ≤ 6) = boundsOkB xs := by rw [boundsOkB, h]; rfl

theorem implBoundsOk_any (a : Option Addr) (cap : Nat) (xs : List Int) (w : World) (hs : Sl w a (ints xs)) (hm : xs.length ≤ 1048576) :
    Calls Try.prog 54 #[.slice a xs.length cap] w fun e w' => e = .returned (.bool (boundsOkB xs)) ∧ w = w' := by
  have HC := Lib.hid hs; clear hs
  go_enter Try.func54, Try.ntmps54
  go_wp2
  go_loop [7] (fun i => ∃ k : Nat, k ≤ xs.length ∧ i = .int .i64 k ∧ Hid (boundsTo xs k = true)) (fun i => xs.length - (intOf i).toNat)
  case atStart => exact ⟨0, Nat.zero_le _, rfl, rfl⟩
  case round =>
    obtain ⟨k, hk, rfl, hT⟩ := hrel
    by_cases hlt : k < xs.length
    · obtain ⟨b, off, rfl, hcell⟩ := HC.out.int k hlt
      cases hb : inB (xs.getD k 0) 0 100
      · have HB := Lib.hid hb
        have hfin := Lib.hid (bounds_bad hlt (bOk_bad1 hb)); clear hb
        generalize xs.getD k 0 = x at *
        go_wp2_with (go_at_call 52; refine (isMark_val HB.out _).mono ?_; rintro e w' ⟨rfl, rfl⟩)
        all_goals go_ret
        all_goals exact ⟨ret_bool hfin.out, rfl⟩
      · have HB := Lib.hid hb
        by_cases h0 : k = 0
        · subst h0
          rw [Nat.add_zero] at hcell
          have hT' := Lib.hid (bounds_next hT.out (bOk_first hb)); clear hb
          generalize xs.getD 0 0 = x at *
          go_wp2_with (go_at_call 52; refine (isMark_val HB.out _).mono ?_; rintro e w' ⟨rfl, rfl⟩)
          go_round
          case rel => exact ⟨1, by omega, by go_num, hT'⟩
          case measure => simp [intOf]; omega
        · have hk0 : 0 < k := by omega
          obtain ⟨b2, off2, hab, hcell2⟩ := HC.out.int (k - 1) (by omega)
          cases hab
          have hn := bOk_next hb hk0; clear hb
          have e1 : ((k : Int) - 1).toNat = k - 1 := by omega
          have hT1 := Lib.hid hT.out
          by_cases hd : xs.getD k 0 < xs.getD (k - 1) 0
          · have hT' := Lib.hid (bounds_next hT.out (by rw [hn]; simpa using hd))
            clear hn
            generalize xs.getD k 0 = x at *
            generalize xs.getD (k - 1) 0 = y at *
            go_wp2_with (go_at_call 52; refine (isMark_val HB.out _).mono ?_; rintro e w' ⟨rfl, rfl⟩)
            go_round
            case rel => exact ⟨k + 1, by omega, by go_num, hT'⟩
            case measure => simp [intOf]; omega
          · have hfin := Lib.hid (bounds_bad hlt (show bOk xs k = false by rw [hn]; simpa using hd))
            clear hn
            have hd' : xs.getD (k - 1) 0 ≤ xs.getD k 0 := by omega
            clear hd
            generalize xs.getD k 0 = x at *
            generalize xs.getD (k - 1) 0 = y at *
            go_wp2_with (go_at_call 52; refine (isMark_val HB.out _).mono ?_; rintro e w' ⟨rfl, rfl⟩)
            go_ret
            exact ⟨ret_bool hfin.out, rfl⟩
    · have hkk : k = xs.length := by omega
      have hfin := Lib.hid (bounds_end (xs := xs) (hkk ▸ hT.out))
      clear hkk
      go_wp2
      all_goals go_ret
      all_goals exact ⟨ret_bool (by rw [← hfin.out]; simp; try omega), rfl⟩

theorem specBoundsOk_any (a : Option Addr) (cap : Nat) (xs : List Int) (w : World) (hs : Sl w a (ints xs)) (hm : xs.length ≤ 1048576) :
    Calls Try.prog 55 #[.slice a xs.length cap] w fun e w' => e = .returned (.bool (boundsOkB xs)) ∧ ∃ m, w' = w.drewN m := by
  have HC := Lib.hid hs; clear hs
  go_enter Try.func55, Try.ntmps55
  go_wp2
  go_loopw [3] (fun i wr => ∃ k : Nat, k ≤ xs.length ∧ i = .int .i64 k ∧ Hid (boundsTo xs k = true) ∧ ∃ m, wr = w.drewN m) (fun i _ => xs.length - (intOf i).toNat)
  case atStart => exact ⟨0, Nat.zero_le _, rfl, rfl, 0, rfl⟩
  case round =>
    obtain ⟨k, hk, rfl, hT, m, rfl⟩ := hrel
    by_cases hlt : k < xs.length
    · have hlt' : (k : Int) < (xs.length : Int) := by omega
      obtain ⟨b, off, rfl, hcell⟩ := HC.out.int k hlt
      cases hb : inB (xs.getD k 0) 0 100
      · have HB := Lib.hid hb
        have hfin := Lib.hid (bounds_bad hlt (bOk_bad1 hb)); clear hb
        generalize xs.getD k 0 = x at *
        go_wp2
        go_quiet ((go_at_call 65; exact quiet_add_left (l1In_val HB.out _)))
        go_wp2
        go_ret
        exact ⟨ret_bool hfin.out, by first | exact ⟨_, rfl⟩ | exact ⟨_, World.drewN_drewN ..⟩⟩
      · have HB := Lib.hid hb
        by_cases h0 : k = 0
        · subst h0
          rw [Nat.add_zero] at hcell
          have hT' := Lib.hid (bounds_next hT.out (bOk_first hb)); clear hb
          generalize xs.getD 0 0 = x at *
          go_wp2
          go_quiet ((go_at_call 65; exact quiet_add_left (l1In_val HB.out _)))
          go_wp2
          go_roundw
          case rel => exact ⟨1, by omega, by go_num, hT', _, rfl⟩
          case measure => simp [intOf]; omega
        · have hk0 : 0 < k := by omega
          obtain ⟨b2, off2, hab, hcell2⟩ := HC.out.int (k - 1) (by omega)
          cases hab
          have hn := bOk_next hb hk0; clear hb
          have e1 : ((k : Int) - 1).toNat = k - 1 := by omega
          have hT1 := Lib.hid hT.out
          have hk1 : (1 : Int) ≤ k := by omega
          have hkd : decide ((0 : Int) < (k : Int)) = true := by simp; omega
          by_cases hd : xs.getD k 0 < xs.getD (k - 1) 0
          · have hT' := Lib.hid (bounds_next hT.out (by rw [hn]; simpa using hd))
            clear hn
            generalize xs.getD k 0 = x at *
            generalize xs.getD (k - 1) 0 = y at *
            go_wp2
            go_quiet ((go_at_call 65; exact quiet_add_left (l1In_val HB.out _)))
            go_wp2
            go_roundw
            case rel => exact ⟨k + 1, by omega, by go_num, hT', _, rfl⟩
            case measure => simp [intOf]; omega
          · have hfin := Lib.hid (bounds_bad hlt (show bOk xs k = false by rw [hn]; simpa using hd))
            clear hn
            have hd' : xs.getD (k - 1) 0 ≤ xs.getD k 0 := by omega
            clear hd
            generalize xs.getD k 0 = x at *
            generalize xs.getD (k - 1) 0 = y at *
            go_wp2
            go_quiet ((go_at_call 65; exact quiet_add_left (l1In_val HB.out _)))
            go_wp2
            go_ret
            exact ⟨ret_bool hfin.out, by first | exact ⟨_, rfl⟩ | exact ⟨_, World.drewN_drewN ..⟩⟩
    · have hkk : k = xs.length := by omega
      have hfin := Lib.hid (bounds_end (xs := xs) (hkk ▸ hT.out))
      clear hkk
      go_wp2
      all_goals go_ret
      all_goals exact ⟨ret_bool (by rw [← hfin.out]; simp; try omega), by first | exact ⟨_, rfl⟩ | exact ⟨_, World.drewN_drewN ..⟩⟩
end Go.Proofs.Ytoedenmimcmkoaa
