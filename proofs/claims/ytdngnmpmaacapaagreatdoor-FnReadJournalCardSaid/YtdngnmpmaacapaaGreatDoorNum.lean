/-
  Contract of NumeralOk of the program, for every text; and of the statements' own alive.
-/
import Derived.Test.YtdngnmpmaacapaaGreatDoorCore
namespace Go.Proofs.YtdngnmpmaacapaaGreatDoor
open Go.RowKit

def isDig (c : UInt8) : Bool := decide (48 ≤ (c.toNat : Int)) && decide ((c.toNat : Int) ≤ 57)
def numOk (s : ByteArray) : Bool := s.data.toList.all isDig && (inB s.size 1 9 && (!(s.data.toList.getD 0 0 == 48) || decide (s.size = 1)))
theorem dig_take (s : ByteArray) (k : Nat) (h : k < s.size) : (s.data.toList.take (k + 1)).all isDig = ((s.data.toList.take k).all isDig && isDig s[k]) := by
  rw [List.take_succ_eq_append_getElem (by simpa using h), List.all_append]; simp; rfl
theorem dig_bad (s : ByteArray) (k : Nat) (h : k < s.size) (hd : isDig s[k] = false) : s.data.toList.all isDig = false := by
  rw [List.all_eq_false]; exact ⟨s[k], by simp [ByteArray.getElem_eq_getElem_data], by simp [hd]⟩

theorem numOk_bad {s : ByteArray} (h : s.data.toList.all isDig = false) : false = numOk s := by simp only [numOk, h, Bool.false_and]
theorem numOk_len {s : ByteArray} (h : inB s.size 1 9 = false) : false = numOk s := by simp only [numOk, h, Bool.false_and, Bool.and_false]
theorem numOk_end {s : ByteArray} (h : s.data.toList.all isDig = true) (h2 : inB s.size 1 9 = true) : (!(s.data.toList.getD 0 0 == 48) || decide (s.size = 1)) = numOk s := by simp only [numOk, h, h2, Bool.true_and]

theorem implNumeralOk_any (s : ByteArray) (w : World) (hs : s.size ≤ maxLen) :
    Calls Tryz.prog 55 #[.string s] w fun e w' => e = .returned (.bool (numOk s)) ∧ w = w' := by
  unfold maxLen at hs
  go_enter Tryz.func55, Tryz.ntmps55
  go_wp2
  go_loop [3] (fun i => ∃ k : Nat, k ≤ s.size ∧ i = .int .i64 k ∧ Hid ((s.data.toList.take k).all isDig = true)) (fun i => s.size - (intOf i).toNat)
  case atStart => exact ⟨0, Nat.zero_le _, rfl, rfl⟩
  case round =>
    obtain ⟨k, hk, rfl, hT⟩ := hrel
    by_cases hlt : k < s.size
    · have hdt := Lib.hid (dig_take s k hlt)
      have hdb := Lib.hid (dig_bad s k hlt)
      have hfin := Lib.hid (@numOk_bad s)
      by_cases h1 : (s[k].toNat : Int) < 48
      · have hb := Lib.hid (hfin.out (hdb.out (by unfold isDig; simp; omega)))
        go_wp2
        go_ret
        exact ⟨ret_bool hb.out, rfl⟩
      · have h1' : 48 ≤ (s[k].toNat : Int) := by omega
        by_cases h2 : 57 < (s[k].toNat : Int)
        · have hb := Lib.hid (hfin.out (hdb.out (by unfold isDig; simp; omega)))
          go_wp2
          go_ret
          exact ⟨ret_bool hb.out, rfl⟩
        · have h2' : (s[k].toNat : Int) ≤ 57 := by omega
          have hn := Lib.hid (show (s.data.toList.take (k+1)).all isDig = true by rw [hdt.out, hT.out]; unfold isDig; simp; omega)
          go_wp2
          go_round
          case rel => exact ⟨k + 1, by omega, by go_num, hn⟩
          case measure => simp [intOf]; omega
    · have hkk : k = s.size := by omega
      have hall := Lib.hid (show s.data.toList.all isDig = true by have := hT.out; rw [hkk, List.take_of_length_le (by simp)] at this; exact this)
      clear hkk
      cases hin : inB s.size 1 9
      · have hb := Lib.hid (numOk_len hin); have H := Lib.hid hin; clear hin
        go_wp2_with (go_at_call 97; refine (in_val H.out _).mono ?_; rintro e w' ⟨rfl, rfl⟩)
        go_ret
        exact ⟨ret_bool hb.out, rfl⟩
      · have hb := Lib.hid (numOk_end hall.out hin); have H := Lib.hid hin
        obtain ⟨hp, hp9⟩ := inB_true.1 hin
        clear hin
        have hp0 : 0 < s.size := by omega
        have hg : s.data.toList.getD 0 0 = s[0] := by
          have h0 : s.data[0]? = some s[0] := by rw [Array.getElem?_eq_getElem (by simpa using hp0)]; rfl
          simp [List.getD_eq_getElem?_getD, h0]
        have HG := Lib.hid hg; clear hg
        by_cases h48 : (s[0].toNat : Int) = 48
        · have hz : ((s[0].toNat : Int) != 48) = false := by simp; omega
          have hc : s[0] = 48 := UInt8.toNat_inj.1 (by rw [show (48 : UInt8).toNat = 48 from rfl]; omega)
          have HC := Lib.hid hc; clear hc h48
          have hb2 := Lib.hid (show decide (s.size = 1) = numOk s by rw [← hb.out, HG.out, HC.out]; rfl)
          go_wp2_with (go_at_call 97; refine (in_val H.out _).mono ?_; rintro e w' ⟨rfl, rfl⟩)
          go_ret
          exact ⟨ret_bool (by rw [← hb2.out]; show ((s.size : Int) == 1) = _; rw [Bool.eq_iff_iff, beq_iff_eq, decide_eq_true_iff]; omega), rfl⟩
        · have hz : ((s[0].toNat : Int) != 48) = true := by rw [bne_iff_ne]; exact h48
          have hb2 := Lib.hid (show true = numOk s by
            rw [← hb.out, HG.out]
            have : (s[0] == 48) = false := by rw [beq_eq_false_iff_ne]; intro e; apply h48; rw [e]; rfl
            rw [this]; rfl)
          clear h48
          go_wp2_with (go_at_call 97; refine (in_val H.out _).mono ?_; rintro e w' ⟨rfl, rfl⟩)
          go_ret
          exact ⟨ret_bool hb2.out, rfl⟩

theorem alive_any (w : World) : Calls Tryz.prog 13 #[] w fun e w' => e = .returned (.bool true) ∧ w = w' := by
  have h1 := implNumeralOk_any ⟨#[48]⟩ w (by simp [maxLen]; decide)
  have h2 := implNumeralOk_any ⟨#[48, 49]⟩ w (by simp [maxLen]; decide)
  rw [show numOk ⟨#[48]⟩ = true by decide] at h1
  rw [show numOk ⟨#[48, 49]⟩ = false by decide] at h2
  have H1 := Lib.hid h1; have H2 := Lib.hid h2; clear h1 h2
  go_enter Tryz.func13, Tryz.ntmps13
  go_wp2_with fail
  refine H1.out.mono ?_; rintro e w' ⟨rfl, rfl⟩
  go_wp2_with fail
  refine H2.out.mono ?_; rintro e w' ⟨rfl, rfl⟩
  go_wp2
  go_ret
  exact ⟨rfl, rfl⟩
end Go.Proofs.YtdngnmpmaacapaaGreatDoor
