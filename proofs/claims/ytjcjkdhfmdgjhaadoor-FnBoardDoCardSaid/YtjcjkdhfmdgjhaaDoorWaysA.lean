/-
  Contracts: small functions on the road of the ways: Itoa of a digit, TrimLeft at noughts, digit, Reverse.
-/
import Derived.Test.YtjcjkdhfmdgjhaaDoorWaysP
import Derived.Test.YtjcjkdhfmdgjhaaDoorBuilder
import Derived.Test.YtjcjkdhfmdgjhaaDoorOrd
namespace Go.Proofs.YtjcjkdhfmdgjhaaDoor
open Go.RowKit

theorem ten_of {d : Int} (h0 : 0 ≤ d) (h1 : d ≤ 9) : d = 0 ∨ d = 1 ∨ d = 2 ∨ d = 3 ∨ d = 4 ∨ d = 5 ∨ d = 6 ∨ d = 7 ∨ d = 8 ∨ d = 9 := by omega
set_option maxRecDepth 100000 in
set_option maxHeartbeats 2000000 in
theorem small_any (d : Int) (w : World) (h0 : 0 ≤ d) (h1 : d ≤ 9) : Calls Tryd.prog 75 #[.int .i64 d] w fun e w' => e = .returned (.string (mkL [digC d])) ∧ w = w' := by
  rcases ten_of h0 h1 with rfl | rfl | rfl | rfl | rfl | rfl | rfl | rfl | rfl | rfl
  all_goals
    go_enter Tryd.func75, Tryd.ntmps75
    go_wp2
    go_ret
    exact ⟨by rfl, rfl⟩
set_option maxRecDepth 100000 in
theorem formatInt_any (d : Int) (w : World) (h0 : 0 ≤ d) (h1 : d ≤ 9) : Calls Tryd.prog 71 #[.int .i64 d, .int .i64 10] w fun e w' => e = .returned (.string (mkL [digC d])) ∧ w = w' := by
  have h2 : d < 100 := by omega
  go_enter Tryd.func71, Tryd.ntmps71
  go_wp2_with (go_at_call 75; refine (small_any d _ h0 h1).mono ?_; rintro e w' ⟨rfl, rfl⟩)
  go_ret
  exact ⟨rfl, rfl⟩
set_option maxRecDepth 100000 in
theorem itoaIn_any (d : Int) (w : World) (h0 : 0 ≤ d) (h1 : d ≤ 9) : Calls Tryd.prog 65 #[.int .i64 d] w fun e w' => e = .returned (.string (mkL [digC d])) ∧ w = w' := by
  go_enter Tryd.func65, Tryd.ntmps65
  go_wp2_with (go_at_call 71; refine (formatInt_any d _ h0 h1).mono ?_; rintro e w' ⟨rfl, rfl⟩)
  go_ret
  exact ⟨rfl, rfl⟩
set_option maxRecDepth 100000 in
theorem itoa_any (d : Int) (w : World) (h0 : 0 ≤ d) (h1 : d ≤ 9) : Calls Tryd.prog 60 #[.int .i64 d] w fun e w' => e = .returned (.string (mkL [digC d])) ∧ w = w' := by
  go_enter Tryd.func60, Tryd.ntmps60
  go_wp2_with (go_at_call 65; refine (itoaIn_any d _ h0 h1).mono ?_; rintro e w' ⟨rfl, rfl⟩)
  go_ret
  exact ⟨rfl, rfl⟩

theorem trim_hit {t : ByteArray} (h0 : 0 < t.size) (h : t[0] = 48) : trimZ t.data.toList = trimZ (t.extract 1 t.size).data.toList := by
  have hl : 0 < t.data.toList.length := by simpa using h0
  have e : t.data.toList = t[0] :: t.data.toList.drop 1 := by
    have := List.drop_eq_getElem_cons (l := t.data.toList) (i := 0) hl
    rw [List.drop_zero] at this
    rw [this]; congr 1
  have e2 : (t.extract 1 t.size).data.toList = t.data.toList.drop 1 := by
    rw [Lib.extract_data, List.take_of_length_le (by rw [List.length_drop]; simp)]
  rw [e2]
  conv => lhs; rw [e]
  simp [trimZ, h]
theorem trim_miss {t : ByteArray} (h0 : 0 < t.size) (h : t[0] ≠ 48) : mkL (trimZ t.data.toList) = t := by
  have hl : 0 < t.data.toList.length := by simpa using h0
  have e : t.data.toList = t[0] :: t.data.toList.drop 1 := by
    have := List.drop_eq_getElem_cons (l := t.data.toList) (i := 0) hl
    rw [List.drop_zero] at this
    rw [this]; congr 1
  have : trimZ t.data.toList = t.data.toList := by
    conv => lhs; rw [e]
    conv => rhs; rw [e]
    simp [trimZ, h]
  rw [this, mkL_data]
theorem trim_nil {t : ByteArray} (h0 : ¬ 0 < t.size) : mkL (trimZ t.data.toList) = t := by
  have : t.data.toList = [] := by
    apply List.eq_nil_of_length_eq_zero
    have : t.data.toList.length = t.size := by simp
    omega
  rw [this]
  show mkL [] = t
  rw [← this, mkL_data]
set_option maxRecDepth 100000 in
theorem trimLeftByte_any (s : ByteArray) (w : World) (hs : s.size ≤ 1048576) : Calls Tryd.prog 66 #[.string s, .int .u8 48] w fun e w' => e = .returned (.string (mkL (trimZ s.data.toList))) ∧ w = w' := by
  go_enter Tryd.func66, Tryd.ntmps66
  go_wp2
  go_loop [0] (fun z => ∃ t : ByteArray, z = .string t ∧ t.size ≤ s.size ∧ Hid (trimZ s.data.toList = trimZ t.data.toList)) (fun z => match z with | .string t => t.size | _ => 0)
  case atStart => exact ⟨s, rfl, Nat.le_refl _, rfl⟩
  case round =>
    obtain ⟨t, rfl, ht, hT⟩ := hrel
    by_cases h1 : 0 < t.size
    · have hx : (t.extract 1 t.size).size = t.size - 1 := by rw [ByteArray.size_extract]; omega
      have HX := Lib.hid hx
      have hh := Lib.hid (trim_hit h1)
      have hm := Lib.hid (trim_miss h1)
      have h1' : (0 : Int) < (t.size : Int) := by omega
      have h1'' : (1 : Int) ≤ (t.size : Int) := by omega
      by_cases h2 : t[0] = 48
      · have hz : ((t[0].toNat : Int) == 48) = true := by rw [h2]; rfl
        have HH := Lib.hid (hT.out.trans (hh.out h2))
        clear hx h2 hh hm
        go_wp2
        go_round
        case rel => exact ⟨_, rfl, by rw [HX.out]; omega, HH⟩
        case measure => simp only [HX.out]; omega
      · have hz : ((t[0].toNat : Int) == 48) = false := by
          rw [beq_eq_false_iff_ne]; intro h
          exact h2 (UInt8.toNat_inj.1 (by show t[0].toNat = 48; omega))
        have HH := Lib.hid (show t = mkL (trimZ s.data.toList) by rw [hT.out, hm.out h2])
        clear hx h2 hh hm
        go_wp2
        go_ret
        exact ⟨by rw [← HH.out]; rfl, rfl⟩
    · have hle : (t.size : Int) ≤ 0 := by omega
      have HH := Lib.hid (show t = mkL (trimZ s.data.toList) by rw [hT.out, trim_nil h1])
      go_wp2
      go_ret
      exact ⟨by rw [← HH.out]; rfl, rfl⟩
set_option maxRecDepth 100000 in
theorem trimLeft_any (s : ByteArray) (w : World) (hs : s.size ≤ 1048576) : Calls Tryd.prog 61 #[.string s, .string ⟨#[48]⟩] w fun e w' => e = .returned (.string (mkL (trimZ s.data.toList))) ∧ w = w' := by
  by_cases h0 : s = ⟨#[]⟩
  · subst h0
    go_enter Tryd.func61, Tryd.ntmps61
    go_wp2
    go_ret
    exact ⟨rfl, rfl⟩
  · have hne : s.toList.isEmpty = false := by
      cases h : s.toList.isEmpty
      · rfl
      · rw [List.isEmpty_iff] at h
        exact absurd ((toList_nil_iff_emptyBytes s).1 h) h0
    clear h0
    go_enter Tryd.func61, Tryd.ntmps61
    go_wp2_with (go_at_call 66; refine (trimLeftByte_any s _ hs).mono ?_; rintro e w' ⟨rfl, rfl⟩)
    go_ret
    exact ⟨rfl, rfl⟩

theorem digI_in {s : ByteArray} {k : Nat} (h : k < s.size) (hlt : s.size - 1 - k < s.size) : ((s[s.size - 1 - k].toNat : Int) - 48) = digI s k := by
  unfold digI
  rw [if_pos h]
  have hi : s.size - 1 - k < s.data.toList.length := by have : s.data.toList.length = s.size := by simp
                                                        omega
  rw [List.getD_eq_getElem?_getD, List.getElem?_eq_getElem hi]
  simp; rfl
theorem dig_byte {s : ByteArray} (h : numOk s = true) (i : Nat) (hi : i < s.size) : 48 ≤ (s[i].toNat : Int) ∧ (s[i].toNat : Int) ≤ 57 := by
  simp only [numOk, Bool.and_eq_true, List.all_eq_true] at h
  have := h.1 s[i] (by simp [ByteArray.getElem_eq_getElem_data])
  simpa [isDig] using this
theorem num_len {s : ByteArray} (h : numOk s = true) : 1 ≤ s.size ∧ s.size ≤ 9 := by
  simp only [numOk, Bool.and_eq_true] at h
  have := inB_true.1 h.2.1
  omega
theorem digit_any (s : ByteArray) (k : Nat) (w : World) (h : numOk s = true) (hk : k ≤ 100) : Calls Tryd.prog 55 #[.string s, .int .i64 (k : Int)] w fun e w' => e = .returned (.int .i64 (digI s k)) ∧ w = w' := by
  have hp := num_len h
  by_cases hlt : k < s.size
  · have hlt2 : s.size - 1 - k < s.size := by omega
    have hb := dig_byte h (s.size - 1 - k) hlt2
    have hE := Lib.hid (digI_in hlt hlt2)
    have hi : ((s.size : Int) - 1 - (k : Int)).toNat = s.size - 1 - k := by omega
    have hi2 : ((s.size : Int) - 1 - (k : Int)) = ((s.size - 1 - k : Nat) : Int) := by omega
    generalize hx : s[s.size - 1 - k].toNat = x at *
    clear h
    go_enter Tryd.func55, Tryd.ntmps55
    go_wp2
    go_ret
    exact ⟨ret_int (by rw [← hE.out]; try omega), rfl⟩
  · have hge : (s.size : Int) ≤ (k : Int) := by omega
    have hE := Lib.hid (show 0 = digI s k by unfold digI; rw [if_neg hlt])
    clear h
    go_enter Tryd.func55, Tryd.ntmps55
    go_wp2
    go_ret
    exact ⟨ret_int hE.out, rfl⟩
end Go.Proofs.YtjcjkdhfmdgjhaaDoor
