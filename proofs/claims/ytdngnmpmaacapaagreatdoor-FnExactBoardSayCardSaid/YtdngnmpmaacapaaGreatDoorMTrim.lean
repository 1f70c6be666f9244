/-
  Merged: Trim Nine Elev.
-/
import Derived.Test.YtdngnmpmaacapaaGreatDoorMWaysA
import Derived.Test.YtdngnmpmaacapaaGreatDoorMTell
set_option linter.unusedVariables false
set_option linter.unusedSimpArgs false
/-
  Contracts: l2Trim of the reference; a digit as a text.
-/
namespace Go.Proofs.YtdngnmpmaacapaaGreatDoor
open Go.RowKit

/-- A text without noughts ahead, but for the last sign. -/
def trimB (s : ByteArray) : ByteArray := if trimZ s.data.toList = [] then ⟨#[48]⟩ else mkL (trimZ s.data.toList)
theorem trimB_plain (ds : List Int) : trimB (mkL (ds.map digC)) = plainS ds := by
  unfold trimB plainS
  have : (mkL (ds.map digC)).data.toList = ds.map digC := by show (ds.map digC).toArray.toList = _; simp
  rw [this]
theorem cons_of {t : ByteArray} (h0 : 0 < t.size) : t.data.toList = t[0] :: t.data.toList.drop 1 := by
  have hl : 0 < t.data.toList.length := by simpa using h0
  have := List.drop_eq_getElem_cons (l := t.data.toList) (i := 0) hl
  rw [List.drop_zero] at this
  rw [this]; congr 1
theorem trim_stop {t : ByteArray} (h0 : 0 < t.size) (h : t[0] ≠ 48) : t = trimB t := by
  have e := trim_miss h0 h
  have hne : trimZ t.data.toList ≠ [] := by
    rw [cons_of h0]; simp [trimZ, h]
  unfold trimB; rw [if_neg hne, e]
theorem trim_one {t : ByteArray} (h : t.size = 1) : t = trimB t := by
  have h0 : 0 < t.size := by omega
  by_cases hz : t[0] = 48
  · have hd : t.data.toList.drop 1 = [] := by
      apply List.eq_nil_of_length_eq_zero
      have : t.data.toList.length = t.size := by simp
      rw [List.length_drop]; omega
    have e := cons_of h0
    rw [hd, hz] at e
    unfold trimB
    rw [e, if_pos (by simp [trimZ])]
    rw [← mkL_data t, e]; rfl
  · exact trim_stop h0 hz
theorem trimB_hit {t : ByteArray} (h0 : 0 < t.size) (h : t[0] = 48) : trimB t = trimB (t.extract 1 t.size) := by
  unfold trimB; rw [trim_hit h0 h]
set_option maxRecDepth 100000 in
theorem l2TrimX (s : ByteArray) (w : World) (hs : s.size ≤ 1048576) (hp : 0 < s.size) : Calls Tryz.prog 139 #[.string s] w fun e w' => e = .returned (.string (trimB s)) ∧ w = w' := by
  go_enter Tryz.func139, Tryz.ntmps139
  go_wp2
  go_loop [0] (fun z => ∃ t : ByteArray, z = .string t ∧ t.size ≤ s.size ∧ 0 < t.size ∧ Hid (trimB s = trimB t)) (fun z => match z with | .string t => t.size | _ => 0)
  case atStart => exact ⟨s, rfl, Nat.le_refl _, hp, rfl⟩
  case round =>
    obtain ⟨t, rfl, ht, h0, hT⟩ := hrel
    have hst := Lib.hid (fun h => trim_stop (t := t) h0 h)
    have hh := Lib.hid (fun h => trimB_hit (t := t) h0 h)
    have ho := Lib.hid (fun h => trim_one (t := t) h)
    by_cases h1 : 1 < t.size
    · have hx : (t.extract 1 t.size).size = t.size - 1 := by rw [ByteArray.size_extract]; omega
      have HX := Lib.hid hx
      have h1' : (1 : Int) < (t.size : Int) := by omega
      have h1'' : (1 : Int) ≤ (t.size : Int) := by omega
      have h0' : (0 : Int) < (t.size : Int) := by omega
      by_cases h2 : t[0] = 48
      · have hz : ((t[0].toNat : Int) == 48) = true := by rw [h2]; rfl
        have HH := Lib.hid (hT.out.trans (hh.out h2))
        clear hx h2 hh hst ho
        go_wp2
        go_round
        case rel => exact ⟨_, rfl, by rw [HX.out]; omega, by rw [HX.out]; omega, HH⟩
        case measure => simp only [HX.out]; omega
      · have hz : ((t[0].toNat : Int) == 48) = false := by
          rw [beq_eq_false_iff_ne]; intro h
          exact h2 (UInt8.toNat_inj.1 (by show t[0].toNat = 48; omega))
        have HH := Lib.hid ((hst.out h2).trans hT.out.symm)
        clear hx h2 hh hst ho
        go_wp2
        go_ret
        exact ⟨by rw [← HH.out]; rfl, rfl⟩
    · have hle : (t.size : Int) ≤ 1 := by omega
      have HH := Lib.hid ((ho.out (by omega)).trans hT.out.symm)
      clear hh hst ho
      go_wp2
      go_ret
      exact ⟨by rw [← HH.out]; rfl, rfl⟩
/-- A digit, as l1Number writes it. -/
theorem l1Digit_any (d : Int) (w : World) (h0 : 0 ≤ d) (h1 : d ≤ 9) : Calls Tryz.prog 43 #[.int .i64 d] w fun e w' => e = .returned (.string (mkL [digC d])) ∧ Fr w.heap.size none w w' := by
  obtain ⟨c, rfl⟩ := Int.eq_ofNat_of_zero_le h0
  have e : mkL [digC (c : Int)] = decS c := by rw [decS_one (by omega)]; rfl
  rw [e]
  exact l1Number_one c w (by omega)
end Go.Proofs.YtdngnmpmaacapaaGreatDoor
/-
  Contracts: DigitSum, NineOf, ElevenOf, of the program and of the reference.
-/
namespace Go.Proofs.YtdngnmpmaacapaaGreatDoor
open Go.RowKit

theorem digI_at {s : ByteArray} {k : Nat} (h : k < s.size) : ((s[k].toNat : Int) - 48) = digI s (s.size - 1 - k) := by
  have e : s.size - 1 - (s.size - 1 - k) = k := by omega
  rw [← digI_in (s := s) (k := s.size - 1 - k) (by omega) (by omega)]
  congr 2
  simp only [e]
set_option maxRecDepth 100000 in
theorem implDigitSum_any (s : ByteArray) (w : World) (hs : s.size ≤ 1048576) : Calls Tryz.prog 158 #[.string s] w fun e w' => e = .returned (.int .i64 (dsI s)) ∧ w = w' := by
  cases h : numOk s
  · have hr := Lib.hid (show -1 = dsI s by simp [dsI, h])
    have H := Lib.hid h; clear h
    go_enter Tryz.func158, Tryz.ntmps158
    go_wp2_with (go_at_call 55; refine (num_val hs H.out _).mono ?_; rintro e w' ⟨rfl, rfl⟩)
    go_ret
    exact ⟨ret_int hr.out, rfl⟩
  · have hr := Lib.hid (show digSum s = dsI s by simp [dsI, h])
    have hl := num_len h
    have BD := Lib.hid (fun k => digSum_bd h k)
    have DD := Lib.hid (fun (k : Nat) W hk => digit_any s k W h hk)
    have H := Lib.hid h; clear h
    go_enter Tryz.func158, Tryz.ntmps158
    go_wp2_with (go_at_call 55; refine (num_val hs H.out _).mono ?_; rintro e w' ⟨rfl, rfl⟩)
    go_loop [3, 10] (fun v i => ∃ k : Nat, k ≤ s.size ∧ i = .int .i64 k ∧ v = .int .i64 (sumF (digI s) k)) (fun _ i => s.size - (intOf i).toNat)
    case atStart => exact ⟨0, Nat.zero_le _, rfl, rfl⟩
    case round =>
      obtain ⟨k, hk, rfl, rfl⟩ := hrel
      have b1 := BD.out k
      by_cases hlt : k < s.size
      · have e1 := Lib.hid (show sumF (digI s) k + digI s k = sumF (digI s) (k + 1) from rfl)
        have d1 : 0 ≤ digI s k ∧ digI s k ≤ 9 := digI_bd H.out k
        have D := Lib.hid (fun W => DD.out k W (by omega))
        generalize digI s k = d at *
        generalize sumF (digI s) k = y at *
        go_wp2_with (go_at_call 159; refine (D.out _).mono ?_; rintro e w' ⟨rfl, rfl⟩)
        go_round
        case rel => exact ⟨k + 1, by omega, by go_num, by rw [e1.out]⟩
        case measure => simp [intOf]; omega
      · have hke : k = s.size := by omega
        have e1 := Lib.hid (show sumF (digI s) k = dsI s by rw [hke]; exact hr.out)
        clear hke
        go_wp2
        go_ret
        exact ⟨ret_int e1.out, rfl⟩
theorem implNine_any (s : ByteArray) (w : World) (hs : s.size ≤ 1048576) : Calls Tryz.prog 121 #[.string s] w fun e w' => e = .returned (.int .i64 (nineI s)) ∧ w = w' := by
  cases h : numOk s
  · have hr := Lib.hid (show -1 = nineI s by simp [nineI, h])
    have H := Lib.hid h; clear h
    go_enter Tryz.func121, Tryz.ntmps121
    go_wp2_with (go_at_call 55; refine (num_val hs H.out _).mono ?_; rintro e w' ⟨rfl, rfl⟩)
    go_ret
    exact ⟨ret_int hr.out, rfl⟩
  · have hr := Lib.hid (show digSum s % 9 = nineI s by simp [nineI, h])
    have bd := digSum_bd h s.size
    have hl := num_len h
    have e0 : dsI s = digSum s := by simp [dsI, h]
    have DS := Lib.hid (fun W => e0 ▸ implDigitSum_any s W hs)
    have b2 : 0 ≤ digSum s ∧ digSum s ≤ 81 := by unfold digSum; omega
    have H := Lib.hid h; clear h e0 bd
    generalize digSum s = y at *
    go_enter Tryz.func121, Tryz.ntmps121
    go_wp2_with (first | (go_at_call 55; refine (num_val hs H.out _).mono ?_; rintro e w' ⟨rfl, rfl⟩) | (go_at_call 158; refine (DS.out _).mono ?_; rintro e w' ⟨rfl, rfl⟩))
    go_ret
    exact ⟨ret_int hr.out, rfl⟩
set_option maxRecDepth 100000 in
theorem specDigitSum_any (s : ByteArray) (w : World) (hs : s.size ≤ 1048576) : Calls Tryz.prog 132 #[.string s] w fun e w' => e = .returned (.int .i64 (dsI s)) ∧ w = w' := by
  cases h : numOk s
  · have hr := Lib.hid (show -1 = dsI s by simp [dsI, h])
    have H := Lib.hid h; clear h
    go_enter Tryz.func132, Tryz.ntmps132
    go_wp2_with (go_at_call 53; refine (numS_val hs H.out _).mono ?_; rintro e w' ⟨rfl, rfl⟩)
    go_ret
    exact ⟨ret_int hr.out, rfl⟩
  · have hr := Lib.hid (show sumF (fun j => digI s (s.size - 1 - j)) s.size = dsI s by rw [sumF_rev]; simp [dsI, h, digSum])
    have hl := num_len h
    have BD : ∀ k, 0 ≤ sumF (fun j => digI s (s.size - 1 - j)) k ∧ sumF (fun j => digI s (s.size - 1 - j)) k ≤ 9 * k := by
      intro k
      induction k with
      | zero => simp [sumF]
      | succ k ih => have := digI_bd h (s.size - 1 - k); simp only [sumF]; omega
    have BD := Lib.hid BD
    have BY := Lib.hid (fun i hi => dig_byte h i hi)
    have H := Lib.hid h; clear h
    go_enter Tryz.func132, Tryz.ntmps132
    go_wp2_with (go_at_call 53; refine (numS_val hs H.out _).mono ?_; rintro e w' ⟨rfl, rfl⟩)
    go_loop [3, 4] (fun v i => ∃ k : Nat, k ≤ s.size ∧ i = .int .i64 k ∧ v = .int .i64 (sumF (fun j => digI s (s.size - 1 - j)) k)) (fun _ i => s.size - (intOf i).toNat)
    case atStart => exact ⟨0, Nat.zero_le _, rfl, rfl⟩
    case round =>
      obtain ⟨k, hk, rfl, rfl⟩ := hrel
      have b1 := BD.out k
      by_cases hlt : k < s.size
      · have e1 := Lib.hid (show sumF (fun j => digI s (s.size - 1 - j)) k + ((s[k].toNat : Int) - 48) = sumF (fun j => digI s (s.size - 1 - j)) (k + 1) by rw [digI_at hlt]; rfl)
        have d1 := BY.out k hlt
        generalize sumF (fun j => digI s (s.size - 1 - j)) k = y at *
        generalize hx : s[k].toNat = x at *
        go_wp2
        go_round
        case rel => exact ⟨k + 1, by omega, by go_num, by rw [← e1.out]⟩
        case measure => simp [intOf]; omega
      · have hke : k = s.size := by omega
        have e1 := Lib.hid (show sumF (fun j => digI s (s.size - 1 - j)) k = dsI s by rw [hke]; exact hr.out)
        clear hke
        go_wp2
        go_ret
        exact ⟨ret_int e1.out, rfl⟩
set_option maxRecDepth 100000 in
theorem specNine_any (s : ByteArray) (w : World) (hs : s.size ≤ 1048576) : Calls Tryz.prog 94 #[.string s] w fun e w' => e = .returned (.int .i64 (nineI s)) ∧ Fr w.heap.size none w w' := by
  have DS := Lib.hid (fun W => specDigitSum_any s W hs)
  have bd : -1 ≤ dsI s ∧ dsI s ≤ 81 := by
    unfold dsI; split
    · next h => have := digSum_bd h s.size; have := num_len h; unfold digSum; omega
    · omega
  have hr := Lib.hid (show nineI s = if dsI s = -1 then -1 else dsI s % 9 by
    unfold nineI dsI
    split
    · next h => have := digSum_bd h s.size; rw [if_neg (by unfold digSum; omega)]
    · simp)
  generalize dsI s = y at *
  go_enter Tryz.func94, Tryz.ntmps94
  go_wp2_with (go_at_call 132; refine (DS.out _).mono ?_; rintro e w' ⟨rfl, rfl⟩)
  go_loopw [3] (fun v wr => ∃ n : Int, v = .int .i64 n ∧ -1 ≤ n ∧ n ≤ 81 ∧ Hid (nineI s = if n = -1 then -1 else n % 9) ∧ Fr w.heap.size none w wr) (fun v _ => (intOf v).toNat)
  case atStart => exact ⟨y, rfl, bd.1, bd.2, hr, Fr.refl _ _ _⟩
  case round =>
    obtain ⟨n, rfl, h0, h1, hR, hF⟩ := hrel
    have HF := Lib.hid hF; clear hF
    by_cases hgt : 9 < n
    · obtain ⟨c, rfl⟩ := Int.eq_ofNat_of_zero_le (show 0 ≤ n by omega)
      have hc : ¬ c < 10 := by omega
      have ed := dec_two hc (show c < 100 by omega)
      have sz := decS_size2 (n := c) (by omega)
      have D2 := Lib.hid (fun W => ed ▸ specDigitSum_any (decS c) W (by omega))
      have hR2 := Lib.hid (show nineI s = if (((c / 10 + c % 10 : Nat) : Int)) = -1 then -1 else (((c / 10 + c % 10 : Nat) : Int)) % 9 by
        rw [hR.out, if_neg (by omega), if_neg (by omega)]; omega)
      have hb : c / 10 + c % 10 ≤ 81 ∧ c / 10 + c % 10 < c := by omega
      have CL := Lib.hid (fun W => l1Number_any c W (by omega))
      clear ed hR
      generalize decS c = u at *
      generalize c / 10 + c % 10 = z at *
      go_wp2_with fail
      refine (CL.out _).mono ?_; rintro e w2 ⟨rfl, hF2⟩
      have F2 := Lib.hid (HF.out.and hF2); clear hF2
      go_wp2_with fail
      refine (D2.out _).mono ?_; rintro e w' ⟨rfl, rfl⟩
      go_wp2
      go_roundw
      case rel => exact ⟨_, rfl, by omega, by omega, hR2, F2.out⟩
      case measure => simp [intOf]; omega
    · by_cases h9 : n = 9
      · subst h9
        have e1 := Lib.hid (show 0 = nineI s by rw [hR.out]; rfl)
        go_wp2
        go_ret
        exact ⟨ret_int e1.out, HF.out⟩
      · have hz : (n == 9) = false := by rw [beq_eq_false_iff_ne]; exact h9
        have e1 := Lib.hid (show n = nineI s by rw [hR.out]; split <;> omega)
        clear h9
        go_wp2
        go_ret
        exact ⟨ret_int e1.out, HF.out⟩
end Go.Proofs.YtdngnmpmaacapaaGreatDoor
/-
  Contracts: ElevenOf, of the program and of the reference.
-/
namespace Go.Proofs.YtdngnmpmaacapaaGreatDoor
open Go.RowKit

theorem alt_even {s : ByteArray} {k : Nat} (h : k % 2 = 0) : altTo s (k + 1) = altTo s k + digI s k := by
  show altTo s k + altF s k = _; unfold altF; rw [if_pos h]
theorem alt_odd {s : ByteArray} {k : Nat} (h : ¬ k % 2 = 0) : altTo s (k + 1) = altTo s k - digI s k := by
  show altTo s k + altF s k = _; unfold altF; rw [if_neg h]; omega
theorem tmod_eleven (y : Int) : ∃ q, y.tmod 11 = q ∧ -10 ≤ q ∧ q ≤ 10 ∧ (q + 11) % 11 = y % 11 := by
  by_cases h : 0 ≤ y
  · exact ⟨y % 11, Int.tmod_eq_emod_of_nonneg h, by omega, by omega, by omega⟩
  · refine ⟨-((-y) % 11), ?_, by omega, by omega, by omega⟩
    have : y = -(-y) := by omega
    conv => lhs; rw [this]
    rw [Int.neg_tmod, Int.tmod_eq_emod_of_nonneg (by omega)]
set_option maxHeartbeats 1000000 in
set_option maxRecDepth 100000 in
theorem specEleven_any (s : ByteArray) (w : World) (hs : s.size ≤ 1048576) : Calls Tryz.prog 95 #[.string s] w fun e w' => e = .returned (.int .i64 (elevI s)) ∧ w = w' := by
  cases h : numOk s
  · have hr := Lib.hid (show -1 = elevI s by simp [elevI, h])
    have H := Lib.hid h; clear h
    go_enter Tryz.func95, Tryz.ntmps95
    go_wp2_with (go_at_call 53; refine (numS_val hs H.out _).mono ?_; rintro e w' ⟨rfl, rfl⟩)
    go_ret
    exact ⟨ret_int hr.out, rfl⟩
  · have hr := Lib.hid (show altTo s s.size % 11 = elevI s by simp [elevI, h])
    have hl := num_len h
    have BD := Lib.hid (fun k => altTo_bd h k)
    have DD := Lib.hid (fun (k : Nat) W hk => digitAtX s k W h hk)
    have BG := Lib.hid (fun k => digI_bd h k)
    have H := Lib.hid h; clear h
    go_enter Tryz.func95, Tryz.ntmps95
    go_wp2_with fail
    refine (numS_val hs H.out _).mono ?_; rintro e w' ⟨rfl, rfl⟩
    go_wp2
    go_loop [3, 4] (fun v i => ∃ k : Nat, k ≤ s.size ∧ i = .int .i64 k ∧ v = .int .i64 (altTo s k)) (fun _ i => s.size - (intOf i).toNat)
    case atStart => exact ⟨0, Nat.zero_le _, rfl, rfl⟩
    case round =>
      obtain ⟨k, hk, rfl, rfl⟩ := hrel
      have b1 := BD.out k
      have k0 : (0 : Int) ≤ (k : Int) := by omega
      by_cases hlt : k < s.size
      · have d1 := BG.out k
        have D := Lib.hid (fun W => DD.out k W (by omega))
        have hlt' : (k : Int) < (s.size : Int) := by omega
        by_cases hp : k % 2 = 0
        · have e1 := Lib.hid (alt_even (s := s) hp)
          have hp2 : ((k : Int) % 2 == 0) = true := by rw [beq_iff_eq]; omega
          generalize digI s k = d at *
          generalize altTo s k = y at *
          clear hp
          go_wp2_with fail
          refine (D.out _).mono ?_; rintro e w' ⟨rfl, rfl⟩
          go_wp2
          go_round
          case rel => exact ⟨k + 1, by omega, by go_num, by rw [e1.out]⟩
          case measure => simp [intOf]; omega
        · have e1 := Lib.hid (alt_odd (s := s) hp)
          have hp2 : ((k : Int) % 2 == 0) = false := by rw [beq_eq_false_iff_ne]; omega
          generalize digI s k = d at *
          generalize altTo s k = y at *
          clear hp
          go_wp2_with fail
          refine (D.out _).mono ?_; rintro e w' ⟨rfl, rfl⟩
          go_wp2
          go_round
          case rel => exact ⟨k + 1, by omega, by go_num, by rw [e1.out]⟩
          case measure => simp [intOf]; omega
      · have hke : k = s.size := by omega
        have e1 := Lib.hid (show altTo s k % 11 = elevI s by rw [hke]; exact hr.out)
        generalize altTo s k = y at *
        have hge : (s.size : Int) ≤ (k : Int) := by omega
        have b2 : -81 ≤ y ∧ y ≤ 81 := by omega
        clear hke b1
        go_wp2
        go_loop [3] (fun v => ∃ n : Int, v = .int .i64 n ∧ -81 ≤ n ∧ n ≤ 81 ∧ Hid (n % 11 = elevI s)) (fun v => (0 - intOf v).toNat)
        case atStart => exact ⟨y, rfl, b2.1, b2.2, e1⟩
        case round =>
          obtain ⟨n, rfl, n0, n1, hN⟩ := hrel
          by_cases hneg : n < 0
          · have hN2 := Lib.hid (show (n + 11) % 11 = elevI s by rw [← hN.out]; omega)
            go_wp2
            go_round
            case rel => exact ⟨_, rfl, by omega, by omega, hN2⟩
            case measure => simp [intOf]; omega
          · have n2 : 0 ≤ n := by omega
            clear hneg n0
            go_wp2
            go_loop [3] (fun v => ∃ n : Int, v = .int .i64 n ∧ 0 ≤ n ∧ n ≤ 81 ∧ Hid (n % 11 = elevI s)) (fun v => (intOf v).toNat)
            case atStart => exact ⟨n, rfl, n2, n1, hN⟩
            case round =>
              obtain ⟨n', rfl, m0, m1, hM⟩ := hrel
              by_cases hgt : 10 < n'
              · have hM2 := Lib.hid (show (n' - 11) % 11 = elevI s by rw [← hM.out]; omega)
                go_wp2
                go_round
                case rel => exact ⟨_, rfl, by omega, by omega, hM2⟩
                case measure => simp [intOf]; omega
              · have hE := Lib.hid (show n' = elevI s by rw [← hM.out]; omega)
                go_wp2
                go_ret
                exact ⟨ret_int hE.out, rfl⟩

set_option maxHeartbeats 1000000 in
set_option maxRecDepth 100000 in
theorem implEleven_any (s : ByteArray) (w : World) (hs : s.size ≤ 1048576) : Calls Tryz.prog 122 #[.string s] w fun e w' => e = .returned (.int .i64 (elevI s)) ∧ w = w' := by
  cases h : numOk s
  · have hr := Lib.hid (show -1 = elevI s by simp [elevI, h])
    have H := Lib.hid h; clear h
    go_enter Tryz.func122, Tryz.ntmps122
    go_wp2_with (go_at_call 55; refine (num_val hs H.out _).mono ?_; rintro e w' ⟨rfl, rfl⟩)
    go_ret
    exact ⟨ret_int hr.out, rfl⟩
  · have hr := Lib.hid (show altTo s s.size % 11 = elevI s by simp [elevI, h])
    have hl := num_len h
    have BD := Lib.hid (fun k => altTo_bd h k)
    have DD := Lib.hid (fun (k : Nat) W hk => digit_any s k W h hk)
    have BG := Lib.hid (fun k => digI_bd h k)
    have H := Lib.hid h; clear h
    go_enter Tryz.func122, Tryz.ntmps122
    go_wp2_with fail
    refine (num_val hs H.out _).mono ?_; rintro e w' ⟨rfl, rfl⟩
    go_wp2
    go_loop [3, 10] (fun v i => ∃ k : Nat, k ≤ s.size ∧ i = .int .i64 k ∧ v = .int .i64 (altTo s k)) (fun _ i => s.size - (intOf i).toNat)
    case atStart => exact ⟨0, Nat.zero_le _, rfl, rfl⟩
    case round =>
      obtain ⟨k, hk, rfl, rfl⟩ := hrel
      have b1 := BD.out k
      have k0 : (0 : Int) ≤ (k : Int) := by omega
      by_cases hlt : k < s.size
      · have d1 := BG.out k
        have D := Lib.hid (fun W => DD.out k W (by omega))
        have hlt' : (k : Int) < (s.size : Int) := by omega
        by_cases hp : k % 2 = 0
        · have e1 := Lib.hid (alt_even (s := s) hp)
          have hp2 : ((k : Int) % 2 == 0) = true := by rw [beq_iff_eq]; omega
          generalize digI s k = d at *
          generalize altTo s k = y at *
          clear hp
          go_wp2_with fail
          refine (D.out _).mono ?_; rintro e w' ⟨rfl, rfl⟩
          go_wp2
          go_round
          case rel => exact ⟨k + 1, by omega, by go_num, by rw [e1.out]⟩
          case measure => simp [intOf]; omega
        · have e1 := Lib.hid (alt_odd (s := s) hp)
          have hp2 : ((k : Int) % 2 == 0) = false := by rw [beq_eq_false_iff_ne]; omega
          generalize digI s k = d at *
          generalize altTo s k = y at *
          clear hp
          go_wp2_with fail
          refine (D.out _).mono ?_; rintro e w' ⟨rfl, rfl⟩
          go_wp2
          go_round
          case rel => exact ⟨k + 1, by omega, by go_num, by rw [e1.out]⟩
          case measure => simp [intOf]; omega
      · have hke : k = s.size := by omega
        have e1 := Lib.hid (show altTo s k % 11 = elevI s by rw [hke]; exact hr.out)
        generalize altTo s k = y at *
        have hge : (s.size : Int) ≤ (k : Int) := by omega
        have b2 : -81 ≤ y ∧ y ≤ 81 := by omega
        clear hke b1
        obtain ⟨q, hq, q0, q1, q2⟩ := tmod_eleven y
        have hfin := Lib.hid (show (q + 11) % 11 = elevI s by rw [q2, e1.out])
        clear q2
        go_wp2
        go_ret
        exact ⟨ret_int (by rw [← hfin.out]; first | rfl | omega), rfl⟩
end Go.Proofs.YtdngnmpmaacapaaGreatDoor
