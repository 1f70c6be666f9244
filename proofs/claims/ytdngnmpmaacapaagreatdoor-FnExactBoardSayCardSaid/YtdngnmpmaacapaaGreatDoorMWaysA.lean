/-
  Merged: WaysA ColA ColB ColC ColS ColW ColT WaysB WaysC.
-/
import Derived.Test.YtdngnmpmaacapaaGreatDoorMOrdP
import Derived.Test.YtdngnmpmaacapaaGreatDoorMBuilder
import Derived.Test.YtdngnmpmaacapaaGreatDoorMCore
set_option linter.unusedVariables false
set_option linter.unusedSimpArgs false
/-
  Contracts: small functions on the road of the ways: Itoa of a digit, TrimLeft at noughts, digit, Reverse.
-/
namespace Go.Proofs.YtdngnmpmaacapaaGreatDoor
open Go.RowKit

theorem ten_of {d : Int} (h0 : 0 ≤ d) (h1 : d ≤ 9) : d = 0 ∨ d = 1 ∨ d = 2 ∨ d = 3 ∨ d = 4 ∨ d = 5 ∨ d = 6 ∨ d = 7 ∨ d = 8 ∨ d = 9 := by omega
set_option maxRecDepth 100000 in
set_option maxHeartbeats 2000000 in
theorem small_any (d : Int) (w : World) (h0 : 0 ≤ d) (h1 : d ≤ 9) : Calls Tryz.prog 208 #[.int .i64 d] w fun e w' => e = .returned (.string (mkL [digC d])) ∧ w = w' := by
  rcases ten_of h0 h1 with rfl | rfl | rfl | rfl | rfl | rfl | rfl | rfl | rfl | rfl
  all_goals
    go_enter Tryz.func208, Tryz.ntmps208
    go_wp2
    go_ret
    exact ⟨by rfl, rfl⟩
set_option maxRecDepth 100000 in
theorem formatInt_any (d : Int) (w : World) (h0 : 0 ≤ d) (h1 : d ≤ 9) : Calls Tryz.prog 180 #[.int .i64 d, .int .i64 10] w fun e w' => e = .returned (.string (mkL [digC d])) ∧ w = w' := by
  have h2 : d < 100 := by omega
  go_enter Tryz.func180, Tryz.ntmps180
  go_wp2_with (go_at_call 208; refine (small_any d _ h0 h1).mono ?_; rintro e w' ⟨rfl, rfl⟩)
  go_ret
  exact ⟨rfl, rfl⟩
set_option maxRecDepth 100000 in
theorem itoaIn_any (d : Int) (w : World) (h0 : 0 ≤ d) (h1 : d ≤ 9) : Calls Tryz.prog 144 #[.int .i64 d] w fun e w' => e = .returned (.string (mkL [digC d])) ∧ w = w' := by
  go_enter Tryz.func144, Tryz.ntmps144
  go_wp2_with (go_at_call 180; refine (formatInt_any d _ h0 h1).mono ?_; rintro e w' ⟨rfl, rfl⟩)
  go_ret
  exact ⟨rfl, rfl⟩
set_option maxRecDepth 100000 in
theorem itoa_any (d : Int) (w : World) (h0 : 0 ≤ d) (h1 : d ≤ 9) : Calls Tryz.prog 111 #[.int .i64 d] w fun e w' => e = .returned (.string (mkL [digC d])) ∧ w = w' := by
  go_enter Tryz.func111, Tryz.ntmps111
  go_wp2_with (go_at_call 144; refine (itoaIn_any d _ h0 h1).mono ?_; rintro e w' ⟨rfl, rfl⟩)
  go_ret
  exact ⟨rfl, rfl⟩

theorem trim_hit {t : ByteArray} (h0 : 0 < t.size) (h : t[0] = 48) : trimZ t.data.toList = trimZ (t.extract 1 t.size).data.toList := by
  have hl : 0 < t.data.toList.length := by simpa using h0
  have e : t.data.toList = t[0] :: t.data.toList.drop 1 := by
    have := List.drop_eq_getElem_cons (l := t.data.toList) (i := 0) hl
    rw [List.drop_zero] at this
    rw [this]; congr 1
  have e2 : (t.extract 1 t.size).data.toList = t.data.toList.drop 1 := by
    rw [Lib.extract_data, List.take_of_length_le (by rw [List.length_drop]; simp)]
  rw [e2]
  conv => lhs; rw [e]
  simp [trimZ, h]
theorem trim_miss {t : ByteArray} (h0 : 0 < t.size) (h : t[0] ≠ 48) : mkL (trimZ t.data.toList) = t := by
  have hl : 0 < t.data.toList.length := by simpa using h0
  have e : t.data.toList = t[0] :: t.data.toList.drop 1 := by
    have := List.drop_eq_getElem_cons (l := t.data.toList) (i := 0) hl
    rw [List.drop_zero] at this
    rw [this]; congr 1
  have : trimZ t.data.toList = t.data.toList := by
    conv => lhs; rw [e]
    conv => rhs; rw [e]
    simp [trimZ, h]
  rw [this, mkL_data]
theorem trim_nil {t : ByteArray} (h0 : ¬ 0 < t.size) : mkL (trimZ t.data.toList) = t := by
  have : t.data.toList = [] := by
    apply List.eq_nil_of_length_eq_zero
    have : t.data.toList.length = t.size := by simp
    omega
  rw [this]
  show mkL [] = t
  rw [← this, mkL_data]
set_option maxRecDepth 100000 in
theorem trimLeftByte_any (s : ByteArray) (w : World) (hs : s.size ≤ 1048576) : Calls Tryz.prog 230 #[.string s, .int .u8 48] w fun e w' => e = .returned (.string (mkL (trimZ s.data.toList))) ∧ w = w' := by
  go_enter Tryz.func230, Tryz.ntmps230
  go_wp2
  go_loop [0] (fun z => ∃ t : ByteArray, z = .string t ∧ t.size ≤ s.size ∧ Hid (trimZ s.data.toList = trimZ t.data.toList)) (fun z => match z with | .string t => t.size | _ => 0)
  case atStart => exact ⟨s, rfl, Nat.le_refl _, rfl⟩
  case round =>
    obtain ⟨t, rfl, ht, hT⟩ := hrel
    by_cases h1 : 0 < t.size
    · have hx : (t.extract 1 t.size).size = t.size - 1 := by rw [ByteArray.size_extract]; omega
      have HX := Lib.hid hx
      have hh := Lib.hid (trim_hit h1)
      have hm := Lib.hid (trim_miss h1)
      have h1' : (0 : Int) < (t.size : Int) := by omega
      have h1'' : (1 : Int) ≤ (t.size : Int) := by omega
      by_cases h2 : t[0] = 48
      · have hz : ((t[0].toNat : Int) == 48) = true := by rw [h2]; rfl
        have HH := Lib.hid (hT.out.trans (hh.out h2))
        clear hx h2 hh hm
        go_wp2
        go_round
        case rel => exact ⟨_, rfl, by rw [HX.out]; omega, HH⟩
        case measure => simp only [HX.out]; omega
      · have hz : ((t[0].toNat : Int) == 48) = false := by
          rw [beq_eq_false_iff_ne]; intro h
          exact h2 (UInt8.toNat_inj.1 (by show t[0].toNat = 48; omega))
        have HH := Lib.hid (show t = mkL (trimZ s.data.toList) by rw [hT.out, hm.out h2])
        clear hx h2 hh hm
        go_wp2
        go_ret
        exact ⟨by rw [← HH.out]; rfl, rfl⟩
    · have hle : (t.size : Int) ≤ 0 := by omega
      have HH := Lib.hid (show t = mkL (trimZ s.data.toList) by rw [hT.out, trim_nil h1])
      go_wp2
      go_ret
      exact ⟨by rw [← HH.out]; rfl, rfl⟩
set_option maxRecDepth 100000 in
theorem trimLeft_any (s : ByteArray) (w : World) (hs : s.size ≤ 1048576) : Calls Tryz.prog 206 #[.string s, .string ⟨#[48]⟩] w fun e w' => e = .returned (.string (mkL (trimZ s.data.toList))) ∧ w = w' := by
  by_cases h0 : s = ⟨#[]⟩
  · subst h0
    go_enter Tryz.func206, Tryz.ntmps206
    go_wp2
    go_ret
    exact ⟨rfl, rfl⟩
  · have hne : s.toList.isEmpty = false := by
      cases h : s.toList.isEmpty
      · rfl
      · rw [List.isEmpty_iff] at h
        exact absurd ((toList_nil_iff_emptyBytes s).1 h) h0
    clear h0
    go_enter Tryz.func206, Tryz.ntmps206
    go_wp2_with (go_at_call 230; refine (trimLeftByte_any s _ hs).mono ?_; rintro e w' ⟨rfl, rfl⟩)
    go_ret
    exact ⟨rfl, rfl⟩

theorem digI_in {s : ByteArray} {k : Nat} (h : k < s.size) (hlt : s.size - 1 - k < s.size) : ((s[s.size - 1 - k].toNat : Int) - 48) = digI s k := by
  unfold digI
  rw [if_pos h]
  have hi : s.size - 1 - k < s.data.toList.length := by have : s.data.toList.length = s.size := by simp
                                                        omega
  rw [List.getD_eq_getElem?_getD, List.getElem?_eq_getElem hi]
  simp; rfl
theorem dig_byte {s : ByteArray} (h : numOk s = true) (i : Nat) (hi : i < s.size) : 48 ≤ (s[i].toNat : Int) ∧ (s[i].toNat : Int) ≤ 57 := by
  simp only [numOk, Bool.and_eq_true, List.all_eq_true] at h
  have := h.1 s[i] (by simp [ByteArray.getElem_eq_getElem_data])
  simpa [isDig] using this
theorem num_len {s : ByteArray} (h : numOk s = true) : 1 ≤ s.size ∧ s.size ≤ 9 := by
  simp only [numOk, Bool.and_eq_true] at h
  have := inB_true.1 h.2.1
  omega
theorem digit_any (s : ByteArray) (k : Nat) (w : World) (h : numOk s = true) (hk : k ≤ 100) : Calls Tryz.prog 159 #[.string s, .int .i64 (k : Int)] w fun e w' => e = .returned (.int .i64 (digI s k)) ∧ w = w' := by
  have hp := num_len h
  by_cases hlt : k < s.size
  · have hlt2 : s.size - 1 - k < s.size := by omega
    have hb := dig_byte h (s.size - 1 - k) hlt2
    have hE := Lib.hid (digI_in hlt hlt2)
    have hi : ((s.size : Int) - 1 - (k : Int)).toNat = s.size - 1 - k := by omega
    have hi2 : ((s.size : Int) - 1 - (k : Int)) = ((s.size - 1 - k : Nat) : Int) := by omega
    generalize hx : s[s.size - 1 - k].toNat = x at *
    clear h
    go_enter Tryz.func159, Tryz.ntmps159
    go_wp2
    go_ret
    exact ⟨ret_int (by rw [← hE.out]; try omega), rfl⟩
  · have hge : (s.size : Int) ≤ (k : Int) := by omega
    have hE := Lib.hid (show 0 = digI s k by unfold digI; rw [if_neg hlt])
    clear h
    go_enter Tryz.func159, Tryz.ntmps159
    go_wp2
    go_ret
    exact ⟨ret_int hE.out, rfl⟩
end Go.Proofs.YtdngnmpmaacapaaGreatDoor
/-
  Contracts: columns: what is tested of them, of the program.
-/
namespace Go.Proofs.YtdngnmpmaacapaaGreatDoor
open Go.RowKit

theorem isDigit_val {n : Int} {b : Bool} (h : isD n = b) (w : World) : Calls Tryz.prog 221 #[.int .i64 n] w fun e w' => e = .returned (.bool b) ∧ w = w' := by
  have H := Lib.hid (show inB n 0 9 = b from h); clear h
  go_enter Tryz.func221, Tryz.ntmps221
  go_wp2_with (go_at_call 97; refine (in_val H.out _).mono ?_; rintro e w' ⟨rfl, rfl⟩)
  go_ret
  exact ⟨rfl, rfl⟩
set_option maxRecDepth 100000 in
theorem single_yes (c : Col) (h : single c = true) (w : World) : Calls Tryz.prog 217 #[.agg #[.int .i64 c.1, .int .i64 c.2.1, .int .i64 c.2.2.1, .int .i64 c.2.2.2.1, .int .i64 c.2.2.2.2]] w fun e w' => e = .returned (.bool true) ∧ Fr w.heap.size none w w' := by
  obtain ⟨a, b, i, d, o⟩ := c
  simp only [single, Bool.and_eq_true] at h
  obtain ⟨⟨⟨⟨h1, h2⟩, h3⟩, h4⟩, h5⟩ := h
  have H1 := Lib.hid h1; have H2 := Lib.hid h2; have H3 := Lib.hid h3; have H4 := Lib.hid h4; have H5 := Lib.hid h5
  clear h1 h2 h3 h4 h5
  dsimp only
  go_enter Tryz.func217, Tryz.ntmps217
  go_wp2_with fail
  refine (isDigit_val H1.out _).mono ?_; rintro e w' ⟨rfl, rfl⟩
  go_wp2_with fail
  refine (isDigit_val H2.out _).mono ?_; rintro e w' ⟨rfl, rfl⟩
  go_wp2_with fail
  refine (isDigit_val H3.out _).mono ?_; rintro e w' ⟨rfl, rfl⟩
  go_wp2_with fail
  refine (in_val H4.out _).mono ?_; rintro e w' ⟨rfl, rfl⟩
  go_wp2_with fail
  refine (in_val H5.out _).mono ?_; rintro e w' ⟨rfl, rfl⟩
  go_wp2
  go_ret
  exact ⟨rfl, (Fr.refl _ _ _).alloc (Nat.le_refl _) _⟩
theorem single_bd {c : Col} (h : single c = true) : (0 ≤ c.1 ∧ c.1 ≤ 9) ∧ (0 ≤ c.2.1 ∧ c.2.1 ≤ 9) ∧ (0 ≤ c.2.2.2.1 ∧ c.2.2.2.1 ≤ 9) ∧ (0 ≤ c.2.2.1 ∧ c.2.2.1 ≤ 1) ∧ (0 ≤ c.2.2.2.2 ∧ c.2.2.2.2 ≤ 1) := by
  simp only [single, isD, Bool.and_eq_true, inB_true] at h
  exact ⟨h.1.1.1.1, h.1.1.1.2, h.1.1.2, h.1.2, h.2⟩
set_option maxRecDepth 100000 in
theorem addGood_any (c : Col) (h : goodA c = true) (w : World) : Calls Tryz.prog 216 #[.agg #[.int .i64 c.1, .int .i64 c.2.1, .int .i64 c.2.2.1, .int .i64 c.2.2.2.1, .int .i64 c.2.2.2.2]] w fun e w' => e = .returned (.bool true) ∧ Fr w.heap.size none w w' := by
  simp only [goodA, Bool.and_eq_true, decide_eq_true_eq] at h
  have CS := Lib.hid (fun W => single_yes c h.1 W)
  have bd := single_bd h.1
  have he := h.2
  clear h
  obtain ⟨a, b, i, d, o⟩ := c
  dsimp only at *
  have hz : (a + b + i == d + 10 * o) = true := by rw [beq_iff_eq]; exact he
  clear he
  go_enter Tryz.func216, Tryz.ntmps216
  go_wp2_with fail
  refine (CS.out _).mono ?_; rintro e w2 ⟨rfl, hF2⟩
  have k0 : w2.cell? ⟨w.heap.size, 0, none⟩ = some (.int .i64 a) := (hF2.cell (by simp) (by simp)).trans (by go_simp)
  have k1 : w2.cell? ⟨w.heap.size, 1, none⟩ = some (.int .i64 b) := (hF2.cell (by simp) (by simp)).trans (by go_simp)
  have k2 : w2.cell? ⟨w.heap.size, 2, none⟩ = some (.int .i64 i) := (hF2.cell (by simp) (by simp)).trans (by go_simp)
  have k3 : w2.cell? ⟨w.heap.size, 3, none⟩ = some (.int .i64 d) := (hF2.cell (by simp) (by simp)).trans (by go_simp)
  have k4 : w2.cell? ⟨w.heap.size, 4, none⟩ = some (.int .i64 o) := (hF2.cell (by simp) (by simp)).trans (by go_simp)
  have F2 := Lib.hid (((Fr.refl w.heap.size none w).alloc (Nat.le_refl _) (.cells #[.int .i64 a, .int .i64 b, .int .i64 i, .int .i64 d, .int .i64 o] 149)).and hF2)
  clear hF2
  go_wp2
  go_ret
  exact ⟨rfl, F2.out⟩
/-- Each column is given what the one before carries on. -/
def Linked (cs : List Col) : Prop := ∀ k, k < cs.length → (cs.getD k noCol).2.2.1 = if k = 0 then 0 else (cs.getD (k - 1) noCol).2.2.2.2
theorem chain_linked (st : Nat → Int → Col) (h : ∀ k c, (st k c).2.2.1 = c) (n : Nat) : Linked (chain st n).1 := by
  intro k hk
  rw [chain_len] at hk
  rw [chain_get st n k hk, h]
  split
  · next h0 => subst h0; rfl
  · next h0 =>
    rw [chain_out st k (by omega), chain_get st n (k - 1) (by omega), chain_get st k (k - 1) (by omega)]
set_option maxHeartbeats 1000000 in
set_option maxRecDepth 100000 in
/-- No column is wrong. -/
theorem wrong_none (g : FuncId) (eg : ∀ args w, (callFunc g args).run Tryz.prog w = .ok (.enter g args) w) (a : Option Addr) (cap : Nat) (cs : List Col) (w : World) (hs : Sl w a (cols cs)) (hn : cs.length ≤ 100) (hl : Linked cs)
    (hg : ∀ k, k < cs.length → ∀ W, Calls Tryz.prog g #[.agg #[.int .i64 (cs.getD k noCol).1, .int .i64 (cs.getD k noCol).2.1, .int .i64 (cs.getD k noCol).2.2.1, .int .i64 (cs.getD k noCol).2.2.2.1, .int .i64 (cs.getD k noCol).2.2.2.2]] W fun e w' => e = .returned (.bool true) ∧ Fr W.heap.size none W w') :
    Calls Tryz.prog 215 #[.slice a cs.length cap, .func (.func g) #[] #[]] w fun e w' => e = .returned (.int .i64 (-1)) ∧ Fr w.heap.size none w w' := by
  have HS := Lib.hid hs; have HL := Lib.hid hl; have HG := Lib.hid hg; clear hs hl hg
  go_enter Tryz.func215, Tryz.ntmps215
  go_wp2
  go_loopw [5, 10] (fun v i wr => ∃ (k : Nat) (z : Int), k ≤ cs.length ∧ i = .int .i64 k ∧ v = .int .i64 z ∧ Hid (z = if k = 0 then 0 else (cs.getD (k - 1) noCol).2.2.2.2) ∧ Fr w.heap.size none w wr) (fun _ i _ => cs.length - (intOf i).toNat)
  case atStart => exact ⟨0, 0, Nat.zero_le _, rfl, rfl, rfl, Fr.refl _ _ _⟩
  case round =>
    obtain ⟨k, z, hk, rfl, rfl, hZ, hF⟩ := hrel
    have HF := Lib.hid hF; have hz1 := hF.size; clear hF
    by_cases hlt : k < cs.length
    · obtain ⟨b, off, rfl, c0, c1, c2, c3, c4⟩ := (HS.out.fr HF.out).col k hlt
      have CG := Lib.hid (HG.out k hlt)
      have e1 := HL.out k hlt
      rw [← hZ.out] at e1
      have e2 := Lib.hid (show (cs.getD k noCol).2.2.2.2 = if k + 1 = 0 then 0 else (cs.getD (k + 1 - 1) noCol).2.2.2.2 by rw [if_neg (by omega), show k + 1 - 1 = k by omega])
      obtain ⟨c, hc⟩ : ∃ c, cs.getD k noCol = c := ⟨_, rfl⟩
      rw [hc] at CG e1 c0 c1 c2 c3 c4
      have e3 := Lib.hid (show c.2.2.2.2 = if k + 1 = 0 then 0 else (cs.getD (k + 1 - 1) noCol).2.2.2.2 by rw [← hc]; exact e2.out)
      clear e2 hc
      obtain ⟨x1, x2, x3, x4, x5⟩ := c
      dsimp only at *
      subst e1
      have hzz : (x3 != x3) = false := by simp
      have k0 : (0 : Int) ≤ (k : Int) := by omega
      have k1 : (k : Int) < (cs.length : Int) := by omega
      clear hZ
      go_wp2_with fail
      refine (CG.out _).mono ?_; rintro e w2 ⟨rfl, hF2⟩
      have d4 : w2.cell? ⟨wr.heap.size, 4, none⟩ = some (.int .i64 x5) := (hF2.cell (by simp) (by simp)).trans (by go_simp)
      have F2 := Lib.hid ((HF.out.alloc hz1 (.cells #[.int .i64 x1, .int .i64 x2, .int .i64 x3, .int .i64 x4, .int .i64 x5] 149)).and hF2)
      clear hF2 c0 c1 c2 c3 c4
      go_wp2
      go_roundw
      case rel => exact ⟨k + 1, x5, by omega, by go_num, rfl, e3, F2.out⟩
      case measure => simp [intOf]; omega
    · have hge : (cs.length : Int) ≤ (k : Int) := by omega
      go_wp2
      go_ret
      exact ⟨rfl, HF.out⟩
theorem wrongColumn_none (a : Option Addr) (cap : Nat) (cs : List Col) (w : World) (hs : Sl w a (cols cs)) (hn : cs.length ≤ 9) (hl : Linked cs) (hg : ∀ k, k < cs.length → goodA (cs.getD k noCol) = true) :
    Calls Tryz.prog 183 #[.slice a cs.length cap] w fun e w' => e = .returned (.int .i64 (-1)) ∧ Fr w.heap.size none w w' := by
  have HE := Lib.hid (enters_by (P := Tryz.prog) Tryz.func216 (by kernel_rfl) rfl)
  have CW := Lib.hid (fun W hS => wrong_none 216 HE.out a cap cs W hS (by omega) hl (fun k hk W2 => addGood_any _ (hg k hk) W2))
  have HS := Lib.hid hs; clear hs
  go_enter Tryz.func183, Tryz.ntmps183
  go_wp2_with (go_at_call 215; refine (CW.out _ HS.out).mono ?_; rintro e w' ⟨rfl, hF⟩)
  go_ret
  exact ⟨rfl, hF⟩
end Go.Proofs.YtdngnmpmaacapaaGreatDoor
/-
  Contracts: AddedOf, TakenOf and RowOf of the program: transcripts as lists of columns.
-/
namespace Go.Proofs.YtdngnmpmaacapaaGreatDoor
open Go.RowKit

theorem infoCol : (Tryz.prog.info? 149).map (fun i => (i.zero, i.size, i.bytes)) = some (some (.agg #[.int .i64 0, .int .i64 0, .int .i64 0, .int .i64 0, .int .i64 0]), 5, 40) := by kernel_rfl
theorem app_cols {w : World} {B : Nat} {v : Value} {xs : List Col} {c : Col} (h : w.ownsRow B 149 5 v (xs.length + 1) (cols xs ++ [.int .i64 c.1, .int .i64 c.2.1, .int .i64 c.2.2.1, .int .i64 c.2.2.2.1, .int .i64 c.2.2.2.2])) :
    ∃ a cap, v = .slice a (xs ++ [c]).length cap ∧ w.ownsRow B 149 5 (.slice a (xs ++ [c]).length cap) (xs ++ [c]).length (cols (xs ++ [c])) := by
  obtain ⟨a, cap, rfl, _, _⟩ := own_slice h
  have e : (xs ++ [c]).length = xs.length + 1 := by simp
  have e2 : cols (xs ++ [c]) = cols xs ++ colF c := by rw [cols, rows_append, rows_one]; rfl
  exact ⟨a, cap, by rw [e], by rw [e, e2]; exact h⟩
theorem app_cols' {w : World} {B : Nat} {v : Value} {xs ys : List Col} {c1 c2 c3 c4 c5 : Int} (h : w.ownsRow B 149 5 v (xs.length + 1) (cols xs ++ [.int .i64 c1, .int .i64 c2, .int .i64 c3, .int .i64 c4, .int .i64 c5])) (e : xs ++ [(c1, c2, c3, c4, c5)] = ys) :
    ∃ a cap, v = .slice a ys.length cap ∧ w.ownsRow B 149 5 (.slice a ys.length cap) ys.length (cols ys) := by
  subst e; exact app_cols (c := (c1, c2, c3, c4, c5)) h
theorem clipC_any (a : Option Addr) (cap n : Nat) (w : World) (hn : n ≤ cap) (hc : cap ≤ 9223372036854775807) :
    Calls Tryz.prog 185 #[.slice a n cap] w fun e w' => e = .returned (.slice a n n) ∧ w = w' := by
  go_enter Tryz.func185, Tryz.ntmps185
  go_wp2
  go_ret
  exact ⟨rfl, rfl⟩
/-- A new slice of columns. -/
def NewC (cs : List Col) (w : World) (e : Ending) (w' : World) : Prop := ∃ a cap, e = .returned (.slice a cs.length cap) ∧ Sl w' a (cols cs) ∧ Fr w.heap.size none w w'
theorem newC_of {xs cs : List Col} {w w' : World} {a : Option Addr} {cap : Nat} (h : xs = cs) (hs : Sl w' a (cols xs)) (hF : Fr w.heap.size none w w') : NewC cs w (.returned (.slice a xs.length cap)) w' := by
  subst h; exact ⟨a, cap, rfl, hs, hF⟩
theorem add_step {s t : ByteArray} {k : Nat} {l : List Col} {c d1 d2 : Int} (h : chain (addS s t) k = (l, c)) (h1 : digI s k = d1) (h2 : digI t k = d2) : chain (addS s t) (k + 1) = (l ++ [(d1, d2, c, (d1 + d2 + c) % 10, (d1 + d2 + c) / 10)], (d1 + d2 + c) / 10) := by
  subst h1; subst h2; simp only [chain, h]; rfl

set_option maxHeartbeats 4000000 in
set_option maxRecDepth 100000 in
theorem implAdded_any (s t : ByteArray) (w : World) (hs : numOk s = true) (ht : numOk t = true) :
    Calls Tryz.prog 150 #[.string s, .string t] w (NewC (sumC s t).1 w) := by
  have l1 := num_len hs; have l2 := num_len ht
  have N1 := Lib.hid hs; have N2 := Lib.hid ht
  have DS := Lib.hid (fun (k : Nat) W (hk : k ≤ 100) => digit_any s k W hs hk)
  have DT := Lib.hid (fun (k : Nat) W (hk : k ≤ 100) => digit_any t k W ht hk)
  have BS := Lib.hid (fun k => digI_bd hs k)
  have BT := Lib.hid (fun k => digI_bd ht k)
  have BC := Lib.hid (fun k => add_bd hs ht k)
  clear hs ht
  obtain ⟨n, hn⟩ : ∃ n, max s.size t.size = n := ⟨_, rfl⟩
  have hn2 : max (s.size : Int) (t.size : Int) = (n : Int) := by omega
  have hn9 : n ≤ 9 := by omega
  have HE := Lib.hid (show (chain (addS s t) n).1 = (sumC s t).1 by rw [← hn]; rfl)
  clear hn
  go_enter Tryz.func150, Tryz.ntmps150
  go_wp2_with fail
  refine (num_val (by omega) N1.out _).mono ?_; rintro e w' ⟨rfl, rfl⟩
  go_wp2_with fail
  refine (num_val (by omega) N2.out _).mono ?_; rintro e w' ⟨rfl, rfl⟩
  go_wp2
  go_loopw [5, 6, 24] (fun v ca i wr => ∃ (k : Nat) (l : List Col) (c : Int) (a : Option Addr) (cc : Nat), k ≤ n ∧ i = .int .i64 k ∧ ca = .int .i64 c ∧ v = .slice a l.length cc ∧ Hid (chain (addS s t) k = (l, c)) ∧ wr.ownsRow w.heap.size 149 5 (.slice a l.length cc) l.length (cols l) ∧ Fr w.heap.size none w wr) (fun _ _ i _ => n - (intOf i).toNat)
  case atStart => exact ⟨0, [], 0, none, 0, Nat.zero_le _, rfl, rfl, rfl, rfl, World.ownsRow_nil _ _ _ _, Fr.refl _ _ _⟩
  case round =>
    obtain ⟨k, l, c, a, cc, hk, rfl, rfl, rfl, hC, ho, hF⟩ := hrel
    have HO := Lib.hid ho; have HF := Lib.hid hF; have hz := hF.size; clear ho hF
    have bc := BC.out k
    have hl := chain_len (addS s t) k
    rw [hC.out] at bc hl
    dsimp only at bc hl
    have hl9 : l.length ≤ 9 := by omega
    have HL := Lib.hid hl
    clear hl
    by_cases hlt : k < n
    · have bs := BS.out k; have bt := BT.out k
      have ds := Lib.hid (fun W => DS.out k W (by omega))
      have dt := Lib.hid (fun W => DT.out k W (by omega))
      have hst := Lib.hid (fun d1 d2 h1 h2 => add_step (d1 := d1) (d2 := d2) hC.out h1 h2)
      obtain ⟨d1, h1⟩ : ∃ d, digI s k = d := ⟨_, rfl⟩
      obtain ⟨d2, h2⟩ : ∃ d, digI t k = d := ⟨_, rfl⟩
      have e0 := Lib.hid (hst.out d1 d2 h1 h2)
      rw [h1] at ds bs
      rw [h2] at dt bt
      clear hst h1 h2
      have b4 : 0 ≤ (d1 + d2 + c) % 10 ∧ (d1 + d2 + c) % 10 ≤ 9 := by omega
      have b5 : 0 ≤ (d1 + d2 + c) / 10 ∧ (d1 + d2 + c) / 10 ≤ 1 := by omega
      obtain ⟨x4, h4⟩ : ∃ z, (d1 + d2 + c) % 10 = z := ⟨_, rfl⟩
      obtain ⟨x5, h5⟩ : ∃ z, (d1 + d2 + c) / 10 = z := ⟨_, rfl⟩
      rw [h4, h5] at e0
      rw [h4] at b4
      rw [h5] at b5
      obtain ⟨l2, hl2⟩ : ∃ z, l ++ [(d1, d2, c, x4, x5)] = z := ⟨_, rfl⟩
      have HL2 := Lib.hid hl2
      have e1 := e0.out
      rw [hl2] at e1
      have E1 := Lib.hid e1
      clear e0 e1 hl2
      have k0 : (0 : Int) ≤ (k : Int) := by omega
      have hlt' : (k : Int) < (n : Int) := by omega
      go_wp2_with fail
      refine (ds.out _).mono ?_; rintro e w' ⟨rfl, rfl⟩
      go_wp2_with fail
      refine (dt.out _).mono ?_; rintro e w' ⟨rfl, rfl⟩
      go_wp2_with (at_builtin; refine app1 126 149 (.agg #[.int .i64 0, .int .i64 0, .int .i64 0, .int .i64 0, .int .i64 0]) 5 40 Tryz.underlying126 infoCol rfl (by decide) (by decide) rfl _ _ rfl [.int .i64 d1, .int .i64 d2, .int .i64 c, .int .i64 x4, .int .i64 x5] HO.out rfl rfl rfl (by simp [Value.oneCell']) (by omega) hz ?_; intro v' w' ho' hF'; (
        have F2 := Lib.hid (app_frame HF.out HO.out hF' hz)
        obtain ⟨a', c', rfl, ho3⟩ := app_cols' ho' HL2.out
        have O3 := Lib.hid ho3
        clear ho' hF' ho3))
      go_roundw
      case rel => exact ⟨k + 1, l2, x5, a', c', by omega, by go_num, by first | rfl | rw [h5], rfl, E1, O3.out, F2.out⟩
      case measure => simp [intOf]; omega
    · have hke : k = n := by omega
      have hE := Lib.hid (show l = (sumC s t).1 by rw [← HE.out, ← hke, hC.out])
      have hge : (n : Int) ≤ (k : Int) := by omega
      obtain ⟨a2, c2, hv, hcap, hcm⟩ := own_slice HO.out
      cases hv
      unfold maxLen at hcm
      clear hke
      go_wp2_with (go_at_call 185; refine (clipC_any _ _ _ _ hcap (by omega)).mono ?_; rintro e w' ⟨rfl, rfl⟩)
      go_ret
      exact newC_of hE.out (own_sl HO.out) HF.out
end Go.Proofs.YtdngnmpmaacapaaGreatDoor
/-
  Contracts: TakenOf and RowOf of the program: transcripts as lists of columns.
-/
namespace Go.Proofs.YtdngnmpmaacapaaGreatDoor
open Go.RowKit

theorem tak_lt {s t : ByteArray} {k : Nat} {l : List Col} {c d1 d2 : Int} (h : chain (takS s t) k = (l, c)) (h1 : digI s k = d1) (h2 : digI t k = d2) (hn : d1 - d2 - c < 0) : chain (takS s t) (k + 1) = (l ++ [(d1, d2, c, d1 - d2 - c + 10, 1)], 1) := by
  subst h1; subst h2; simp only [chain, h, takS]; simp [hn]
theorem tak_ge {s t : ByteArray} {k : Nat} {l : List Col} {c d1 d2 : Int} (h : chain (takS s t) k = (l, c)) (h1 : digI s k = d1) (h2 : digI t k = d2) (hn : ¬ d1 - d2 - c < 0) : chain (takS s t) (k + 1) = (l ++ [(d1, d2, c, d1 - d2 - c, 0)], 0) := by
  subst h1; subst h2; simp only [chain, h, takS]; simp [hn]
theorem row_step {s : ByteArray} {b : Int} {k : Nat} {l : List Col} {c d1 : Int} (h : chain (rowS s b) k = (l, c)) (h1 : digI s k = d1) : chain (rowS s b) (k + 1) = (l ++ [(d1, b, c, (d1 * b + c) % 10, (d1 * b + c) / 10)], (d1 * b + c) / 10) := by
  subst h1; simp only [chain, h]; rfl

set_option maxHeartbeats 4000000 in
set_option maxRecDepth 100000 in
theorem implTaken_any (s t : ByteArray) (w : World) (hs : numOk s = true) (ht : numOk t = true) (hord : 0 ≤ ordI s t) :
    Calls Tryz.prog 152 #[.string s, .string t] w (NewC (takC s t).1 w) := by
  have l1 := num_len hs; have l2 := num_len ht
  have CO := Lib.hid (fun W => implOrder_any s t W (by omega) (by omega))
  have DS := Lib.hid (fun (k : Nat) W (hk : k ≤ 100) => digit_any s k W hs hk)
  have DT := Lib.hid (fun (k : Nat) W (hk : k ≤ 100) => digit_any t k W ht hk)
  have BS := Lib.hid (fun k => digI_bd hs k)
  have BT := Lib.hid (fun k => digI_bd ht k)
  have BC := Lib.hid (fun k => tak_bd (s := s) (t := t) k)
  clear hs ht
  have HE := Lib.hid (show (chain (takS s t) s.size).1 = (takC s t).1 from rfl)
  generalize ordI s t = o at *
  go_enter Tryz.func152, Tryz.ntmps152
  go_wp2_with fail
  refine (CO.out _).mono ?_; rintro e w' ⟨rfl, rfl⟩
  go_wp2
  go_loopw [5, 6, 15] (fun v ca i wr => ∃ (k : Nat) (l : List Col) (c : Int) (a : Option Addr) (cc : Nat), k ≤ s.size ∧ i = .int .i64 k ∧ ca = .int .i64 c ∧ v = .slice a l.length cc ∧ Hid (chain (takS s t) k = (l, c)) ∧ wr.ownsRow w.heap.size 149 5 (.slice a l.length cc) l.length (cols l) ∧ Fr w.heap.size none w wr) (fun _ _ i _ => s.size - (intOf i).toNat)
  case atStart => exact ⟨0, [], 0, none, 0, Nat.zero_le _, rfl, rfl, rfl, rfl, World.ownsRow_nil _ _ _ _, Fr.refl _ _ _⟩
  case round =>
    obtain ⟨k, l, c, a, cc, hk, rfl, rfl, rfl, hC, ho, hF⟩ := hrel
    have HO := Lib.hid ho; have HF := Lib.hid hF; have hz := hF.size; clear ho hF
    have bc := BC.out k
    have hl := chain_len (takS s t) k
    rw [hC.out] at bc hl
    dsimp only at bc hl
    have hl9 : l.length ≤ 9 := by omega
    have HL := Lib.hid hl
    clear hl
    by_cases hlt : k < s.size
    · have bs := BS.out k; have bt := BT.out k
      have ds := Lib.hid (fun W => DS.out k W (by omega))
      have dt := Lib.hid (fun W => DT.out k W (by omega))
      have hs1 := Lib.hid (fun d1 d2 h1 h2 hn => tak_lt (d1 := d1) (d2 := d2) hC.out h1 h2 hn)
      have hs2 := Lib.hid (fun d1 d2 h1 h2 hn => tak_ge (d1 := d1) (d2 := d2) hC.out h1 h2 hn)
      obtain ⟨d1, h1⟩ : ∃ d, digI s k = d := ⟨_, rfl⟩
      obtain ⟨d2, h2⟩ : ∃ d, digI t k = d := ⟨_, rfl⟩
      have t1 := Lib.hid (hs1.out d1 d2 h1 h2)
      have t2 := Lib.hid (hs2.out d1 d2 h1 h2)
      rw [h1] at ds bs
      rw [h2] at dt bt
      clear hs1 hs2 h1 h2
      have k0 : (0 : Int) ≤ (k : Int) := by omega
      have hlt' : (k : Int) < (s.size : Int) := by omega
      by_cases hneg : d1 - d2 - c < 0
      · have e0 := Lib.hid (t1.out hneg)
        clear t1 t2
        obtain ⟨x4, h4⟩ : ∃ z, d1 - d2 - c + 10 = z := ⟨_, rfl⟩
        have e0 := Lib.hid (show chain (takS s t) (k + 1) = (l ++ [(d1, d2, c, x4, 1)], 1) by rw [← h4]; exact e0.out)
        obtain ⟨l2, hl2⟩ : ∃ z, l ++ [(d1, d2, c, x4, 1)] = z := ⟨_, rfl⟩
        have HL2 := Lib.hid hl2
        have e1 := e0.out
        rw [hl2] at e1
        have E1 := Lib.hid e1
        clear e0 e1 hl2
        go_wp2_with fail
        refine (ds.out _).mono ?_; rintro e w' ⟨rfl, rfl⟩
        go_wp2_with fail
        refine (dt.out _).mono ?_; rintro e w' ⟨rfl, rfl⟩
        go_wp2_with (at_builtin; refine app1g 126 149 (.agg #[.int .i64 0, .int .i64 0, .int .i64 0, .int .i64 0, .int .i64 0]) 5 40 Tryz.underlying126 infoCol rfl (by decide) (by decide) rfl _ _ rfl [.int .i64 d1, .int .i64 d2, .int .i64 c, .int .i64 x4, .int .i64 1] (HO.out.alloc _) rfl _ (by simp) rfl rfl (by simp [Value.oneCell']) (by omega) (by simp; omega) ?_; intro v' w' ho' hF'; (
          have F2 := Lib.hid (app_frame (HF.out.alloc hz _) (HO.out.alloc _) hF' (by simp; omega))
          obtain ⟨a', c', rfl, ho3⟩ := app_cols' ho' HL2.out
          have O3 := Lib.hid ho3
          clear ho' hF' ho3))
        go_roundw
        case rel => exact ⟨k + 1, l2, 1, a', c', by omega, by go_num, rfl, rfl, E1, O3.out, F2.out⟩
        case measure => simp [intOf]; omega
      · have e0 := Lib.hid (t2.out hneg)
        clear t1 t2
        obtain ⟨x4, h4⟩ : ∃ z, d1 - d2 - c = z := ⟨_, rfl⟩
        have e0 := Lib.hid (show chain (takS s t) (k + 1) = (l ++ [(d1, d2, c, x4, 0)], 0) by rw [← h4]; exact e0.out)
        obtain ⟨l2, hl2⟩ : ∃ z, l ++ [(d1, d2, c, x4, 0)] = z := ⟨_, rfl⟩
        have HL2 := Lib.hid hl2
        have e1 := e0.out
        rw [hl2] at e1
        have E1 := Lib.hid e1
        clear e0 e1 hl2
        go_wp2_with fail
        refine (ds.out _).mono ?_; rintro e w' ⟨rfl, rfl⟩
        go_wp2_with fail
        refine (dt.out _).mono ?_; rintro e w' ⟨rfl, rfl⟩
        go_wp2_with (at_builtin; refine app1g 126 149 (.agg #[.int .i64 0, .int .i64 0, .int .i64 0, .int .i64 0, .int .i64 0]) 5 40 Tryz.underlying126 infoCol rfl (by decide) (by decide) rfl _ _ rfl [.int .i64 d1, .int .i64 d2, .int .i64 c, .int .i64 x4, .int .i64 0] (HO.out.alloc _) rfl _ (by simp) rfl rfl (by simp [Value.oneCell']) (by omega) (by simp; omega) ?_; intro v' w' ho' hF'; (
          have F2 := Lib.hid (app_frame (HF.out.alloc hz _) (HO.out.alloc _) hF' (by simp; omega))
          obtain ⟨a', c', rfl, ho3⟩ := app_cols' ho' HL2.out
          have O3 := Lib.hid ho3
          clear ho' hF' ho3))
        go_roundw
        case rel => exact ⟨k + 1, l2, 0, a', c', by omega, by go_num, rfl, rfl, E1, O3.out, F2.out⟩
        case measure => simp [intOf]; omega
    · have hke : k = s.size := by omega
      have hE := Lib.hid (show l = (takC s t).1 by rw [← HE.out, ← hke, hC.out])
      have hge : (s.size : Int) ≤ (k : Int) := by omega
      obtain ⟨a2, c2, hv, hcap, hcm⟩ := own_slice HO.out
      cases hv
      unfold maxLen at hcm
      clear hke
      go_wp2_with (go_at_call 185; refine (clipC_any _ _ _ _ hcap (by omega)).mono ?_; rintro e w' ⟨rfl, rfl⟩)
      go_ret
      exact newC_of hE.out (own_sl HO.out) HF.out

set_option maxHeartbeats 4000000 in
set_option maxRecDepth 100000 in
theorem implRow_any (s : ByteArray) (b : Int) (w : World) (hs : numOk s = true) (hb : 0 ≤ b ∧ b ≤ 9) :
    Calls Tryz.prog 190 #[.string s, .int .i64 b] w (NewC (rowC s b).1 w) := by
  have l1 := num_len hs
  have N1 := Lib.hid hs
  have ND := Lib.hid (show isD b = true from inB_true.2 hb)
  have DS := Lib.hid (fun (k : Nat) W (hk : k ≤ 100) => digit_any s k W hs hk)
  have BS := Lib.hid (fun k => digI_bd hs k)
  have BC := Lib.hid (fun k => row_bd hs hb k)
  clear hs
  have HE := Lib.hid (show (chain (rowS s b) s.size).1 = (rowC s b).1 from rfl)
  go_enter Tryz.func190, Tryz.ntmps190
  go_wp2_with fail
  refine (num_val (by omega) N1.out _).mono ?_; rintro e w' ⟨rfl, rfl⟩
  go_wp2_with fail
  refine (isDigit_val ND.out _).mono ?_; rintro e w' ⟨rfl, rfl⟩
  go_wp2
  go_loopw [5, 6, 20] (fun v ca i wr => ∃ (k : Nat) (l : List Col) (c : Int) (a : Option Addr) (cc : Nat), k ≤ s.size ∧ i = .int .i64 k ∧ ca = .int .i64 c ∧ v = .slice a l.length cc ∧ Hid (chain (rowS s b) k = (l, c)) ∧ wr.ownsRow w.heap.size 149 5 (.slice a l.length cc) l.length (cols l) ∧ Fr w.heap.size none w wr) (fun _ _ i _ => s.size - (intOf i).toNat)
  case atStart => exact ⟨0, [], 0, none, 0, Nat.zero_le _, rfl, rfl, rfl, rfl, World.ownsRow_nil _ _ _ _, Fr.refl _ _ _⟩
  case round =>
    obtain ⟨k, l, c, a, cc, hk, rfl, rfl, rfl, hC, ho, hF⟩ := hrel
    have HO := Lib.hid ho; have HF := Lib.hid hF; have hz := hF.size; clear ho hF
    have bc := BC.out k
    have hl := chain_len (rowS s b) k
    rw [hC.out] at bc hl
    dsimp only at bc hl
    have hl9 : l.length ≤ 9 := by omega
    have HL := Lib.hid hl
    clear hl
    by_cases hlt : k < s.size
    · have bs := BS.out k
      have ds := Lib.hid (fun W => DS.out k W (by omega))
      have hst := Lib.hid (fun d1 h1 => row_step (d1 := d1) hC.out h1)
      obtain ⟨d1, h1⟩ : ∃ d, digI s k = d := ⟨_, rfl⟩
      have e0 := Lib.hid (hst.out d1 h1)
      rw [h1] at ds bs
      have bp := mul_le bs hb
      clear hst h1
      obtain ⟨p, hp⟩ : ∃ z, d1 * b = z := ⟨_, rfl⟩
      rw [hp] at e0 bp
      have b4 : 0 ≤ (p + c) % 10 ∧ (p + c) % 10 ≤ 9 := by omega
      have b5 : 0 ≤ (p + c) / 10 ∧ (p + c) / 10 ≤ 8 := by omega
      obtain ⟨x4, h4⟩ : ∃ z, (p + c) % 10 = z := ⟨_, rfl⟩
      obtain ⟨x5, h5⟩ : ∃ z, (p + c) / 10 = z := ⟨_, rfl⟩
      rw [h4, h5] at e0
      rw [h4] at b4
      rw [h5] at b5
      obtain ⟨l2, hl2⟩ : ∃ z, l ++ [(d1, b, c, x4, x5)] = z := ⟨_, rfl⟩
      have HL2 := Lib.hid hl2
      have e1 := e0.out
      rw [hl2] at e1
      have E1 := Lib.hid e1
      clear e0 e1 hl2
      have k0 : (0 : Int) ≤ (k : Int) := by omega
      have hlt' : (k : Int) < (s.size : Int) := by omega
      go_wp2_with fail
      refine (ds.out _).mono ?_; rintro e w' ⟨rfl, rfl⟩
      go_wp2_with (at_builtin; refine app1 126 149 (.agg #[.int .i64 0, .int .i64 0, .int .i64 0, .int .i64 0, .int .i64 0]) 5 40 Tryz.underlying126 infoCol rfl (by decide) (by decide) rfl _ _ rfl [.int .i64 d1, .int .i64 b, .int .i64 c, .int .i64 x4, .int .i64 x5] HO.out rfl rfl rfl (by simp [Value.oneCell']) (by omega) hz ?_; intro v' w' ho' hF'; (
        have F2 := Lib.hid (app_frame HF.out HO.out hF' hz)
        obtain ⟨a', c', rfl, ho3⟩ := app_cols' ho' HL2.out
        have O3 := Lib.hid ho3
        clear ho' hF' ho3))
      go_roundw
      case rel => exact ⟨k + 1, l2, x5, a', c', by omega, by go_num, by first | rfl | rw [h5] | (rw [hp, h5]), rfl, E1, O3.out, F2.out⟩
      case measure => simp [intOf]; omega
    · have hke : k = s.size := by omega
      have hE := Lib.hid (show l = (rowC s b).1 by rw [← HE.out, ← hke, hC.out])
      have hge : (s.size : Int) ≤ (k : Int) := by omega
      obtain ⟨a2, c2, hv, hcap, hcm⟩ := own_slice HO.out
      cases hv
      unfold maxLen at hcm
      clear hke
      go_wp2_with (go_at_call 185; refine (clipC_any _ _ _ _ hcap (by omega)).mono ?_; rintro e w' ⟨rfl, rfl⟩)
      go_ret
      exact newC_of hE.out (own_sl HO.out) HF.out
end Go.Proofs.YtdngnmpmaacapaaGreatDoor
/-
  Contracts: columns of the reference: DigitAt, AddedOf, what is tested.
-/
namespace Go.Proofs.YtdngnmpmaacapaaGreatDoor
open Go.RowKit

theorem digitAtX (s : ByteArray) (k : Nat) (w : World) (h : numOk s = true) (hk : k ≤ 100) : Calls Tryz.prog 133 #[.string s, .int .i64 (k : Int)] w fun e w' => e = .returned (.int .i64 (digI s k)) ∧ w = w' := by
  have hp := num_len h
  have H := Lib.hid h
  by_cases hlt : k < s.size
  · have hlt2 : s.size - 1 - k < s.size := by omega
    have hb := dig_byte h (s.size - 1 - k) hlt2
    have hE := Lib.hid (digI_in hlt hlt2)
    have hi : ((s.size : Int) - 1 - (k : Int)).toNat = s.size - 1 - k := by omega
    have hi2 : ((s.size : Int) - 1 - (k : Int)) = ((s.size - 1 - k : Nat) : Int) := by omega
    generalize hx : s[s.size - 1 - k].toNat = x at *
    clear h
    go_enter Tryz.func133, Tryz.ntmps133
    go_wp2_with (go_at_call 53; refine (numS_val (by omega) H.out _).mono ?_; rintro e w' ⟨rfl, rfl⟩)
    go_ret
    exact ⟨ret_int (by rw [← hE.out]; try omega), rfl⟩
  · have hge : (s.size : Int) ≤ (k : Int) := by omega
    have hE := Lib.hid (show 0 = digI s k by unfold digI; rw [if_neg hlt])
    clear h
    go_enter Tryz.func133, Tryz.ntmps133
    go_wp2_with (go_at_call 53; refine (numS_val (by omega) H.out _).mono ?_; rintro e w' ⟨rfl, rfl⟩)
    go_ret
    exact ⟨ret_int hE.out, rfl⟩
set_option maxRecDepth 100000 in
theorem l2Digits_yes (c : Col) (h : single c = true) (w : World) : Calls Tryz.prog 201 #[.agg #[.int .i64 c.1, .int .i64 c.2.1, .int .i64 c.2.2.1, .int .i64 c.2.2.2.1, .int .i64 c.2.2.2.2]] w fun e w' => e = .returned (.bool true) ∧ Fr w.heap.size none w w' := by
  obtain ⟨a, b, i, d, o⟩ := c
  simp only [single, isD, Bool.and_eq_true] at h
  obtain ⟨⟨⟨⟨h1, h2⟩, h3⟩, h4⟩, h5⟩ := h
  have H1 := Lib.hid h1; have H2 := Lib.hid h2; have H3 := Lib.hid h3; have H4 := Lib.hid h4; have H5 := Lib.hid h5
  clear h1 h2 h3 h4 h5
  dsimp only at *
  go_enter Tryz.func201, Tryz.ntmps201
  go_wp2_with fail
  refine (l1In_val H1.out _).mono ?_; rintro e w' ⟨rfl, rfl⟩
  go_wp2_with fail
  refine (l1In_val H2.out _).mono ?_; rintro e w' ⟨rfl, rfl⟩
  go_wp2_with fail
  refine (l1In_val H4.out _).mono ?_; rintro e w' ⟨rfl, rfl⟩
  go_wp2_with fail
  refine (l1In_val H3.out _).mono ?_; rintro e w' ⟨rfl, rfl⟩
  go_wp2_with fail
  refine (l1In_val H5.out _).mono ?_; rintro e w' ⟨rfl, rfl⟩
  go_wp2
  go_ret
  exact ⟨rfl, (Fr.refl _ _ _).alloc (Nat.le_refl _) _⟩
set_option maxHeartbeats 4000000 in
set_option maxRecDepth 100000 in
theorem specWrongColumn_none (a : Option Addr) (cap : Nat) (cs : List Col) (w : World) (hs : Sl w a (cols cs)) (hn : cs.length ≤ 9) (hl : Linked cs) (hg : ∀ k, k < cs.length → goodA (cs.getD k noCol) = true) :
    Calls Tryz.prog 164 #[.slice a cs.length cap] w fun e w' => e = .returned (.int .i64 (-1)) ∧ Fr w.heap.size none w w' := by
  have HS := Lib.hid hs; have HL := Lib.hid hl; have HG := Lib.hid hg; clear hs hl hg
  go_enter Tryz.func164, Tryz.ntmps164
  go_wp2
  go_loopw [3, 4] (fun v i wr => ∃ (k : Nat) (z : Int), k ≤ cs.length ∧ i = .int .i64 k ∧ v = .int .i64 z ∧ Hid (z = if k = 0 then 0 else (cs.getD (k - 1) noCol).2.2.2.2) ∧ Fr w.heap.size none w wr) (fun _ i _ => cs.length - (intOf i).toNat)
  case atStart => exact ⟨0, 0, Nat.zero_le _, rfl, rfl, rfl, Fr.refl _ _ _⟩
  case round =>
    obtain ⟨k, z, hk, rfl, rfl, hZ, hF⟩ := hrel
    have HF := Lib.hid hF; have hz1 := hF.size; clear hF
    by_cases hlt : k < cs.length
    · obtain ⟨b, off, rfl, c0, c1, c2, c3, c4⟩ := (HS.out.fr HF.out).col k hlt
      have gg := HG.out k hlt
      have e1 := HL.out k hlt
      rw [← hZ.out] at e1
      have e2 := Lib.hid (show (cs.getD k noCol).2.2.2.2 = if k + 1 = 0 then 0 else (cs.getD (k + 1 - 1) noCol).2.2.2.2 by rw [if_neg (by omega), show k + 1 - 1 = k by omega])
      obtain ⟨c, hc⟩ : ∃ c, cs.getD k noCol = c := ⟨_, rfl⟩
      rw [hc] at gg e1 c0 c1 c2 c3 c4
      have e3 := Lib.hid (show c.2.2.2.2 = if k + 1 = 0 then 0 else (cs.getD (k + 1 - 1) noCol).2.2.2.2 by rw [← hc]; exact e2.out)
      simp only [goodA, Bool.and_eq_true, decide_eq_true_eq] at gg
      have CG := Lib.hid (fun W => l2Digits_yes c gg.1 W)
      have bd := single_bd gg.1
      have he := gg.2
      clear e2 hc gg
      obtain ⟨x1, x2, x3, x4, x5⟩ := c
      dsimp only at *
      subst e1
      have hzz : (x3 != x3) = false := by simp
      have hyy : (x1 + x2 + x3 != x4 + 10 * x5) = false := by rw [he]; simp
      have k0 : (0 : Int) ≤ (k : Int) := by omega
      have k1 : (k : Int) < (cs.length : Int) := by omega
      clear hZ he
      go_wp2_with fail
      refine (CG.out _).mono ?_; rintro e w2 ⟨rfl, hF2⟩
      have d0 : w2.cell? ⟨wr.heap.size, 0, none⟩ = some (.int .i64 x1) := (hF2.cell (by simp) (by simp)).trans (by go_simp)
      have d1 : w2.cell? ⟨wr.heap.size, 1, none⟩ = some (.int .i64 x2) := (hF2.cell (by simp) (by simp)).trans (by go_simp)
      have d2 : w2.cell? ⟨wr.heap.size, 2, none⟩ = some (.int .i64 x3) := (hF2.cell (by simp) (by simp)).trans (by go_simp)
      have d3 : w2.cell? ⟨wr.heap.size, 3, none⟩ = some (.int .i64 x4) := (hF2.cell (by simp) (by simp)).trans (by go_simp)
      have d4 : w2.cell? ⟨wr.heap.size, 4, none⟩ = some (.int .i64 x5) := (hF2.cell (by simp) (by simp)).trans (by go_simp)
      have F2 := Lib.hid ((HF.out.alloc hz1 (.cells #[.int .i64 x1, .int .i64 x2, .int .i64 x3, .int .i64 x4, .int .i64 x5] 149)).and hF2)
      clear hF2 c0 c1 c2 c3 c4
      go_wp2
      go_roundw
      case rel => exact ⟨k + 1, x5, by omega, by go_num, rfl, e3, F2.out⟩
      case measure => simp [intOf]; omega
    · have hge : (cs.length : Int) ≤ (k : Int) := by omega
      go_wp2
      go_ret
      exact ⟨rfl, HF.out⟩
end Go.Proofs.YtdngnmpmaacapaaGreatDoor
/-
  Contracts: AddedOf, TakenOf and RowOf of the reference.
-/
namespace Go.Proofs.YtdngnmpmaacapaaGreatDoor
open Go.RowKit

set_option maxHeartbeats 4000000 in
set_option maxRecDepth 100000 in
theorem specAdded_any (s t : ByteArray) (w : World) (hs : numOk s = true) (ht : numOk t = true) :
    Calls Tryz.prog 127 #[.string s, .string t] w (NewC (sumC s t).1 w) := by
  have l1 := num_len hs; have l2 := num_len ht
  have N1 := Lib.hid hs; have N2 := Lib.hid ht
  have DS := Lib.hid (fun (k : Nat) W (hk : k ≤ 100) => digitAtX s k W hs hk)
  have DT := Lib.hid (fun (k : Nat) W (hk : k ≤ 100) => digitAtX t k W ht hk)
  have BS := Lib.hid (fun k => digI_bd hs k)
  have BT := Lib.hid (fun k => digI_bd ht k)
  have BC := Lib.hid (fun k => add_bd hs ht k)
  clear hs ht
  obtain ⟨n, hn⟩ : ∃ n, max s.size t.size = n := ⟨_, rfl⟩
  have hn2 : max (s.size : Int) (t.size : Int) = (n : Int) := by omega
  have hn9 : n ≤ 9 := by omega
  have HE := Lib.hid (show (chain (addS s t) n).1 = (sumC s t).1 by rw [← hn]; rfl)
  clear hn
  have O0 := Lib.hid (World.ownsRow_made (e := 149) (size := 5) (base := w.heap.size) w #[] 0 (Nat.le_refl _) (by simp [maxLen]) (by simp))
  have F0 := Lib.hid ((Fr.refl w.heap.size none w).alloc (Nat.le_refl _) (.cells #[] 149))
  go_enter Tryz.func127, Tryz.ntmps127
  go_wp2_with fail
  refine (numS_val (by omega) N1.out _).mono ?_; rintro e w' ⟨rfl, rfl⟩
  go_wp2_with fail
  refine (numS_val (by omega) N2.out _).mono ?_; rintro e w' ⟨rfl, rfl⟩
  go_wp2
  go_loopw [5, 6, 7] (fun v ca i wr => ∃ (k : Nat) (l : List Col) (c : Int) (a : Option Addr) (cc : Nat), k ≤ n ∧ i = .int .i64 k ∧ ca = .int .i64 c ∧ v = .slice a l.length cc ∧ Hid (chain (addS s t) k = (l, c)) ∧ wr.ownsRow w.heap.size 149 5 (.slice a l.length cc) l.length (cols l) ∧ Fr w.heap.size none w wr) (fun _ _ i _ => n - (intOf i).toNat)
  case atStart => exact ⟨0, [], 0, some ⟨w.heap.size, 0, none⟩, 0, Nat.zero_le _, rfl, rfl, rfl, rfl, O0.out, F0.out⟩
  case round =>
    obtain ⟨k, l, c, a, cc, hk, rfl, rfl, rfl, hC, ho, hF⟩ := hrel
    have HO := Lib.hid ho; have HF := Lib.hid hF; have hz := hF.size; clear ho hF
    have bc := BC.out k
    have hl := chain_len (addS s t) k
    rw [hC.out] at bc hl
    dsimp only at bc hl
    have hl9 : l.length ≤ 9 := by omega
    have HL := Lib.hid hl
    clear hl
    by_cases hlt : k < n
    · have bs := BS.out k; have bt := BT.out k
      have ds := Lib.hid (fun W => DS.out k W (by omega))
      have dt := Lib.hid (fun W => DT.out k W (by omega))
      have hst := Lib.hid (fun d1 d2 h1 h2 => add_step (d1 := d1) (d2 := d2) hC.out h1 h2)
      obtain ⟨d1, h1⟩ : ∃ d, digI s k = d := ⟨_, rfl⟩
      obtain ⟨d2, h2⟩ : ∃ d, digI t k = d := ⟨_, rfl⟩
      have e0 := Lib.hid (hst.out d1 d2 h1 h2)
      rw [h1] at ds bs
      rw [h2] at dt bt
      clear hst h1 h2
      have b4 : 0 ≤ (d1 + d2 + c) % 10 ∧ (d1 + d2 + c) % 10 ≤ 9 := by omega
      have b5 : 0 ≤ (d1 + d2 + c) / 10 ∧ (d1 + d2 + c) / 10 ≤ 1 := by omega
      obtain ⟨x4, h4⟩ : ∃ z, (d1 + d2 + c) % 10 = z := ⟨_, rfl⟩
      obtain ⟨x5, h5⟩ : ∃ z, (d1 + d2 + c) / 10 = z := ⟨_, rfl⟩
      rw [h4, h5] at e0
      rw [h4] at b4
      rw [h5] at b5
      obtain ⟨l2, hl2⟩ : ∃ z, l ++ [(d1, d2, c, x4, x5)] = z := ⟨_, rfl⟩
      have HL2 := Lib.hid hl2
      have e1 := e0.out
      rw [hl2] at e1
      have E1 := Lib.hid e1
      clear e0 e1 hl2
      have k0 : (0 : Int) ≤ (k : Int) := by omega
      have hlt' : (k : Int) < (n : Int) := by omega
      go_wp2_with fail
      refine (ds.out _).mono ?_; rintro e w' ⟨rfl, rfl⟩
      go_wp2_with fail
      refine (dt.out _).mono ?_; rintro e w' ⟨rfl, rfl⟩
      go_wp2_with (at_builtin; refine app1g 126 149 (.agg #[.int .i64 0, .int .i64 0, .int .i64 0, .int .i64 0, .int .i64 0]) 5 40 Tryz.underlying126 infoCol rfl (by decide) (by decide) rfl _ _ rfl [.int .i64 d1, .int .i64 d2, .int .i64 c, .int .i64 x4, .int .i64 x5] (HO.out.alloc _) rfl _ (by simp) rfl rfl (by simp [Value.oneCell']) (by omega) (by simp; omega) ?_; intro v' w' ho' hF'; (
        have F2 := Lib.hid (app_frame (HF.out.alloc hz _) (HO.out.alloc _) hF' (by simp; omega))
        obtain ⟨a', c', rfl, ho3⟩ := app_cols' ho' HL2.out
        have O3 := Lib.hid ho3
        clear ho' hF' ho3))
      go_roundw
      case rel => exact ⟨k + 1, l2, x5, a', c', by omega, by go_num, by first | rfl | rw [h5], rfl, E1, O3.out, F2.out⟩
      case measure => simp [intOf]; omega
    · have hke : k = n := by omega
      have hE := Lib.hid (show l = (sumC s t).1 by rw [← HE.out, ← hke, hC.out])
      have hge : (n : Int) ≤ (k : Int) := by omega
      clear hke
      go_wp2
      go_ret
      exact newC_of hE.out (own_sl HO.out) HF.out

set_option maxHeartbeats 4000000 in
set_option maxRecDepth 100000 in
theorem specTaken_any (s t : ByteArray) (w : World) (hs : numOk s = true) (ht : numOk t = true) (hord : 0 ≤ ordI s t) :
    Calls Tryz.prog 125 #[.string s, .string t] w (NewC (takC s t).1 w) := by
  have l1 := num_len hs; have l2 := num_len ht
  have CO := Lib.hid (fun W => specOrder_any s t W (by omega) (by omega))
  have DS := Lib.hid (fun (k : Nat) W (hk : k ≤ 100) => digitAtX s k W hs hk)
  have DT := Lib.hid (fun (k : Nat) W (hk : k ≤ 100) => digitAtX t k W ht hk)
  have BS := Lib.hid (fun k => digI_bd hs k)
  have BT := Lib.hid (fun k => digI_bd ht k)
  have BC := Lib.hid (fun k => tak_bd (s := s) (t := t) k)
  clear hs ht
  have HE := Lib.hid (show (chain (takS s t) s.size).1 = (takC s t).1 from rfl)
  generalize ordI s t = o at *
  have O0 := Lib.hid (World.ownsRow_made (e := 149) (size := 5) (base := w.heap.size) w #[] 0 (Nat.le_refl _) (by simp [maxLen]) (by simp))
  have F0 := Lib.hid ((Fr.refl w.heap.size none w).alloc (Nat.le_refl _) (.cells #[] 149))
  go_enter Tryz.func125, Tryz.ntmps125
  go_wp2_with fail
  refine (CO.out _).mono ?_; rintro e w' ⟨rfl, mo, rfl⟩
  go_wp2
  go_loopw [5, 6, 7] (fun v ca i wr => ∃ (k : Nat) (l : List Col) (c : Int) (a : Option Addr) (cc : Nat), k ≤ s.size ∧ i = .int .i64 k ∧ ca = .int .i64 c ∧ v = .slice a l.length cc ∧ Hid (chain (takS s t) k = (l, c)) ∧ wr.ownsRow w.heap.size 149 5 (.slice a l.length cc) l.length (cols l) ∧ Fr w.heap.size none w wr) (fun _ _ i _ => s.size - (intOf i).toNat)
  case atStart => exact ⟨0, [], 0, some ⟨w.heap.size, 0, none⟩, 0, Nat.zero_le _, rfl, rfl, rfl, rfl, own_drewN O0.out mo, F0.out.drewN mo⟩
  case round =>
    obtain ⟨k, l, c, a, cc, hk, rfl, rfl, rfl, hC, ho, hF⟩ := hrel
    have HO := Lib.hid ho; have HF := Lib.hid hF; have hz := hF.size; clear ho hF
    have bc := BC.out k
    have hl := chain_len (takS s t) k
    rw [hC.out] at bc hl
    dsimp only at bc hl
    have hl9 : l.length ≤ 9 := by omega
    have HL := Lib.hid hl
    clear hl
    by_cases hlt : k < s.size
    · have bs := BS.out k; have bt := BT.out k
      have ds := Lib.hid (fun W => DS.out k W (by omega))
      have dt := Lib.hid (fun W => DT.out k W (by omega))
      have hs1 := Lib.hid (fun d1 d2 h1 h2 hn => tak_lt (d1 := d1) (d2 := d2) hC.out h1 h2 hn)
      have hs2 := Lib.hid (fun d1 d2 h1 h2 hn => tak_ge (d1 := d1) (d2 := d2) hC.out h1 h2 hn)
      obtain ⟨d1, h1⟩ : ∃ d, digI s k = d := ⟨_, rfl⟩
      obtain ⟨d2, h2⟩ : ∃ d, digI t k = d := ⟨_, rfl⟩
      have t1 := Lib.hid (hs1.out d1 d2 h1 h2)
      have t2 := Lib.hid (hs2.out d1 d2 h1 h2)
      rw [h1] at ds bs
      rw [h2] at dt bt
      clear hs1 hs2 h1 h2
      have k0 : (0 : Int) ≤ (k : Int) := by omega
      have hlt' : (k : Int) < (s.size : Int) := by omega
      by_cases hneg : d1 - d2 - c < 0
      · have e0 := Lib.hid (t1.out hneg)
        clear t1 t2
        obtain ⟨x4, h4⟩ : ∃ z, d1 - d2 - c + 10 = z := ⟨_, rfl⟩
        have e0 := Lib.hid (show chain (takS s t) (k + 1) = (l ++ [(d1, d2, c, x4, 1)], 1) by rw [← h4]; exact e0.out)
        obtain ⟨l2, hl2⟩ : ∃ z, l ++ [(d1, d2, c, x4, 1)] = z := ⟨_, rfl⟩
        have HL2 := Lib.hid hl2
        have e1 := e0.out
        rw [hl2] at e1
        have E1 := Lib.hid e1
        clear e0 e1 hl2
        go_wp2_with fail
        refine (ds.out _).mono ?_; rintro e w' ⟨rfl, rfl⟩
        go_wp2_with fail
        refine (dt.out _).mono ?_; rintro e w' ⟨rfl, rfl⟩
        go_wp2_with (at_builtin; refine app1g 126 149 (.agg #[.int .i64 0, .int .i64 0, .int .i64 0, .int .i64 0, .int .i64 0]) 5 40 Tryz.underlying126 infoCol rfl (by decide) (by decide) rfl _ _ rfl [.int .i64 d1, .int .i64 d2, .int .i64 c, .int .i64 x4, .int .i64 1] (HO.out.alloc _) rfl _ (by simp) rfl rfl (by simp [Value.oneCell']) (by omega) (by simp; omega) ?_; intro v' w' ho' hF'; (
          have F2 := Lib.hid (app_frame (HF.out.alloc hz _) (HO.out.alloc _) hF' (by simp; omega))
          obtain ⟨a', c', rfl, ho3⟩ := app_cols' ho' HL2.out
          have O3 := Lib.hid ho3
          clear ho' hF' ho3))
        go_roundw
        case rel => exact ⟨k + 1, l2, 1, a', c', by omega, by go_num, rfl, rfl, E1, O3.out, F2.out⟩
        case measure => simp [intOf]; omega
      · have e0 := Lib.hid (t2.out hneg)
        clear t1 t2
        obtain ⟨x4, h4⟩ : ∃ z, d1 - d2 - c = z := ⟨_, rfl⟩
        have e0 := Lib.hid (show chain (takS s t) (k + 1) = (l ++ [(d1, d2, c, x4, 0)], 0) by rw [← h4]; exact e0.out)
        obtain ⟨l2, hl2⟩ : ∃ z, l ++ [(d1, d2, c, x4, 0)] = z := ⟨_, rfl⟩
        have HL2 := Lib.hid hl2
        have e1 := e0.out
        rw [hl2] at e1
        have E1 := Lib.hid e1
        clear e0 e1 hl2
        go_wp2_with fail
        refine (ds.out _).mono ?_; rintro e w' ⟨rfl, rfl⟩
        go_wp2_with fail
        refine (dt.out _).mono ?_; rintro e w' ⟨rfl, rfl⟩
        go_wp2_with (at_builtin; refine app1g 126 149 (.agg #[.int .i64 0, .int .i64 0, .int .i64 0, .int .i64 0, .int .i64 0]) 5 40 Tryz.underlying126 infoCol rfl (by decide) (by decide) rfl _ _ rfl [.int .i64 d1, .int .i64 d2, .int .i64 c, .int .i64 x4, .int .i64 0] (HO.out.alloc _) rfl _ (by simp) rfl rfl (by simp [Value.oneCell']) (by omega) (by simp; omega) ?_; intro v' w' ho' hF'; (
          have F2 := Lib.hid (app_frame (HF.out.alloc hz _) (HO.out.alloc _) hF' (by simp; omega))
          obtain ⟨a', c', rfl, ho3⟩ := app_cols' ho' HL2.out
          have O3 := Lib.hid ho3
          clear ho' hF' ho3))
        go_roundw
        case rel => exact ⟨k + 1, l2, 0, a', c', by omega, by go_num, rfl, rfl, E1, O3.out, F2.out⟩
        case measure => simp [intOf]; omega
    · have hke : k = s.size := by omega
      have hE := Lib.hid (show l = (takC s t).1 by rw [← HE.out, ← hke, hC.out])
      have hge : (s.size : Int) ≤ (k : Int) := by omega
      clear hke
      go_wp2
      go_ret
      exact newC_of hE.out (own_sl HO.out) HF.out


set_option maxHeartbeats 4000000 in
set_option maxRecDepth 100000 in
theorem specRow_any (s : ByteArray) (b : Int) (w : World) (hs : numOk s = true) (hb : 0 ≤ b ∧ b ≤ 9) :
    Calls Tryz.prog 166 #[.string s, .int .i64 b] w (NewC (rowC s b).1 w) := by
  have l1 := num_len hs
  have N1 := Lib.hid hs
  have ND := Lib.hid (show isD b = true from inB_true.2 hb)
  have DS := Lib.hid (fun (k : Nat) W (hk : k ≤ 100) => digitAtX s k W hs hk)
  have BS := Lib.hid (fun k => digI_bd hs k)
  have BC := Lib.hid (fun k => row_bd hs hb k)
  clear hs
  have HE := Lib.hid (show (chain (rowS s b) s.size).1 = (rowC s b).1 from rfl)
  have O0 := Lib.hid (World.ownsRow_made (e := 149) (size := 5) (base := w.heap.size) w #[] 0 (Nat.le_refl _) (by simp [maxLen]) (by simp))
  have F0 := Lib.hid ((Fr.refl w.heap.size none w).alloc (Nat.le_refl _) (.cells #[] 149))
  go_enter Tryz.func166, Tryz.ntmps166
  go_wp2
  go_loopw [5, 6, 7] (fun v ca i wr => ∃ (k : Nat) (l : List Col) (c : Int) (a : Option Addr) (cc : Nat), k ≤ s.size ∧ i = .int .i64 k ∧ ca = .int .i64 c ∧ v = .slice a l.length cc ∧ Hid (chain (rowS s b) k = (l, c)) ∧ wr.ownsRow w.heap.size 149 5 (.slice a l.length cc) l.length (cols l) ∧ Fr w.heap.size none w wr) (fun _ _ i _ => s.size - (intOf i).toNat)
  case atStart => exact ⟨0, [], 0, some ⟨w.heap.size, 0, none⟩, 0, Nat.zero_le _, rfl, rfl, rfl, rfl, O0.out, F0.out⟩
  case round =>
    obtain ⟨k, l, c, a, cc, hk, rfl, rfl, rfl, hC, ho, hF⟩ := hrel
    have HO := Lib.hid ho; have HF := Lib.hid hF; have hz := hF.size; clear ho hF
    have bc := BC.out k
    have hl := chain_len (rowS s b) k
    rw [hC.out] at bc hl
    dsimp only at bc hl
    have hl9 : l.length ≤ 9 := by omega
    have HL := Lib.hid hl
    clear hl
    by_cases hlt : k < s.size
    · have bs := BS.out k
      have ds := Lib.hid (fun W => DS.out k W (by omega))
      have hst := Lib.hid (fun d1 h1 => row_step (d1 := d1) hC.out h1)
      obtain ⟨d1, h1⟩ : ∃ d, digI s k = d := ⟨_, rfl⟩
      have e0 := Lib.hid (hst.out d1 h1)
      rw [h1] at ds bs
      have bp := mul_le bs hb
      clear hst h1
      obtain ⟨p, hp⟩ : ∃ z, d1 * b = z := ⟨_, rfl⟩
      rw [hp] at e0 bp
      have b4 : 0 ≤ (p + c) % 10 ∧ (p + c) % 10 ≤ 9 := by omega
      have b5 : 0 ≤ (p + c) / 10 ∧ (p + c) / 10 ≤ 8 := by omega
      obtain ⟨x4, h4⟩ : ∃ z, (p + c) % 10 = z := ⟨_, rfl⟩
      obtain ⟨x5, h5⟩ : ∃ z, (p + c) / 10 = z := ⟨_, rfl⟩
      rw [h4, h5] at e0
      rw [h4] at b4
      rw [h5] at b5
      obtain ⟨l2, hl2⟩ : ∃ z, l ++ [(d1, b, c, x4, x5)] = z := ⟨_, rfl⟩
      have HL2 := Lib.hid hl2
      have e1 := e0.out
      rw [hl2] at e1
      have E1 := Lib.hid e1
      clear e0 e1 hl2
      have k0 : (0 : Int) ≤ (k : Int) := by omega
      have hlt' : (k : Int) < (s.size : Int) := by omega
      go_wp2_with fail
      refine (numS_val (by omega) N1.out _).mono ?_; rintro e w' ⟨rfl, rfl⟩
      go_wp2_with fail
      refine (l1In_val ND.out _).mono ?_; rintro e w' ⟨rfl, rfl⟩
      go_wp2_with fail
      refine (ds.out _).mono ?_; rintro e w' ⟨rfl, rfl⟩
      go_wp2_with (at_builtin; refine app1g 126 149 (.agg #[.int .i64 0, .int .i64 0, .int .i64 0, .int .i64 0, .int .i64 0]) 5 40 Tryz.underlying126 infoCol rfl (by decide) (by decide) rfl _ _ rfl [.int .i64 d1, .int .i64 b, .int .i64 c, .int .i64 x4, .int .i64 x5] (HO.out.alloc _) rfl _ (by simp) rfl rfl (by simp [Value.oneCell']) (by omega) (by simp; omega) ?_; intro v' w' ho' hF'; (
        have F2 := Lib.hid (app_frame (HF.out.alloc hz _) (HO.out.alloc _) hF' (by simp; omega))
        obtain ⟨a', c', rfl, ho3⟩ := app_cols' ho' HL2.out
        have O3 := Lib.hid ho3
        clear ho' hF' ho3))
      go_roundw
      case rel => exact ⟨k + 1, l2, x5, a', c', by omega, by go_num, by first | rfl | rw [h5] | (rw [hp, h5]), rfl, E1, O3.out, F2.out⟩
      case measure => simp [intOf]; omega
    · have hke : k = s.size := by omega
      have hE := Lib.hid (show l = (rowC s b).1 by rw [← HE.out, ← hke, hC.out])
      have hge : (s.size : Int) ≤ (k : Int) := by omega
      clear hke
      go_wp2
      go_ret
      exact newC_of hE.out (own_sl HO.out) HF.out
end Go.Proofs.YtdngnmpmaacapaaGreatDoor
/-
  Contracts: WrongTaken and WrongRow of the reference; WrongTaken of the program.
-/
namespace Go.Proofs.YtdngnmpmaacapaaGreatDoor
open Go.RowKit

/-- What the last column carries on. -/
def lastOut (cs : List Col) : Int := if cs.length = 0 then 0 else (cs.getD (cs.length - 1) noCol).2.2.2.2
def wtI (cs : List Col) : Int := if lastOut cs = 1 then (cs.length : Int) else -1
theorem chain_last (st : Nat → Int → Col) (n : Nat) : lastOut (chain st n).1 = (chain st n).2 := by
  unfold lastOut
  rw [chain_len]
  split
  · next h => subst h; rfl
  · next h => rw [← chain_out st n (by omega)]

set_option maxHeartbeats 4000000 in
set_option maxRecDepth 100000 in
theorem specWrongTaken_any (a : Option Addr) (cap : Nat) (cs : List Col) (w : World) (hs : Sl w a (cols cs)) (hn : cs.length ≤ 9) (hl : Linked cs) (hg : ∀ k, k < cs.length → goodT (cs.getD k noCol) = true) :
    Calls Tryz.prog 163 #[.slice a cs.length cap] w fun e w' => e = .returned (.int .i64 (wtI cs)) ∧ Fr w.heap.size none w w' := by
  have HS := Lib.hid hs; have HL := Lib.hid hl; have HG := Lib.hid hg; clear hs hl hg
  go_enter Tryz.func163, Tryz.ntmps163
  go_wp2
  go_loopw [3, 4] (fun v i wr => ∃ (k : Nat) (z : Int), k ≤ cs.length ∧ i = .int .i64 k ∧ v = .int .i64 z ∧ Hid (z = if k = 0 then 0 else (cs.getD (k - 1) noCol).2.2.2.2) ∧ Fr w.heap.size none w wr) (fun _ i _ => cs.length - (intOf i).toNat)
  case atStart => exact ⟨0, 0, Nat.zero_le _, rfl, rfl, rfl, Fr.refl _ _ _⟩
  case round =>
    obtain ⟨k, z, hk, rfl, rfl, hZ, hF⟩ := hrel
    have HF := Lib.hid hF; have hz1 := hF.size; clear hF
    by_cases hlt : k < cs.length
    · obtain ⟨b, off, rfl, c0, c1, c2, c3, c4⟩ := (HS.out.fr HF.out).col k hlt
      have gg := HG.out k hlt
      have e1 := HL.out k hlt
      rw [← hZ.out] at e1
      have e2 := Lib.hid (show (cs.getD k noCol).2.2.2.2 = if k + 1 = 0 then 0 else (cs.getD (k + 1 - 1) noCol).2.2.2.2 by rw [if_neg (by omega), show k + 1 - 1 = k by omega])
      obtain ⟨c, hc⟩ : ∃ c, cs.getD k noCol = c := ⟨_, rfl⟩
      rw [hc] at gg e1 c0 c1 c2 c3 c4
      have e3 := Lib.hid (show c.2.2.2.2 = if k + 1 = 0 then 0 else (cs.getD (k + 1 - 1) noCol).2.2.2.2 by rw [← hc]; exact e2.out)
      simp only [goodT, Bool.and_eq_true, decide_eq_true_eq] at gg
      have CG := Lib.hid (fun W => l2Digits_yes c gg.1 W)
      have bd := single_bd gg.1
      have he := gg.2
      clear e2 hc gg
      obtain ⟨x1, x2, x3, x4, x5⟩ := c
      dsimp only at *
      subst e1
      have hzz : (x3 != x3) = false := by simp
      have hyy : (x1 + 10 * x5 != x2 + x3 + x4) = false := by rw [he]; simp
      have k0 : (0 : Int) ≤ (k : Int) := by omega
      have k1 : (k : Int) < (cs.length : Int) := by omega
      clear hZ he
      go_wp2_with fail
      refine (CG.out _).mono ?_; rintro e w2 ⟨rfl, hF2⟩
      have d0 : w2.cell? ⟨wr.heap.size, 0, none⟩ = some (.int .i64 x1) := (hF2.cell (by simp) (by simp)).trans (by go_simp)
      have d1 : w2.cell? ⟨wr.heap.size, 1, none⟩ = some (.int .i64 x2) := (hF2.cell (by simp) (by simp)).trans (by go_simp)
      have d2 : w2.cell? ⟨wr.heap.size, 2, none⟩ = some (.int .i64 x3) := (hF2.cell (by simp) (by simp)).trans (by go_simp)
      have d3 : w2.cell? ⟨wr.heap.size, 3, none⟩ = some (.int .i64 x4) := (hF2.cell (by simp) (by simp)).trans (by go_simp)
      have d4 : w2.cell? ⟨wr.heap.size, 4, none⟩ = some (.int .i64 x5) := (hF2.cell (by simp) (by simp)).trans (by go_simp)
      have F2 := Lib.hid ((HF.out.alloc hz1 (.cells #[.int .i64 x1, .int .i64 x2, .int .i64 x3, .int .i64 x4, .int .i64 x5] 149)).and hF2)
      clear hF2 c0 c1 c2 c3 c4
      go_wp2
      go_roundw
      case rel => exact ⟨k + 1, x5, by omega, by go_num, rfl, e3, F2.out⟩
      case measure => simp [intOf]; omega
    · have hke : k = cs.length := by omega
      have hzz := Lib.hid (show z = lastOut cs by rw [hZ.out, hke]; rfl)
      have hge : (cs.length : Int) ≤ (k : Int) := by omega
      clear hke hZ
      by_cases h1 : z = 1
      · have hb : (z == 1) = true := by rw [beq_iff_eq]; exact h1
        have hr := Lib.hid (show (cs.length : Int) = wtI cs by unfold wtI; rw [if_pos (by rw [← hzz.out]; exact h1)])
        clear h1
        go_wp2
        go_ret
        exact ⟨ret_int hr.out, HF.out⟩
      · have hb : (z == 1) = false := by rw [beq_eq_false_iff_ne]; exact h1
        have hr := Lib.hid (show -1 = wtI cs by unfold wtI; rw [if_neg (by rw [← hzz.out]; exact h1)])
        clear h1
        go_wp2
        go_ret
        exact ⟨ret_int hr.out, HF.out⟩

set_option maxRecDepth 100000 in
theorem takGood_any (c : Col) (h : goodT c = true) (w : World) : Calls Tryz.prog 218 #[.agg #[.int .i64 c.1, .int .i64 c.2.1, .int .i64 c.2.2.1, .int .i64 c.2.2.2.1, .int .i64 c.2.2.2.2]] w fun e w' => e = .returned (.bool true) ∧ Fr w.heap.size none w w' := by
  simp only [goodT, Bool.and_eq_true, decide_eq_true_eq] at h
  have CS := Lib.hid (fun W => single_yes c h.1 W)
  have bd := single_bd h.1
  have he := h.2
  clear h
  obtain ⟨a, b, i, d, o⟩ := c
  dsimp only at *
  have hz : (a + 10 * o == b + i + d) = true := by rw [beq_iff_eq]; exact he
  clear he
  go_enter Tryz.func218, Tryz.ntmps218
  go_wp2_with fail
  refine (CS.out _).mono ?_; rintro e w2 ⟨rfl, hF2⟩
  have k0 : w2.cell? ⟨w.heap.size, 0, none⟩ = some (.int .i64 a) := (hF2.cell (by simp) (by simp)).trans (by go_simp)
  have k1 : w2.cell? ⟨w.heap.size, 1, none⟩ = some (.int .i64 b) := (hF2.cell (by simp) (by simp)).trans (by go_simp)
  have k2 : w2.cell? ⟨w.heap.size, 2, none⟩ = some (.int .i64 i) := (hF2.cell (by simp) (by simp)).trans (by go_simp)
  have k3 : w2.cell? ⟨w.heap.size, 3, none⟩ = some (.int .i64 d) := (hF2.cell (by simp) (by simp)).trans (by go_simp)
  have k4 : w2.cell? ⟨w.heap.size, 4, none⟩ = some (.int .i64 o) := (hF2.cell (by simp) (by simp)).trans (by go_simp)
  have F2 := Lib.hid (((Fr.refl w.heap.size none w).alloc (Nat.le_refl _) (.cells #[.int .i64 a, .int .i64 b, .int .i64 i, .int .i64 d, .int .i64 o] 149)).and hF2)
  clear hF2
  go_wp2
  go_ret
  exact ⟨rfl, F2.out⟩
set_option maxRecDepth 100000 in
theorem implWrongTaken_any (a : Option Addr) (cap : Nat) (cs : List Col) (w : World) (hs : Sl w a (cols cs)) (hn : cs.length ≤ 9) (hl : Linked cs) (hg : ∀ k, k < cs.length → goodT (cs.getD k noCol) = true) :
    Calls Tryz.prog 186 #[.slice a cs.length cap] w fun e w' => e = .returned (.int .i64 (wtI cs)) ∧ Fr w.heap.size none w w' := by
  have HE := Lib.hid (enters_by (P := Tryz.prog) Tryz.func218 (by kernel_rfl) rfl)
  have CW := Lib.hid (fun W hS => wrong_none 218 HE.out a cap cs W hS (by omega) hl (fun k hk W2 => takGood_any _ (hg k hk) W2))
  have HS := Lib.hid hs; clear hs hg hl
  by_cases h0 : cs.length = 0
  · have hr := Lib.hid (show -1 = wtI cs by unfold wtI lastOut; rw [if_pos h0]; rfl)
    have hz : ¬ (0 : Int) < (cs.length : Int) := by omega
    have hz2 : (cs.length : Int) ≤ 0 := by omega
    clear h0
    go_enter Tryz.func186, Tryz.ntmps186
    go_wp2_with (go_at_call 215; refine (CW.out _ HS.out).mono ?_; rintro e w' ⟨rfl, hF⟩)
    go_ret
    exact ⟨ret_int hr.out, hF⟩
  · have hlt : cs.length - 1 < cs.length := by omega
    have hi : ((cs.length : Int) - 1) = ((cs.length - 1 : Nat) : Int) := by omega
    have hp : (0 : Int) < (cs.length : Int) := by omega
    have hlo : lastOut cs = (cs.getD (cs.length - 1) noCol).2.2.2.2 := by unfold lastOut; rw [if_neg h0]
    have hlo' := Lib.hid hlo
    clear hlo h0
    go_enter Tryz.func186, Tryz.ntmps186
    go_wp2_with fail
    refine (CW.out _ HS.out).mono ?_; rintro e w2 ⟨rfl, hF⟩
    have F2 := Lib.hid hF
    obtain ⟨b, off, rfl, c0, c1, c2, c3, c4⟩ := (HS.out.fr hF).col (cs.length - 1) hlt
    rw [← hlo'.out] at c4
    clear hF
    by_cases h1 : lastOut cs = 1
    · have hr := Lib.hid (show (cs.length : Int) = wtI cs by unfold wtI; rw [if_pos h1])
      rw [h1] at c4
      clear h1 hlo'
      generalize cs.length - 1 = q at *
      go_wp2
      go_ret
      exact ⟨ret_int hr.out, F2.out⟩
    · have hr := Lib.hid (show -1 = wtI cs by unfold wtI; rw [if_neg h1])
      have hb : (lastOut cs == 1) = false := by rw [beq_eq_false_iff_ne]; exact h1
      clear h1 hlo'
      generalize lastOut cs = z at *
      generalize cs.length - 1 = q at *
      go_wp2
      go_ret
      exact ⟨ret_int hr.out, F2.out⟩
end Go.Proofs.YtdngnmpmaacapaaGreatDoor
/-
  Contracts: Reverse of a slice of numbers, and plain: digits as a numeral.
-/
namespace Go.Proofs.YtdngnmpmaacapaaGreatDoor
open Go.RowKit

/-- A list behind i swaps from both ends. -/
def revTo (xs : List Int) (i : Nat) : List Int := (List.range xs.length).map fun p => if p < i ∨ xs.length ≤ p + i then xs.getD (xs.length - 1 - p) 0 else xs.getD p 0
theorem revTo_length (xs : List Int) (i : Nat) : (revTo xs i).length = xs.length := by simp [revTo]
theorem revTo_getD (xs : List Int) (i p : Nat) (hp : p < xs.length) : (revTo xs i).getD p 0 = if p < i ∨ xs.length ≤ p + i then xs.getD (xs.length - 1 - p) 0 else xs.getD p 0 := by
  simp [revTo, List.getD_eq_getElem?_getD, hp]
theorem revTo_zero (xs : List Int) : revTo xs 0 = xs := by
  apply List.ext_getElem
  · simp [revTo]
  · intro p h1 h2
    have : ¬ xs.length ≤ p := by omega
    simp [revTo, List.getD_eq_getElem?_getD, h2, this]
theorem revTo_end (xs : List Int) (i : Nat) (h : xs.length ≤ 2 * i + 1) : revTo xs i = xs.reverse := by
  apply List.ext_getElem
  · simp [revTo]
  · intro p h1 h2
    have hp : p < xs.length := by simpa [revTo] using h1
    have hq : xs.length - 1 - p < xs.length := by omega
    have e : xs.reverse[p] = xs[xs.length - 1 - p] := List.getElem_reverse h2
    rw [e]
    simp only [revTo, List.getElem_map, List.getElem_range]
    split
    · simp [List.getD_eq_getElem?_getD, hq]
    · have : p = xs.length - 1 - p := by omega
      simp only [List.getD_eq_getElem?_getD, List.getElem?_eq_getElem hp, Option.getD_some]
      congr 1
theorem revTo_step (xs : List Int) (i : Nat) (h : i < xs.length - 1 - i) : ((revTo xs i).set i (xs.getD (xs.length - 1 - i) 0)).set (xs.length - 1 - i) (xs.getD i 0) = revTo xs (i + 1) := by
  apply List.ext_getElem
  · simp [revTo]
  · intro p h1 h2
    have hp : p < xs.length := by simpa [revTo] using h2
    rw [List.getElem_set, List.getElem_set]
    simp only [revTo, List.getElem_map, List.getElem_range]
    by_cases c1 : xs.length - 1 - i = p
    · subst c1
      rw [if_pos rfl, if_pos (.inr (by omega)), show xs.length - 1 - (xs.length - 1 - i) = i by omega]
    · rw [if_neg c1]
      by_cases c2 : i = p
      · subst c2
        rw [if_pos rfl, if_pos (.inl (by omega))]
      · rw [if_neg c2]
        by_cases c3 : p < i ∨ xs.length ≤ p + i
        · rw [if_pos c3, if_pos (by omega)]
        · rw [if_neg c3, if_neg (by omega)]
theorem ints_set (xs : List Int) (i : Nat) (v : Int) : (ints xs).set i (.int .i64 v) = ints (xs.set i v) := by simp [ints, List.map_set]

set_option maxHeartbeats 2000000 in
set_option maxRecDepth 100000 in
theorem reverse_any (g cap : Nat) (xs : List Int) (w : World) (base : Nat) (ho : Own w base 3 1 (.slice (some ⟨g, 0, none⟩) xs.length cap) xs.length (ints xs)) (hn : xs.length ≤ 1048576) :
    Calls Tryz.prog 175 #[.slice (some ⟨g, 0, none⟩) xs.length cap] w fun e w' => e = .returned (.tuple #[]) ∧ Own w' base 3 1 (.slice (some ⟨g, 0, none⟩) xs.length cap) xs.length (ints xs.reverse) ∧ Fr w.heap.size (some g) w w' := by
  have HO := Lib.hid ho; clear ho
  go_enter Tryz.func175, Tryz.ntmps175
  go_wp2
  go_loopw [2, 3] (fun i j wr => ∃ k : Nat, k ≤ xs.length ∧ i = .int .i64 k ∧ j = .int .i64 ((xs.length : Int) - 1 - (k : Int)) ∧ Own wr base 3 1 (.slice (some ⟨g, 0, none⟩) xs.length cap) xs.length (ints (revTo xs k)) ∧ Fr w.heap.size (some g) w wr) (fun i _ _ => xs.length - (intOf i).toNat)
  case atStart => exact ⟨0, Nat.zero_le _, rfl, by go_num, by rw [revTo_zero]; exact HO.out, Fr.refl _ _ _⟩
  case round =>
    obtain ⟨k, hk, rfl, rfl, ho, hF⟩ := hrel
    have HO2 := Lib.hid ho; have HF := Lib.hid hF; clear ho hF
    by_cases hlt : k < xs.length - 1 - k
    · obtain ⟨j, hj⟩ : ∃ j : Nat, j = xs.length - 1 - k := ⟨_, rfl⟩
      have hji : ((xs.length : Int) - 1 - (k : Int)) = (j : Int) := by omega
      have hst := Lib.hid (revTo_step xs k hlt)
      have k1 : k < xs.length := by omega
      have j1 : j < xs.length := by omega
      have e1 : (ints (revTo xs k))[k]? = some (.int .i64 (xs.getD k 0)) := by
        have := revTo_getD xs k k k1
        rw [if_neg (by omega)] at this
        simp [ints, List.getD_eq_getElem?_getD, revTo_length, k1] at this ⊢
        exact this
      have e2 : (ints (revTo xs k))[j]? = some (.int .i64 (xs.getD j 0)) := by
        have := revTo_getD xs k j j1
        rw [if_neg (by omega)] at this
        simp [ints, List.getD_eq_getElem?_getD, revTo_length, j1] at this ⊢
        exact this
      have c1 : wr.cell? ⟨g, k, none⟩ = some (.int .i64 (xs.getD k 0)) := (HO2.out.cellAt k (by omega)).trans e1
      have c2 : wr.cell? ⟨g, j, none⟩ = some (.int .i64 (xs.getD j 0)) := (HO2.out.cellAt j (by omega)).trans e2
      have f1 := HO2.out.frozenAt k
      have f2 := HO2.out.frozenAt j
      have o2 := (Own.stored (Own.drewN HO2.out 1) k (.int .i64 (xs.getD j 0))).stored j (.int .i64 (xs.getD k 0))
      rw [ints_set, ints_set, hj, hst.out, ← hj] at o2
      have O2 := Lib.hid o2
      have F2 := Lib.hid (((HF.out.drewN 1).setCell (p := ⟨g, k, none⟩) (.inr rfl) (.int .i64 (xs.getD j 0))).setCell (p := ⟨g, j, none⟩) (.inr rfl) (.int .i64 (xs.getD k 0)))
      have hjk := Lib.hid (show (j : Int) - 1 = (xs.length : Int) - 1 - ((k + 1 : Nat) : Int) by omega)
      have hkj : (k : Int) < (j : Int) := by omega
      have k0 : (0 : Int) ≤ (k : Int) := by omega
      have j0 : (0 : Int) ≤ (j : Int) := by omega
      have k2 : (k : Int) < (xs.length : Int) := by omega
      have j2 : (j : Int) < (xs.length : Int) := by omega
      have hne : ¬ j = k := by omega
      have hne2 : ¬ k = j := by omega
      rw [hji]
      clear o2 e1 e2 hj hji hst
      generalize xs.getD k 0 = x at *
      generalize xs.getD j 0 = y at *
      go_wp2
      go_region
      all_goals go_wp2
      all_goals go_roundw
      all_goals first
        | (refine ⟨k + 1, by omega, by go_num, by rw [← hjk.out], O2.out, F2.out⟩)
        | (simp [intOf]; omega)
    · have hge : ((xs.length : Int) - 1 - (k : Int)) ≤ (k : Int) := by omega
      have HE := Lib.hid (show Own wr base 3 1 (.slice (some ⟨g, 0, none⟩) xs.length cap) xs.length (ints xs.reverse) by rw [← revTo_end xs k (by omega)]; exact HO2.out)
      generalize ((xs.length : Int) - 1 - (k : Int)) = jj at *
      go_wp2
      go_end0
      exact ⟨rfl, HE.out, HF.out⟩
end Go.Proofs.YtdngnmpmaacapaaGreatDoor
/-
  Contracts: plain (digits as a numeral) and takenBy, of the program, as functions.
-/
namespace Go.Proofs.YtdngnmpmaacapaaGreatDoor
open Go.RowKit

theorem bld_fr {T e : TypeId} {B b : Nat} {bs : List Value} {w w' : World} (h : Lib.IsBuilder T e B b bs w) (hF : Fr w.heap.size none w w') : Lib.IsBuilder T e B b bs w' := by
  rcases h with h | h
  · have hl := h.lt
    obtain ⟨hB, v, hbk, hown, hne⟩ := h
    exact .inl ⟨hB, v, (hF.block b hl (by simp)).trans hbk, own_keep hown hF, hne⟩
  · have hl := h.lt
    obtain ⟨hB, v, hbk, hown, hne⟩ := h
    exact .inr ⟨hB, v, (hF.block b hl (by simp)).trans hbk, own_keep hown hF, hne⟩
theorem bld_as {T e : TypeId} {B b : Nat} {bs cs : List Value} {w : World} (h : Lib.IsBuilder T e B b bs w) (he : bs = cs) : Lib.IsBuilder T e B b cs w := he ▸ h
theorem ret_sb {a b : ByteArray} {x y : Bool} (h1 : a = b) (h2 : x = y) : Ending.returned (.tuple #[.string a, .bool x]) = .returned (.tuple #[.string b, .bool y]) := by rw [h1, h2]
theorem ne_of_len {ds : List Int} (h : ¬ ds.length = 0) : decide (ds ≠ []) = true := by cases ds <;> simp at h ⊢
theorem mkL_list (l : List UInt8) : (mkL l).data.toList = l := by show l.toArray.toList = l; simp
theorem dig_snoc (ds : List Int) (k : Nat) (hk : k < ds.length) : Lib.byteCells ((ds.take k).map digC) ++ Lib.strCells (mkL [digC (ds.getD k 0)]) = Lib.byteCells ((ds.take (k + 1)).map digC) := by
  have e : ds.getD k 0 = ds[k] := by simp [List.getD_eq_getElem?_getD, hk]
  rw [Lib.strCells_eq, mkL_list, ← Lib.byteCells_append, List.take_succ_eq_append_getElem hk, List.map_append, e]; rfl
theorem plain_no {ds : List Int} (h : plainOk ds = false) : (⟨#[]⟩ : ByteArray) = plainT ds := by simp [plainT, h]
theorem plain_yes {ds : List Int} (h : plainOk ds = true) : plainS ds = plainT ds := by simp [plainT, h]
theorem plainS_size (ds : List Int) : (plainS ds).size ≤ ds.length + 1 := by
  unfold plainS
  split
  · show 1 ≤ _; omega
  · rw [mkL_size]
    have : (trimZ (ds.map digC)).length ≤ (ds.map digC).length := (List.dropWhile_sublist _).length_le
    rw [List.length_map] at this; omega

set_option maxHeartbeats 2000000 in
set_option maxRecDepth 100000 in
theorem plain_any (a : Option Addr) (cap : Nat) (ds : List Int) (w : World) (hs : Sl w a (ints ds)) (hd : ∀ d ∈ ds, 0 ≤ d ∧ d ≤ 9) (hn : ds.length ≤ 100) :
    Calls Tryz.prog 176 #[.slice a ds.length cap] w fun e w' => e = .returned (.tuple #[.string (plainT ds), .bool (plainOk ds)]) ∧ Fr w.heap.size none w w' := by
  have HS := Lib.hid hs; clear hs
  have HD := Lib.hid hd; clear hd
  have B0 := Lib.hid (Lib.fresh_isBuilder 96 5 w)
  go_enter Tryz.func176, Tryz.ntmps176
  go_wp2
  go_loopw [10] (fun i wr => ∃ k : Nat, k ≤ ds.length ∧ i = .int .i64 k ∧ Hid (Lib.IsBuilder 96 5 w.heap.size w.heap.size (Lib.byteCells ((ds.take k).map digC)) wr) ∧ Fr w.heap.size none w wr) (fun i _ => ds.length - (intOf i).toNat)
  case atStart => exact ⟨0, Nat.zero_le _, rfl, B0, (Fr.refl w.heap.size none w).alloc (Nat.le_refl _) _⟩
  case round =>
    obtain ⟨k, hk, rfl, hB, hF⟩ := hrel
    have HF := Lib.hid hF; clear hF
    by_cases hlt : k < ds.length
    · obtain ⟨b, off, rfl, hc⟩ := (HS.out.fr HF.out).int k hlt
      have hdk : 0 ≤ ds.getD k 0 ∧ ds.getD k 0 ≤ 9 := by
        have e : ds.getD k 0 = ds[k] := by simp [List.getD_eq_getElem?_getD, hlt]
        rw [e]; exact HD.out _ (List.getElem_mem hlt)
      have hcat := Lib.hid (dig_snoc ds k hlt)
      have hl : Hid ((Lib.byteCells ((ds.take k).map digC)).length + (mkL [digC (ds.getD k 0)]).size ≤ 140737488355328) := Lib.hid (by
        rw [Lib.byteCells_length, List.length_map, List.length_take, mkL_size, List.length_singleton]; omega)
      have k0 : (0 : Int) ≤ (k : Int) := by omega
      have CI := Lib.hid (fun W => itoa_any (ds.getD k 0) W hdk.1 hdk.2)
      generalize ds.getD k 0 = d at *
      generalize mkL [digC d] = u at *
      generalize (ds.take k).map digC = J at *
      go_wp2_with fail
      refine (CI.out _).mono ?_; rintro e w' ⟨rfl, rfl⟩
      go_wp2_with fail
      refine (writeString_any w.heap.size w.heap.size (Lib.byteCells J) u wr hB.out hl.out HF.out.size).mono ?_; rintro e w3 ⟨rfl, hB3, hF3⟩
      have F3 := Lib.hid (HF.out.trans hF3)
      have B3 := Lib.hid (bld_as hB3 hcat.out)
      clear hF3 hB3
      go_wp2
      go_roundw
      case rel => exact ⟨k + 1, by omega, by go_num, B3, F3.out⟩
      case measure => simp [intOf]; omega
    · have hkk : k = ds.length := by omega
      have hB2 := hB.out
      rw [hkk, List.take_length] at hB2
      have HB2 := Lib.hid hB2
      have CT := Lib.hid (fun W => trimLeft_any (mkL (ds.map digC)) W (by rw [mkL_size, List.length_map]; omega))
      rw [mkL_list] at CT
      have hge : (ds.length : Int) ≤ (k : Int) := by omega
      have pn := Lib.hid (@plain_no ds); have py := Lib.hid (@plain_yes ds)
      have psz := plainS_size ds
      have pS : Hid ((trimZ (ds.map digC) = [] → plainS ds = ⟨#[48]⟩) ∧ (trimZ (ds.map digC) ≠ [] → plainS ds = mkL (trimZ (ds.map digC)))) := Lib.hid (by unfold plainS; constructor <;> intro h <;> simp [h])
      have pO : Hid (plainOk ds = (decide (ds ≠ []) && numOk (plainS ds))) := Lib.hid rfl
      have CS := Lib.hid (fun W hB hle => builderString_any w.heap.size w.heap.size (ds.map digC) W hB hle)
      have CS2 : Hid (∀ W, Lib.IsBuilder 96 5 w.heap.size w.heap.size (Lib.byteCells (ds.map digC)) W → w.heap.size ≤ W.heap.size → Calls Tryz.prog 76 #[.pointer (some ⟨w.heap.size, 0, none⟩)] W fun e w' => e = .returned (.string (mkL (ds.map digC))) ∧ Fr w.heap.size none W w') := Lib.hid CS.out
      clear hkk hB hB2 CS
      generalize trimZ (ds.map digC) = T at *
      generalize mkL (ds.map digC) = M at *
      generalize plainS ds = PS at *
      go_wp2_with fail
      refine (CS2.out _ HB2.out HF.out.size).mono ?_; rintro e w2 ⟨rfl, hF2⟩
      have F2 := Lib.hid (HF.out.trans hF2); clear hF2
      go_wp2_with fail
      refine (CT.out _).mono ?_; rintro e w' ⟨rfl, rfl⟩
      by_cases hT : T = []
      · have hp := pS.out.1 hT
        subst hT
        subst hp
        have hm : mkL [] = (⟨#[]⟩ : ByteArray) := rfl
        rw [hm]
        by_cases h0 : ds.length = 0
        · have hz : ((ds.length : Int) == 0) = true := by rw [h0]; rfl
          have hPO := Lib.hid (show plainOk ds = false by rw [pO.out, List.eq_nil_of_length_eq_zero h0]; rfl)
          clear h0
          have HN := Lib.hid (pn.out hPO.out)
          go_wp2
          go_ret2
          exact ⟨ret_sb HN.out hPO.out.symm, F2.out⟩
        · have hz : ((ds.length : Int) == 0) = false := by rw [beq_eq_false_iff_ne]; omega
          have hPO := Lib.hid (show plainOk ds = true by rw [pO.out, ne_of_len h0]; decide)
          have HN := Lib.hid (py.out hPO.out)
          clear h0
          go_wp2_with (go_at_call 55; refine (num_val (s := ⟨#[48]⟩) (r := true) (by decide) (by decide) _).mono ?_; rintro e w' ⟨rfl, rfl⟩)
          go_ret2
          exact ⟨ret_sb HN.out hPO.out.symm, F2.out⟩
      · have hp := pS.out.2 hT
        have hne : (mkL T).toList.isEmpty = false := by
          cases h : (mkL T).toList.isEmpty
          · rfl
          · rw [List.isEmpty_iff] at h
            have h2 := (toList_nil_iff_emptyBytes (mkL T)).1 h
            exact absurd (by rw [← mkL_list T, h2]; rfl) hT
        rw [← hp] at hne ⊢
        clear hT hp
        by_cases h0 : ds.length = 0
        · have hz : ((ds.length : Int) == 0) = true := by rw [h0]; rfl
          have hPO := Lib.hid (show plainOk ds = false by rw [pO.out, List.eq_nil_of_length_eq_zero h0]; rfl)
          clear h0
          have HN := Lib.hid (pn.out hPO.out)
          go_wp2
          go_ret2
          exact ⟨ret_sb HN.out hPO.out.symm, F2.out⟩
        · have hz : ((ds.length : Int) == 0) = false := by rw [beq_eq_false_iff_ne]; omega
          have hPO := Lib.hid (show plainOk ds = numOk PS by rw [pO.out, ne_of_len h0]; rfl)
          clear h0
          cases hn : numOk PS
          · have HNO := Lib.hid hn
            have HN := Lib.hid (pn.out (hPO.out.trans hn))
            have HP := Lib.hid (hPO.out.trans hn)
            clear hn
            go_wp2_with (go_at_call 55; refine (num_val (by omega) HNO.out _).mono ?_; rintro e w' ⟨rfl, rfl⟩)
            go_ret2
            exact ⟨ret_sb HN.out HP.out.symm, F2.out⟩
          · have HNO := Lib.hid hn
            have HN := Lib.hid (py.out (hPO.out.trans hn))
            have HP := Lib.hid (hPO.out.trans hn)
            clear hn
            go_wp2_with (go_at_call 55; refine (num_val (by omega) HNO.out _).mono ?_; rintro e w' ⟨rfl, rfl⟩)
            go_ret2
            exact ⟨ret_sb HN.out HP.out.symm, F2.out⟩
end Go.Proofs.YtdngnmpmaacapaaGreatDoor
