import Derived.Test.YtdngnmpmaacapaaGreatDoorMSay
import Derived.Test.YtdngnmpmaacapaaGreatDoorMDrawBoard
set_option linter.unusedVariables false
set_option linter.unusedSimpArgs false
/-
  Whatever the code, the law FnBoardSay of the given program returns true, if the library's MaxLen holds a number and the table of powers of ten its numbers.
-/
namespace Go.Proofs.YtdngnmpmaacapaaGreatDoor.fnBoardSay
open Go.RowKit

theorem lens {xs : List Tst} {ls : List ByteArray} {r1 : List Tst} {r2 : List ByteArray} (h : boardSayI xs ls = (r1, r2)) : r1.length ≤ 1048576 ∧ r2.length ≤ 40 := by
  unfold boardSayI at h
  split at h
  · next hok =>
    simp only [sayOk, Bool.and_eq_true, decide_eq_true_eq] at hok
    have h1 := sayTo_ok hok.1 ls ls.length
    have h2 := sayTo_len xs ls ls.length
    rw [h] at h1 h2
    have := board_le h1
    dsimp only at this h2
    omega
  · cases h; simp
theorem no_cases {xs : List Tst} {ls : List ByteArray} (h : sayOk xs ls = false) : boardOkB xs = false ∨ (boardOkB xs = true ∧ (40 : Int) < (ls.length : Int)) := by
  cases hb : boardOkB xs
  · exact .inl rfl
  · refine .inr ⟨rfl, ?_⟩
    simp [sayOk, hb] at h
    omega

set_option maxHeartbeats 8000000 in
set_option maxRecDepth 100000 in
theorem walk {w : World} (m : Int) (hm : w.cell? ⟨0, 0, none⟩ = some (.int .i64 m)) (hT : Tab w) (a : Option Addr) (cap : Nat) (bs : List Int) (hs : Sl w a (bs.map (Value.int .u8))) (hb : ∀ x ∈ bs, 0 ≤ x ∧ x ≤ 255) (hcap : bs.length ≤ cap) :
    Calls Tryz.prog 5 #[.slice a bs.length cap] w fun e w' => e = .returned (.bool true) ∧ Fr w.heap.size none w w' := by
  have hb0 := World.block_lt_of_cell? w _ hm
  dsimp only at hb0
  have HM := Lib.hid hm; clear hm
  have TAB := Lib.hid hT; clear hT
  have HS : Hid (Sl w a (u8s bs)) := hs
  have HB := Lib.hid hb; clear hs hb
  by_cases hn : bs.length ≤ 1048576
  · go_enter Tryz.func5, Tryz.ntmps5
    go_wp2_with fail
    refine (drawBoardSay_any a cap bs _ HS.out HB.out hn hcap).mono ?_; rintro e w1 ⟨v, u, rfl, ⟨a1, c1, xs, rfl, ho, hl, hTX⟩, ⟨b1, d1, ls, rfl, hv, hl1, hLS⟩, hF⟩
    have G1 := Lib.hid hF
    have O1 := Lib.hid (Own.of ho)
    have L1 := Lib.hid (Own.of hv)
    have TX := Lib.hid hTX.small
    have SL := Lib.hid (show SmallT ls from fun k => Nat.le_trans (hLS k) (by decide))
    have hc1 := own_lecap O1.out
    have hd1 := own_caps hv
    have HH := Lib.hid (heads_of L1.out)
    have CI := Lib.hid (fun W hT hM hS hK => implSay_any a1 c1 xs b1 d1 ls m W hT hM hS (by omega) TX.out hK (by omega) SL.out)
    have CP := Lib.hid (fun W hS hK => specSay_any a1 c1 xs b1 d1 ls W hS (by omega) TX.out hK (by omega) SL.out (fun h => (own_hnone O1.out h).2))
    obtain ⟨⟨r1, r2⟩, hR⟩ : ∃ r, boardSayI xs ls = r := ⟨_, rfl⟩
    rw [hR] at CI CP
    obtain ⟨hr1, hr2⟩ := lens hR
    dsimp only at *
    have M1 := Lib.hid ((G1.out.cell (p := ⟨0, 0, none⟩) hb0 (by simp)).trans HM.out)
    have T1 := Lib.hid (TAB.out.fr G1.out)
    have HR := Lib.hid hR
    clear hF ho hTX hv hLS hR
    go_wp2_with fail
    refine (CI.out _ T1.out M1.out (Own.sl O1.out) (Own.sl L1.out)).mono ?_; rintro e w2 ⟨a2, c2, b2, d2, rfl, ho2, hv2, hF2⟩
    have G2 := Lib.hid (G1.out.and hF2)
    have O2 := Lib.hid (Own.keep O1.out hF2)
    have L2 := Lib.hid (Own.keep L1.out hF2)
    have X2 := Lib.hid ho2
    have A2 := Lib.hid hv2
    clear hF2 ho2 hv2 CI
    dsimp only at *
    go_wp2_with fail
    refine (CP.out _ (Own.sl O2.out) (Own.sl L2.out)).mono ?_; rintro e w3 ⟨a3, c3, b3, d3, rfl, ho3, hv3, hF3⟩
    have G3 := Lib.hid (G2.out.and hF3)
    have O3 := Lib.hid (Own.keep O2.out hF3)
    have L3 := Lib.hid (Own.keep L2.out hF3)
    have X3 := Lib.hid (Own.keep X2.out hF3)
    have A3 := Lib.hid (Own.keep A2.out hF3)
    have Y3 := Lib.hid ho3
    have B3 := Lib.hid hv3
    clear hF3 ho3 hv3 CP
    dsimp only at *
    go_wp2_with fail
    refine (sameTests_any _ _ _ _ r1 _ (Own.sl X3.out) (Own.sl Y3.out) hr1).mono ?_; rintro e w4 ⟨rfl, hF4⟩
    have G4 := Lib.hid (G3.out.and hF4)
    have O4 := Lib.hid (Own.keep O3.out hF4)
    have L4 := Lib.hid (Own.keep L3.out hF4)
    have X4 := Lib.hid (Own.keep X3.out hF4)
    have A4 := Lib.hid (Own.keep A3.out hF4)
    have B4 := Lib.hid (Own.keep B3.out hF4)
    clear hF4
    go_wp2_with fail
    refine (sameTexts_any _ _ _ _ r2 _ (Own.sl A4.out) (Own.sl B4.out) (by omega)).mono ?_; rintro e w5 ⟨rfl, hF5⟩
    have G5 := Lib.hid (G4.out.and hF5)
    have O5 := Lib.hid (Own.keep O4.out hF5)
    have L5 := Lib.hid (Own.keep L4.out hF5)
    have X5 := Lib.hid (Own.keep X4.out hF5)
    have A5 := Lib.hid (Own.keep A4.out hF5)
    clear hF5
    cases hok : sayOk xs ls
    · have he := (say_no hok).trans HR.out
      simp only [Prod.mk.injEq] at he
      obtain ⟨rfl, rfl⟩ := he
      rcases no_cases hok with hbx | ⟨hbx, hgt⟩
      · have HBX := Lib.hid hbx
        clear hbx hok HR
        go_wp2_with fail
        refine (specBoard_val (Own.sl O5.out) (by omega) TX.out HBX.out).mono ?_; rintro e w6 ⟨rfl, mm, rfl⟩
        have G6 := Lib.hid (G5.out.drewN mm)
        go_wp2_with fail
        refine (alive_any _).mono ?_; rintro e w' ⟨rfl, rfl⟩
        go_wp2
        go_ret
        exact ⟨rfl, G6.out⟩
      · have HBX := Lib.hid hbx
        clear hbx hok HR
        go_wp2_with fail
        refine (specBoard_val (Own.sl O5.out) (by omega) TX.out HBX.out).mono ?_; rintro e w6 ⟨rfl, mm, rfl⟩
        have G6 := Lib.hid (G5.out.drewN mm)
        go_wp2_with fail
        refine (alive_any _).mono ?_; rintro e w' ⟨rfl, rfl⟩
        go_wp2
        go_ret
        exact ⟨rfl, G6.out⟩
    · have hok2 := hok
      simp only [sayOk, Bool.and_eq_true, decide_eq_true_eq] at hok2
      obtain ⟨hbx, h40⟩ := hok2
      have HBX := Lib.hid hbx
      have hkk : ls.length / 2 ≤ ls.length := by omega
      obtain ⟨hok1, hok2, hpr⟩ := say_parts hok (ls.length / 2) hkk
      have HLEN := Lib.hid (show r2.length = ls.length by have := sayI_len hok; rw [HR.out] at this; exact this)
      have HB1 := Lib.hid (show boardOkB r1 = true by have := sayI_ok hok; rw [HR.out] at this; exact this)
      have TR := Lib.hid (show Small r1 by have := sayI_small (ls := ls) TX.out; rw [HR.out] at this; exact this)
      have POS := Lib.hid (show ∀ s ∈ r2, 0 < s.size by have := sayI_pos xs ls; rw [HR.out] at this; exact this)
      have hq : (ls.length : Int).tdiv 2 = ((ls.length / 2 : Nat) : Int) := by rw [Int.tdiv_eq_ediv_of_nonneg (by omega)]; omega
      have hz2 : d1 = ls.length / 2 → 0 = ls.length / 2 := by have := hd1.1; omega
      have R1 := Lib.hid (cut_first HH.out hd1.1 hd1.2 (ls.length / 2) hkk)
      obtain ⟨b9, hR2, hS2⟩ := cut_second HH.out hd1.1 hd1.2 (ls.length / 2) hkk hz2
      have R2 := Lib.hid hR2; have S2 := Lib.hid hS2
      have S1 := Lib.hid (fun W (h : Sl W b1 (strs ls)) => strs_take h (ls.length / 2))
      have SL1 := Lib.hid (smallT_take SL.out (ls.length / 2))
      have SL2 := Lib.hid (smallT_drop SL.out (ls.length / 2))
      have n1 : (ls.take (ls.length / 2)).length ≤ 40 := by rw [List.length_take]; omega
      have n2 : (ls.drop (ls.length / 2)).length ≤ 40 := by rw [List.length_drop]; omega
      rw [HR.out] at hpr
      clear hok hok1 hok2 hbx hR2 hS2 hz2
      generalize ls.take (ls.length / 2) = ls1 at *
      generalize ls.drop (ls.length / 2) = ls2 at *
      generalize ls.length / 2 = h at *
      have TY := Lib.hid (sayI_small (ls := ls1) TX.out)
      have C1 := Lib.hid (fun W hT hM hS hK => implSay_any a1 c1 xs b1 d1 ls1 m W hT hM hS (by omega) TX.out hK (by omega) SL1.out)
      have C2 := Lib.hid (fun a c W hT hM hS hK (hy : (boardSayI xs ls1).1.length ≤ 1048576) => implSay_any a c (boardSayI xs ls1).1 b9 (d1 - h) ls2 m W hT hM hS hy TY.out hK (by omega) SL2.out)
      obtain ⟨⟨y1, y2⟩, hY⟩ : ∃ r, boardSayI xs ls1 = r := ⟨_, rfl⟩
      rw [hY] at C1 C2 hpr TY
      obtain ⟨hy1, hy2⟩ := lens hY
      obtain ⟨⟨z1, z2⟩, hZ⟩ : ∃ r, boardSayI y1 ls2 = r := ⟨_, rfl⟩
      dsimp only at C1 C2 hpr TY
      rw [hZ] at C2 hpr
      obtain ⟨hz1, hz2⟩ := lens hZ
      simp only [Prod.mk.injEq] at hpr
      obtain ⟨rfl, hr⟩ := hpr
      have HR2 := Lib.hid hr
      have CPR := Lib.hid (fun a c W hT hM hS hc => p12_line HB1.out ▸ implLine_any a c r1 p12S m W hT hM hS hr1 TR.out hc (by decide))
      have CDI := Lib.hid (fun a c W hT hM hS hc => d12_line HB1.out ▸ implLine_any a c r1 d12S m W hT hM hS hr1 TR.out hc (by decide))
      clear hY hZ hr HR
      dsimp only at *
      go_wp2_with fail
      refine (specBoard_val (Own.sl O5.out) (by omega) TX.out HBX.out).mono ?_; rintro e w6' ⟨rfl, mm, rfl⟩
      obtain ⟨w6, hw6⟩ : ∃ w6, w6 = w5.drewN mm := ⟨_, rfl⟩
      have K6 := Lib.hid (show Fr w5.heap.size none w5 w6 by rw [hw6]; exact (Fr.refl _ _ _).drewN mm)
      have G6 := Lib.hid (G5.out.and K6.out)
      have O6 := Lib.hid (Own.keep O5.out K6.out)
      have L6 := Lib.hid (Own.keep L5.out K6.out)
      have X6 := Lib.hid (Own.keep X5.out K6.out)
      have A6 := Lib.hid (Own.keep A5.out K6.out)
      have M6 := Lib.hid ((G6.out.cell (p := ⟨0, 0, none⟩) hb0 (by simp)).trans HM.out)
      have T6 := Lib.hid (TAB.out.fr G6.out)
      rw [← hw6]
      clear hw6 K6
      have q1 := R1.out
      have q2 := R2.out
      go_wp2_with fail
      refine (C1.out _ T6.out M6.out (Own.sl O6.out) (S1.out _ (Own.sl L6.out))).mono ?_; rintro e w7 ⟨a7, c7, b7, d7, rfl, ho7, hv7, hF7⟩
      have G7 := Lib.hid (G6.out.and hF7)
      have L7 := Lib.hid (Own.keep L6.out hF7)
      have X7 := Lib.hid (Own.keep X6.out hF7)
      have A7 := Lib.hid (Own.keep A6.out hF7)
      have Y7 := Lib.hid ho7
      have B7 := Lib.hid hv7
      have M7 := Lib.hid ((G7.out.cell (p := ⟨0, 0, none⟩) hb0 (by simp)).trans HM.out)
      have T7 := Lib.hid (TAB.out.fr G7.out)
      clear hF7 ho7 hv7
      dsimp only at *
      go_wp2_with fail
      refine (C2.out _ _ _ T7.out M7.out (Own.sl Y7.out) (S2.out _ (Own.sl L7.out)) hy1).mono ?_; rintro e w8 ⟨a8, c8, b8, d8, rfl, ho8, hv8, hF8⟩
      have G8 := Lib.hid (G7.out.and hF8)
      have X8 := Lib.hid (Own.keep X7.out hF8)
      have A8 := Lib.hid (Own.keep A7.out hF8)
      have B8 := Lib.hid (Own.keep B7.out hF8)
      have Z8 := Lib.hid ho8
      have E8 := Lib.hid hv8
      clear hF8 ho8 hv8 q1 q2
      dsimp only at *
      go_wp2
      go_loopw [14] (fun i wr => ∃ k : Nat, k ≤ r2.length ∧ i = .int .i64 k ∧ wr = w8) (fun i _ => r2.length - (intOf i).toNat)
      case atStart => exact ⟨0, Nat.zero_le _, rfl, rfl⟩
      case round =>
        obtain ⟨k, hk, rfl, rfl⟩ := hrel
        by_cases hlt : k < r2.length
        · obtain ⟨b, off, rfl, hc⟩ := (Own.sl A8.out).str k hlt
          have hp : 0 < (r2.getD k noS).size := by
            refine POS.out _ ?_
            have e : r2.getD k noS = r2[k] := by simp [List.getD_eq_getElem?_getD, hlt]
            rw [e]; exact List.getElem_mem hlt
          have hlt' : (k : Int) < (r2.length : Int) := by omega
          have k0 : (0 : Int) ≤ (k : Int) := by omega
          generalize r2.getD k noS = s at *
          have hne : (s.toList == []) = false := lit_ne (l := []) (size_ne hp)
          go_wp2
          go_roundw
          case rel => exact ⟨k + 1, by omega, by go_num, by first | trivial | rfl⟩
          case measure => simp [intOf]; omega
        · have hkn : k = r2.length := by omega
          clear hlt
          have M8 := Lib.hid ((G8.out.cell (p := ⟨0, 0, none⟩) hb0 (by simp)).trans HM.out)
          have T8 := Lib.hid (TAB.out.fr G8.out)
          clear hk
          go_wp2_with fail
          refine (CPR.out _ _ _ T8.out M8.out (Own.sl X8.out) (own_lecap X8.out)).mono ?_; rintro e w9 ⟨a9, c9, rfl, _, hF9⟩
          have G9 := Lib.hid (G8.out.and hF9)
          have X9 := Lib.hid (Own.keep X8.out hF9)
          have A9 := Lib.hid (Own.keep A8.out hF9)
          have B9 := Lib.hid (Own.keep B8.out hF9)
          have Z9 := Lib.hid (Own.keep Z8.out hF9)
          have E9 := Lib.hid (Own.keep E8.out hF9)
          have M9 := Lib.hid ((G9.out.cell (p := ⟨0, 0, none⟩) hb0 (by simp)).trans HM.out)
          have T9 := Lib.hid (TAB.out.fr G9.out)
          clear hF9
          dsimp only at *
          go_wp2_with fail
          refine (CDI.out _ _ _ T9.out M9.out (Own.sl X9.out) (own_lecap X9.out)).mono ?_; rintro e w10 ⟨a10, c10, rfl, _, hF10⟩
          have G10 := Lib.hid (G9.out.and hF10)
          have X10 := Lib.hid (Own.keep X9.out hF10)
          have A10 := Lib.hid (Own.keep A9.out hF10)
          have B10 := Lib.hid (Own.keep B9.out hF10)
          have Z10 := Lib.hid (Own.keep Z9.out hF10)
          have E10 := Lib.hid (Own.keep E9.out hF10)
          clear hF10
          dsimp only at *
          have hgq : (gross.toList == [49, 52, 52]) = true := by rw [ByteArray.toList_eq]; decide
          have hdq : ((⟨#[49, 50, 32, 48]⟩ : ByteArray).toList == [49, 50, 32, 48]) = true := by rw [ByteArray.toList_eq]; decide
          go_wp2_with fail
          refine (sameTests_any _ _ _ _ r1 _ (Own.sl Z10.out) (Own.sl X10.out) hr1).mono ?_; rintro e w11 ⟨rfl, hF11⟩
          have G11 := Lib.hid (G10.out.and hF11)
          have A11 := Lib.hid (Own.keep A10.out hF11)
          have B11 := Lib.hid (Own.keep B10.out hF11)
          have E11 := Lib.hid (Own.keep E10.out hF11)
          clear hF11
          have hp7 : b7 = none → d7 = 0 := fun h => (own_hnone B11.out h).2
          have hp8 : b8 = none → d8 = 0 := fun h => (own_hnone E11.out h).2
          have SB := Lib.hid ((Own.sl B11.out).fr ((Fr.refl w11.heap.size none w11).alloc (Nat.le_refl _) (.cells #[] 9)))
          have hls : y2.length + z2.length = r2.length := by rw [HR2.out, List.length_append]
          have hst : strs y2 ++ strs z2 = strs r2 := by rw [HR2.out]; simp [strs]
          have HLS := Lib.hid hls; have HST := Lib.hid hst
          clear hls hst
          go_wp2_with (first
            | (at_builtin; refine unguard (by go_simp) ?_; refine appAllS rfl _ _ rfl b7 d7 y2 (World.ownsRow_made (base := w11.heap.size) w11 #[] 0 (Nat.le_refl _) (by simp [maxLen]) (by simp)) rfl rfl hp7 SB.out (by omega) (by simp) ?_; intro v' w12 ho12 hF12; (
              have K12 := Lib.hid (((Fr.refl w11.heap.size none w11).alloc (Nat.le_refl _) (.cells #[] 9)).trans (hF12.up (B' := w11.heap.size) (by simp) (by intro g hg; cases hg; exact Nat.le_refl _)))
              have SE := Lib.hid ((Own.sl E11.out).fr K12.out)
              rw [Nat.zero_add, List.nil_append] at ho12
              have V12 := Lib.hid ho12
              have z12 := K12.out.size
              clear ho12 hF12))
            | (at_builtin; refine unguard (by go_simp) ?_; refine appAllS rfl _ _ rfl b8 d8 z2 V12.out rfl rfl hp8 SE.out (by omega) z12 ?_; intro v'' w13 ho13 hF13; (
              have K13 := Lib.hid (app_frame K12.out V12.out hF13 z12)
              have SA := Lib.hid ((Own.sl A11.out).fr K13.out)
              rw [HLS.out, HST.out] at ho13
              obtain ⟨a13, c13, rfl, _, _⟩ := own_slice ho13
              have S13 := Lib.hid (own_sl ho13)
              have G13 := Lib.hid (G11.out.and K13.out)
              clear ho13 hF13)))
          refine (sameTexts_any _ _ _ _ r2 _ S13.out SA.out (by omega)).mono ?_; rintro e w14 ⟨rfl, hF14⟩
          have G14 := Lib.hid (G13.out.and hF14)
          clear hF14
          have hlq : (r2.length : Int) = (ls.length : Int) := by have := HLEN.out; omega
          go_wp2
          go_ret
          exact ⟨rfl, G14.out⟩
  · go_enter Tryz.func5, Tryz.ntmps5
    go_wp2
    go_ret
    exact ⟨rfl, Fr.refl _ _ _⟩
end Go.Proofs.YtdngnmpmaacapaaGreatDoor.fnBoardSay
