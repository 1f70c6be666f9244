/-
  Merged: DrawBoard DrawBoardB DrawBoardC DrawDo.
-/
import Derived.Test.YtdngnmpmaacapaaGreatDoorMBoardB
import Derived.Test.YtdngnmpmaacapaaGreatDoorMJournal
import Derived.Test.YtdngnmpmaacapaaGreatDoorMTestE
import Derived.Test.YtdngnmpmaacapaaGreatDoorMDrawDeeds
set_option linter.unusedVariables false
set_option linter.unusedSimpArgs false
/-
  Contracts: the draws of exercises, boards and deeds.
-/
namespace Go.Proofs.YtdngnmpmaacapaaGreatDoor
open Go.RowKit

/-- A new slice of short exercises is drawn with the reader B. -/
def RdTests (B N m : Nat) (w : World) (e : Ending) (w' : World) : Prop := ∃ v, e = .returned v ∧ NewTiny m w' w.heap.size v ∧ Rdr w' B N ∧ Fr w.heap.size (some B) w w'
theorem newTiny_base {m : Nat} {w : World} {b b' : Nat} {v : Value} (h : NewTiny m w b v) (hb : b' ≤ b) : NewTiny m w b' v := by
  obtain ⟨a, c, ys, e, ho, hl, ht⟩ := h
  exact ⟨a, c, ys, e, own_base ho hb, hl, ht⟩
theorem row_ans {w : World} {base cap g : Nat} {xs : List Tst} (h : w.ownsRow base 52 3 (.slice (some ⟨g, 0, none⟩) xs.length cap) xs.length (tests xs)) (k : Nat) (hk : k < xs.length) :
    w.cell? ⟨g, k * 3 + 2, none⟩ = some (.string (xs.getD k noTest).2.2) ∧ w.frozen? ⟨g, k * 3 + 2, none⟩ = false := by
  obtain ⟨b, off, e, _, _, _, _, h2⟩ := (Own.of h).sl.test k hk
  cases e
  rw [Nat.zero_add] at h2
  exact ⟨h2, (Own.of h).frozenAt _⟩
theorem row_addr {w : World} {base cap n : Nat} {a : Option Addr} {cs : List Value} {E : TypeId} {z : Nat} (h : w.ownsRow base E z (.slice a n cap) n cs) (hn : 0 < n) : ∃ g, a = some ⟨g, 0, none⟩ ∧ base ≤ g ∧ g < w.heap.size := by
  obtain ⟨g, rfl⟩ := (Own.of h).addr hn
  exact ⟨g, rfl, own_lt h g rfl⟩
theorem tiny_lit {a b c : ByteArray} (ha : a.size ≤ 10) (hb : b.size ≤ 10) (hc : c.size ≤ 10) : tiny (a, b, c) := ⟨ha, hb, hc⟩

set_option maxHeartbeats 4000000 in
set_option maxRecDepth 100000 in
theorem l20Tests_any (B N : Nat) (w : World) (h : Rdr w B N) (hN : N ≤ 800000) :
    Calls Tryz.prog 77 #[.pointer (some ⟨B, 0, none⟩), .int .i64 0] w (RdTests B (N + 2000) 3 w) := by
  have hBl := h.lt
  have R0 := Lib.hid (rdr_alloc h (.cells #[] 52))
  have O0 := Lib.hid (World.ownsRow_made (e := 52) (size := 3) (base := w.heap.size) w #[] 0 (Nat.le_refl _) (by simp [maxLen]) (by simp))
  have F0 := Lib.hid ((Fr.refl w.heap.size (some B) w).alloc (Nat.le_refl _) (.cells #[] 52))
  clear h
  go_enter Tryz.func77, Tryz.ntmps77
  go_wp2_with fail
  refine (pick_any B N _ _ R0.out (by omega)).mono ?_; rintro e w1 ⟨p, rfl, ⟨p0, p1, _⟩, hR1, hF1⟩
  have R1 := Lib.hid hR1; have O1 := Lib.hid (row_past O0.out hF1 hBl); have F1 := Lib.hid (fr_rd F0.out hF1); have p2 := p1 (by omega)
  clear hR1 hF1 p1
  obtain ⟨pn, rfl⟩ := Int.eq_ofNat_of_zero_le p0
  go_wp2
  go_loopw [5, 6] (fun v i wr => ∃ (k : Nat) (a : Option Addr) (c : Nat) (xs : List Tst), v = .slice a xs.length c ∧ i = .int .i64 k ∧ k ≤ 3 ∧ xs.length + k ≤ 3 ∧ wr.ownsRow w.heap.size 52 3 (.slice a xs.length c) xs.length (tests xs) ∧ Hid (Tiny xs) ∧ Hid (Rdr wr B (N + 1 + 210 * xs.length)) ∧ Fr w.heap.size (some B) w wr) (fun _ i _ => (intOf i).toNat)
  case atStart => exact ⟨pn, some ⟨w.heap.size, 0, none⟩, 0, [], rfl, rfl, by omega, by simp; omega, O1.out, tiny_nil, R1.out, F1.out⟩
  case round =>
    obtain ⟨k, ao, co, xs, rfl, rfl, hk, hl, ho, hT, hR, hF⟩ := hrel
    have HO := Lib.hid ho; have HF := Lib.hid hF; have hz := hF.size; clear ho hF
    by_cases hk0 : 0 < k
    · have hk0' : (0 : Int) < (k : Int) := by omega
      go_wp2_with fail
      refine (l20Numeral_any B _ 4 0 _ hR.out (by omega) (by omega) (by omega)).mono ?_; rintro e w2 ⟨s, rfl, hs, hR2, hF2⟩
      have R2 := Lib.hid hR2; have O2 := Lib.hid (row_past HO.out hF2 hBl); have F2 := Lib.hid (fr_rd HF.out hF2); clear hR2 hF2
      go_wp2_with fail
      refine (l20Numeral_any B _ 4 0 _ R2.out (by omega) (by omega) (by omega)).mono ?_; rintro e w3 ⟨t, rfl, ht, hR3, hF3⟩
      have R3 := Lib.hid hR3; have O3 := Lib.hid (row_past O2.out hF3 hBl); have F3 := Lib.hid (fr_rd F2.out hF3); clear hR3 hF3
      have CO := Lib.hid (fun W => specOrder_any s t W (by omega) (by omega))
      generalize ordI s t = o at *
      go_wp2_with fail
      refine (CO.out _).mono ?_; rintro e w4 ⟨rfl, m, rfl⟩
      have CO := 0
      obtain ⟨w4, hw4⟩ : ∃ w4, w4 = w3.drewN m := ⟨_, rfl⟩
      have R4 := Lib.hid (show Rdr w4 B (N + 1 + 210 * xs.length + 200) by rw [hw4]; exact (R3.out.drewN m).mono (by omega))
      have O4 := Lib.hid (show w4.ownsRow w.heap.size 52 3 (.slice ao xs.length co) xs.length (tests xs) by rw [hw4]; exact own_drewN O3.out m)
      have F4 := Lib.hid (show Fr w.heap.size (some B) w w4 by rw [hw4]; exact F3.out.drewN m)
      rw [← hw4]
      clear hw4
      have z4 := F4.out.size
      have st : ∀ (x1 x2 : ByteArray) (v' : Value) (w' : World), x1.size ≤ 10 → x2.size ≤ 10 → w'.ownsRow w.heap.size 52 3 v' (xs.length + 1) (tests xs ++ [.string x1, .string x2, .string ⟨#[48]⟩]) → Fr w4.heap.size (Value.slice ao xs.length co).ownBlock w4 w' →
          ∃ a' c' ys, v' = .slice a' ys.length c' ∧ w'.ownsRow w.heap.size 52 3 (.slice a' ys.length c') ys.length (tests ys) ∧ ys.length = xs.length + 1 ∧ Hid (Tiny ys) ∧ Hid (Rdr w' B (N + 1 + 210 * ys.length)) ∧ Fr w.heap.size (some B) w w' := by
        intro x1 x2 v' w' h1 h2 ho' hF'
        obtain ⟨a', c', rfl, ho3⟩ := app_tests ho'
        have hl2 : (xs ++ [(x1, x2, (⟨#[48]⟩ : ByteArray))]).length = xs.length + 1 := by simp
        refine ⟨a', c', _, rfl, ho3, hl2, tiny_snoc hT.out (tiny_lit h1 h2 (by decide)), ?_, ?_⟩
        · exact (R4.out.fr hF' (by have := R4.out.lt; omega) (by intro g hg; have := own_lt O4.out g hg; omega)).mono (by rw [hl2]; omega)
        · exact F4.out.trans ((hF'.up (B' := w.heap.size) z4 (by intro g hg; exact (own_lt O4.out g hg).1)).weak _)
      have ST := Lib.hid st; clear st
      by_cases hn : o < 0
      · go_wp2_with (at_builtin; refine app1 23 52 (.agg #[.string ByteArray.empty, .string ByteArray.empty, .string ByteArray.empty]) 3 48 Tryz.underlying23 infoTest rfl (by decide) (by decide) rfl _ _ rfl [.string t, .string s, .string ⟨#[48]⟩] O4.out rfl rfl rfl (by simp [Value.oneCell']) (by omega) z4 ?_; intro v' w' ho' hF')
        obtain ⟨a', c', ys, rfl, h1, h2, h3, h4, h5⟩ := ST.out t s v' w' ht hs ho' hF'
        have H1 := Lib.hid h1; have H2 := Lib.hid h2; have H5 := Lib.hid h5; clear h1 h2 h5 ho' hF'
        go_wp2
        go_roundw
        case rel => exact ⟨k - 1, a', c', ys, rfl, by go_num, by omega, by rw [H2.out]; omega, H1.out, h3, h4, H5.out⟩
        case measure => simp [intOf]; omega
      · go_wp2_with (at_builtin; refine app1 23 52 (.agg #[.string ByteArray.empty, .string ByteArray.empty, .string ByteArray.empty]) 3 48 Tryz.underlying23 infoTest rfl (by decide) (by decide) rfl _ _ rfl [.string s, .string t, .string ⟨#[48]⟩] O4.out rfl rfl rfl (by simp [Value.oneCell']) (by omega) z4 ?_; intro v' w' ho' hF')
        obtain ⟨a', c', ys, rfl, h1, h2, h3, h4, h5⟩ := ST.out s t v' w' hs ht ho' hF'
        have H1 := Lib.hid h1; have H2 := Lib.hid h2; have H5 := Lib.hid h5; clear h1 h2 h5 ho' hF'
        go_wp2
        go_roundw
        case rel => exact ⟨k - 1, a', c', ys, rfl, by go_num, by omega, by rw [H2.out]; omega, H1.out, h3, h4, H5.out⟩
        case measure => simp [intOf]; omega
    · have hk1 : k = 0 := by omega
      subst hk1
      have hl3 : xs.length ≤ 3 := by omega
      clear hl
      go_wp2_with fail
      refine (pick_any B _ _ _ hR.out (by omega)).mono ?_; rintro e w2 ⟨way, rfl, _, hR2, hF2⟩
      have R2 := Lib.hid (hR2.mono (N' := N + 700) (by omega)); have O2 := Lib.hid (row_past HO.out hF2 hBl); have F2 := Lib.hid (fr_rd HF.out hF2); clear hR2 hF2
      go_wp2_with fail
      refine (answeredBy_any ao co xs way _ (own_sl O2.out) (by omega) hT.out).mono ?_; rintro e w3 ⟨v, rfl, hN3, hF3⟩
      have R3 := Lib.hid (rdr_keep R2.out hF3); have F3 := Lib.hid (fr_any F2.out hF3)
      obtain ⟨a3, c3, ys, rfl, ho3, hl4, hT3⟩ := newTiny_base hN3 F2.out.size
      have O3 := Lib.hid ho3; have T3 := Lib.hid hT3
      have hl5 : ys.length ≤ 3 := by omega
      clear hN3 hF3 ho3 hT3 hl4
      have fin : ∀ (w' : World) (zs : List Tst), zs.length = ys.length → w'.ownsRow w.heap.size 52 3 (.slice a3 zs.length c3) zs.length (tests zs) → Tiny zs → Rdr w' B (N + 1500) → Fr w.heap.size (some B) w w' → ∀ b : Bool, b = false → RdTests B (N + 2000) 3 w (.returned (.slice a3 ys.length c3)) w' := by
        intro w' zs h1 h2 h3 h4 h5 _ _
        exact ⟨_, rfl, ⟨a3, c3, zs, by rw [h1], h2, by omega, h3⟩, h4.mono (by omega), h5⟩
      have FIN := Lib.hid fin; clear fin
      by_cases hy : 0 < ys.length
      · have hy' : (0 : Int) < (ys.length : Int) := by omega
        obtain ⟨g, rfl, hg1, hg2⟩ := row_addr O3.out hy
        go_wp2_with fail
        refine (pick_any B _ _ _ R3.out (by omega)).mono ?_; rintro e w4 ⟨q, rfl, _, hR4, hF4⟩
        have R4 := Lib.hid hR4; have O4 := Lib.hid (row_past O3.out hF4 hBl); have F4 := Lib.hid (fr_rd F3.out hF4); clear hR4 hF4
        by_cases hq : q = 0
        · have hz0 : (q == 0) = true := by rw [beq_iff_eq]; exact hq
          clear hq
          go_wp2_with fail
          refine (l20Numeral_any B _ 3 4 _ R4.out (by omega) (by omega) (by omega)).mono ?_; rintro e w5 ⟨u, rfl, hu, hR5, hF5⟩
          have R5 := Lib.hid hR5; have O5 := Lib.hid (row_past O4.out hF5 hBl); have F5 := Lib.hid (fr_rd F4.out hF5); clear hR5 hF5
          obtain ⟨k2, f2⟩ := row_ans O5.out 0 hy
          rw [Nat.zero_mul, Nat.zero_add] at k2 f2
          have o6 := row_stored O5.out 2 (.string u)
          have e6 := tests_set ys 0 u hy
          rw [Nat.zero_mul, Nat.zero_add] at e6
          rw [e6, ← setAns_len ys 0 u] at o6
          have O6 := Lib.hid o6
          have R6 := Lib.hid (R5.out.fr ((Fr.refl w5.heap.size (some g) w5).setCell (p := ⟨g, 2, none⟩) (.inr rfl) (.string u)) R5.out.lt (by intro x hx; cases hx; omega))
          have F6 := Lib.hid (F5.out.setCell (p := ⟨g, 2, none⟩) (.inl hg1) (.string u))
          clear o6 e6
          go_wp2_with fail
          refine (odd_any B _ _ _ R6.out (by omega) (by omega)).mono ?_; rintro e w7 ⟨bo, rfl, hbo, hR7, hF7⟩
          obtain rfl := hbo (by omega)
          have O7 := Lib.hid (row_past O6.out hF7 hBl)
          have F7 := Lib.hid (fr_rd F6.out hF7)
          have R7 := Lib.hid hR7
          clear hR7 hF7 hbo
          go_wp2
          go_ret
          exact FIN.out _ _ (setAns_len ys 0 u) O7.out (setAns_tiny T3.out 0 hu) (R7.out.mono (by omega)) F7.out false rfl
        · have hz0 : (q == 0) = false := by rw [beq_eq_false_iff_ne]; exact hq
          clear hq
          go_wp2_with fail
          refine (odd_any B _ _ _ R4.out (by omega) (by omega)).mono ?_; rintro e w7 ⟨bo, rfl, hbo, hR7, hF7⟩
          obtain rfl := hbo (by omega)
          have O7 := Lib.hid (row_past O4.out hF7 hBl)
          have F7 := Lib.hid (fr_rd F4.out hF7)
          have R7 := Lib.hid hR7
          clear hR7 hF7 hbo
          go_wp2
          go_ret
          exact FIN.out _ ys rfl O7.out T3.out (R7.out.mono (by omega)) F7.out false rfl
      · have hy' : (ys.length : Int) ≤ 0 := by omega
        go_wp2_with fail
        refine (odd_any B _ _ _ R3.out (by omega) (by omega)).mono ?_; rintro e w7 ⟨bo, rfl, hbo, hR7, hF7⟩
        obtain rfl := hbo (by omega)
        have O7 := Lib.hid (row_past O3.out hF7 hBl)
        have F7 := Lib.hid (fr_rd F3.out hF7)
        have R7 := Lib.hid hR7
        clear hR7 hF7 hbo
        go_wp2
        go_ret
        exact FIN.out _ ys rfl O7.out T3.out (R7.out.mono (by omega)) F7.out false rfl
end Go.Proofs.YtdngnmpmaacapaaGreatDoor
/-
  Contracts: the draws of boards and of deeds.
-/
namespace Go.Proofs.YtdngnmpmaacapaaGreatDoor
open Go.RowKit

theorem three_of {q : Int} (h0 : 0 ≤ q) (h1 : q < 3) : q = 0 ∨ q = 1 ∨ q = 2 := by omega

set_option maxHeartbeats 4000000 in
set_option maxRecDepth 100000 in
theorem l20Board_any (B N : Nat) (n : Int) (w : World) (h : Rdr w B N) (hN : N ≤ 700000) (hn : n ≤ 1000000) :
    Calls Tryz.prog 38 #[.pointer (some ⟨B, 0, none⟩), .int .i64 n] w (RdTests B (N + 2100) 4 w) := by
  have hBl := h.lt
  have R0 := Lib.hid h
  clear h
  go_enter Tryz.func38, Tryz.ntmps38
  go_wp2_with fail
  refine (l20Tests_any B N _ R0.out (by omega)).mono ?_; rintro e w1 ⟨v, rfl, ⟨a, c, xs, rfl, ho1, hl, hT1⟩, hR1, hF1⟩
  have R1 := Lib.hid hR1; have O1 := Lib.hid ho1; have F1 := Lib.hid hF1; have T1 := Lib.hid hT1
  clear ho1 hR1 hF1 hT1
  go_wp2
  go_loopw [6] (fun i wr => ∃ (k : Nat) (ys : List Tst), k ≤ xs.length ∧ i = .int .i64 k ∧ Hid (ys.length = xs.length) ∧ wr.ownsRow w.heap.size 52 3 (.slice a xs.length c) xs.length (tests ys) ∧ Hid (Tiny ys) ∧ Hid (Rdr wr B (N + 2000)) ∧ Fr w.heap.size (some B) w wr) (fun i _ => xs.length - (intOf i).toNat)
  case atStart => exact ⟨0, xs, Nat.zero_le _, rfl, rfl, O1.out, T1.out, R1.out, F1.out⟩
  case round =>
    obtain ⟨k, ys, hk, rfl, hly, ho, hT, hR, hF⟩ := hrel
    have HO := Lib.hid ho; have HF := Lib.hid hF; have hz := hF.size; clear ho hF
    by_cases hlt : k < xs.length
    · have hlt' : (k : Int) < (xs.length : Int) := by omega
      have k0 : (0 : Int) ≤ (k : Int) := by omega
      obtain ⟨g, rfl, hg1, hg2⟩ := row_addr HO.out (by omega)
      have HO2 : Hid (wr.ownsRow w.heap.size 52 3 (.slice (some ⟨g, 0, none⟩) ys.length c) ys.length (tests ys)) := by rw [hly.out]; exact HO.out
      have hky : k < ys.length := by rw [hly.out]; exact hlt
      obtain ⟨k2, f2⟩ := row_ans HO2.out k hky
      have SA := Lib.hid (row_stored HO.out (k * 3 + 2) (.string ⟨#[48]⟩))
      have e6 := Lib.hid (tests_set ys k ⟨#[48]⟩ hky)
      have hx := (hT.out.at k).2.2
      have sl := Lib.hid (setAns_len ys k ⟨#[48]⟩)
      have sT := Lib.hid (setAns_tiny hT.out k (u := ⟨#[48]⟩) (by decide))
      generalize setAns ys k ⟨#[48]⟩ = zs at *
      generalize (ys.getD k noTest).2.2 = x at *
      obtain ⟨r, hr⟩ : ∃ r, numOk x = r := ⟨_, rfl⟩
      have HR := Lib.hid hr; clear hr
      cases r
      · have SB := Lib.hid (show (wr.setCell ⟨g, k * 3 + 2, none⟩ (.string ⟨#[48]⟩)).ownsRow w.heap.size 52 3 (.slice (some ⟨g, 0, none⟩) xs.length c) xs.length (tests zs) by have := SA.out; rw [e6.out] at this; exact this)
        have RB := Lib.hid (hR.out.fr ((Fr.refl wr.heap.size (some g) wr).setCell (p := ⟨g, k * 3 + 2, none⟩) (.inr rfl) (.string ⟨#[48]⟩)) hR.out.lt (by intro x hx; cases hx; omega))
        have FB := Lib.hid (HF.out.setCell (p := ⟨g, k * 3 + 2, none⟩) (.inl hg1) (.string ⟨#[48]⟩))
        clear SA e6
        go_wp2_with (go_at_call 53; refine (numS_val (by omega) HR.out _).mono ?_; rintro e w' ⟨rfl, rfl⟩)
        go_roundw
        case rel => exact ⟨k + 1, zs, by omega, by go_num, by rw [← hly.out]; exact sl.out, SB.out, sT, RB, FB.out⟩
        case measure => simp [intOf]; omega
      · clear SA e6 sl sT
        go_wp2_with (go_at_call 53; refine (numS_val (by omega) HR.out _).mono ?_; rintro e w' ⟨rfl, rfl⟩)
        go_roundw
        case rel => exact ⟨k + 1, ys, by omega, by go_num, hly, HO.out, hT, hR, HF.out⟩
        case measure => simp [intOf]; omega
    · have hge : (xs.length : Int) ≤ (k : Int) := by omega
      go_wp2_with fail
      refine (odd_any B _ n _ hR.out (by omega) hn).mono ?_; rintro e w2 ⟨bo, rfl, _, hR2, hF2⟩
      have R2 := Lib.hid hR2; have O2 := Lib.hid (row_past HO.out hF2 hBl); have F2 := Lib.hid (fr_rd HF.out hF2); clear hR2 hF2
      cases bo
      · go_wp2
        go_ret
        exact ⟨_, rfl, ⟨a, c, ys, by rw [hly.out]; rfl, by rw [hly.out]; exact O2.out, by rw [hly.out]; omega, hT.out⟩, R2.out.mono (by omega), F2.out⟩
      · have z2 := F2.out.size
        have hB2 := R2.out.lt
        have R3 := Lib.hid (rdr_alloc R2.out (.cells #[.string ⟨#[]⟩, .string ⟨#[]⟩, .string ⟨#[]⟩, .string ⟨#[53]⟩, .string ⟨#[51]⟩, .string ⟨#[48, 50]⟩, .string ⟨#[53]⟩, .string ⟨#[54]⟩, .string ⟨#[49]⟩] 52))
        have O3 := Lib.hid (O2.out.alloc (.cells #[.string ⟨#[]⟩, .string ⟨#[]⟩, .string ⟨#[]⟩, .string ⟨#[53]⟩, .string ⟨#[51]⟩, .string ⟨#[48, 50]⟩, .string ⟨#[53]⟩, .string ⟨#[54]⟩, .string ⟨#[49]⟩] 52))
        have F3 := Lib.hid (F2.out.alloc z2 (.cells #[.string ⟨#[]⟩, .string ⟨#[]⟩, .string ⟨#[]⟩, .string ⟨#[53]⟩, .string ⟨#[51]⟩, .string ⟨#[48, 50]⟩, .string ⟨#[53]⟩, .string ⟨#[54]⟩, .string ⟨#[49]⟩] 52))
        have C3 := Lib.hid (heap_alloc_new w2 (.cells #[.string ⟨#[]⟩, .string ⟨#[]⟩, .string ⟨#[]⟩, .string ⟨#[53]⟩, .string ⟨#[51]⟩, .string ⟨#[48, 50]⟩, .string ⟨#[53]⟩, .string ⟨#[54]⟩, .string ⟨#[49]⟩] 52))
        go_wp2_with fail
        refine (pick_any B _ _ _ R3.out (by omega)).mono ?_; rintro e w4 ⟨q, rfl, ⟨a4, b4, _⟩, hR4, hF4⟩
        have c4 := b4 (by omega)
        have R4 := Lib.hid hR4; have O4 := Lib.hid (row_past O3.out hF4 hBl); have F4 := Lib.hid (fr_rd F3.out hF4)
        have C4 := Lib.hid (block_on C3.out hF4 (by omega))
        have z4 := F4.out.size
        have hcs := fun j => block_cells C4.out j
        have d0 : w4.cell? ⟨w2.heap.size, 0, none⟩ = some (.string ⟨#[]⟩) := hcs 0
        have d1 : w4.cell? ⟨w2.heap.size, 1, none⟩ = some (.string ⟨#[]⟩) := hcs 1
        have d2 : w4.cell? ⟨w2.heap.size, 2, none⟩ = some (.string ⟨#[]⟩) := hcs 2
        have d3 : w4.cell? ⟨w2.heap.size, 3, none⟩ = some (.string ⟨#[53]⟩) := hcs 3
        have d4 : w4.cell? ⟨w2.heap.size, 4, none⟩ = some (.string ⟨#[51]⟩) := hcs 4
        have d5 : w4.cell? ⟨w2.heap.size, 5, none⟩ = some (.string ⟨#[48, 50]⟩) := hcs 5
        have d6 : w4.cell? ⟨w2.heap.size, 6, none⟩ = some (.string ⟨#[53]⟩) := hcs 6
        have d7 : w4.cell? ⟨w2.heap.size, 7, none⟩ = some (.string ⟨#[54]⟩) := hcs 7
        have d8 : w4.cell? ⟨w2.heap.size, 8, none⟩ = some (.string ⟨#[49]⟩) := hcs 8
        have fin : ∀ (x1 x2 x3 : ByteArray) (v' : Value) (w' : World), tiny (x1, x2, x3) → w'.ownsRow w.heap.size 52 3 v' (xs.length + 1) (tests ys ++ [.string x1, .string x2, .string x3]) → Fr w4.heap.size (Value.slice a xs.length c).ownBlock w4 w' → RdTests B (N + 2100) 4 w (.returned v') w' := by
          intro x1 x2 x3 v' w' h1 ho' hF'
          rw [← hly.out] at ho'
          obtain ⟨a', c', rfl, ho5⟩ := app_tests ho'
          refine ⟨_, rfl, ⟨a', c', _, rfl, ho5, by rw [List.length_append, hly.out]; simp; omega, tiny_snoc hT.out h1⟩, ?_, ?_⟩
          · exact (R4.out.fr hF' (by have := R4.out.lt; omega) (by intro g hg; have := own_lt O4.out g hg; omega)).mono (by omega)
          · exact F4.out.trans ((hF'.up (B' := w.heap.size) z4 (by intro g hg; exact (own_lt O4.out g hg).1)).weak _)
        have FIN := Lib.hid fin
        clear fin hcs hR4 hF4 b4
        rcases three_of a4 c4 with rfl | rfl | rfl
        · go_wp2_with (at_builtin; refine app1 23 52 (.agg #[.string ByteArray.empty, .string ByteArray.empty, .string ByteArray.empty]) 3 48 Tryz.underlying23 infoTest rfl (by decide) (by decide) rfl _ _ rfl [.string ⟨#[]⟩, .string ⟨#[]⟩, .string ⟨#[]⟩] O4.out rfl rfl rfl (by simp [Value.oneCell']) (by omega) z4 ?_; intro v' w' ho' hF'; (
            have G := Lib.hid (FIN.out _ _ _ v' w' (tiny_lit (by decide) (by decide) (by decide)) ho' hF'); clear ho' hF'))
          go_ret
          exact G.out
        · go_wp2_with (at_builtin; refine app1 23 52 (.agg #[.string ByteArray.empty, .string ByteArray.empty, .string ByteArray.empty]) 3 48 Tryz.underlying23 infoTest rfl (by decide) (by decide) rfl _ _ rfl [.string ⟨#[53]⟩, .string ⟨#[51]⟩, .string ⟨#[48, 50]⟩] O4.out rfl rfl rfl (by simp [Value.oneCell']) (by omega) z4 ?_; intro v' w' ho' hF'; (
            have G := Lib.hid (FIN.out _ _ _ v' w' (tiny_lit (by decide) (by decide) (by decide)) ho' hF'); clear ho' hF'))
          go_ret
          exact G.out
        · go_wp2_with (at_builtin; refine app1 23 52 (.agg #[.string ByteArray.empty, .string ByteArray.empty, .string ByteArray.empty]) 3 48 Tryz.underlying23 infoTest rfl (by decide) (by decide) rfl _ _ rfl [.string ⟨#[53]⟩, .string ⟨#[54]⟩, .string ⟨#[49]⟩] O4.out rfl rfl rfl (by simp [Value.oneCell']) (by omega) z4 ?_; intro v' w' ho' hF'; (
            have G := Lib.hid (FIN.out _ _ _ v' w' (tiny_lit (by decide) (by decide) (by decide)) ho' hF'); clear ho' hF'))
          go_ret
          exact G.out
end Go.Proofs.YtdngnmpmaacapaaGreatDoor
/-
  Contracts: the draws of the laws of boards.
-/
namespace Go.Proofs.YtdngnmpmaacapaaGreatDoor
open Go.RowKit

def DrawnTests (w : World) (e : Ending) (w' : World) : Prop := ∃ v, e = .returned v ∧ NewTiny 4 w' w.heap.size v ∧ Fr w.heap.size none w w'
def longDeeds : List Dd := List.replicate 41 noDeed
theorem long_cells : zrows zDeed 41 = deeds longDeeds := by rfl
theorem long_tiny : TinyD longDeeds := by
  intro x hx
  have : x = noDeed := List.eq_of_mem_replicate hx
  subst this; exact ⟨Nat.zero_le _, Nat.zero_le _, Nat.zero_le _⟩
def DrawnRun (w : World) (e : Ending) (w' : World) : Prop := ∃ v u, e = .returned (.tuple #[v, u]) ∧ NewTiny 4 w' w.heap.size v ∧ NewTinyD 41 w' w.heap.size u ∧ Fr w.heap.size none w w'
theorem newTiny_keep {m : Nat} {w w' : World} {b : Nat} {v : Value} (h : NewTiny m w b v) (hF : Fr w.heap.size none w w') : NewTiny m w' b v := by
  obtain ⟨a, c, ys, e, ho, hl, ht⟩ := h
  exact ⟨a, c, ys, e, row_keep ho hF, hl, ht⟩
theorem newTiny_past {m : Nat} {w w' : World} {b B : Nat} {v : Value} (h : NewTiny m w b v) (hF : Fr w.heap.size (some B) w w') (hB : B < b) : NewTiny m w' b v := by
  obtain ⟨a, c, ys, e, ho, hl, ht⟩ := h
  exact ⟨a, c, ys, e, row_past ho hF hB, hl, ht⟩
set_option maxHeartbeats 1000000 in
set_option maxRecDepth 100000 in
theorem drawBoardRun_any (a : Option Addr) (cap : Nat) (bs : List Int) (w : World) (hs : Sl w a (u8s bs)) (hb : ∀ x ∈ bs, 0 ≤ x ∧ x ≤ 255) (hn : bs.length ≤ 1048576) (hcap : bs.length ≤ cap) :
    Calls Tryz.prog 33 #[.slice a bs.length cap] w (DrawnRun w) := by
  have HS := Lib.hid hs; have HB := Lib.hid hb; clear hs hb
  go_enter Tryz.func33, Tryz.ntmps33
  go_wp2_with fail
  refine (l20Open_any a cap bs _ HS.out HB.out hn hcap).mono ?_; rintro e w1 ⟨B, rfl, hB, hR, hF⟩
  have hBl := hR.lt
  have z1 := hF.size
  go_wp2_with fail
  refine (l20Board_any B 0 12 _ hR (by omega) (by omega)).mono ?_; rintro e w2 ⟨v, rfl, hN, hR2, hF2⟩
  have G2 := Lib.hid (hF.trans (hF2.up (B' := w.heap.size) hF.size (by intro g hg; cases hg; exact hB)))
  have N2 := Lib.hid hN
  have R2 := Lib.hid hR2
  have z2 := hF2.size
  clear hF hF2 hR hR2 hN
  go_wp2_with fail
  refine (odd_any B _ 30 _ R2.out (by omega) (by omega)).mono ?_; rintro e w3 ⟨bo, rfl, _, hR3, hF3⟩
  have G3 := Lib.hid (G2.out.trans (hF3.up (B' := w.heap.size) (by omega) (by intro g hg; cases hg; exact hB)))
  have N3 := Lib.hid (newTiny_past N2.out hF3 hBl)
  have R3 := Lib.hid hR3
  have z3 := hF3.size
  clear hF3 hR3
  cases bo
  · go_wp2_with fail
    refine (l20Deeds_any B _ _ R3.out (by omega)).mono ?_; rintro e w4 ⟨u, rfl, ⟨au, cu, ds, rfl, hod, hld, htd⟩, hR4, hF4⟩
    have G4 := Lib.hid (G3.out.trans (hF4.up (B' := w.heap.size) (by omega) (by intro g hg; cases hg; exact hB)))
    have N4 := Lib.hid (newTiny_base (newTiny_past N3.out hF4 hBl) z1)
    have D4 := Lib.hid (own_base hod (by omega : w.heap.size ≤ w3.heap.size))
    have TD := Lib.hid htd
    clear hF4 hR4 hod htd
    go_wp2
    go_ret2
    exact ⟨_, _, rfl, N4.out, ⟨au, cu, ds, rfl, D4.out, by omega, TD.out⟩, G4.out⟩
  · obtain ⟨w4, hr, ho, hF4⟩ := mkDeeds 41 (by omega) w3.drew
    rw [long_cells] at ho
    have hr2 : (Instr.makeSlice 44 (.int .i64 41) (.int .i64 41)).run Tryz.prog w3.drew = .ok (.slice (some ⟨w3.drew.heap.size, 0, none⟩) 41 41) w4 := hr
    clear hr
    have D4 := Lib.hid (own_base ho (show w.heap.size ≤ w3.drew.heap.size by show w.heap.size ≤ w3.heap.size; omega))
    have G4 := Lib.hid (G3.out.drew.and hF4)
    have N4 := Lib.hid (newTiny_base (newTiny_keep N3.out ((Fr.refl w3.heap.size none w3).drew.and hF4)) z1)
    clear ho hF4
    go_wp2
    go_region
    go_wp2
    go_ret2
    exact ⟨_, _, rfl, N4.out, ⟨_, 41, longDeeds, rfl, D4.out, by decide, long_tiny⟩, G4.out⟩
end Go.Proofs.YtdngnmpmaacapaaGreatDoor
/-
  Contracts: the draw of a board and a deed, and sameTests of slices of different lengths.
-/
namespace Go.Proofs.YtdngnmpmaacapaaGreatDoor
open Go.RowKit

theorem tiny_past {m : Nat} {w w' : World} {b B : Nat} {v : Value} (h : NewTiny m w b v) (hF : Fr w.heap.size (some B) w w') (hB : B < b) : NewTiny m w' b v := by
  obtain ⟨a, c, ys, e, ho, hl, ht⟩ := h
  exact ⟨a, c, ys, e, row_past ho hF hB, hl, ht⟩
theorem tiny_set {m : Nat} {w : World} {b B : Nat} {v : Value} (h : NewTiny m w b v) (hB : B < b) (p : Nat) (u : Value) : NewTiny m (w.setCell ⟨B, p, none⟩ u) b v :=
  tiny_past h ((Fr.refl w.heap.size (some B) w).setCell (p := ⟨B, p, none⟩) (.inr rfl) u) hB
/-- A board and a deed are drawn. -/
def DrawnDo (w : World) (e : Ending) (w' : World) : Prop := ∃ v, ∃ d : Dd, e = .returned (.tuple #[v, .agg #[.bool d.1, .string d.2.1, .string d.2.2.1, .string d.2.2.2]]) ∧ NewTiny 4 w' w.heap.size v ∧ tiny d.2 ∧ Fr w.heap.size none w w'
theorem sameTests_no (a b : Option Addr) (n m ca cb : Nat) (w : World) (h : n ≠ m) : Calls Tryz.prog 11 #[.slice a n ca, .slice b m cb] w fun e w' => e = .returned (.bool false) ∧ w = w' := by
  have hz : ((n : Int) != (m : Int)) = true := by rw [bne_iff_ne]; omega
  have hz2 : ((n : Int) == (m : Int)) = false := by rw [beq_eq_false_iff_ne]; omega
  clear h
  go_enter Tryz.func11, Tryz.ntmps11
  go_wp2
  go_ret
  exact ⟨rfl, rfl⟩
end Go.Proofs.YtdngnmpmaacapaaGreatDoor
