/-
  Contracts: the draws of boards and of deeds.
-/
import Derived.Test.YtdngnmpmaacapaaGreatDoorDrawBoard
import Derived.Test.YtdngnmpmaacapaaGreatDoorDeedB
namespace Go.Proofs.YtdngnmpmaacapaaGreatDoor
open Go.RowKit

theorem three_of {q : Int} (h0 : 0 ≤ q) (h1 : q < 3) : q = 0 ∨ q = 1 ∨ q = 2 := by omega

set_option maxHeartbeats 4000000 in
set_option maxRecDepth 100000 in
theorem l20Board_any (B N : Nat) (n : Int) (w : World) (h : Rdr w B N) (hN : N ≤ 700000) (hn : n ≤ 1000000) :
    Calls Tryz.prog 38 #[.pointer (some ⟨B, 0, none⟩), .int .i64 n] w (RdTests B (N + 2100) 4 w) := by
  have hBl := h.lt
  have R0 := Lib.hid h
  clear h
  go_enter Tryz.func38, Tryz.ntmps38
  go_wp2_with fail
  refine (l20Tests_any B N _ R0.out (by omega)).mono ?_; rintro e w1 ⟨v, rfl, ⟨a, c, xs, rfl, ho1, hl, hT1⟩, hR1, hF1⟩
  have R1 := Lib.hid hR1; have O1 := Lib.hid ho1; have F1 := Lib.hid hF1; have T1 := Lib.hid hT1
  clear ho1 hR1 hF1 hT1
  go_wp2
  go_loopw [6] (fun i wr => ∃ (k : Nat) (ys : List Tst), k ≤ xs.length ∧ i = .int .i64 k ∧ Hid (ys.length = xs.length) ∧ wr.ownsRow w.heap.size 52 3 (.slice a xs.length c) xs.length (tests ys) ∧ Hid (Tiny ys) ∧ Hid (Rdr wr B (N + 2000)) ∧ Fr w.heap.size (some B) w wr) (fun i _ => xs.length - (intOf i).toNat)
  case atStart => exact ⟨0, xs, Nat.zero_le _, rfl, rfl, O1.out, T1.out, R1.out, F1.out⟩
  case round =>
    obtain ⟨k, ys, hk, rfl, hly, ho, hT, hR, hF⟩ := hrel
    have HO := Lib.hid ho; have HF := Lib.hid hF; have hz := hF.size; clear ho hF
    by_cases hlt : k < xs.length
    · have hlt' : (k : Int) < (xs.length : Int) := by omega
      have k0 : (0 : Int) ≤ (k : Int) := by omega
      obtain ⟨g, rfl, hg1, hg2⟩ := row_addr HO.out (by omega)
      have HO2 : Hid (wr.ownsRow w.heap.size 52 3 (.slice (some ⟨g, 0, none⟩) ys.length c) ys.length (tests ys)) := by rw [hly.out]; exact HO.out
      have hky : k < ys.length := by rw [hly.out]; exact hlt
      obtain ⟨k2, f2⟩ := row_ans HO2.out k hky
      have SA := Lib.hid (row_stored HO.out (k * 3 + 2) (.string ⟨#[48]⟩))
      have e6 := Lib.hid (tests_set ys k ⟨#[48]⟩ hky)
      have hx := (hT.out.at k).2.2
      have sl := Lib.hid (setAns_len ys k ⟨#[48]⟩)
      have sT := Lib.hid (setAns_tiny hT.out k (u := ⟨#[48]⟩) (by decide))
      generalize setAns ys k ⟨#[48]⟩ = zs at *
      generalize (ys.getD k noTest).2.2 = x at *
      obtain ⟨r, hr⟩ : ∃ r, numOk x = r := ⟨_, rfl⟩
      have HR := Lib.hid hr; clear hr
      cases r
      · have SB := Lib.hid (show (wr.setCell ⟨g, k * 3 + 2, none⟩ (.string ⟨#[48]⟩)).ownsRow w.heap.size 52 3 (.slice (some ⟨g, 0, none⟩) xs.length c) xs.length (tests zs) by have := SA.out; rw [e6.out] at this; exact this)
        have RB := Lib.hid (hR.out.fr ((Fr.refl wr.heap.size (some g) wr).setCell (p := ⟨g, k * 3 + 2, none⟩) (.inr rfl) (.string ⟨#[48]⟩)) hR.out.lt (by intro x hx; cases hx; omega))
        have FB := Lib.hid (HF.out.setCell (p := ⟨g, k * 3 + 2, none⟩) (.inl hg1) (.string ⟨#[48]⟩))
        clear SA e6
        go_wp2_with (go_at_call 53; refine (numS_val (by omega) HR.out _).mono ?_; rintro e w' ⟨rfl, rfl⟩)
        go_roundw
        case rel => exact ⟨k + 1, zs, by omega, by go_num, by rw [← hly.out]; exact sl.out, SB.out, sT, RB, FB.out⟩
        case measure => simp [intOf]; omega
      · clear SA e6 sl sT
        go_wp2_with (go_at_call 53; refine (numS_val (by omega) HR.out _).mono ?_; rintro e w' ⟨rfl, rfl⟩)
        go_roundw
        case rel => exact ⟨k + 1, ys, by omega, by go_num, hly, HO.out, hT, hR, HF.out⟩
        case measure => simp [intOf]; omega
    · have hge : (xs.length : Int) ≤ (k : Int) := by omega
      go_wp2_with fail
      refine (odd_any B _ n _ hR.out (by omega) hn).mono ?_; rintro e w2 ⟨bo, rfl, _, hR2, hF2⟩
      have R2 := Lib.hid hR2; have O2 := Lib.hid (row_past HO.out hF2 hBl); have F2 := Lib.hid (fr_rd HF.out hF2); clear hR2 hF2
      cases bo
      · go_wp2
        go_ret
        exact ⟨_, rfl, ⟨a, c, ys, by rw [hly.out]; rfl, by rw [hly.out]; exact O2.out, by rw [hly.out]; omega, hT.out⟩, R2.out.mono (by omega), F2.out⟩
      · have z2 := F2.out.size
        have hB2 := R2.out.lt
        have R3 := Lib.hid (rdr_alloc R2.out (.cells #[.string ⟨#[]⟩, .string ⟨#[]⟩, .string ⟨#[]⟩, .string ⟨#[53]⟩, .string ⟨#[51]⟩, .string ⟨#[48, 50]⟩, .string ⟨#[53]⟩, .string ⟨#[54]⟩, .string ⟨#[49]⟩] 52))
        have O3 := Lib.hid (O2.out.alloc (.cells #[.string ⟨#[]⟩, .string ⟨#[]⟩, .string ⟨#[]⟩, .string ⟨#[53]⟩, .string ⟨#[51]⟩, .string ⟨#[48, 50]⟩, .string ⟨#[53]⟩, .string ⟨#[54]⟩, .string ⟨#[49]⟩] 52))
        have F3 := Lib.hid (F2.out.alloc z2 (.cells #[.string ⟨#[]⟩, .string ⟨#[]⟩, .string ⟨#[]⟩, .string ⟨#[53]⟩, .string ⟨#[51]⟩, .string ⟨#[48, 50]⟩, .string ⟨#[53]⟩, .string ⟨#[54]⟩, .string ⟨#[49]⟩] 52))
        have C3 := Lib.hid (heap_alloc_new w2 (.cells #[.string ⟨#[]⟩, .string ⟨#[]⟩, .string ⟨#[]⟩, .string ⟨#[53]⟩, .string ⟨#[51]⟩, .string ⟨#[48, 50]⟩, .string ⟨#[53]⟩, .string ⟨#[54]⟩, .string ⟨#[49]⟩] 52))
        go_wp2_with fail
        refine (pick_any B _ _ _ R3.out (by omega)).mono ?_; rintro e w4 ⟨q, rfl, ⟨a4, b4, _⟩, hR4, hF4⟩
        have c4 := b4 (by omega)
        have R4 := Lib.hid hR4; have O4 := Lib.hid (row_past O3.out hF4 hBl); have F4 := Lib.hid (fr_rd F3.out hF4)
        have C4 := Lib.hid (block_on C3.out hF4 (by omega))
        have z4 := F4.out.size
        have hcs := fun j => block_cells C4.out j
        have d0 : w4.cell? ⟨w2.heap.size, 0, none⟩ = some (.string ⟨#[]⟩) := hcs 0
        have d1 : w4.cell? ⟨w2.heap.size, 1, none⟩ = some (.string ⟨#[]⟩) := hcs 1
        have d2 : w4.cell? ⟨w2.heap.size, 2, none⟩ = some (.string ⟨#[]⟩) := hcs 2
        have d3 : w4.cell? ⟨w2.heap.size, 3, none⟩ = some (.string ⟨#[53]⟩) := hcs 3
        have d4 : w4.cell? ⟨w2.heap.size, 4, none⟩ = some (.string ⟨#[51]⟩) := hcs 4
        have d5 : w4.cell? ⟨w2.heap.size, 5, none⟩ = some (.string ⟨#[48, 50]⟩) := hcs 5
        have d6 : w4.cell? ⟨w2.heap.size, 6, none⟩ = some (.string ⟨#[53]⟩) := hcs 6
        have d7 : w4.cell? ⟨w2.heap.size, 7, none⟩ = some (.string ⟨#[54]⟩) := hcs 7
        have d8 : w4.cell? ⟨w2.heap.size, 8, none⟩ = some (.string ⟨#[49]⟩) := hcs 8
        have fin : ∀ (x1 x2 x3 : ByteArray) (v' : Value) (w' : World), tiny (x1, x2, x3) → w'.ownsRow w.heap.size 52 3 v' (xs.length + 1) (tests ys ++ [.string x1, .string x2, .string x3]) → Fr w4.heap.size (Value.slice a xs.length c).ownBlock w4 w' → RdTests B (N + 2100) 4 w (.returned v') w' := by
          intro x1 x2 x3 v' w' h1 ho' hF'
          rw [← hly.out] at ho'
          obtain ⟨a', c', rfl, ho5⟩ := app_tests ho'
          refine ⟨_, rfl, ⟨a', c', _, rfl, ho5, by rw [List.length_append, hly.out]; simp; omega, tiny_snoc hT.out h1⟩, ?_, ?_⟩
          · exact (R4.out.fr hF' (by have := R4.out.lt; omega) (by intro g hg; have := own_lt O4.out g hg; omega)).mono (by omega)
          · exact F4.out.trans ((hF'.up (B' := w.heap.size) z4 (by intro g hg; exact (own_lt O4.out g hg).1)).weak _)
        have FIN := Lib.hid fin
        clear fin hcs hR4 hF4 b4
        rcases three_of a4 c4 with rfl | rfl | rfl
        · go_wp2_with (at_builtin; refine app1 23 52 (.agg #[.string ByteArray.empty, .string ByteArray.empty, .string ByteArray.empty]) 3 48 Tryz.underlying23 infoTest rfl (by decide) (by decide) rfl _ _ rfl [.string ⟨#[]⟩, .string ⟨#[]⟩, .string ⟨#[]⟩] O4.out rfl rfl rfl (by simp [Value.oneCell']) (by omega) z4 ?_; intro v' w' ho' hF'; (
            have G := Lib.hid (FIN.out _ _ _ v' w' (tiny_lit (by decide) (by decide) (by decide)) ho' hF'); clear ho' hF'))
          go_ret
          exact G.out
        · go_wp2_with (at_builtin; refine app1 23 52 (.agg #[.string ByteArray.empty, .string ByteArray.empty, .string ByteArray.empty]) 3 48 Tryz.underlying23 infoTest rfl (by decide) (by decide) rfl _ _ rfl [.string ⟨#[53]⟩, .string ⟨#[51]⟩, .string ⟨#[48, 50]⟩] O4.out rfl rfl rfl (by simp [Value.oneCell']) (by omega) z4 ?_; intro v' w' ho' hF'; (
            have G := Lib.hid (FIN.out _ _ _ v' w' (tiny_lit (by decide) (by decide) (by decide)) ho' hF'); clear ho' hF'))
          go_ret
          exact G.out
        · go_wp2_with (at_builtin; refine app1 23 52 (.agg #[.string ByteArray.empty, .string ByteArray.empty, .string ByteArray.empty]) 3 48 Tryz.underlying23 infoTest rfl (by decide) (by decide) rfl _ _ rfl [.string ⟨#[53]⟩, .string ⟨#[54]⟩, .string ⟨#[49]⟩] O4.out rfl rfl rfl (by simp [Value.oneCell']) (by omega) z4 ?_; intro v' w' ho' hF'; (
            have G := Lib.hid (FIN.out _ _ _ v' w' (tiny_lit (by decide) (by decide) (by decide)) ho' hF'); clear ho' hF'))
          go_ret
          exact G.out
end Go.Proofs.YtdngnmpmaacapaaGreatDoor
