/-
  Contracts: the draw of a text that often begins with lines of a journal.
-/
import Derived.Test.YtdngnmpmaacapaaGreatDoorDrawJ
import Derived.Test.YtdngnmpmaacapaaGreatDoorDrawText
namespace Go.Proofs.YtdngnmpmaacapaaGreatDoor
open Go.RowKit

set_option maxHeartbeats 4000000 in
set_option maxRecDepth 100000 in
theorem l20SpoilB_any (B N : Nat) (s : ByteArray) (w : World) (h : Rdr w B N) (hN : N ≤ 800000) (hs : s.size ≤ 1000) :
    Calls Tryz.prog 69 #[.pointer (some ⟨B, 0, none⟩), .string s] w fun e w' => (∃ t : ByteArray, e = .returned (.string t) ∧ t.size ≤ 3000) ∧ Fr w.heap.size (some B) w w' := by
  have hBl := h.lt
  have R0 := Lib.hid h; clear h
  by_cases h0 : s.size = 0
  · have hz : ((s.size : Int) == 0) = true := by rw [h0]; rfl
    go_enter Tryz.func69, Tryz.ntmps69
    go_wp2
    go_ret
    exact ⟨⟨_, rfl, by decide⟩, Fr.refl _ _ _⟩
  · have hz : ((s.size : Int) == 0) = false := by rw [beq_eq_false_iff_ne]; omega
    have hp : 0 < s.size := by omega
    clear h0
    go_enter Tryz.func69, Tryz.ntmps69
    go_wp2_with fail
    refine (pick_any B N _ _ R0.out (by omega)).mono ?_; rintro e w1 ⟨k, rfl, ⟨k0, k1, _⟩, hR1, hF1⟩
    have k2 := k1 (by omega)
    obtain ⟨kn, rfl⟩ := Int.eq_ofNat_of_zero_le k0
    have k3 : kn < s.size := by omega
    have R1 := Lib.hid hR1; have F1 := Lib.hid hF1; clear hR1 hF1 k1
    have RA := Lib.hid (rdr_alloc R1.out (.cells #[.string ⟨#[]⟩, .string ⟨#[48]⟩, .string ⟨#[32]⟩, .string ⟨#[10]⟩, .string ⟨#[45]⟩, .string ⟨#[98, 97, 99, 107]⟩] 9))
    have e1 := extract_le s 0 kn
    have e2 := extract_le s (kn + 1) s.size
    have kf : (kn : Int) + 1 ≤ (s.size : Int) := by omega
    have kg : (0 : Int) ≤ (kn : Int) + 1 := by omega
    have kt : ((kn : Int) + 1).toNat = kn + 1 := by omega
    have kh : kn + 1 ≤ s.size := by omega
    have rs : ∀ W : World, (Instr.slice 9 (.string s) (some (.int .i64 ((kn : Int) + 1))) none none).run Tryz.prog W = .ok (.string (s.extract (kn + 1) s.size)) W := by intro W; go_simp
    have kw : IntKind.i64.wrap ((kn : Int) + 1) = (kn : Int) + 1 := by simp [IntKind.wrap, IntKind.bits, IntKind.signed]; omega
    have kl : kn ≤ s.size := by omega
    go_wp2
    go_region_with (go_at_call 65; go_loud (refine (pick_any B (N + 1) 6 _ (by first | exact R1.out | exact rdr_alloc R1.out _) (by omega)).mono ?_; rintro e w4 ⟨q, rfl, ⟨a4, b4, _⟩, hR4, hF4⟩; (
      have c4 := b4 (by omega)
      obtain ⟨qn, rfl⟩ := Int.eq_ofNat_of_zero_le a4
      obtain ⟨x, hx, hxs⟩ := six_pick qn (by omega)
      have A2 : ∀ W : World, (W.alloc (.cells #[.string ⟨#[]⟩, .string ⟨#[48]⟩, .string ⟨#[32]⟩, .string ⟨#[10]⟩, .string ⟨#[45]⟩, .string ⟨#[98, 97, 99, 107]⟩] 9)).cell? ⟨W.heap.size, qn, none⟩ = some (.string x) := fun W => (block_cells (heap_alloc_new W (.cells sixCells 9)) qn).trans hx
      have A3 : ∀ W : World, Fr (W.alloc (.cells #[.string ⟨#[]⟩, .string ⟨#[48]⟩, .string ⟨#[32]⟩, .string ⟨#[10]⟩, .string ⟨#[45]⟩, .string ⟨#[98, 97, 99, 107]⟩] 9)).drew.heap.size (some B) (W.alloc (.cells #[.string ⟨#[]⟩, .string ⟨#[48]⟩, .string ⟨#[32]⟩, .string ⟨#[10]⟩, .string ⟨#[45]⟩, .string ⟨#[98, 97, 99, 107]⟩] 9)).drew w4 → B < W.heap.size → w4.cell? ⟨W.heap.size, qn, none⟩ = some (.string x) := fun W hW hB => (hW.cell (p := ⟨W.heap.size, qn, none⟩) (by simp) (by simp; omega)).trans (A2 W)
      try have A1 : w4.cell? ⟨w1.heap.size, qn, none⟩ = some (.string x) := A3 w1 hF4 R1.out.lt
      have ad1 := fun W => run_string_add_sum (P := Tryz.prog) W (s.extract 0 kn) x (by omega)
      have sz1 : (s.extract 0 kn ++ x).size ≤ 1004 := by rw [ByteArray.size_append]; omega
      have ad2 := fun W => run_string_add_sum (P := Tryz.prog) W (s.extract 0 kn ++ x) (s.extract (kn + 1) s.size) (by omega)
      have sz2 : (s.extract 0 kn ++ x ++ s.extract (kn + 1) s.size).size ≤ 3000 := by rw [ByteArray.size_append]; omega
      have FF := Lib.hid (show Fr w.heap.size (some B) w w4 by first | exact fr_rd F1.out.drew hF4 | exact fr_rd (fr_any F1.out ((Fr.refl w1.heap.size none w1).alloc (Nat.le_refl _) _)) hF4 | exact fr_rd ((fr_any F1.out ((Fr.refl w1.heap.size none w1).alloc (Nat.le_refl _) _)).drew) hF4)
      clear A3 hR4 hF4 b4)))
    all_goals go_wp2
    all_goals go_ret
    all_goals first
      | exact ⟨⟨_, rfl, sz2⟩, FF.out⟩
      | exact ⟨⟨_, rfl, sz2⟩, FF.out.alloc FF.out.size _⟩

set_option maxHeartbeats 1000000 in
set_option maxRecDepth 100000 in
theorem drawReadJ_any (a : Option Addr) (cap : Nat) (bs : List Int) (w : World) (hs : Sl w a (u8s bs)) (hb : ∀ x ∈ bs, 0 ≤ x ∧ x ≤ 255) (hn : bs.length ≤ 1048576) (hcap : bs.length ≤ cap) :
    Calls Tryz.prog 29 #[.slice a bs.length cap] w fun e w' => (∃ s : ByteArray, e = .returned (.string s) ∧ s.size ≤ 3000) ∧ Fr w.heap.size none w w' := by
  have S1 := Lib.hid hs; have HB := Lib.hid hb; clear hs hb
  go_enter Tryz.func29, Tryz.ntmps29
  go_wp2_with fail
  refine (l20Open_any a cap bs _ S1.out HB.out hn hcap).mono ?_; rintro e w1 ⟨B, rfl, hB, hR, hF⟩
  have G1 := Lib.hid hF
  have R1 := Lib.hid hR
  clear hF hR
  go_wp2_with fail
  refine (l20Written_any B 0 _ R1.out (by omega)).mono ?_; rintro e w2 ⟨v, rfl, ⟨g, c, ds, rfl, hd, hld, hTD⟩, hR2, hF2⟩
  have G2 := Lib.hid (G1.out.trans (hF2.up (B' := w.heap.size) G1.out.size (by intro g hg; cases hg; exact hB)))
  have R2 := Lib.hid hR2
  have D2 := Lib.hid hd
  have js := journal_size ds
  have CJ := Lib.hid (fun W hW => specJournal_any (some ⟨g, 0, none⟩) c ds W hW (by omega) hTD.small)
  generalize journalI ds = s at *
  have hsz : s.size ≤ 175 := by omega
  clear hF2 hR2 hd hTD js
  go_wp2_with fail
  refine (CJ.out _ (own_sl D2.out)).mono ?_; rintro e w3 ⟨rfl, hF3⟩
  have G3 := Lib.hid (G2.out.and hF3)
  have R3 := Lib.hid (rdr_keep R2.out hF3)
  clear hF3 CJ
  go_wp2_with fail
  refine (pick_any B _ 3 _ R3.out (by omega)).mono ?_; rintro e w4 ⟨q, rfl, ⟨q0, q1, _⟩, hR4, hF4⟩
  have G4 := Lib.hid (G3.out.trans (hF4.up (B' := w.heap.size) G3.out.size (by intro g hg; cases hg; exact hB)))
  have R4 := Lib.hid hR4
  have q2 := q1 (by omega)
  clear hF4 hR4 q1
  have q3 : q = 0 ∨ q = 1 ∨ q = 2 := by omega
  rcases q3 with rfl | rfl | rfl
  · go_wp2_with fail
    refine (l20SpoilB_any B _ s _ R4.out (by omega) (by omega)).mono ?_; rintro e w5 ⟨⟨t, rfl, ht⟩, hF5⟩
    have G5 := Lib.hid (G4.out.trans (hF5.up (B' := w.heap.size) G4.out.size (by intro g hg; cases hg; exact hB)))
    clear hF5
    go_wp2
    go_ret
    exact ⟨⟨t, rfl, ht⟩, G5.out⟩
  · go_wp2_with fail
    refine (pick_any B _ ((s.size : Int) + 1) _ R4.out (by omega)).mono ?_; rintro e w5 ⟨k, rfl, ⟨k0, k1, _⟩, hR5, hF5⟩
    have G5 := Lib.hid (G4.out.trans (hF5.up (B' := w.heap.size) G4.out.size (by intro g hg; cases hg; exact hB)))
    have k2 := k1 (by omega)
    obtain ⟨kn, rfl⟩ := Int.eq_ofNat_of_zero_le k0
    have k3 : kn ≤ s.size := by omega
    have e1 := extract_le s 0 kn
    clear hF5 hR5 k1
    go_wp2
    go_ret
    exact ⟨⟨_, rfl, by omega⟩, G5.out⟩
  · go_wp2
    go_ret
    exact ⟨⟨s, rfl, by omega⟩, G4.out⟩
end Go.Proofs.YtdngnmpmaacapaaGreatDoor
