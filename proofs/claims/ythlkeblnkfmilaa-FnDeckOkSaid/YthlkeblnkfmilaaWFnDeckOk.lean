/-
  For every code the law FnDeckOk of the given program returns true, and the code reads as before. No condition.
-/
import Derived.Test.YthlkeblnkfmilaaDeckB
import Derived.Test.YthlkeblnkfmilaaDrawDeckB
import Derived.Test.YthlkeblnkfmilaaNum
namespace Go.Proofs.Ythlkeblnkfmilaa.fnDeckOk
open Go.RowKit
theorem shorter {xs : List (Int × Int)} (h : deckOkB xs = true) : deckOkB (xs.drop 1) = true := by
  simp only [deckOkB, Bool.and_eq_true, decide_eq_true_eq, List.all_eq_true] at *
  exact ⟨fun n hn => h.1 n (List.mem_of_mem_drop hn), by have := h.2; simp; omega⟩
theorem implDeck_nil (a : Option Addr) (c : Nat) (W : World) : Calls Try.prog 22 #[.slice a 0 c] W fun e w' => e = .returned (.bool true) ∧ Fr W.heap.size none W w' :=
  implDeck_val (cs := []) (Sl.nil W a) (by simp) (by decide)
set_option maxHeartbeats 800000 in
theorem walk {w : World} (a : Option Addr) (cap : Nat) (bs : List Int) (hs : Sl w a (bs.map (Value.int .u8))) (hb : ∀ x ∈ bs, 0 ≤ x ∧ x ≤ 255) (hcap : bs.length ≤ cap) :
    Calls Try.prog 5 #[.slice a bs.length cap] w fun e w' => e = .returned (.bool true) ∧ Fr w.heap.size none w w' := by
  have HS : Hid (Sl w a (u8s bs)) := hs
  have HB := Lib.hid hb; clear hs hb
  by_cases hn : bs.length ≤ 1048576
  · go_enter Try.func5, Try.ntmps5
    go_wp2_with fail
    refine (drawDeckOk_any a cap bs _ HS.out HB.out hn hcap).mono ?_; rintro e w1 ⟨va, vc, xs, rfl, ho, hl, hF⟩
    have G1 := Lib.hid hF
    obtain ⟨_, _, hv, hvc, _⟩ := own_slice ho
    cases hv
    have O1 := Lib.hid ho; clear hF ho
    cases h : deckOkB xs
    · have H := Lib.hid h; clear h
      go_wp2_with fail
      refine (implDeck_val (own_sl O1.out) (by omega) H.out).mono ?_; rintro e w2 ⟨rfl, hF2⟩
      have O2 := Lib.hid (own_keep O1.out hF2)
      have G2 := Lib.hid (G1.out.and hF2); clear hF2
      go_wp2_with fail
      refine (specDeck_val (own_sl O2.out) (by omega) H.out).mono ?_; rintro e w' ⟨rfl, rfl⟩
      go_wp2_with fail
      refine (implDeck_nil _ _ _).mono ?_; rintro e w3 ⟨rfl, hF3⟩
      have G3 := Lib.hid ((G2.out.alloc G2.out.size _).and hF3); clear hF3
      go_wp2_with (go_at_call 18; refine (alive_any _).mono ?_; rintro e w' ⟨rfl, rfl⟩)
      go_ret
      exact ⟨rfl, G3.out⟩
    · by_cases h0 : xs.length = 0
      · have hz : ((xs.length : Int) == 0) = true := by rw [h0]; rfl
        have H := Lib.hid h; clear h h0
        go_wp2_with fail
        refine (implDeck_val (own_sl O1.out) (by omega) H.out).mono ?_; rintro e w2 ⟨rfl, hF2⟩
        have O2 := Lib.hid (own_keep O1.out hF2)
        have G2 := Lib.hid (G1.out.and hF2); clear hF2
        go_wp2_with fail
        refine (specDeck_val (own_sl O2.out) (by omega) H.out).mono ?_; rintro e w' ⟨rfl, rfl⟩
        go_wp2_with fail
        refine (implDeck_nil _ _ _).mono ?_; rintro e w3 ⟨rfl, hF3⟩
        have G3 := Lib.hid ((G2.out.alloc G2.out.size _).and hF3); clear hF3
        go_wp2_with (go_at_call 18; refine (alive_any _).mono ?_; rintro e w' ⟨rfl, rfl⟩)
        go_ret
        exact ⟨rfl, G3.out⟩
      · have hz : ((xs.length : Int) == 0) = false := by rw [beq_eq_false_iff_ne]; omega
        have hp : 0 < xs.length := by omega
        have hsh := Lib.hid (shorter h)
        have hlen := Lib.hid (show (xs.drop 1).length = xs.length - 1 by simp)
        have H := Lib.hid h; clear h h0
        obtain ⟨g, rfl⟩ : ∃ g, va = some ⟨g, 0, none⟩ := (Own.of O1.out).addr hp
        have hsub : ∀ W b, (b = (⟨g, 0, none⟩ : Addr) ∧ vc = 1 ∨ b = ⟨g, 2, none⟩) → Sl W (some ⟨g, 0, none⟩) (cards xs) → Calls Try.prog 22 #[.slice (some b) (xs.length - 1) (vc - 1)] W fun e w' => e = .returned (.bool true) ∧ Fr W.heap.size none W w' := by
          intro W b hb hW
          have := implDeck_val (a := some b) (cap := vc - 1) (cs := xs.drop 1) (w := W) (b := true) ?_ (by rw [hlen.out]; omega) hsh.out
          · rw [hlen.out] at this; exact this
          · intro j hj
            have hj' : j < (xs.length - 1) * 2 := by rw [cards_length, hlen.out] at hj; exact hj
            rcases hb with ⟨_, h1⟩ | rfl
            · omega
            · obtain ⟨b2, off, e1, e2⟩ := hW (j + 2) (by rw [cards_length]; omega)
              cases e1
              refine ⟨g, 2, rfl, ?_⟩
              rw [show 2 + j = 0 + (j + 2) by omega, e2, ← List.getElem?_eq_getElem hj, ← List.getElem?_eq_getElem (by rw [cards_length]; omega)]
              have e0 : cards xs = cardF (xs.getD 0 (0, 0)) ++ cards (xs.drop 1) := by
                have := drop_getD xs (0, 0) 0 hp
                rw [List.drop_zero] at this
                conv => lhs; rw [this]
                rfl
              rw [e0, List.getElem?_append_right (by rw [cardF_len]; omega), cardF_len]
              congr 1
        have HSUB := Lib.hid hsub; clear hsub
        by_cases hv1 : vc = 1
        · subst hv1
          go_wp2_with fail
          refine (implDeck_val (own_sl O1.out) (by omega) H.out).mono ?_; rintro e w2 ⟨rfl, hF2⟩
          have O2 := Lib.hid (own_keep O1.out hF2)
          have G2 := Lib.hid (G1.out.and hF2); clear hF2
          go_wp2_with fail
          refine (specDeck_val (own_sl O2.out) (by omega) H.out).mono ?_; rintro e w' ⟨rfl, rfl⟩
          go_wp2_with fail
          refine (implDeck_nil _ _ _).mono ?_; rintro e w3 ⟨rfl, hF3⟩
          have G3 := Lib.hid ((G2.out.alloc G2.out.size _).and hF3); clear hF3
          go_wp2_with fail
          refine (implDeck_nil _ _ _).mono ?_; rintro e w4 ⟨rfl, hF4⟩
          have G4 := Lib.hid (G3.out.and hF4); clear hF4
          go_wp2_with fail
          refine (alive_any _).mono ?_; rintro e w' ⟨rfl, rfl⟩
          go_wp2
          go_ret
          exact ⟨rfl, G4.out⟩
        · go_wp2_with fail
          refine (implDeck_val (own_sl O1.out) (by omega) H.out).mono ?_; rintro e w2 ⟨rfl, hF2⟩
          have O2 := Lib.hid (own_keep O1.out hF2)
          have G2 := Lib.hid (G1.out.and hF2); clear hF2
          go_wp2_with fail
          refine (specDeck_val (own_sl O2.out) (by omega) H.out).mono ?_; rintro e w' ⟨rfl, rfl⟩
          go_wp2_with fail
          refine (implDeck_nil _ _ _).mono ?_; rintro e w3 ⟨rfl, hF3⟩
          have S3 := Lib.hid ((own_sl (O2.out.alloc _)).fr hF3)
          have G3 := Lib.hid ((G2.out.alloc G2.out.size _).and hF3); clear hF3
          go_wp2_with fail
          refine (HSUB.out _ _ (.inr rfl) S3.out).mono ?_; rintro e w4 ⟨rfl, hF4⟩
          have G4 := Lib.hid (G3.out.and hF4); clear hF4
          go_wp2_with fail
          refine (alive_any _).mono ?_; rintro e w' ⟨rfl, rfl⟩
          go_wp2
          go_ret
          exact ⟨rfl, G4.out⟩
  · have hl : (1048576 : Int) < bs.length := by omega
    go_enter Try.func5, Try.ntmps5
    go_wp2
    go_ret
    exact ⟨rfl, Fr.refl _ _ _⟩
end Go.Proofs.Ythlkeblnkfmilaa.fnDeckOk
