/-
  For every code the law FnDeckNew of the given program returns true, and the code reads as before. No condition.
-/
import Derived.Test.YthlkeblnkfmilaaRepeat
import Derived.Test.YthlkeblnkfmilaaHas
import Derived.Test.YthlkeblnkfmilaaNum
namespace Go.Proofs.Ythlkeblnkfmilaa.fnDeckNew
open Go.RowKit
theorem new_facts {n : Int} (h : inB n 0 8 = true) : deckOkB (newDeckI n) = true ∧ ((newDeckI n).length : Int) = n ∧ ((dueI (newDeckI n) 0).length : Int) = n := by
  have hb := inB_true.1 h
  obtain ⟨k, rfl⟩ := Int.eq_ofNat_of_zero_le hb.1
  have hk : k = 0 ∨ k = 1 ∨ k = 2 ∨ k = 3 ∨ k = 4 ∨ k = 5 ∨ k = 6 ∨ k = 7 ∨ k = 8 := by omega
  rcases hk with rfl | rfl | rfl | rfl | rfl | rfl | rfl | rfl | rfl <;> decide +kernel
set_option maxHeartbeats 800000 in
theorem walk {w : World} (a : Option Addr) (cap : Nat) (bs : List Int) (hs : Sl w a (bs.map (Value.int .u8))) (hb : ∀ x ∈ bs, 0 ≤ x ∧ x ≤ 255) (hcap : bs.length ≤ cap) :
    Calls Try.prog 11 #[.slice a bs.length cap] w fun e w' => e = .returned (.bool true) ∧ Fr w.heap.size none w w' := by
  have HS : Hid (Sl w a (u8s bs)) := hs
  have HB := Lib.hid hb; clear hs hb
  by_cases hn : bs.length ≤ 1048576
  · go_enter Try.func11, Try.ntmps11
    go_wp2_with fail
    refine (drawDeckNew_any a cap bs _ HS.out HB.out hn hcap).mono ?_; rintro e w1 ⟨n, rfl, n0, n1, hF⟩
    have G1 := Lib.hid hF; clear hF
    have hle := Lib.hid (newDeckI_le n)
    go_wp2_with fail
    refine (implDeckNew_any n _).mono ?_; rintro e w2 ⟨fa, fc, rfl, fo, hF2⟩
    have FO2 := Lib.hid fo
    have G2 := Lib.hid (G1.out.and hF2)
    clear fo hF2
    go_wp2_with fail
    refine (specDeckNew_any n _).mono ?_; rintro e w3 ⟨sa, sc, rfl, so, hF3⟩
    have FO3 := Lib.hid (FO2.out.keep hF3)
    have G3 := Lib.hid (G2.out.and hF3)
    have SO3 := Lib.hid so
    clear so hF3
    go_wp2_with fail
    refine (sameCards_any _ _ _ _ (newDeckI n) _ FO3.out.sl SO3.out.sl hle.out).mono ?_; rintro e w4 ⟨rfl, hF4⟩
    have FO4 := Lib.hid (FO3.out.keep hF4)
    have G4 := Lib.hid (G3.out.and hF4)
    clear hF4
    cases h : inB n 0 8
    · have hz : (((newDeckI n).length : Int) == 0) = true := by rw [← newDeck_no h]; rfl
      have hf := inB_false.1 h
      by_cases hneg : n < 0
      · clear h hf
        go_wp2_with (go_at_call 18; refine (alive_any _).mono ?_; rintro e w' ⟨rfl, rfl⟩)
        go_ret
        exact ⟨rfl, G4.out⟩
      · have hbig : 8 < n := by omega
        clear h hf
        go_wp2_with (go_at_call 18; refine (alive_any _).mono ?_; rintro e w' ⟨rfl, rfl⟩)
        go_ret
        exact ⟨rfl, G4.out⟩
    · obtain ⟨k1, k2, k3⟩ := new_facts h
      obtain ⟨hb0, hb1⟩ := inB_true.1 h
      have K1 := Lib.hid k1
      have q1 : (((newDeckI n).length : Int) == n) = true := by rw [beq_iff_eq]; exact k2
      have q2 : (((dueI (newDeckI n) 0).length : Int) == n) = true := by rw [beq_iff_eq]; exact k3
      clear k1 k2 k3 h
      go_wp2_with fail
      refine (implDeck_val FO4.out.sl hle.out K1.out).mono ?_; rintro e w5 ⟨rfl, hF5⟩
      have FO5 := Lib.hid (FO4.out.keep hF5)
      have G5 := Lib.hid (G4.out.and hF5); clear hF5
      go_wp2_with fail
      refine (implDueOn_any fa fc (newDeckI n) 0 _ FO5.out.sl hle.out).mono ?_; rintro e w6 ⟨da, dc, rfl, _, hF6⟩
      have G6 := Lib.hid (G5.out.and hF6); clear hF6
      go_wp2_with (go_at_call 18; refine (alive_any _).mono ?_; rintro e w' ⟨rfl, rfl⟩)
      go_ret
      exact ⟨rfl, G6.out⟩
  · have hl : (1048576 : Int) < bs.length := by omega
    go_enter Try.func11, Try.ntmps11
    go_wp2
    go_ret
    exact ⟨rfl, Fr.refl _ _ _⟩
end Go.Proofs.Ythlkeblnkfmilaa.fnDeckNew
