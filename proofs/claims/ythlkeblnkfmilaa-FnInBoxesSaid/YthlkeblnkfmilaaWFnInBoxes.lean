/-
  For every code the law FnInBoxes of the given program returns true, and the code reads as before. No condition.
-/
import Derived.Test.YthlkeblnkfmilaaDeckB
import Derived.Test.YthlkeblnkfmilaaDrawDeckB
import Derived.Test.YthlkeblnkfmilaaSame
import Derived.Test.YthlkeblnkfmilaaNum
namespace Go.Proofs.Ythlkeblnkfmilaa.fnInBoxes
open Go.RowKit
theorem boxes_sum {cs : List (Int × Int)} (h : deckOkB cs = true) : isum (boxesI cs) = cs.length ∧ (boxesI cs).length = 5 ∧ ∀ n ∈ boxesI cs, 0 ≤ n ∧ n ≤ 8 := by
  have hb : boxesI cs = boxI cs cs.length := by simp [boxesI, h]
  have hl := deck_len h
  have hc : ∀ c ∈ cs, 1 ≤ c.1 ∧ c.1 ≤ 5 := by
    intro c hcm
    obtain ⟨k, hk, rfl⟩ := List.getElem_of_mem hcm
    have := (deck_in h k hk).1
    simpa [List.getD_eq_getElem?_getD, hk] using this
  rw [hb]
  refine ⟨?_, boxI_length _ _, ?_⟩
  · unfold boxI
    rw [List.take_length]
    simp only [List.range_succ, List.range_zero, List.nil_append, List.cons_append, List.map_cons, List.map_nil, isum, List.foldr_cons, List.foldr_nil]
    clear h hb hl
    induction cs with
    | nil => simp
    | cons c cs ih =>
      have h1 := hc c (by simp)
      have h2 := ih (fun x hx => hc x (by simp [hx]))
      have : c.1 = 1 ∨ c.1 = 2 ∨ c.1 = 3 ∨ c.1 = 4 ∨ c.1 = 5 := by omega
      simp only [List.countP_cons, List.length_cons]
      rcases this with e | e | e | e | e <;> simp [e] at h2 ⊢ <;> omega
  · intro n hn
    obtain ⟨g, hg1, rfl⟩ := List.getElem_of_mem hn
    rw [boxI_length] at hg1
    have := boxI_le cs cs.length g hg1
    rw [List.getD_eq_getElem?_getD, List.getElem?_eq_getElem (by rw [boxI_length]; exact hg1)] at this
    simp only [Option.getD_some] at this
    omega
set_option maxHeartbeats 800000 in
theorem walk {w : World} (a : Option Addr) (cap : Nat) (bs : List Int) (hs : Sl w a (bs.map (Value.int .u8))) (hb : ∀ x ∈ bs, 0 ≤ x ∧ x ≤ 255) (hcap : bs.length ≤ cap) :
    Calls Try.prog 7 #[.slice a bs.length cap] w fun e w' => e = .returned (.bool true) ∧ Fr w.heap.size none w w' := by
  have HS : Hid (Sl w a (u8s bs)) := hs
  have HB := Lib.hid hb; clear hs hb
  by_cases hn : bs.length ≤ 1048576
  · go_enter Try.func7, Try.ntmps7
    go_wp2_with fail
    refine (drawInBoxes_any a cap bs _ HS.out HB.out hn hcap).mono ?_; rintro e w1 ⟨va, vc, xs, rfl, ho, hl, hF⟩
    have G1 := Lib.hid hF; have O1 := Lib.hid ho; clear hF ho
    have c1 := fun W hs => implInBoxes_any va vc xs W hs (by omega)
    have c2 := fun W hs => specInBoxes_any va vc xs W hs (by omega)
    have C1 := Lib.hid c1; have C2 := Lib.hid c2; clear c1 c2
    have hle := Lib.hid (boxesI_le xs)
    go_wp2_with fail
    refine (C1.out _ (own_sl O1.out)).mono ?_; rintro e w2 ⟨fa, fc, rfl, fo, hF2⟩
    have FO2 := Lib.hid fo
    have O2 := Lib.hid (own_keep O1.out hF2)
    have G2 := Lib.hid (G1.out.and hF2)
    clear fo hF2
    go_wp2_with fail
    refine (C2.out _ (own_sl O2.out)).mono ?_; rintro e w3 ⟨sa, sc, rfl, so, hF3⟩
    have FO3 := Lib.hid (FO2.out.keep hF3)
    have O3 := Lib.hid (own_keep O2.out hF3)
    have G3 := Lib.hid (G2.out.and hF3)
    have SO3 := Lib.hid so
    clear so hF3
    go_wp2_with fail
    refine (sameInts_any _ _ _ _ (boxesI xs) _ FO3.out.sl SO3.out.sl hle.out).mono ?_; rintro e w4 ⟨rfl, hF4⟩
    have FO4 := Lib.hid (FO3.out.keep hF4)
    have O4 := Lib.hid (own_keep O3.out hF4)
    have G4 := Lib.hid (G3.out.and hF4)
    clear hF4
    cases h : deckOkB xs
    · have hz : (((boxesI xs).length : Int) == 0) = true := by rw [← boxes_no h]; rfl
      have H := Lib.hid h; clear h
      go_wp2_with fail
      refine (implDeck_val (own_sl O4.out) (by omega) H.out).mono ?_; rintro e w5 ⟨rfl, hF5⟩
      have G5 := Lib.hid (G4.out.and hF5); clear hF5
      go_wp2_with (go_at_call 18; refine (alive_any _).mono ?_; rintro e w' ⟨rfl, rfl⟩)
      go_ret
      exact ⟨rfl, G5.out⟩
    · obtain ⟨k1, k2, k3⟩ := boxes_sum h
      have hz : (((boxesI xs).length : Int) == 0) = false := by rw [k2]; rfl
      have hz2 : (((boxesI xs).length : Int) == 5) = true := by rw [k2]; rfl
      have hq : ((xs.length : Int) == (xs.length : Int)) = true := by simp
      have cs1 := sumOf_any fa fc (boxesI xs) _ FO4.out.sl hle.out (fun n hn => by have := k3 n hn; omega)
      rw [k1] at cs1
      have CS := Lib.hid cs1
      clear k1 k2 k3 cs1 h
      go_wp2_with fail
      refine CS.out.mono ?_; rintro e w' ⟨rfl, rfl⟩
      go_wp2
      go_ret
      exact ⟨rfl, G4.out⟩
  · have hl : (1048576 : Int) < bs.length := by omega
    go_enter Try.func7, Try.ntmps7
    go_wp2
    go_ret
    exact ⟨rfl, Fr.refl _ _ _⟩
end Go.Proofs.Ythlkeblnkfmilaa.fnInBoxes
