/-
  For every code the law FnDueOn of the given program returns true, and the code reads as before. No condition.
-/
import Derived.Test.YthlkeblnkfmilaaDeckP
import Derived.Test.YthlkeblnkfmilaaDrawDeckB
import Derived.Test.YthlkeblnkfmilaaSame
import Derived.Test.YthlkeblnkfmilaaHas
import Derived.Test.YthlkeblnkfmilaaNum
namespace Go.Proofs.Ythlkeblnkfmilaa.fnDueOn
open Go.RowKit
theorem mem_dueTo (cs : List (Int × Int)) (day : Int) (n : Nat) (x : Int) : x ∈ dueTo cs day n ↔ ∃ i : Nat, i < n ∧ (cs.getD i (0, 0)).2 ≤ day ∧ x = i := by
  unfold dueTo
  simp only [List.mem_map, List.mem_filter, List.mem_range, decide_eq_true_eq]
  constructor
  · rintro ⟨i, ⟨h1, h2⟩, rfl⟩; exact ⟨i, h1, h2, rfl⟩
  · rintro ⟨i, h1, h2, rfl⟩; exact ⟨i, ⟨h1, h2⟩, rfl⟩
theorem due_asc (cs : List (Int × Int)) (day : Int) (n k : Nat) (hk : k + 1 < (dueTo cs day n).length) : (dueTo cs day n).getD k 0 < (dueTo cs day n).getD (k + 1) 0 := by
  obtain ⟨i, _, e1, d1, _⟩ := due_at cs day n k (by unfold dueN; omega)
  obtain ⟨j, _, e2, d2, _⟩ := due_at cs day n (k + 1) hk
  rw [e1, e2]
  have : ¬ j ≤ i := fun h => by have := dueN_mono cs day h; omega
  omega
theorem due_len (cs : List (Int × Int)) (day : Int) : (dueI cs day).length ≤ cs.length := by
  unfold dueI; split
  · exact dueTo_len _ _ _
  · simp
set_option maxHeartbeats 1000000 in
theorem walk {w : World} (a : Option Addr) (cap : Nat) (bs : List Int) (hs : Sl w a (bs.map (Value.int .u8))) (hb : ∀ x ∈ bs, 0 ≤ x ∧ x ≤ 255) (hcap : bs.length ≤ cap) :
    Calls Try.prog 10 #[.slice a bs.length cap] w fun e w' => e = .returned (.bool true) ∧ Fr w.heap.size none w w' := by
  have HS : Hid (Sl w a (u8s bs)) := hs
  have HB := Lib.hid hb; clear hs hb
  by_cases hn : bs.length ≤ 1048576
  · go_enter Try.func10, Try.ntmps10
    go_wp2_with fail
    refine (drawDueOn_any a cap bs _ HS.out HB.out hn hcap).mono ?_; rintro e w1 ⟨va, vc, xs, d, rfl, ho, hl, d0, d1, hF⟩
    have G1 := Lib.hid hF; have O1 := Lib.hid ho; clear hF ho
    have c1 := fun day W hs => implDueOn_any va vc xs day W hs (by omega)
    have c2 := fun day W hs => specDueOn_any va vc xs day W hs (by omega)
    have C1 := Lib.hid c1; have C2 := Lib.hid c2; clear c1 c2
    have hle := Lib.hid (dueI_le xs d)
    have hlen := due_len xs d
    go_wp2_with fail
    refine (C1.out d _ (own_sl O1.out)).mono ?_; rintro e w2 ⟨fa, fc, rfl, fo, hF2⟩
    have FO2 := Lib.hid fo
    have O2 := Lib.hid (own_keep O1.out hF2)
    have G2 := Lib.hid (G1.out.and hF2)
    clear fo hF2
    go_wp2_with fail
    refine (C2.out d _ (own_sl O2.out)).mono ?_; rintro e w3 ⟨sa, sc, rfl, so, hF3⟩
    have FO3 := Lib.hid (FO2.out.keep hF3)
    have O3 := Lib.hid (own_keep O2.out hF3)
    have G3 := Lib.hid (G2.out.and hF3)
    have SO3 := Lib.hid so
    clear so hF3
    go_wp2_with fail
    refine (sameInts_any _ _ _ _ (dueI xs d) _ FO3.out.sl SO3.out.sl hle.out).mono ?_; rintro e w4 ⟨rfl, hF4⟩
    have FO4 := Lib.hid (FO3.out.keep hF4)
    have O4 := Lib.hid (own_keep O3.out hF4)
    have G4 := Lib.hid (G3.out.and hF4)
    clear hF4
    by_cases hok : deckOkB xs = true ∧ 0 ≤ d ∧ d < 200
    · obtain ⟨h1, h2, h3⟩ := hok
      have hI := due_yes h1 (inB_true.2 (show 0 ≤ d ∧ d ≤ 200 by omega))
      have hJ := due_yes h1 (inB_true.2 (show 0 ≤ d + 1 ∧ d + 1 ≤ 200 by omega))
      have hsub := Lib.hid (show ∀ x ∈ dueI xs d, decide (x ∈ dueI xs (d + 1)) = true by
        intro x hx
        rw [← hI, mem_dueTo] at hx
        rw [decide_eq_true_iff, ← hJ, mem_dueTo]
        obtain ⟨i, i1, i2, i3⟩ := hx
        exact ⟨i, i1, by omega, i3⟩)
      have hasc := Lib.hid (show ∀ k, k + 1 < (dueI xs d).length → (dueI xs d).getD k 0 < (dueI xs d).getD (k + 1) 0 by
        rw [← hI]; exact due_asc xs d xs.length)
      have H1 := Lib.hid h1
      have hle2 := Lib.hid (dueI_le xs (d + 1))
      clear hI hJ h1
      go_wp2_with fail
      refine (specDeck_val (own_sl O4.out) (by omega) H1.out).mono ?_; rintro e w' ⟨rfl, rfl⟩
      go_wp2_with fail
      refine (C1.out (d + 1) _ (own_sl O4.out)).mono ?_; rintro e w5 ⟨na, nc, rfl, no, hF5⟩
      have NO := Lib.hid no
      have FO5 := Lib.hid (FO4.out.keep hF5)
      have G5 := Lib.hid (G4.out.and hF5)
      clear no hF5
      go_wp2
      go_loop [7] (fun i => ∃ k : Nat, k ≤ (dueI xs d).length ∧ i = .int .i64 k) (fun i => (dueI xs d).length - (intOf i).toNat)
      case atStart => exact ⟨0, Nat.zero_le _, rfl⟩
      case round =>
        obtain ⟨k, hk, rfl⟩ := hrel
        by_cases hlt : k < (dueI xs d).length
        · obtain ⟨b2, off2, rfl, hc⟩ := FO5.out.sl.int k hlt
          have hm := Lib.hid (hsub.out ((dueI xs d).getD k 0) (by simp [List.getD_eq_getElem?_getD, hlt]))
          generalize (dueI xs d).getD k 0 = x at *
          have hlt' : (k : Int) < ((dueI xs d).length : Int) := by omega
          go_wp2_with fail
          refine (has_val NO.out.sl hle2.out hm.out).mono ?_; rintro e w' ⟨rfl, rfl⟩
          go_wp2
          go_round
          case rel => exact ⟨k + 1, by omega, by go_num⟩
          case measure => simp [intOf]; omega
        · have hge : ((dueI xs d).length : Int) ≤ (k : Int) := by omega
          go_wp2_with fail
          refine (ascend_any _ _ _ _ FO5.out.sl hle.out hasc.out).mono ?_; rintro e w6 ⟨rfl, hF6⟩
          have G6 := Lib.hid (G5.out.and hF6); clear hF6
          go_wp2
          go_ret
          exact ⟨rfl, G6.out⟩
    · have hcmp : decide (((dueI xs d).length : Int) ≤ (xs.length : Int)) = true := by rw [decide_eq_true_iff]; omega
      cases h : deckOkB xs
      · have H := Lib.hid h; clear h hok
        go_wp2_with fail
        refine (specDeck_val (own_sl O4.out) (by omega) H.out).mono ?_; rintro e w' ⟨rfl, rfl⟩
        go_wp2_with (go_at_call 18; refine (alive_any _).mono ?_; rintro e w' ⟨rfl, rfl⟩)
        go_ret
        exact ⟨rfl, G4.out⟩
      · have H := Lib.hid h
        by_cases hneg : d < 0
        · clear h hok
          go_wp2_with fail
          refine (specDeck_val (own_sl O4.out) (by omega) H.out).mono ?_; rintro e w' ⟨rfl, rfl⟩
          go_wp2_with (go_at_call 18; refine (alive_any _).mono ?_; rintro e w' ⟨rfl, rfl⟩)
          go_ret
          exact ⟨rfl, G4.out⟩
        · have hbig : 200 ≤ d := by
            have : ¬ d < 200 := fun h3 => hok ⟨h, by omega, h3⟩
            omega
          clear h hok
          go_wp2_with fail
          refine (specDeck_val (own_sl O4.out) (by omega) H.out).mono ?_; rintro e w' ⟨rfl, rfl⟩
          go_wp2_with (go_at_call 18; refine (alive_any _).mono ?_; rintro e w' ⟨rfl, rfl⟩)
          go_ret
          exact ⟨rfl, G4.out⟩
  · have hl : (1048576 : Int) < bs.length := by omega
    go_enter Try.func10, Try.ntmps10
    go_wp2
    go_ret
    exact ⟨rfl, Fr.refl _ _ _⟩
end Go.Proofs.Ythlkeblnkfmilaa.fnDueOn
