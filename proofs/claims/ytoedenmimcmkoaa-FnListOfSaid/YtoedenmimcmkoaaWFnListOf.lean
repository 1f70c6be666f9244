/-
  For every code the law FnListOf of the given program returns true, and the code reads as before. No condition.
-/
import Derived.Test.YtoedenmimcmkoaaListC
import Derived.Test.YtoedenmimcmkoaaDrawM2
import Derived.Test.YtoedenmimcmkoaaSame
import Derived.Test.YtoedenmimcmkoaaHas
import Derived.Test.YtoedenmimcmkoaaNum
namespace Go.Proofs.Ytoedenmimcmkoaa.fnListOf
open Go.RowKit
theorem above_mono (xs : List Int) {x y : Int} (h : y ≤ x) : aboveN xs x ≤ aboveN xs y := by
  unfold aboveN
  exact List.countP_mono_left (fun z _ hz => by simp at hz ⊢; omega)
/-- What the law looks at, at place k: the number there is n, the one before is p. -/
theorem list_facts {ms : List Int} (h : marksOkB ms = true) :
    (∀ k, k < ms.length → ∃ n : Nat, (listI ms).getD k 0 = n ∧ n < ms.length ∧ decide ((n : Int) ∈ (listI ms).take k) = false) ∧
    (∀ k n p : Nat, k + 1 < ms.length → (listI ms).getD (k + 1) 0 = n → (listI ms).getD k 0 = p → ms.getD n 0 ≤ ms.getD p 0 ∧ (placesI ms).getD p 0 ≤ (placesI ms).getD n 0) := by
  have hl := listI_full h
  have ho := listI_order ms
  rw [List.pairwise_iff_getElem] at ho
  have hg : ∀ k (hk : k < ms.length), (listI ms).getD k 0 = (listI ms)[k]'(by omega) := by
    intro k hk; simp [List.getD_eq_getElem?_getD, show k < (listI ms).length by omega]
  have hmem : ∀ k, k < ms.length → ∃ n : Nat, (listI ms).getD k 0 = n ∧ n < ms.length := by
    intro k hk
    have := (mem_listI h (x := (listI ms).getD k 0)).1 (by rw [hg k hk]; exact List.getElem_mem _)
    obtain ⟨n, hn⟩ := Int.eq_ofNat_of_zero_le this.1
    exact ⟨n, hn, by omega⟩
  refine ⟨fun k hk => ?_, fun k n p hk hn hp => ?_⟩
  · obtain ⟨n, h1, h2⟩ := hmem k hk
    refine ⟨n, h1, h2, ?_⟩
    rw [decide_eq_false_iff_not, ← h1]
    intro hin
    obtain ⟨j, hj, e⟩ := List.getElem_of_mem hin
    rw [List.length_take] at hj
    rw [List.getElem_take] at e
    have := ho j k (by omega) (by omega) (by omega)
    rw [hg k hk] at e
    rw [e] at this
    exact Ahead.irrefl ms _ this
  · have h1 := ho k (k + 1) (by omega) (by omega) (by omega)
    rw [← hg k (by omega), ← hg (k + 1) hk, hn, hp] at h1
    have h2 := ahead_le h1
    have h3 : ms.getD n 0 ≤ ms.getD p 0 := by simpa [markAt] using h2
    refine ⟨h3, ?_⟩
    have hnp : n < ms.length ∧ p < ms.length := by
      obtain ⟨n', e1, e2⟩ := hmem (k + 1) hk
      obtain ⟨p', e3, e4⟩ := hmem k (by omega)
      omega
    have hpl : ∀ q, q < ms.length → (placesI ms).getD q 0 = 1 + (aboveN ms (ms.getD q 0) : Int) := by
      intro q hq; simp [placesI, h, List.getD_eq_getElem?_getD, hq]
    rw [hpl n hnp.1, hpl p hnp.2]
    have := above_mono ms h3
    omega

set_option maxHeartbeats 1000000 in
theorem walk {w : World} (a : Option Addr) (cap : Nat) (cs : List Int) (hs : Sl w a (cs.map (Value.int .u8))) (hb : ∀ x ∈ cs, 0 ≤ x ∧ x ≤ 255) (hcap : cs.length ≤ cap) :
    Calls Try.prog 11 #[.slice a cs.length cap] w fun e w' => e = .returned (.bool true) ∧ Fr w.heap.size none w w' := by
  have HS : Hid (Sl w a (u8s cs)) := hs
  have HB := Lib.hid hb; clear hs hb
  by_cases hn : cs.length ≤ 1048576
  · go_enter Try.func11, Try.ntmps11
    go_wp2_with fail
    refine (drawListOf_any a cap cs _ HS.out HB.out hn hcap).mono ?_; rintro e w1 ⟨ya, yc, ms, rfl, yo, yl, ybd, hF⟩
    have HF := Lib.hid hF
    have MO := Lib.hid yo; clear hF yo ybd
    have c1 := fun W hs => implListOf_any ya yc ms W hs (by omega)
    have c2 := fun W hs => specListOf_any ya yc ms W hs (by omega)
    have c3 := fun W hs => implPlacesOf_any ya yc ms W hs (by omega)
    have C1 := Lib.hid c1; have C2 := Lib.hid c2; have C3 := Lib.hid c3; clear c1 c2 c3
    have hle := Lib.hid (listI_le ms)
    go_wp2_with fail
    refine (C1.out _ (own_sl MO.out)).mono ?_; rintro e w2 ⟨fa, fc, rfl, fo, hF2⟩
    have FO2 := Lib.hid fo
    have M2 := Lib.hid (own_keep MO.out hF2)
    have G2 := Lib.hid (HF.out.and hF2)
    clear fo hF2
    go_wp2_with fail
    refine (C2.out _ (own_sl M2.out)).mono ?_; rintro e w3 ⟨sa, sc, rfl, so, hF3⟩
    have FO3 := Lib.hid (own_keep FO2.out hF3)
    have M3 := Lib.hid (own_keep M2.out hF3)
    have G3 := Lib.hid (G2.out.and hF3)
    have SO3 := Lib.hid so
    clear so hF3
    go_wp2_with fail
    refine (sameInts_any _ _ _ _ (listI ms) _ (own_sl FO3.out) (own_sl SO3.out) hle.out).mono ?_; rintro e w4 ⟨rfl, hF4⟩
    have FO4 := Lib.hid (own_keep FO3.out hF4)
    have M4 := Lib.hid (own_keep M3.out hF4)
    have G4 := Lib.hid (G3.out.and hF4)
    clear hF4 FO2 FO3 SO3 M2 M3
    by_cases hok : marksOkB ms = true ∧ 0 < ms.length
    · obtain ⟨h2, h0⟩ := hok
      have K3 := Lib.hid (placesI_length h2)
      have K4 := Lib.hid (listI_full h2)
      have hz : (((listI ms).length : Int) == 0) = false := by rw [beq_eq_false_iff_ne]; have := K4.out; omega
      have hpl : (((placesI ms).length : Int) != (ms.length : Int)) = false := by rw [bne_eq_false_iff_eq]; have := K3.out; omega
      have hfl : (((listI ms).length : Int) == (ms.length : Int)) = true := by rw [beq_iff_eq]; have := K4.out; omega
      obtain ⟨k1, k2⟩ := list_facts h2
      have K1 := Lib.hid k1; have K2 := Lib.hid k2
      clear h2 k1 k2
      obtain ⟨_, _, hv, hvc, hvm⟩ := own_slice FO4.out
      cases hv
      unfold maxLen at hvm
      go_wp2_with fail
      refine (C3.out _ (own_sl M4.out)).mono ?_; rintro e w5 ⟨pa, pc, rfl, po, hF5⟩
      have PO := Lib.hid (own_sl po)
      have FO5 := Lib.hid (own_sl (own_keep FO4.out hF5))
      have M5 := Lib.hid (own_sl (own_keep M4.out hF5))
      have G5 := Lib.hid (G4.out.and hF5)
      clear po hF5
      go_wp2
      go_loopw [6] (fun i wr => ∃ k : Nat, k ≤ ms.length ∧ i = .int .i64 k ∧ ∃ m, wr = w5.drewN m) (fun i _ => ms.length - (intOf i).toNat)
      case atStart => exact ⟨0, Nat.zero_le _, rfl, 0, rfl⟩
      case round =>
        obtain ⟨k, hk, rfl, m, rfl⟩ := hrel
        by_cases hlt : k < ms.length
        · obtain ⟨n, hkn, hnl, hno⟩ := K1.out k hlt
          have hlk : (k : Int) < ((listI ms).length : Int) := by have := K4.out; omega
          have hlk2 : k < (listI ms).length := by have := K4.out; omega
          obtain ⟨b1, off1, rfl, hc1⟩ := FO5.out.int k hlk2
          rw [hkn] at hc1
          have htl := Lib.hid (show ((listI ms).take k).length = k by rw [List.length_take]; omega)
          have CH : Hid (∀ q, Calls Try.prog 17 #[.slice (some ⟨b1, off1, none⟩) k fc, .int .i64 (n : Int)] (w5.drewN q) fun e w' => e = .returned (.bool false) ∧ w5.drewN q = w') := by
            intro q
            have := has_val (a := some ⟨b1, off1, none⟩) (cap := fc) (xs := (listI ms).take k) (n := (n : Int)) (w := w5.drewN q) (b := false) ?_ (by rw [htl.out]; omega) hno
            · rw [htl.out] at this; exact this
            · intro j hj
              rw [ints_length, htl.out] at hj
              obtain ⟨b', off', e1, e2⟩ := FO5.out j (by rw [ints_length]; omega)
              refine ⟨b', off', e1, e2.trans ?_⟩
              simp [ints]
          have hkc : k ≤ fc := by omega
          have hkc' : (k : Int) ≤ (fc : Int) := by omega
          have hlt' : (k : Int) < (ms.length : Int) := by omega
          by_cases hk0 : k = 0
          · subst hk0
            rw [Nat.add_zero] at hc1
            clear hno hkn
            go_wp2
            go_quiet ((go_at_call 17; exact quiet_add_left (CH.out _)))
            go_wp2
            go_roundw
            case rel => exact ⟨1, by omega, by go_num, _, by first | rfl | exact World.drewN_drewN ..⟩
            case measure => simp [intOf]; omega
          · obtain ⟨j, rfl⟩ : ∃ j, k = j + 1 := ⟨k - 1, by omega⟩
            obtain ⟨p, hjp, hpl', _⟩ := K1.out j (by omega)
            obtain ⟨f1, f2⟩ := K2.out j n p hlt hkn hjp
            obtain ⟨b1', off1', hab, hc2⟩ := FO5.out.int j (by omega)
            cases hab
            rw [hjp] at hc2
            obtain ⟨b2, off2, rfl, hm1⟩ := M5.out.int n hnl
            obtain ⟨b2', off2', hab, hm2⟩ := M5.out.int p hpl'
            cases hab
            obtain ⟨b3, off3, rfl, hp1⟩ := PO.out.int n (by have := K3.out; omega)
            obtain ⟨b3', off3', hab, hp2⟩ := PO.out.int p (by have := K3.out; omega)
            cases hab
            have g1 : decide (ms.getD p 0 < ms.getD n 0) = false := decide_eq_false (by omega)
            have g2 : decide ((placesI ms).getD n 0 < (placesI ms).getD p 0) = false := decide_eq_false (by omega)
            have hn1 : (n : Int) < (ms.length : Int) := by omega
            have hp1' : (p : Int) < (ms.length : Int) := by omega
            have hn2 : (n : Int) < ((placesI ms).length : Int) := by have := K3.out; omega
            have hp2' : (p : Int) < ((placesI ms).length : Int) := by have := K3.out; omega
            have hj1 : (j : Int) < ((listI ms).length : Int) := by omega
            clear hno hkn hjp f1 f2 hk0
            generalize ms.getD p 0 = mp at *
            generalize ms.getD n 0 = mn at *
            generalize (placesI ms).getD p 0 = pp at *
            generalize (placesI ms).getD n 0 = pn at *
            go_wp2
            go_quiet ((go_at_call 17; exact quiet_add_left (CH.out _)))
            go_wp2
            go_roundw
            case rel => exact ⟨j + 1 + 1, by omega, by go_num, _, by first | rfl | exact World.drewN_drewN ..⟩
            case measure => simp [intOf]; omega
        · have hge : ((listI ms).length : Int) ≤ (k : Int) := by have := K4.out; omega
          go_wp2
          go_ret
          exact ⟨rfl, G5.out.drewN m⟩
    · have hz : listI ms = [] := by
        cases h1 : marksOkB ms
        · exact (list_no h1).symm
        · have : ¬ 0 < ms.length := fun h => hok ⟨h1, h⟩
          exact List.eq_nil_of_length_eq_zero (by rw [listI_full h1]; omega)
      have hz' : (((listI ms).length : Int) == 0) = true := by rw [hz]; rfl
      clear hz hok
      go_wp2_with (go_at_call 16; refine (alive_any _).mono ?_; rintro e w' ⟨rfl, rfl⟩)
      go_ret
      exact ⟨rfl, G4.out⟩
  · have hl : (1048576 : Int) < cs.length := by omega
    go_enter Try.func11, Try.ntmps11
    go_wp2
    go_ret
    exact ⟨rfl, Fr.refl _ _ _⟩
end Go.Proofs.Ytoedenmimcmkoaa.fnListOf
