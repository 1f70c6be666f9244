/-
  For every code the law FnAfterDays of the given program returns true, and the code reads as before. No condition.
-/
import Derived.Test.YtoedenmimcmkoaaDaysD
import Derived.Test.YtoedenmimcmkoaaDrawDays
import Derived.Test.YtoedenmimcmkoaaHas
import Derived.Test.YtoedenmimcmkoaaNum
namespace Go.Proofs.Ytoedenmimcmkoaa.fnAfterDays
open Go.RowKit
theorem days_bd {cs : List (Int × Int)} {a b : Int} {ks : List Int} (h : daysOk cs a b ks = true) : 0 ≤ a ∧ a ≤ b ∧ b ≤ 200 ∧ ks.length ≤ 8 := by
  simp only [daysOk, knownB, Bool.and_eq_true, decide_eq_true_eq] at h
  obtain ⟨⟨k1, k2, k3⟩, k4, k5⟩ := h
  have b4 := inB_true.1 k4; have b5 := inB_true.1 k5; have := deck_len k1
  omega
theorem daysN_bd {cs : List (Int × Int)} {a b : Int} {ks : List Int} (h : daysOk cs a b ks = true) : 0 ≤ daysN cs a b ks ∧ daysN cs a b ks ≤ 1608 := by
  have hb := days_bd h
  have hh := h
  simp only [daysOk, knownB, Bool.and_eq_true, decide_eq_true_eq] at hh
  have hl := deck_len hh.1.1
  rw [← daysN_yes h]
  have := runN_le cs ks a (b - a).toNat
  have h2 : (b - a).toNat * cs.length ≤ 200 * 8 := Nat.mul_le_mul (by omega) hl
  omega
set_option maxHeartbeats 1000000 in
theorem walk {w : World} (a : Option Addr) (cap : Nat) (bs : List Int) (hs : Sl w a (bs.map (Value.int .u8))) (hb : ∀ x ∈ bs, 0 ≤ x ∧ x ≤ 255) (hcap : bs.length ≤ cap) :
    Calls Try.prog 5 #[.slice a bs.length cap] w fun e w' => e = .returned (.bool true) ∧ Fr w.heap.size none w w' := by
  have HS : Hid (Sl w a (u8s bs)) := hs
  have HB := Lib.hid hb; clear hs hb
  by_cases hn : bs.length ≤ 1048576
  · go_enter Try.func5, Try.ntmps5
    go_wp2_with fail
    refine (drawAfterDays_any a cap bs _ HS.out HB.out hn hcap).mono ?_; rintro e w1 ⟨va, vc, xs, d1, d2, ka, kc, ks, rfl, ho, hl, d10, d11, d20, d21, ko, kl, hF⟩
    have G1 := Lib.hid hF; have O1 := Lib.hid ho; have K1 := Lib.hid ko; clear hF ho ko
    have c1 := fun (t : Int) W hs hk => implAfterDays_any va vc xs d1 t ka kc ks W hs (by omega) hk (by omega)
    have c2 := fun W hs hk => specAfterDays_any va vc xs d1 d2 ka kc ks W hs (by omega) hk (by omega)
    have C1 := Lib.hid c1; have C2 := Lib.hid c2; clear c1 c2
    have hle := Lib.hid (daysC_len xs d1 d2 ks)
    go_wp2_with fail
    refine (C1.out d2 _ (own_sl O1.out) (own_sl K1.out)).mono ?_; rintro e w2 ⟨fa, fc, rfl, fo, hF2⟩
    have FO2 := Lib.hid fo
    have O2 := Lib.hid (own_keep O1.out hF2)
    have K2 := Lib.hid (own_keep K1.out hF2)
    have G2 := Lib.hid (G1.out.and hF2)
    clear fo hF2
    go_wp2_with fail
    refine (C2.out _ (own_sl O2.out) (own_sl K2.out)).mono ?_; rintro e w3 ⟨sa, sc, rfl, so, hF3⟩
    have FO3 := Lib.hid (FO2.out.keep hF3)
    have O3 := Lib.hid (own_keep O2.out hF3)
    have K3 := Lib.hid (own_keep K2.out hF3)
    have G3 := Lib.hid (G2.out.and hF3)
    have SO3 := Lib.hid so
    clear so hF3
    go_wp2_with fail
    refine (sameCards_any _ _ _ _ (daysC xs d1 d2 ks) _ FO3.out.sl SO3.out.sl hle.out).mono ?_; rintro e w4 ⟨rfl, hF4⟩
    have FO4 := Lib.hid (FO3.out.keep hF4)
    have O4 := Lib.hid (own_keep O3.out hF4)
    have K4 := Lib.hid (own_keep K3.out hF4)
    have G4 := Lib.hid (G3.out.and hF4)
    clear hF4 FO2 FO3 SO3 O2 O3 K2 K3 C2
    cases h : daysOk xs d1 d2 ks
    · have hz : (((daysC xs d1 d2 ks).length : Int) == 0) = true := by rw [← daysC_no h]; rfl
      have hz2 : ((daysN xs d1 d2 ks) == 0) = true := by rw [← daysN_no h]; rfl
      clear h
      go_wp2_with (go_at_call 16; refine (alive_any _).mono ?_; rintro e w' ⟨rfl, rfl⟩)
      go_ret
      exact ⟨rfl, G4.out⟩
    · obtain ⟨e1, e2, e3, e4⟩ := days_bd h
      obtain ⟨o1, o2, s1, s2⟩ := days_split (h := (d1 + d2) / 2) h (by omega) (by omega)
      obtain ⟨o3, s3⟩ := ones_fewer h
      have b1 := daysN_bd h
      have b2 := daysN_bd o1
      have b3 := daysN_bd o2
      have b4 := daysN_bd o3
      have D1 := Lib.hid (C1.out ((d1 + d2) / 2))
      have D2 := fun fa fc W hs hk => implAfterDays_any fa fc (daysC xs d1 ((d1 + d2) / 2) ks) ((d1 + d2) / 2) d2 ka kc ks W hs (daysC_len _ _ _ _) hk (by omega)
      have D3 := fun na nc W hs hk => implAfterDays_any va vc xs d1 d2 na nc (List.replicate ks.length 1) W hs (by omega) hk (by rw [List.length_replicate]; omega)
      have LR := Lib.hid (show (List.replicate ks.length (1 : Int)).length = ks.length by rw [List.length_replicate])
      rw [o1] at D1; rw [s1, o2] at D2; rw [o3] at D3
      have D2 := Lib.hid D2; have D3 := Lib.hid D3
      have hE : ((daysN xs d1 ((d1 + d2) / 2) ks + daysN (daysC xs d1 ((d1 + d2) / 2) ks) ((d1 + d2) / 2) d2 ks) == daysN xs d1 d2 ks) = true := by rw [beq_iff_eq]; exact s2
      clear o1 o2 s1 o3 h s2
      generalize daysN xs d1 ((d1 + d2) / 2) ks = p at *
      generalize daysN (daysC xs d1 ((d1 + d2) / 2) ks) ((d1 + d2) / 2) d2 ks = q at *
      generalize daysN xs d1 d2 ks = n at *
      generalize daysN xs d1 d2 (List.replicate ks.length 1) = fewer at *
      go_wp2_with fail
      refine (D1.out _ (own_sl O4.out) (own_sl K4.out)).mono ?_; rintro e w5 ⟨ga, gc, rfl, go, hF5⟩
      have GO5 := Lib.hid go
      have FO5 := Lib.hid (FO4.out.keep hF5)
      have O5 := Lib.hid (own_keep O4.out hF5)
      have K5 := Lib.hid (own_keep K4.out hF5)
      have G5 := Lib.hid (G4.out.and hF5)
      clear go hF5
      go_wp2_with fail
      refine (D2.out _ _ _ GO5.out.sl (own_sl K5.out)).mono ?_; rintro e w6 ⟨ha, hc, rfl, ho, hF6⟩
      have HO6 := Lib.hid ho
      have FO6 := Lib.hid (FO5.out.keep hF6)
      have O6 := Lib.hid (own_keep O5.out hF6)
      have G6 := Lib.hid (G5.out.and hF6)
      clear ho hF6
      go_wp2
      go_loopw [20, 21] (fun v i wr => ∃ k : Nat, k ≤ ks.length ∧ i = .int .i64 k ∧ wr.ownsRow w6.heap.size 3 1 v k (ints (List.replicate k 1)) ∧ Fr w6.heap.size none w6 wr) (fun _ i _ => ks.length - (intOf i).toNat)
      case atStart => exact ⟨0, Nat.zero_le _, rfl, World.ownsRow_made w6 #[] 0 (Nat.le_refl _) (by simp [maxLen]) (by simp), (Fr.refl _ _ w6).alloc (Nat.le_refl _) _⟩
      case round =>
        obtain ⟨k, hk, rfl, ho, hF⟩ := hrel
        have HO := Lib.hid ho; have H7 := Lib.hid hF; have hz6 := hF.size; clear ho hF
        obtain ⟨na, nc, rfl, hvc, _⟩ := own_slice HO.out
        by_cases hlt : k < ks.length
        · have hlt' : (k : Int) < (ks.length : Int) := by omega
          go_wp2_with (at_builtin; refine app1 23 3 (.int .i64 0) 1 8 Try.underlying23 infoInt rfl (by decide) (by decide) rfl _ _ rfl [.int .i64 1] HO.out rfl rfl rfl (by simp [Value.oneCell']) (by omega) hz6 ?_; intro v' w5 ho' hF')
          have HO5 := Lib.hid (show w5.ownsRow w6.heap.size 3 1 v' (k + 1) (ints (List.replicate (k + 1) 1)) by rw [List.replicate_succ', ints_append]; exact ho')
          have H8 := Lib.hid (app_frame H7.out HO.out hF' hz6)
          clear ho' hF'
          go_wp2
          go_roundw
          case rel => exact ⟨k + 1, by omega, by go_num, HO5.out, H8.out⟩
          case measure => simp [intOf]; omega
        · have hkk : k = ks.length := by omega
          have hge : (ks.length : Int) ≤ (k : Int) := by omega
          have NO := Lib.hid (own_sl HO.out)
          have D4 := Lib.hid (D3.out na nc)
          rw [LR.out, ← hkk] at D4
          clear hkk
          go_wp2_with fail
          refine (D4.out _ ((own_sl O6.out).fr H7.out) NO.out).mono ?_; rintro e w8 ⟨ta, tc, rfl, _, hF8⟩
          have H8 := Lib.hid (H7.out.and hF8)
          have FO8 := Lib.hid (FO6.out.keep H8.out)
          have HO8 := Lib.hid (HO6.out.keep H8.out)
          have G8 := Lib.hid (G6.out.and H8.out)
          clear hF8
          go_wp2_with fail
          refine (sameCards_any _ _ _ _ (daysC xs d1 d2 ks) _ HO8.out.sl FO8.out.sl hle.out).mono ?_; rintro e w9 ⟨rfl, hF9⟩
          have G9 := Lib.hid (G8.out.and hF9); clear hF9
          go_wp2
          go_ret
          exact ⟨rfl, G9.out⟩
  · have hl : (1048576 : Int) < bs.length := by omega
    go_enter Try.func5, Try.ntmps5
    go_wp2
    go_ret
    exact ⟨rfl, Fr.refl _ _ _⟩
end Go.Proofs.Ytoedenmimcmkoaa.fnAfterDays
