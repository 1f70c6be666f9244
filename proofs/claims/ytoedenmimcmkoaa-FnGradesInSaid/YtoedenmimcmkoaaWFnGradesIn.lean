/-
  For every code the law FnGradesIn of the given program returns true, and the code reads as before. No condition.
-/
import Derived.Test.YtoedenmimcmkoaaMarksF
import Derived.Test.YtoedenmimcmkoaaDrawM2
import Derived.Test.YtoedenmimcmkoaaSame
import Derived.Test.YtoedenmimcmkoaaNum
namespace Go.Proofs.Ytoedenmimcmkoaa.fnGradesIn
open Go.RowKit
/-- How many marks reach a bound. -/
def many (ms : List Int) (b : Int) (k : Nat) : Nat := (ms.take k).countP fun n => decide (b ≤ n)
theorem many_succ (ms : List Int) (b : Int) (k : Nat) (h : k < ms.length) : many ms b (k + 1) = many ms b k + if b ≤ ms.getD k 0 then 1 else 0 := by
  unfold many
  rw [List.take_succ_eq_append_getElem h, List.countP_append]
  simp [List.countP_cons, List.getD_eq_getElem?_getD, h]
theorem many_le (ms : List Int) (b : Int) (k : Nat) : many ms b k ≤ k := by
  have h1 : many ms b k ≤ (ms.take k).length := List.countP_le_length
  have h2 := List.length_take_le k ms
  omega
theorem bounds_falls {bs : List Int} (h : boundsOkB bs = true) : bs.Pairwise (· > ·) := by
  simp only [boundsOkB, Bool.and_eq_true, boundsTo, allTo_iff] at h
  have step : ∀ k, k + 1 < bs.length → bs.getD (k + 1) 0 < bs.getD k 0 := by
    intro k hk
    have := h.1 (k + 1) hk
    simp only [bOk, Bool.and_eq_true, Bool.or_eq_true, decide_eq_true_eq] at this
    rcases this.2 with h0 | h1
    · omega
    · exact h1
  have far : ∀ d j, j + d + 1 < bs.length → bs.getD (j + d + 1) 0 < bs.getD j 0 := by
    intro d
    induction d with
    | zero => intro j hj; exact step j hj
    | succ d ih => intro j hj; exact Int.lt_trans (step (j + d + 1) (by omega)) (ih j (by omega))
  rw [List.pairwise_iff_getElem]
  intro i j hi hj hij
  have := far (j - i - 1) i (by omega)
  rw [show i + (j - i - 1) + 1 = j by omega] at this
  rw [List.getD_eq_getElem?_getD, List.getD_eq_getElem?_getD, List.getElem?_eq_getElem hi, List.getElem?_eq_getElem hj] at this
  exact this
/-- In falling bounds: fewer than k+1 bounds are greater than n exactly when n reaches the bound k. -/
theorem falls_above : ∀ {bs : List Int}, bs.Pairwise (· > ·) → ∀ (k : Nat) (hk : k < bs.length) (n : Int), (aboveN bs n ≤ k ↔ bs.getD k 0 ≤ n) := by
  intro bs
  induction bs with
  | nil => intro _ k hk; simp at hk
  | cons b bs ih =>
    intro hp k hk n
    rw [List.pairwise_cons] at hp
    have hc : aboveN (b :: bs) n = aboveN bs n + if n < b then 1 else 0 := by unfold aboveN; rw [List.countP_cons]; simp
    have h0 : ¬ n < b → aboveN bs n = 0 := by
      intro h
      unfold aboveN
      rw [List.countP_eq_zero]
      intro x hx
      have := hp.1 x hx
      simp; omega
    cases k with
    | zero =>
      rw [hc]; simp only [List.getD_cons_zero]
      by_cases h : n < b
      · simp [h]
      · simp [h, h0 h]; omega
    | succ k =>
      simp only [List.length_cons] at hk
      have := ih hp.2 k (by omega) n
      rw [hc]; simp only [List.getD_cons_succ]
      by_cases h : n < b
      · simp [h]; exact this
      · have hb : bs.getD k 0 < b := by
          have hk' : k < bs.length := by omega
          have e : bs.getD k 0 = bs[k] := by simp [List.getD_eq_getElem?_getD, hk']
          rw [e]; exact hp.1 _ (List.getElem_mem _)
        rw [if_neg h, h0 h]
        constructor
        · intro _; omega
        · intro _; exact Nat.zero_le _
theorem sum_cnt (bs ms : List Int) (j : Nat) (hj : j ≤ bs.length + 1) (k : Nat) (hk : k ≤ ms.length) : isum ((cntI bs ms k).take j) = ((ms.take k).countP fun n => decide (aboveN bs n < j) : Nat) := by
  induction j with
  | zero => simp [isum]
  | succ j ih =>
    have hl : j < (cntI bs ms k).length := by rw [cntI_length]; omega
    rw [isum_take _ _ hl, ih (by omega), cntI_getD bs ms k j (by omega)]
    generalize ms.take k = l
    induction l with
    | nil => simp
    | cons x l ih2 =>
      simp only [List.countP_cons]
      by_cases h1 : aboveN bs x < j
      · have h2 : aboveN bs x < j + 1 := by omega
        have h3 : ¬ aboveN bs x = j := by omega
        simp [h1, h2, h3] at ih2 ⊢; omega
      · by_cases h3 : aboveN bs x = j
        · simp [h3] at ih2 ⊢; omega
        · have h2 : ¬ aboveN bs x < j + 1 := by omega
          simp [h1, h2, h3] at ih2 ⊢; omega
theorem grades_facts {bs ms : List Int} (hb : boundsOkB bs = true) (hm : marksOkB ms = true) :
    (∀ k, k < bs.length → isum ((gradesI bs ms).take (k + 1)) = (many ms (bs.getD k 0) ms.length : Int)) ∧ isum (gradesI bs ms) = ms.length ∧ (gradesI bs ms).length = bs.length + 1 ∧ (∀ n ∈ gradesI bs ms, 0 ≤ n ∧ n ≤ 12) := by
  have hg : gradesI bs ms = cntI bs ms ms.length := by simp [gradesI, hb, hm]
  have hp := bounds_falls hb
  have hl := marks_len hm
  rw [hg]
  refine ⟨?_, ?_, cntI_length _ _ _, ?_⟩
  · intro k hk
    rw [sum_cnt bs ms (k + 1) (by omega) _ (Nat.le_refl _)]
    unfold many
    congr 1
    apply List.countP_congr
    intro n _
    have := falls_above hp k hk n
    rw [decide_eq_true_iff, decide_eq_true_iff, ← this]; omega
  · have := sum_cnt bs ms (bs.length + 1) (Nat.le_refl _) ms.length (Nat.le_refl _)
    rw [List.take_of_length_le (by rw [cntI_length]; exact Nat.le_refl _)] at this
    rw [this, List.take_length]
    have : (ms.countP fun n => decide (aboveN bs n < bs.length + 1)) = ms.length := by
      rw [List.countP_eq_length]; intro n _; have := aboveN_le bs n; simp; omega
    omega
  · intro n hn
    obtain ⟨g, hg1, rfl⟩ := List.getElem_of_mem hn
    rw [cntI_length] at hg1
    have := cntI_le bs ms ms.length g hg1
    rw [List.getD_eq_getElem?_getD, List.getElem?_eq_getElem (by rw [cntI_length]; exact hg1)] at this
    simp only [Option.getD_some] at this
    omega

set_option maxHeartbeats 1000000 in
theorem walk {w : World} (a : Option Addr) (cap : Nat) (cs : List Int) (hs : Sl w a (cs.map (Value.int .u8))) (hb : ∀ x ∈ cs, 0 ≤ x ∧ x ≤ 255) (hcap : cs.length ≤ cap) :
    Calls Try.prog 4 #[.slice a cs.length cap] w fun e w' => e = .returned (.bool true) ∧ Fr w.heap.size none w w' := by
  have HS : Hid (Sl w a (u8s cs)) := hs
  have HB := Lib.hid hb; clear hs hb
  by_cases hn : cs.length ≤ 1048576
  · go_enter Try.func4, Try.ntmps4
    go_wp2_with fail
    refine (drawGradesIn_any a cap cs _ HS.out HB.out hn hcap).mono ?_; rintro e w1 ⟨va, vc, bs, ya, yc, ms, rfl, ho, yo, hl, yl, hbd, ybd, hF⟩
    have HF := Lib.hid hF
    have BO := Lib.hid ho; have MO := Lib.hid yo; have BD := Lib.hid hbd; have MD := Lib.hid ybd; clear hF ho yo hbd ybd
    have c1 := fun W hs hs2 => implGradesIn_any va vc bs ya yc ms W hs (by omega) hs2 (by omega)
    have c2 := fun W hs hs2 => specGradesIn_any va vc bs ya yc ms W hs (by omega) hs2 (by omega)
    have C1 := Lib.hid c1; have C2 := Lib.hid c2; clear c1 c2
    have hle := Lib.hid (gradesI_le bs ms)
    go_wp2_with fail
    refine (C1.out _ (own_sl BO.out) (own_sl MO.out)).mono ?_; rintro e w2 ⟨fa, fc, rfl, fo, hF2⟩
    have FO2 := Lib.hid fo
    have B2 := Lib.hid (own_keep BO.out hF2)
    have M2 := Lib.hid (own_keep MO.out hF2)
    have G2 := Lib.hid (HF.out.and hF2)
    clear fo hF2
    go_wp2_with fail
    refine (C2.out _ (own_sl B2.out) (own_sl M2.out)).mono ?_; rintro e w3 ⟨sa, sc, rfl, so, hF3⟩
    have FO3 := Lib.hid (own_keep FO2.out hF3)
    have B3 := Lib.hid (own_keep B2.out hF3)
    have M3 := Lib.hid (own_keep M2.out hF3)
    have G3 := Lib.hid (G2.out.and hF3)
    have SO3 := Lib.hid so
    clear so hF3
    go_wp2_with fail
    refine (sameInts_any _ _ _ _ (gradesI bs ms) _ (own_sl FO3.out) (own_sl SO3.out) hle.out).mono ?_; rintro e w4 ⟨rfl, hF4⟩
    have FO4 := Lib.hid (own_keep FO3.out hF4)
    have B4 := Lib.hid (own_keep B3.out hF4)
    have M4 := Lib.hid (own_keep M3.out hF4)
    have G4 := Lib.hid (G3.out.and hF4)
    clear hF4
    by_cases hok : boundsOkB bs = true ∧ marksOkB ms = true
    · obtain ⟨h1, h2⟩ := hok
      obtain ⟨k1, k2, k3, k4⟩ := grades_facts h1 h2
      have K1 := Lib.hid k1; have K2 := Lib.hid k2; have K4 := Lib.hid k4
      have hz : (((gradesI bs ms).length : Int) == 0) = false := by rw [beq_eq_false_iff_ne]; omega
      have ml := marks_len h2
      have cs1 := fun W hs => sumOf_any fa fc (gradesI bs ms) W hs hle.out (fun n hn => by have := k4 n hn; omega)
      rw [k2] at cs1
      have CS := Lib.hid cs1
      clear k1 k2 k4 cs1 h1 h2
      have K3 := Lib.hid k3; clear k3
      go_wp2
      go_loopw [6, 7] (fun s i wr => ∃ k : Nat, k ≤ bs.length ∧ i = .int .i64 k ∧ s = .int .i64 (isum ((gradesI bs ms).take k)) ∧ ∃ m, wr = w4.drewN m) (fun _ i _ => bs.length - (intOf i).toNat)
      case atStart => exact ⟨0, Nat.zero_le _, rfl, rfl, 0, rfl⟩
      case round =>
        obtain ⟨k, hk, rfl, rfl, m, rfl⟩ := hrel
        have F5 : Hid (Sl (w4.drewN m) fa (ints (gradesI bs ms))) := (own_sl FO4.out).drewN m
        obtain ⟨hc0, hc1⟩ := isum_bdG ((gradesI bs ms).take k) (fun n hn => K4.out n (List.mem_of_mem_take hn))
        have hlk := List.length_take_le k (gradesI bs ms)
        by_cases hlt : k < bs.length
        · have hkl : k < (gradesI bs ms).length := by have := K3.out; omega
          obtain ⟨b1, off1, rfl, hc⟩ := F5.out.int k (by have := K3.out; omega)
          have hst := Lib.hid (isum_take (gradesI bs ms) k (by have := K3.out; omega))
          have hx := K4.out ((gradesI bs ms).getD k 0) (by simp [List.getD_eq_getElem?_getD, show k < (gradesI bs ms).length by have := K3.out; omega])
          have heq := Lib.hid (K1.out k hlt)
          have hc' : w4.cell? ⟨b1, off1 + k, none⟩ = some (.int .i64 ((gradesI bs ms).getD k 0)) := hc
          clear hc
          generalize (gradesI bs ms).getD k 0 = x at *
          generalize isum ((gradesI bs ms).take k) = s at *
          obtain ⟨hx0, hx1⟩ := hx
          go_wp2
          go_loopw [8, 9] (fun c j wr => ∃ q : Nat, q ≤ ms.length ∧ j = .int .i64 q ∧ c = .int .i64 (many ms (bs.getD k 0) q) ∧ ∃ m2, wr = w4.drewN m2) (fun _ j _ => ms.length - (intOf j).toNat)
          case atStart => exact ⟨0, Nat.zero_le _, rfl, rfl, m, rfl⟩
          case round =>
            obtain ⟨q, hq, rfl, rfl, m2, rfl⟩ := hrel
            have hml := many_le ms (bs.getD k 0) q
            by_cases hlq : q < ms.length
            · obtain ⟨b2, off2, hab, hc2⟩ := (own_sl M4.out).int q hlq
              subst hab
              obtain ⟨b3, off3, hab, hc3⟩ := (own_sl B4.out).int k hlt
              subst hab
              have hms := Lib.hid (many_succ ms (bs.getD k 0) q hlq)
              have y1 := MD.out (ms.getD q 0) (by simp [List.getD_eq_getElem?_getD, hlq])
              have y2 := BD.out (bs.getD k 0) (by simp [List.getD_eq_getElem?_getD, hlt])
              by_cases hge : bs.getD k 0 ≤ ms.getD q 0
              · have hm1 := Lib.hid (show many ms (bs.getD k 0) (q + 1) = many ms (bs.getD k 0) q + 1 by rw [hms.out, if_pos hge])
                clear hms
                have hge' : decide (bs.getD k 0 ≤ ms.getD q 0) = true := by simpa using hge
                clear hge
                generalize ms.getD q 0 = y at *
                have hmm := Lib.hid (many_le ms (bs.getD k 0) (q + 1))
                generalize hmy : many ms (bs.getD k 0) (q + 1) = my1 at *
                generalize hmz : many ms (bs.getD k 0) q = my at *
                have HMY := Lib.hid hmy; have HMZ := Lib.hid hmz; clear hmy hmz
                generalize hbz : bs.getD k 0 = z at *
                have HBZ := Lib.hid hbz; clear hbz
                go_wp2
                go_quiet (fail)
                go_wp2
                go_roundw
                case rel => exact ⟨q + 1, by omega, by go_num, by rw [HMY.out, hm1.out]; go_num, _, by first | rfl | exact World.drewN_drewN ..⟩
                case measure => simp [intOf]; omega
              · have hm1 := Lib.hid (show many ms (bs.getD k 0) (q + 1) = many ms (bs.getD k 0) q by rw [hms.out, if_neg hge, Nat.add_zero])
                clear hms
                have hge' : decide (bs.getD k 0 ≤ ms.getD q 0) = false := by simpa using hge
                clear hge
                generalize ms.getD q 0 = y at *
                generalize hmy : many ms (bs.getD k 0) (q + 1) = my1 at *
                generalize hmz : many ms (bs.getD k 0) q = my at *
                have HMY := Lib.hid hmy; have HMZ := Lib.hid hmz; clear hmy hmz
                generalize hbz : bs.getD k 0 = z at *
                have HBZ := Lib.hid hbz; clear hbz
                go_wp2
                go_quiet (fail)
                go_wp2
                go_roundw
                case rel => exact ⟨q + 1, by omega, by go_num, by rw [HMY.out, hm1.out], _, by first | rfl | exact World.drewN_drewN ..⟩
                case measure => simp [intOf]; omega
            · have hqq : q = ms.length := by omega
              have hst2 := Lib.hid (show ((many ms (bs.getD k 0) q : Nat) : Int) = s + x by rw [hqq, ← heq.out, hst.out])
              clear hqq
              generalize many ms (bs.getD k 0) q = my at *
              have hne : (s + x != (my : Int)) = false := by rw [bne_eq_false_iff_eq]; exact hst2.out.symm
              go_wp2
              go_roundw
              case rel => exact ⟨k + 1, by omega, by go_num, by rw [hst.out], _, rfl⟩
              case measure => simp [intOf]; omega
        · have hkk : k = bs.length := by omega
          clear hkk
          have hq1 : ((ms.length : Int) == (ms.length : Int)) = true := by simp
          have hq2 : (((gradesI bs ms).length : Int) == (bs.length : Int) + 1) = true := by rw [beq_iff_eq]; have := K3.out; omega
          go_wp2_with fail
          refine (CS.out _ F5.out).mono ?_; rintro e w' ⟨rfl, rfl⟩
          go_wp2
          go_ret
          exact ⟨rfl, G4.out.drewN m⟩
    · have hz : gradesI bs ms = [] := by
        cases h1 : boundsOkB bs
        · exact (grades_no1 h1).symm
        · cases h2 : marksOkB ms
          · exact (grades_no2 h2).symm
          · exact absurd ⟨h1, h2⟩ hok
      have hz' : (((gradesI bs ms).length : Int) == 0) = true := by rw [hz]; rfl
      clear hz hok
      go_wp2_with (go_at_call 16; refine (alive_any _).mono ?_; rintro e w' ⟨rfl, rfl⟩)
      go_ret
      exact ⟨rfl, G4.out⟩
  · have hl : (1048576 : Int) < cs.length := by omega
    go_enter Try.func4, Try.ntmps4
    go_wp2
    go_ret
    exact ⟨rfl, Fr.refl _ _ _⟩
end Go.Proofs.Ytoedenmimcmkoaa.fnGradesIn
