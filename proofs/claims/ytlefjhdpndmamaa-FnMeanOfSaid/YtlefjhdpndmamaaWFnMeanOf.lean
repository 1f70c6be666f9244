/-
  For every code the law FnMeanOf of the given program returns true, and the code reads as before. No condition.
-/
import Derived.Test.YtlefjhdpndmamaaMarksG
import Derived.Test.YtlefjhdpndmamaaDrawM2
import Derived.Test.YtlefjhdpndmamaaNum
namespace Go.Proofs.Ytlefjhdpndmamaa.fnMeanOf
open Go.RowKit
/-- The plain law. -/
theorem mean_facts {ms : List Int} (h : marksOkB ms = true) (h0 : 0 < ms.length) : ∃ p q G : Nat, meanI ms = [(p : Int), (q : Int)] ∧ 0 < G ∧ (G : Int) * p = isum ms ∧ G * q = ms.length ∧ Nat.gcd p q = 1 ∧ p ≤ 1200 ∧ 1 ≤ q ∧ q ≤ 12 := by
  have hl := marks_len h
  obtain ⟨hb0, hb1⟩ := isum_bd ms (marks_in h)
  have hG := meanG_pos h0
  obtain ⟨S, hS⟩ := Int.eq_ofNat_of_zero_le hb0
  have hg : meanG ms = Nat.gcd S ms.length := by unfold meanG; rw [hS]; rfl
  have d1 : meanG ms ∣ S := hg ▸ Nat.gcd_dvd_left _ _
  have d2 : meanG ms ∣ ms.length := hg ▸ Nat.gcd_dvd_right _ _
  have e1 := Nat.mul_div_cancel' d1
  have e2 := Nat.mul_div_cancel' d2
  refine ⟨S / meanG ms, ms.length / meanG ms, meanG ms, ?_, hG, by rw [hS, ← Int.natCast_mul, e1], e2, ?_, ?_, ?_, ?_⟩
  · have : ms ≠ [] := by intro e; simp [e] at h0
    simp [meanI, h, this, hS]
  · have := Nat.gcd_div_gcd_div_gcd_of_pos_right (n := S) (m := ms.length) h0
    rw [hg]; exact this
  · exact Nat.le_trans (Nat.div_le_self _ _) (by omega)
  · exact Nat.div_pos (Nat.le_of_dvd h0 d2) hG
  · exact Nat.le_trans (Nat.div_le_self _ _) (by omega)
theorem isum_lo {ms : List Int} {lo : Int} (h : ∀ n ∈ ms, lo ≤ n) : lo * ms.length ≤ isum ms := by
  induction ms with
  | nil => simp [isum]
  | cons x xs ih =>
    have h1 := h x (by simp)
    have h2 := ih (fun n hn => h n (by simp [hn]))
    simp only [isum, List.foldr_cons, List.length_cons] at *
    rw [Int.natCast_add, Int.mul_add]; omega
theorem isum_hi {ms : List Int} {hi : Int} (h : ∀ n ∈ ms, n ≤ hi) : isum ms ≤ hi * ms.length := by
  induction ms with
  | nil => simp [isum]
  | cons x xs ih =>
    have h1 := h x (by simp)
    have h2 := ih (fun n hn => h n (by simp [hn]))
    simp only [isum, List.foldr_cons, List.length_cons] at *
    rw [Int.natCast_add, Int.mul_add]; omega
theorem share {p q G n : Nat} {S lo hi : Int} (hG : 0 < G) (e1 : (G : Int) * p = S) (e2 : G * q = n) (h1 : lo * n ≤ S) (h2 : S ≤ hi * n) : (p : Int) * n = S * q ∧ lo * q ≤ p ∧ (p : Int) ≤ hi * q := by
  subst e1; subst e2
  rw [Int.natCast_mul] at *
  refine ⟨by rw [Int.mul_comm (G : Int) p, Int.mul_assoc], ?_, ?_⟩
  · refine Int.le_of_mul_le_mul_left (a := (G : Int)) ?_ (by omega)
    rw [← Int.mul_assoc, Int.mul_comm (G : Int) lo, Int.mul_assoc]; exact h1
  · refine Int.le_of_mul_le_mul_left (a := (G : Int)) ?_ (by omega)
    rw [← Int.mul_assoc (G : Int) hi, Int.mul_comm (G : Int) hi, Int.mul_assoc hi]; exact h2

theorem prod_bd {x y : Int} {c d : Int} (h1 : 0 ≤ x) (h2 : x ≤ c) (h3 : 0 ≤ y) (h4 : y ≤ d) : 0 ≤ x * y ∧ x * y ≤ c * d :=
  ⟨Int.mul_nonneg h1 h3, Int.mul_le_mul h2 h4 h3 (by omega)⟩
theorem mem_getD {xs : List Int} {n : Int} (h : n ∈ xs) : ∃ k, k < xs.length ∧ xs.getD k 0 = n := by
  obtain ⟨k, hk, rfl⟩ := List.getElem_of_mem h
  exact ⟨k, hk, by simp [List.getD_eq_getElem?_getD, hk]⟩

set_option maxHeartbeats 1000000 in
theorem walk {w : World} (a : Option Addr) (cap : Nat) (bs : List Int) (hs : Sl w a (bs.map (Value.int .u8))) (hb : ∀ x ∈ bs, 0 ≤ x ∧ x ≤ 255) (hcap : bs.length ≤ cap) :
    Calls Try.prog 14 #[.slice a bs.length cap] w fun e w' => e = .returned (.bool true) ∧ Fr w.heap.size none w w' := by
  have HS : Hid (Sl w a (u8s bs)) := hs
  have HB := Lib.hid hb; clear hs hb
  by_cases hn : bs.length ≤ 1048576
  · go_enter Try.func14, Try.ntmps14
    go_wp2_with fail
    refine (drawMeanOf_any a cap bs _ HS.out HB.out hn hcap).mono ?_; rintro e w1 ⟨va, vc, ms, rfl, ho, hl, _, hF⟩
    have HF := Lib.hid hF
    have HO := Lib.hid ho; clear hF ho
    by_cases hok : marksOkB ms = true ∧ 0 < ms.length
    · obtain ⟨hm1, hm2⟩ := hok
      have hin := Lib.hid (marks_in hm1)
      obtain ⟨p, q, G, hI, hG, e1, e2, hgcd, hp, hq1, hq2⟩ := mean_facts hm1 hm2
      have c1 := fun W hs => implMeanOf_any va vc ms W hs (by omega)
      have c2 := fun W hs => specMeanOf_any va vc ms W hs (by omega)
      have c3 := fun W hs => sumOf_any va vc ms W hs (by omega) (fun n hn => by have := marks_in hm1 n hn; omega)
      have hb := isum_bd ms (marks_in hm1)
      rw [hI] at c1 c2
      have C1 := Lib.hid c1; have C2 := Lib.hid c2; have E1 := Lib.hid e1; have E2 := Lib.hid e2; have HG := Lib.hid hgcd
      have hlo := Lib.hid (fun lo => @isum_lo ms lo); have hhi := Lib.hid (fun hi => @isum_hi ms hi)
      clear c1 c2 hI e1 e2 hgcd hm1
      have C3 := Lib.hid c3; clear c3
      go_wp2_with fail
      refine (C1.out _ (own_sl HO.out)).mono ?_; rintro e w2 ⟨fa, fc, rfl, fo, hF2⟩
      have FO2 := Lib.hid fo
      have O2 := Lib.hid (own_keep HO.out hF2)
      have G2 := Lib.hid (HF.out.and hF2)
      clear fo hF2
      go_wp2_with fail
      refine (C2.out _ (own_sl O2.out)).mono ?_; rintro e w3 ⟨sa, sc, rfl, so, hF3⟩
      have FO3 := Lib.hid (own_keep FO2.out hF3)
      have O3 := Lib.hid (own_keep O2.out hF3)
      have G3 := Lib.hid (G2.out.and hF3)
      have SO3 := Lib.hid so
      clear so hF3
      go_wp2_with fail
      refine (sameInts_any _ _ _ _ [(p : Int), (q : Int)] _ (own_sl FO3.out) (own_sl SO3.out) (by simp)).mono ?_; rintro e w4 ⟨rfl, hF4⟩
      have FO4 := Lib.hid (own_keep FO3.out hF4)
      have O4 := Lib.hid (own_keep O3.out hF4)
      have G4 := Lib.hid (G3.out.and hF4)
      clear hF4
      obtain ⟨b1, off1, rfl, f0⟩ := (own_sl FO4.out).int 0 (by simp)
      obtain ⟨b1', off1', hab, f1⟩ := (own_sl FO4.out).int 1 (by simp)
      cases hab
      have f0' : w4.cell? ⟨b1, off1, none⟩ = some (.int .i64 (p : Int)) := f0
      have f1' : w4.cell? ⟨b1, off1 + 1, none⟩ = some (.int .i64 (q : Int)) := f1
      clear f0 f1
      obtain ⟨b2, off2, rfl, m0⟩ := (own_sl O4.out).int 0 hm2
      have m0' : w4.cell? ⟨b2, off2, none⟩ = some (.int .i64 (ms.getD 0 0)) := m0
      have hx0 := hin.out (ms.getD 0 0) (by simp [List.getD_eq_getElem?_getD, hm2])
      obtain ⟨hxa, hxb⟩ := hx0
      have hlen0 : ((ms.length : Int) == 0) = false := by rw [beq_eq_false_iff_ne]; omega
      clear m0
      generalize ms.getD 0 0 = x0 at *
      go_wp2
      go_loop [5, 6, 7] (fun l h i => ∃ (k : Nat) (lo hi : Int), k ≤ ms.length ∧ l = .int .i64 lo ∧ h = .int .i64 hi ∧ i = .int .i64 k ∧ 0 ≤ lo ∧ lo ≤ 100 ∧ 0 ≤ hi ∧ hi ≤ 100 ∧ Hid (∀ j, j < k → lo ≤ ms.getD j 0 ∧ ms.getD j 0 ≤ hi)) (fun _ _ i => ms.length - (intOf i).toNat)
      case atStart => exact ⟨0, x0, x0, Nat.zero_le _, rfl, rfl, rfl, hxa, hxb, hxa, hxb, fun j hj => by omega⟩
      case round =>
        obtain ⟨k, lo, hi, hk, rfl, rfl, rfl, hl0, hl1, hh0, hh1, hall⟩ := hrel
        by_cases hlt : k < ms.length
        · obtain ⟨b3, off3, hab3, hcell⟩ := (own_sl O4.out).int k hlt
          cases hab3
          obtain ⟨hya, hyb⟩ := hin.out (ms.getD k 0) (by simp [List.getD_eq_getElem?_getD, hlt])
          have hnext : ∀ l' h' : Int, l' ≤ lo → l' ≤ ms.getD k 0 → hi ≤ h' → ms.getD k 0 ≤ h' → Hid (∀ j, j < k + 1 → l' ≤ ms.getD j 0 ∧ ms.getD j 0 ≤ h') := by
            intro l' h' i1 i2 i3 i4 j hj
            by_cases hjk : j = k
            · subst hjk; exact ⟨i2, i4⟩
            · have := hall.out j (by omega); omega
          have HN := Lib.hid hnext; clear hnext
          generalize ms.getD k 0 = y at *
          by_cases o1 : lo ≤ y <;> by_cases o2 : hi ≤ y
          all_goals
            go_wp2
            go_round
            case rel => exact ⟨k + 1, _, _, by omega, rfl, rfl, by go_num, by omega, by omega, by omega, by omega, HN.out _ _ (by omega) (by omega) (by omega) (by omega)⟩
            case measure => simp [intOf]; omega
        · have hkk : k = ms.length := by omega
          have hsh := share hG E1.out E2.out (hlo.out lo (fun n hn => by obtain ⟨j, hj, rfl⟩ := mem_getD hn; exact (hall.out j (by omega)).1)) (hhi.out hi (fun n hn => by obtain ⟨j, hj, rfl⟩ := mem_getD hn; exact (hall.out j (by omega)).2))
          clear hkk
          obtain ⟨s1, s2, s3⟩ := hsh
          have S1 := Lib.hid s1
          go_wp2
          go_loopw [8, 9] (fun x y wr => ∃ u v m : Nat, x = .int .i64 u ∧ y = .int .i64 v ∧ u ≤ 1200 ∧ v ≤ 12 ∧ Hid (Nat.gcd u v = 1) ∧ wr = w4.drewN m) (fun _ y _ => (intOf y).toNat)
          case atStart => exact ⟨p, q, 0, rfl, rfl, hp, hq2, HG.out, rfl⟩
          case round =>
            obtain ⟨u, v, m, rfl, rfl, hu1, hv1, hg, rfl⟩ := hrel
            by_cases hv : 0 < v
            · have hr : u % v < v := Nat.mod_lt _ hv
              have hst2 := Lib.hid (show Nat.gcd v (u % v) = 1 by rw [← hg.out, Nat.gcd_comm u v, Nat.gcd_rec v u, Nat.gcd_comm])
              have hcast := Lib.hid (show (u : Int) % (v : Int) = ((u % v : Nat) : Int) by simp)
              have hq1' : (1 : Int) ≤ (v : Int) := by omega
              have hq2' : ((v : Int) == 0) = false := by rw [beq_eq_false_iff_ne]; omega
              go_wp2
              go_quiet (fail)
              go_wp2
              go_roundw
              case rel => exact ⟨v, u % v, _, rfl, by rw [hcast.out], by omega, by omega, hst2, by first | rfl | exact World.drewN_drewN ..⟩
              case measure => simp [intOf]; omega
            · have hv0 : v = 0 := by omega
              have hu2 : u = 1 := by have := hg.out; rw [hv0, Nat.gcd_zero_right] at this; exact this
              subst hv0; subst hu2
              have t1 : ((p : Int) * (ms.length : Int) == isum ms * (q : Int)) = true := by rw [beq_iff_eq]; exact S1.out
              have t2 : decide (lo * (q : Int) ≤ (p : Int)) = true := by rw [decide_eq_true_iff]; exact s2
              have t3 : decide ((p : Int) ≤ hi * (q : Int)) = true := by rw [decide_eq_true_iff]; exact s3
              obtain ⟨b1a, b1b⟩ := prod_bd (x := (p : Int)) (y := (ms.length : Int)) (c := 1200) (d := 13) (by omega) (by omega) (by omega) (by omega)
              obtain ⟨hb0, hb1⟩ := hb
              obtain ⟨b2a, b2b⟩ := prod_bd (x := isum ms) (y := (q : Int)) (c := 1300) (d := 12) hb0 (by omega) (by omega) (by omega)
              obtain ⟨b3a, b3b⟩ := prod_bd (x := lo) (y := (q : Int)) (c := 100) (d := 12) hl0 hl1 (by omega) (by omega)
              obtain ⟨b4a, b4b⟩ := prod_bd (x := hi) (y := (q : Int)) (c := 100) (d := 12) hh0 hh1 (by omega) (by omega)
              clear s1 s2 s3 hg
              have C4 : Hid (∀ n, Calls Try.prog 40 #[.slice (some ⟨b2, off2, none⟩) ms.length vc] (w4.drewN n) fun e w' => e = .returned (.int .i64 (isum ms)) ∧ w4.drewN n = w') := fun n => C3.out _ ((own_sl O4.out).drewN n)
              clear hlo hhi E1
              generalize isum ms = S at *
              go_wp2
              go_quiet ((go_at_call 40; exact quiet_add_left (C4.out _)))
              go_wp2
              go_ret
              exact ⟨rfl, by first | exact G4.out.drewN _ | (simp only [World.drewN_drewN]; exact G4.out.drewN _)⟩
    · have hz : meanI ms = [] := by
        cases h1 : marksOkB ms
        · exact (mean_no1 h1).symm
        · refine (mean_no2 ?_).symm
          have : ¬ 0 < ms.length := fun h => hok ⟨h1, h⟩
          omega
      have c1 := fun W hs => implMeanOf_any va vc ms W hs (by omega)
      have c2 := fun W hs => specMeanOf_any va vc ms W hs (by omega)
      rw [hz] at c1 c2
      have C1 := Lib.hid c1; have C2 := Lib.hid c2
      clear c1 c2 hz hok
      go_wp2_with fail
      refine (C1.out _ (own_sl HO.out)).mono ?_; rintro e w2 ⟨fa, fc, rfl, fo, hF2⟩
      have FO2 := Lib.hid fo
      have O2 := Lib.hid (own_keep HO.out hF2)
      have G2 := Lib.hid (HF.out.and hF2)
      clear fo hF2
      go_wp2_with fail
      refine (C2.out _ (own_sl O2.out)).mono ?_; rintro e w3 ⟨sa, sc, rfl, so, hF3⟩
      have FO3 := Lib.hid (own_keep FO2.out hF3)
      have G3 := Lib.hid (G2.out.and hF3)
      have SO3 := Lib.hid so
      clear so hF3
      go_wp2_with fail
      refine (sameInts_any _ _ _ _ [] _ (own_sl FO3.out) (own_sl SO3.out) (by simp)).mono ?_; rintro e w4 ⟨rfl, hF4⟩
      have G4 := Lib.hid (G3.out.and hF4)
      clear hF4
      go_wp2_with (go_at_call 24; refine (alive_any _).mono ?_; rintro e w' ⟨rfl, rfl⟩)
      go_ret
      exact ⟨rfl, G4.out⟩
  · have hl : (1048576 : Int) < bs.length := by omega
    go_enter Try.func14, Try.ntmps14
    go_wp2
    go_ret
    exact ⟨rfl, Fr.refl _ _ _⟩
end Go.Proofs.Ytlefjhdpndmamaa.fnMeanOf
