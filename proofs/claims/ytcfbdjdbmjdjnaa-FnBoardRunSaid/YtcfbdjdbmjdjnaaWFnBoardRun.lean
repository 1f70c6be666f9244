/-
  For every code the law FnBoardRun of the given program returns true, and the code reads as before. No condition.
-/
import Derived.Test.YtcfbdjdbmjdjnaaDrawBoardC
import Derived.Test.YtcfbdjdbmjdjnaaSame
import Derived.Test.YtcfbdjdbmjdjnaaNum
namespace Go.Proofs.Ytcfbdjdbmjdjnaa.fnBoardRun
open Go.RowKit
theorem getD_take (ds : List Dd) (h k : Nat) (hk : k < h) : (ds.take h).getD k noDeed = ds.getD k noDeed := by
  simp [List.getD_eq_getElem?_getD, List.getElem?_take, hk]
theorem getD_drop (ds : List Dd) (h k : Nat) : (ds.drop h).getD k noDeed = ds.getD (h + k) noDeed := by
  simp [List.getD_eq_getElem?_getD]
theorem runTo_take (xs : List Tst) (ds : List Dd) (h : Nat) : ∀ k, k ≤ h → runTo xs (ds.take h) k = runTo xs ds k
  | 0, _ => rfl
  | k + 1, hk => by simp only [runTo]; rw [runTo_take xs ds h k (by omega), getD_take ds h k (by omega)]
theorem runTo_drop (xs : List Tst) (ds : List Dd) (h : Nat) : ∀ k, (runTo (runTo xs ds h).1 (ds.drop h) k).1 = (runTo xs ds (h + k)).1 ∧ (runTo xs ds h).2 + (runTo (runTo xs ds h).1 (ds.drop h) k).2 = (runTo xs ds (h + k)).2
  | 0 => ⟨rfl, rfl⟩
  | k + 1 => by
    obtain ⟨h1, h2⟩ := runTo_drop xs ds h k
    rw [show h + (k + 1) = (h + k) + 1 by omega]
    simp only [runTo]
    rw [getD_drop, h1]
    refine ⟨rfl, ?_⟩
    split <;> omega
theorem run_split {xs : List Tst} {ds : List Dd} (h : Nat) (hh : h ≤ ds.length) (hok : runOk xs ds = true) :
    runOk xs (ds.take h) = true ∧ runOk (runC xs (ds.take h)) (ds.drop h) = true ∧ runC (runC xs (ds.take h)) (ds.drop h) = runC xs ds ∧ runN xs (ds.take h) + runN (runC xs (ds.take h)) (ds.drop h) = runN xs ds := by
  have hk := hok
  simp only [runOk, Bool.and_eq_true, decide_eq_true_eq] at hk
  obtain ⟨hb, hl⟩ := hk
  have h1 : runOk xs (ds.take h) = true := by simp [runOk, hb]; omega
  have lt : (ds.take h).length = h := by rw [List.length_take]; omega
  have e1 : runC xs (ds.take h) = (runTo xs ds h).1 := by rw [← runC_yes h1, lt, runTo_take xs ds h h (Nat.le_refl _)]
  have n1 : runN xs (ds.take h) = ((runTo xs ds h).2 : Int) := by rw [← runN_yes h1, lt, runTo_take xs ds h h (Nat.le_refl _)]
  have h2 : runOk (runTo xs ds h).1 (ds.drop h) = true := by simp [runOk, runTo_ok hb]; omega
  obtain ⟨d1, d2⟩ := runTo_drop xs ds h (ds.length - h)
  rw [show h + (ds.length - h) = ds.length by omega] at d1 d2
  have ld : (ds.drop h).length = ds.length - h := by simp
  refine ⟨h1, by rw [e1]; exact h2, ?_, ?_⟩
  · rw [e1, ← runC_yes h2, ← runC_yes hok, ld, d1]
  · rw [e1, n1, ← runN_yes h2, ← runN_yes hok, ld, ← d2]; omega
theorem run_ok {xs : List Tst} {ds : List Dd} (hok : runOk xs ds = true) : boardOkB (runC xs ds) = true := by
  have hk := hok
  simp only [runOk, Bool.and_eq_true, decide_eq_true_eq] at hk
  rw [← runC_yes hok]; exact runTo_ok hk.1 _
theorem run_small {xs : List Tst} {ds : List Dd} (hx : Small xs) (hd : SmallD ds) : Small (runC xs ds) := by
  unfold runC; split
  · exact runTo_small hx hd _
  · exact small_nil
theorem sl_left {w : World} {a : Option Addr} {A C : List Value} (h : Sl w a (A ++ C)) : Sl w a A := by
  intro j hj
  obtain ⟨b, off, e, e2⟩ := h j (by simp; omega)
  exact ⟨b, off, e, by rw [e2]; congr 1; rw [List.getElem_append_left hj]⟩
theorem sl_right {w : World} {b off n : Nat} {A C : List Value} (h : Sl w (some ⟨b, off, none⟩) (A ++ C)) (hn : n = off + A.length) : Sl w (some ⟨b, n, none⟩) C := by
  intro j hj
  obtain ⟨b', off', e, e2⟩ := h (A.length + j) (by simp; omega)
  cases e
  exact ⟨b, n, rfl, by rw [hn, Nat.add_assoc, e2]; congr 1; rw [List.getElem_append_right (by omega)]; congr 1; omega⟩
theorem deeds_split (ds : List Dd) (h : Nat) : deeds ds = deeds (ds.take h) ++ deeds (ds.drop h) := by
  conv => lhs; rw [← List.take_append_drop h ds]
  rw [deeds, rows_append]; rfl
theorem smallD_take {ds : List Dd} (h : SmallD ds) (n : Nat) : SmallD (ds.take n) := fun x hx => h x (List.mem_of_mem_take hx)
theorem smallD_drop {ds : List Dd} (h : SmallD ds) (n : Nat) : SmallD (ds.drop n) := fun x hx => h x (List.mem_of_mem_drop hx)

set_option maxHeartbeats 2000000 in
set_option maxRecDepth 100000 in
theorem walk {w : World} (a : Option Addr) (cap : Nat) (bs : List Int) (hs : Sl w a (bs.map (Value.int .u8))) (hb : ∀ x ∈ bs, 0 ≤ x ∧ x ≤ 255) (hcap : bs.length ≤ cap) :
    Calls Try.prog 9 #[.slice a bs.length cap] w fun e w' => e = .returned (.bool true) ∧ Fr w.heap.size none w w' := by
  have HS : Hid (Sl w a (u8s bs)) := hs
  have HB := Lib.hid hb; clear hs hb
  by_cases hn : bs.length ≤ 1048576
  · go_enter Try.func9, Try.ntmps9
    go_wp2_with fail
    refine (drawBoardRun_any a cap bs _ HS.out HB.out hn hcap).mono ?_; rintro e w1 ⟨v, u, rfl, ⟨va, vc, xs, rfl, ho, hl, hT⟩, ⟨g, uc, ds, rfl, hd, hld, hTD⟩, hF⟩
    have G1 := Lib.hid hF
    have O1 := Lib.hid (Own.of ho); have D1 := Lib.hid (Own.of hd); have T1 := Lib.hid hT.small; have TD := Lib.hid hTD.small
    have hvc := own_lecap O1.out
    have huc := own_lecap D1.out
    clear hF ho hT hd hTD
    have c1 := fun W hs hk => implBoardRun_any va vc xs (some ⟨g, 0, none⟩) uc ds W hs (by omega) T1.out hk (by omega) TD.out
    have c2 := fun W hs hk => specBoardRun_any va vc xs (some ⟨g, 0, none⟩) uc ds W hs (by omega) T1.out hk (by omega) TD.out (fun h => (own_hnone O1.out h).2)
    have C1 := Lib.hid c1; have C2 := Lib.hid c2; clear c1 c2
    have hle := Lib.hid (runC_le (xs := xs) (ds := ds) (by omega) (by omega))
    go_wp2_with fail
    refine (C1.out _ O1.out.sl D1.out.sl).mono ?_; rintro e w2 ⟨fa, fc, rfl, fo, hF2⟩
    have FO2 := Lib.hid fo
    have O2 := Lib.hid (Own.keep O1.out hF2)
    have D2 := Lib.hid (Own.keep D1.out hF2)
    have G2 := Lib.hid (G1.out.and hF2)
    clear fo hF2
    go_wp2_with fail
    refine (C2.out _ O2.out.sl D2.out.sl).mono ?_; rintro e w3 ⟨sa, sc, rfl, so, hF3⟩
    have FO3 := Lib.hid (FO2.out.keep hF3)
    have O3 := Lib.hid (Own.keep O2.out hF3)
    have D3 := Lib.hid (Own.keep D2.out hF3)
    have G3 := Lib.hid (G2.out.and hF3)
    have SO3 := Lib.hid so
    clear so hF3
    go_wp2_with fail
    refine (sameTests_any _ _ _ _ (runC xs ds) _ FO3.out.sl SO3.out.sl hle.out).mono ?_; rintro e w4 ⟨rfl, hF4⟩
    have FO4 := Lib.hid (FO3.out.keep hF4)
    have O4 := Lib.hid (Own.keep O3.out hF4)
    have D4 := Lib.hid (Own.keep D3.out hF4)
    have G4 := Lib.hid (G3.out.and hF4)
    clear hF4 FO2 FO3 SO3 O2 O3 D2 D3 C2
    cases hbo : boardOkB xs
    · have hno : runOk xs ds = false := by simp [runOk, hbo]
      have hz : (((runC xs ds).length : Int) == 0) = true := by rw [← runC_no hno]; rfl
      have hz2 : ((runN xs ds) == 0) = true := by rw [← runN_no hno]; rfl
      have HBO := Lib.hid hbo
      clear hno hbo
      go_wp2_with fail
      refine (specBoard_val O4.out.sl (by omega) T1.out HBO.out).mono ?_; rintro e w' ⟨rfl, m, rfl⟩
      go_wp2_with (go_at_call 25; refine (alive_any _).mono ?_; rintro e w' ⟨rfl, rfl⟩)
      go_ret
      exact ⟨rfl, G4.out.drewN m⟩
    · have HBO := Lib.hid hbo
      by_cases hd : ds.length ≤ 40
      · have hok : runOk xs ds = true := by simp [runOk, hbo, hd]
        have hdi : (ds.length : Int) ≤ 40 := by omega
        obtain ⟨h, hh⟩ : ∃ h : Nat, (ds.length : Int) / 2 = (h : Int) := ⟨ds.length / 2, by omega⟩
        have hh2 : h ≤ ds.length := by omega
        obtain ⟨o1, o2, s1, s2⟩ := run_split h hh2 hok
        have hX := Lib.hid (run_ok hok)
        have hXS := Lib.hid (run_small (xs := xs) (ds := ds) T1.out TD.out)
        have hAS := Lib.hid (run_small (xs := xs) (ds := ds.take h) T1.out (smallD_take TD.out h))
        have hAl := Lib.hid (runC_le (xs := xs) (ds := ds.take h) (by omega) (by simp; omega))
        have lt := Lib.hid (show (ds.take h).length = h by rw [List.length_take]; omega)
        have ld := Lib.hid (show (ds.drop h).length = ds.length - h by simp)
        have r1 := fun W hs hk => implBoardRun_any va vc xs (some ⟨g, 0, none⟩) uc (ds.take h) W hs (by omega) T1.out hk (by rw [lt.out]; omega) (smallD_take TD.out h)
        have r2 := fun fa fc W off c hs hk => implBoardRun_any fa fc (runC xs (ds.take h)) (some ⟨g, off, none⟩) c (ds.drop h) W hs hAl.out hAS.out hk (by rw [ld.out]; omega) (smallD_drop TD.out h)
        rw [lt.out] at r1; rw [ld.out, s1] at r2
        have R1 := Lib.hid r1; have R2 := Lib.hid r2
        have hE : ((runN xs (ds.take h) + runN (runC xs (ds.take h)) (ds.drop h)) == runN xs ds) = true := by rw [beq_iff_eq]; exact s2
        have hN1 : 0 ≤ runN xs (ds.take h) ∧ runN xs (ds.take h) ≤ 100 := by rw [← runN_yes o1]; have := runTo_le xs (ds.take h) (ds.take h).length; have := lt.out; omega
        have hN2 : 0 ≤ runN (runC xs (ds.take h)) (ds.drop h) ∧ runN (runC xs (ds.take h)) (ds.drop h) ≤ 100 := by rw [← runN_yes o2]; have := runTo_le (runC xs (ds.take h)) (ds.drop h) (ds.drop h).length; have := ld.out; omega
        have L4 := Lib.hid (show ∀ W, Sl W (some ⟨g, 0, none⟩) (deeds ds) → Sl W (some ⟨g, 0, none⟩) (deeds (ds.take h)) ∧ ∀ off, off = h * 4 → Sl W (some ⟨g, off, none⟩) (deeds (ds.drop h)) by
          intro W hW
          rw [deeds_split ds h] at hW
          exact ⟨sl_left hW, fun off ho => sl_right hW (by rw [deeds_length, lt.out]; omega)⟩)
        clear o1 o2 s1 s2 hbo hok r1 r2
        generalize runN xs (ds.take h) = p at *
        generalize runN (runC xs (ds.take h)) (ds.drop h) = q at *
        generalize runN xs ds = n at *
        generalize runC xs (ds.take h) = A at *
        generalize runC xs ds = X at *
        go_wp2_with fail
        refine (specBoard_val O4.out.sl (by omega) T1.out HBO.out).mono ?_; rintro e w' ⟨rfl, m, rfl⟩
        go_wp2_with fail
        refine (R1.out _ (O4.out.drewN m).sl (L4.out _ (D4.out.drewN m).sl).1).mono ?_; rintro e w5 ⟨ga, gc, rfl, go, hF5⟩
        have GO5 := Lib.hid go
        have FO5 := Lib.hid ((FO4.out.drewN m).keep hF5)
        have D5 := Lib.hid ((D4.out.drewN m).keep hF5)
        have G5 := Lib.hid ((G4.out.drewN m).and hF5)
        clear go hF5
        go_wp2_with fail
        all_goals
          refine (R2.out ga gc _ _ _ GO5.out.sl ((L4.out _ D5.out.sl).2 _ (by omega))).mono ?_; rintro e w6 ⟨ca, cc, rfl, co, hF6⟩
          have CO6 := Lib.hid co
          have FO6 := Lib.hid (FO5.out.keep hF6)
          have G6 := Lib.hid (G5.out.and hF6)
          clear co hF6
          go_wp2_with fail
          refine (implBoard_val FO6.out.sl hle.out hXS.out hX.out).mono ?_; rintro e w7 ⟨rfl, hF7⟩
          have CO7 := Lib.hid (CO6.out.keep hF7)
          have FO7 := Lib.hid (FO6.out.keep hF7)
          have G7 := Lib.hid (G6.out.and hF7)
          clear hF7
          go_wp2_with fail
          refine (sameTests_any _ _ _ _ X _ CO7.out.sl FO7.out.sl hle.out).mono ?_; rintro e w8 ⟨rfl, hF8⟩
          have G8 := Lib.hid (G7.out.and hF8)
          clear hF8
          go_wp2_with (go_at_call 25; refine (alive_any _).mono ?_; rintro e w' ⟨rfl, rfl⟩)
          go_ret
          exact ⟨rfl, G8.out⟩
      · have hno : runOk xs ds = false := by simp [runOk, hd]
        have hdi : (40 : Int) < (ds.length : Int) := by omega
        have hz : (((runC xs ds).length : Int) == 0) = true := by rw [← runC_no hno]; rfl
        have hz2 : ((runN xs ds) == 0) = true := by rw [← runN_no hno]; rfl
        clear hno hbo
        go_wp2_with fail
        refine (specBoard_val O4.out.sl (by omega) T1.out HBO.out).mono ?_; rintro e w' ⟨rfl, m, rfl⟩
        go_wp2_with (go_at_call 25; refine (alive_any _).mono ?_; rintro e w' ⟨rfl, rfl⟩)
        go_ret
        exact ⟨rfl, G4.out.drewN m⟩
  · go_enter Try.func9, Try.ntmps9
    go_wp2
    go_ret
    exact ⟨rfl, Fr.refl _ _ _⟩
end Go.Proofs.Ytcfbdjdbmjdjnaa.fnBoardRun
