/-
  Contracts: BoardRun, of the program and of the reference.
-/
import Derived.Test.YtdngnmpmaacapaaGreatDoorBoardB
namespace Go.Proofs.YtdngnmpmaacapaaGreatDoor
open Go.RowKit

theorem runTo_len {xs : List Tst} {ds : List Dd} (h : boardOkB xs = true) (k : Nat) : (runTo xs ds k).1.length ≤ 6 := board_le (runTo_ok h k)
theorem runC_le {xs : List Tst} {ds : List Dd} (h : xs.length ≤ 1048576) (_h2 : ds.length ≤ 1048576) : (runC xs ds).length ≤ 1048576 := by
  unfold runC
  split
  · next h1 => simp only [runOk, Bool.and_eq_true] at h1; have := runTo_len (ds := ds) h1.1 ds.length; omega
  · simp
theorem runC_no {xs : List Tst} {ds : List Dd} (h : runOk xs ds = false) : [] = runC xs ds := by simp [runC, h]
theorem runN_no {xs : List Tst} {ds : List Dd} (h : runOk xs ds = false) : 0 = runN xs ds := by simp [runN, h]
theorem runC_yes {xs : List Tst} {ds : List Dd} (h : runOk xs ds = true) : (runTo xs ds ds.length).1 = runC xs ds := by simp [runC, h]
theorem runN_yes {xs : List Tst} {ds : List Dd} (h : runOk xs ds = true) : ((runTo xs ds ds.length).2 : Int) = runN xs ds := by simp [runN, h]
/-- A new slice of exercises, and a number. -/
def NewTI (ys : List Tst) (n : Int) (w : World) (e : Ending) (w' : World) : Prop :=
  ∃ a cap, e = .returned (.tuple #[.slice a ys.length cap, .int .i64 n]) ∧ Own w' w.heap.size 52 3 (.slice a ys.length cap) ys.length (tests ys) ∧ Fr w.heap.size none w w'
theorem newTI_nil {ys : List Tst} {n : Int} {w w' : World} {a : Option Addr} (h : [] = ys) (hn : 0 = n) (ho : Own w' w.heap.size 52 3 (.slice a 0 0) 0 (tests [])) (hF : Fr w.heap.size none w w') : NewTI ys n w (.returned (.tuple #[.slice a 0 0, .int .i64 0])) w' := by
  subst h; subst hn; exact ⟨a, 0, rfl, ho, hF⟩
theorem newTI_of {xs ys : List Tst} {m n : Int} {w w' : World} {a : Option Addr} {cap : Nat} (h : xs = ys) (hn : m = n) (ho : Own w' w.heap.size 52 3 (.slice a xs.length cap) xs.length (tests xs)) (hF : Fr w.heap.size none w w') : NewTI ys n w (.returned (.tuple #[.slice a xs.length cap, .int .i64 m])) w' := by
  subst h; subst hn; exact ⟨a, cap, rfl, ho, hF⟩
theorem own_lecap {w : World} {B n cap : Nat} {E : TypeId} {z : Nat} {a : Option Addr} {cs : List Value} (h : Own w B E z (.slice a n cap) n cs) : n ≤ cap := by
  obtain ⟨a', c', e, h1, _⟩ := h.slice
  cases e; exact h1
theorem run_step {xs : List Tst} {ds : List Dd} {k : Nat} {d : Dd} (h : ds.getD k noDeed = d) : (doI (runTo xs ds k).1 d).1 = (runTo xs ds (k + 1)).1 := by rw [← h]; rfl
theorem run_stepN {xs : List Tst} {ds : List Dd} {k : Nat} {d : Dd} (h : ds.getD k noDeed = d) (h2 : (doI (runTo xs ds k).1 d).2 = true) : (runTo xs ds k).2 + 1 = (runTo xs ds (k + 1)).2 := by
  rw [← h] at h2; simp only [runTo]; rw [h2]; rfl
theorem run_stepZ {xs : List Tst} {ds : List Dd} {k : Nat} {d : Dd} (h : ds.getD k noDeed = d) (h2 : (doI (runTo xs ds k).1 d).2 = false) : (runTo xs ds k).2 = (runTo xs ds (k + 1)).2 := by
  rw [← h] at h2; simp only [runTo]; rw [h2]; rfl

set_option maxHeartbeats 2000000 in
theorem implBoardRun_any (a : Option Addr) (ca : Nat) (xs : List Tst) (b : Option Addr) (cb : Nat) (ds : List Dd) (w : World) (hs : Sl w a (tests xs)) (hm : xs.length ≤ 1048576) (hz : Small xs) (hk : Sl w b (deeds ds)) (hm2 : ds.length ≤ 1048576) (hz2 : SmallD ds) :
    Calls Tryz.prog 35 #[.slice a xs.length ca, .slice b ds.length cb] w (NewTI (runC xs ds) (runN xs ds) w) := by
  have HS := Lib.hid hs; have HK := Lib.hid hk; clear hs hk
  have HZ2 := Lib.hid hz2; clear hz2
  cases h : boardOkB xs
  · have hr1 := Lib.hid (runC_no (xs := xs) (ds := ds) (by simp [runOk, h])); have hr2 := Lib.hid (runN_no (xs := xs) (ds := ds) (by simp [runOk, h]))
    have H := Lib.hid h; clear h
    go_enter Tryz.func35, Tryz.ntmps35
    go_wp2_with fail
    refine (implBoard_val HS.out hm hz H.out).mono ?_; rintro e w1 ⟨rfl, hF1⟩
    have F1 := Lib.hid hF1; clear hF1
    go_wp2
    go_ret2
    exact newTI_nil hr1.out hr2.out (Own.nil _ _ _ _) F1.out
  · by_cases hd : ds.length ≤ 40
    · have hl := board_le h
      have hok : runOk xs ds = true := by simp [runOk, h, hd]
      have hr1 := Lib.hid (runC_yes hok); have hr2 := Lib.hid (runN_yes hok)
      have RS := Lib.hid (fun k => runTo_small (xs := xs) (ds := ds) hz HZ2.out k)
      have RL := Lib.hid (fun k => runTo_len (ds := ds) h k)
      have RN := Lib.hid (fun k => runTo_le xs ds k)
      clear hok
      have H := Lib.hid h; clear h
      go_enter Tryz.func35, Tryz.ntmps35
      go_wp2_with fail
      refine (implBoard_val HS.out hm hz H.out).mono ?_; rintro e w1 ⟨rfl, hF1⟩
      have F1 := Lib.hid hF1
      have S1 := Lib.hid (HS.out.fr hF1)
      clear hF1
      go_wp2_with fail
      refine (cloneT_any a ca xs _ S1.out hm).mono ?_; rintro e w2 ⟨a2, rfl, ho2, hF2⟩
      have F2 := Lib.hid (F1.out.and hF2)
      have K2 := Lib.hid (HK.out.fr F2.out)
      have O2 := Lib.hid (Own.base_le ho2 F1.out.size)
      have z2 := F2.out.size
      clear ho2 hF2
      go_wp2
      go_loopw [6, 7, 24] (fun o n i wr => ∃ k : Nat, k ≤ ds.length ∧ i = .int .i64 k ∧ (∃ a c, o = .slice a (runTo xs ds k).1.length c ∧ Own wr w.heap.size 52 3 (.slice a (runTo xs ds k).1.length c) (runTo xs ds k).1.length (tests (runTo xs ds k).1)) ∧ n = .int .i64 ((runTo xs ds k).2 : Int) ∧ Fr w.heap.size none w wr) (fun _ _ i _ => ds.length - (intOf i).toNat)
      case atStart => exact ⟨0, Nat.zero_le _, rfl, ⟨a2, xs.length, rfl, O2.out⟩, rfl, F2.out⟩
      case round =>
        obtain ⟨k, hk, rfl, ⟨ao, co, rfl, ho⟩, rfl, hF⟩ := hrel
        have HO := Lib.hid ho; have HF := Lib.hid hF; clear ho hF
        have rl := RL.out k
        have rn := RN.out k
        by_cases hlt : k < ds.length
        · obtain ⟨b1, off1, rfl, hc0, ⟨hc1, hc2, hc3⟩, hc1', hc2', hc3'⟩ := (HK.out.fr HF.out).deed k hlt
          have e1 := Lib.hid (fun d h => run_step (xs := xs) (ds := ds) (k := k) (d := d) h)
          have e2 := Lib.hid (fun d h => run_stepN (xs := xs) (ds := ds) (k := k) (d := d) h)
          have e3 := Lib.hid (fun d h => run_stepZ (xs := xs) (ds := ds) (k := k) (d := d) h)
          have hdz := Lib.hid (HZ2.out.at k)
          have hrz := Lib.hid (RS.out k)
          obtain ⟨d, hde⟩ : ∃ d, ds.getD k noDeed = d := ⟨_, rfl⟩
          have f1 := Lib.hid (e1.out d hde); have f2 := Lib.hid (e2.out d hde); have f3 := Lib.hid (e3.out d hde)
          rw [hde] at hc0 hc1 hc2 hc3 hc1' hc2' hc3' hdz
          clear e1 e2 e3 hde
          generalize runTo xs ds k = r at *
          obtain ⟨r1, rn1⟩ := r
          obtain ⟨d0, x1, x2, x3⟩ := d
          dsimp only at *
          have hrl := own_lecap HO.out
          go_wp2_with fail
          refine (implDo_any ao co r1 (d0, x1, x2, x3) _ ((Own.sl HO.out).fr ((Fr.refl _ _ wr).alloc (Nat.le_refl _) _)) (by omega) hrl hrz.out hdz.out).mono ?_; rintro e w4 ⟨a4, c4, rfl, ho4, hF4⟩
          have F4 := Lib.hid ((HF.out.alloc HF.out.size _).and hF4)
          have ho5 := ho4.base_le (base' := w.heap.size) (by simp; have := HF.out.size; omega)
          rw [f1.out] at ho5 ⊢
          have O5 := Lib.hid ho5
          clear ho4 ho5 hF4
          cases hd2 : (doI r1 (d0, x1, x2, x3)).2
          · have g := Lib.hid (f3.out hd2)
            clear hd2 f2 f3
            go_wp2
            go_roundw
            case rel => exact ⟨k + 1, by omega, by go_num, ⟨a4, c4, rfl, O5.out⟩, by rw [g.out], F4.out⟩
            case measure => simp [intOf]; omega
          · have g := Lib.hid (f2.out hd2)
            clear hd2 f2 f3
            go_wp2
            go_roundw
            case rel => exact ⟨k + 1, by omega, by go_num, ⟨a4, c4, rfl, O5.out⟩, by rw [← g.out]; go_num, F4.out⟩
            case measure => simp [intOf]; omega
        · have hkk : k = ds.length := by omega
          subst hkk
          go_wp2
          go_ret2
          exact newTI_of hr1.out hr2.out HO.out HF.out
    · have hok : runOk xs ds = false := by simp [runOk, hd]
      have hr1 := Lib.hid (runC_no hok); have hr2 := Lib.hid (runN_no hok)
      have hgt : (40 : Int) < (ds.length : Int) := by omega
      clear hok hd
      have H := Lib.hid h; clear h
      go_enter Tryz.func35, Tryz.ntmps35
      go_wp2_with fail
      refine (implBoard_val HS.out hm hz H.out).mono ?_; rintro e w1 ⟨rfl, hF1⟩
      have F1 := Lib.hid hF1; clear hF1
      go_wp2
      go_ret2
      exact newTI_nil hr1.out hr2.out (Own.nil _ _ _ _) F1.out
end Go.Proofs.YtdngnmpmaacapaaGreatDoor
