/-
  For every code the law FnMiddleMark of the given program returns true, and the code reads as before. No condition.
-/
import Derived.Test.YtoedenmimcmkoaaListC
import Derived.Test.YtoedenmimcmkoaaDrawM2
import Derived.Test.YtoedenmimcmkoaaHas
import Derived.Test.YtoedenmimcmkoaaNum
namespace Go.Proofs.Ytoedenmimcmkoaa.fnMiddleMark
open Go.RowKit
theorem withI_countP (p : Int → Bool) (ms : List Int) (v : Int) (n : Nat) (hn : n ≤ ms.length) : ((withI ms v n).countP fun x => p (markAt ms x)) = (ms.take n).countP fun m => p m && decide (m = v) := by
  induction n with
  | zero => simp [withI]
  | succ n ih =>
    have hnl : n < ms.length := by omega
    have hg : ms.getD n 0 = ms[n] := by simp [List.getD_eq_getElem?_getD, hnl]
    have hmk : markAt ms (n : Int) = ms[n] := hg
    rw [withI_succ, List.take_succ_eq_append_getElem (by omega), List.countP_append, ← ih (by omega)]
    by_cases h : ms.getD n 0 = v
    · have h' : ms[n] = v := hg ▸ h
      rw [if_pos h, List.countP_append]
      simp only [List.countP_cons, List.countP_nil, hmk, h', decide_true, Bool.and_true]
    · have h' : ¬ ms[n] = v := fun e => h (hg.trans e)
      rw [if_neg h]
      simp only [List.countP_cons, List.countP_nil, h', decide_false, Bool.and_false]
      simp
theorem split_countP (p : Int → Bool) (ms : List Int) (v : Int) (hv : v ≤ 100) : (ms.countP fun m => p m && decide (v ≤ m ∧ m ≤ 100)) = (ms.countP fun m => p m && decide (v + 1 ≤ m ∧ m ≤ 100)) + ms.countP fun m => p m && decide (m = v) := by
  induction ms with
  | nil => simp
  | cons m ms ih =>
    simp only [List.countP_cons, ih]
    by_cases h1 : m = v
    · have a1 : v ≤ m ∧ m ≤ 100 := by omega
      have a2 : ¬ (v + 1 ≤ m ∧ m ≤ 100) := by omega
      rw [decide_eq_true a1, decide_eq_false a2, decide_eq_true h1]; simp; omega
    · by_cases h2 : v + 1 ≤ m ∧ m ≤ 100
      · have a1 : v ≤ m ∧ m ≤ 100 := by omega
        rw [decide_eq_true a1, decide_eq_true h2, decide_eq_false h1]; simp; omega
      · have a1 : ¬ (v ≤ m ∧ m ≤ 100) := by omega
        rw [decide_eq_false a1, decide_eq_false h2, decide_eq_false h1]; simp
theorem downI_countP (p : Int → Bool) (ms : List Int) (t : Nat) : ((downI ms t).countP fun x => p (markAt ms x)) = ms.countP fun m => p m && decide (100 - (t : Int) + 1 ≤ m ∧ m ≤ 100) := by
  induction t with
  | zero =>
    symm
    simp only [downI, List.countP_nil]
    rw [List.countP_eq_zero]
    intro m _ hm
    simp only [Bool.and_eq_true, decide_eq_true_eq] at hm
    omega
  | succ t ih =>
    simp only [downI, List.countP_append, ih]
    rw [withI_countP p ms _ _ (Nat.le_refl _), List.take_length]
    have := split_countP p ms (100 - (t : Int)) (by omega)
    rw [← this]
    congr 1
    funext m
    congr 1
    apply decide_eq_decide.2
    omega
theorem list_countP (p : Int → Bool) {ms : List Int} (h : marksOkB ms = true) : ((listI ms).countP fun x => p (markAt ms x)) = ms.countP p := by
  rw [← list_yes h, downI_countP]
  apply List.countP_congr
  intro m hm
  have := marks_in h m hm
  rw [decide_eq_true (by omega : 100 - ((101 : Nat) : Int) + 1 ≤ m ∧ m ≤ 100), Bool.and_true]
theorem middle_facts {ms : List Int} (h : marksOkB ms = true) (h0 : 0 < ms.length) :
    0 ≤ middleI ms ∧ middleI ms ≤ 100 ∧ middleI ms ∈ ms ∧ ms.length ≤ 2 * (ms.countP fun m => decide (middleI ms ≤ m)) ∧ ms.length ≤ 2 * (ms.countP fun m => decide (m ≤ middleI ms)) := by
  have hl := listI_full h
  have ho := listI_order ms
  rw [List.pairwise_iff_getElem] at ho
  have hi : ((listI ms).length - 1) / 2 < (listI ms).length := by omega
  have hg : (listI ms).getD (((listI ms).length - 1) / 2) 0 = (listI ms)[((listI ms).length - 1) / 2]'hi := by simp [List.getD_eq_getElem?_getD, hi]
  have hm : middleI ms = markAt ms ((listI ms)[((listI ms).length - 1) / 2]'hi) := by
    unfold middleI; rw [if_neg (by omega), hg]
  have hx := (mem_listI h).1 (List.getElem_mem hi)
  have hin : middleI ms ∈ ms := by
    rw [hm]; unfold markAt
    have hk : ((listI ms)[((listI ms).length - 1) / 2]'hi).toNat < ms.length := by omega
    simp [List.getD_eq_getElem?_getD, hk]
  have hb := marks_in h _ hin
  refine ⟨hb.1, hb.2, hin, ?_, ?_⟩
  · rw [← list_countP (fun m => decide (middleI ms ≤ m)) h]
    have h1 : ((listI ms).take (((listI ms).length - 1) / 2 + 1)).countP (fun x => decide (middleI ms ≤ markAt ms x)) ≤ (listI ms).countP (fun x => decide (middleI ms ≤ markAt ms x)) := (List.take_sublist _ _).countP_le
    have h2 : ((listI ms).take (((listI ms).length - 1) / 2 + 1)).countP (fun x => decide (middleI ms ≤ markAt ms x)) = ((listI ms).take (((listI ms).length - 1) / 2 + 1)).length := by
      rw [List.countP_eq_length]
      intro x hx
      obtain ⟨j, hj, rfl⟩ := List.getElem_of_mem hx
      rw [List.length_take] at hj
      rw [List.getElem_take, decide_eq_true_iff, hm]
      by_cases e : j = ((listI ms).length - 1) / 2
      · subst e; exact Int.le_refl _
      · exact ahead_le (ho j _ (by omega) hi (by omega))
    rw [List.length_take] at h2
    omega
  · rw [← list_countP (fun m => decide (m ≤ middleI ms)) h]
    have h1 : ((listI ms).drop (((listI ms).length - 1) / 2)).countP (fun x => decide (markAt ms x ≤ middleI ms)) ≤ (listI ms).countP (fun x => decide (markAt ms x ≤ middleI ms)) := (List.drop_sublist _ _).countP_le
    have h2 : ((listI ms).drop (((listI ms).length - 1) / 2)).countP (fun x => decide (markAt ms x ≤ middleI ms)) = ((listI ms).drop (((listI ms).length - 1) / 2)).length := by
      rw [List.countP_eq_length]
      intro x hx
      obtain ⟨j, hj, rfl⟩ := List.getElem_of_mem hx
      rw [List.length_drop] at hj
      rw [List.getElem_drop, decide_eq_true_iff, hm]
      by_cases e : j = 0
      · subst e; exact Int.le_refl _
      · exact ahead_le (ho _ _ hi (by omega) (by omega))
    rw [List.length_drop] at h2
    omega
def cnt (p : Int → Bool) (ms : List Int) (k : Nat) : Nat := (ms.take k).countP p
theorem cnt_succ (p : Int → Bool) (ms : List Int) (k : Nat) (h : k < ms.length) : cnt p ms (k + 1) = cnt p ms k + if p (ms.getD k 0) then 1 else 0 := by
  unfold cnt
  rw [List.take_succ_eq_append_getElem h, List.countP_append]
  simp [List.countP_cons, List.getD_eq_getElem?_getD, h]
theorem cnt_le (p : Int → Bool) (ms : List Int) (k : Nat) : cnt p ms k ≤ k := by
  have h1 : cnt p ms k ≤ (ms.take k).length := List.countP_le_length
  have h2 := List.length_take_le k ms
  omega
theorem bad_middle {ms : List Int} (h : ¬ (marksOkB ms = true ∧ 0 < ms.length)) : middleI ms = -1 := by
  have hz : (listI ms).length = 0 := by
    cases h1 : marksOkB ms
    · rw [← list_no h1]; rfl
    · have : ¬ 0 < ms.length := fun h2 => h ⟨h1, h2⟩
      rw [listI_full h1]; omega
  unfold middleI; rw [if_pos hz]

set_option maxHeartbeats 1000000 in
theorem walk {w : World} (a : Option Addr) (cap : Nat) (cs : List Int) (hs : Sl w a (cs.map (Value.int .u8))) (hb : ∀ x ∈ cs, 0 ≤ x ∧ x ≤ 255) (hcap : cs.length ≤ cap) :
    Calls Try.prog 10 #[.slice a cs.length cap] w fun e w' => e = .returned (.bool true) ∧ Fr w.heap.size none w w' := by
  have HS : Hid (Sl w a (u8s cs)) := hs
  have HB := Lib.hid hb; clear hs hb
  by_cases hn : cs.length ≤ 1048576
  · go_enter Try.func10, Try.ntmps10
    go_wp2_with fail
    refine (drawMiddleMark_any a cap cs _ HS.out HB.out hn hcap).mono ?_; rintro e w1 ⟨ya, yc, ms, rfl, yo, yl, ybd, hF⟩
    have HF := Lib.hid hF
    have MO := Lib.hid yo; clear hF yo ybd
    by_cases hok : marksOkB ms = true ∧ 0 < ms.length
    · obtain ⟨f1, f2, f3, f4, f5⟩ := middle_facts hok.1 hok.2
      have C1 := Lib.hid (fun W hs => implMiddle_num ya yc ms W hs (by omega) rfl)
      have C2 := Lib.hid (fun W hs => specMiddle_num ya yc ms W hs (by omega) rfl)
      generalize middleI ms = n at *
      have F3 := Lib.hid (show decide (n ∈ ms) = true from decide_eq_true f3)
      have F4 := Lib.hid f4; have F5 := Lib.hid f5
      have heq : (n != n) = false := by simp
      clear f3 f4 f5 hok
      go_wp2_with fail
      refine (C1.out _ (own_sl MO.out)).mono ?_; rintro e w2 ⟨rfl, hF2⟩
      have M2 := Lib.hid (own_keep MO.out hF2)
      have G2 := Lib.hid (HF.out.and hF2)
      clear hF2
      go_wp2_with fail
      refine (C2.out _ (own_sl M2.out)).mono ?_; rintro e w3 ⟨rfl, hF3⟩
      have M3 := Lib.hid (own_sl (own_keep M2.out hF3))
      have G3 := Lib.hid (G2.out.and hF3)
      clear hF3
      go_wp2
      go_loop [5, 6, 7] (fun h l i => ∃ k : Nat, k ≤ ms.length ∧ i = .int .i64 k ∧ h = .int .i64 (cnt (fun m => decide (n ≤ m)) ms k) ∧ l = .int .i64 (cnt (fun m => decide (m ≤ n)) ms k)) (fun _ _ i => ms.length - (intOf i).toNat)
      case atStart => exact ⟨0, Nat.zero_le _, rfl, rfl, rfl⟩
      case round =>
        obtain ⟨k, hk, rfl, rfl, rfl⟩ := hrel
        have hc1 := cnt_le (fun m => decide (n ≤ m)) ms k
        have hc2 := cnt_le (fun m => decide (m ≤ n)) ms k
        by_cases hlt : k < ms.length
        · obtain ⟨b, off, rfl, hcell⟩ := M3.out.int k hlt
          have s1 := cnt_succ (fun m => decide (n ≤ m)) ms k hlt
          have s2 := cnt_succ (fun m => decide (m ≤ n)) ms k hlt
          have hlt' : (k : Int) < (ms.length : Int) := by omega
          generalize ms.getD k 0 = x at *
          have S1 := Lib.hid s1; have S2 := Lib.hid s2
          clear s1 s2
          generalize hq1 : cnt (fun m => decide (n ≤ m)) ms k = q1 at *
          generalize hq2 : cnt (fun m => decide (m ≤ n)) ms k = q2 at *
          have Q1 := Lib.hid hq1; have Q2 := Lib.hid hq2
          clear hq1 hq2
          by_cases t1 : n ≤ x <;> by_cases t2 : x ≤ n
          all_goals
            have r1 := S1.out; have r2 := S2.out
            simp only [t1, t2, decide_true, decide_false, if_true, Nat.add_zero, Bool.false_eq_true, if_false] at r1 r2
            have R1 := Lib.hid r1; have R2 := Lib.hid r2
            clear r1 r2
            first | have t1' : decide (n ≤ x) = true := decide_eq_true t1 | have t1' : decide (n ≤ x) = false := decide_eq_false t1
            first | have t2' : decide (x ≤ n) = true := decide_eq_true t2 | have t2' : decide (x ≤ n) = false := decide_eq_false t2
            clear t1 t2
            go_wp2
            go_round
            case rel => exact ⟨k + 1, by omega, by go_num, by first | (rw [R1.out]; done) | (rw [R1.out]; go_num), by first | (rw [R2.out]; done) | (rw [R2.out]; go_num)⟩
            case measure => simp [intOf]; omega
        · obtain rfl : k = ms.length := by omega
          have e1 := Lib.hid (show cnt (fun m => decide (n ≤ m)) ms ms.length = ms.countP (fun m => decide (n ≤ m)) by unfold cnt; rw [List.take_length])
          have e2 := Lib.hid (show cnt (fun m => decide (m ≤ n)) ms ms.length = ms.countP (fun m => decide (m ≤ n)) by unfold cnt; rw [List.take_length])
          have g1 : decide ((ms.length : Int) ≤ 2 * (cnt (fun m => decide (n ≤ m)) ms ms.length : Int)) = true := by rw [decide_eq_true_iff, e1.out]; have := F4.out; omega
          have g2 : decide ((ms.length : Int) ≤ 2 * (cnt (fun m => decide (m ≤ n)) ms ms.length : Int)) = true := by rw [decide_eq_true_iff, e2.out]; have := F5.out; omega
          have hge : (ms.length : Int) ≤ (ms.length : Int) := Int.le_refl _
          generalize cnt (fun m => decide (n ≤ m)) ms ms.length = q1 at *
          generalize cnt (fun m => decide (m ≤ n)) ms ms.length = q2 at *
          go_wp2_with fail
          refine (has_val M3.out (by omega) F3.out).mono ?_; rintro e w' ⟨rfl, rfl⟩
          go_wp2
          go_ret
          exact ⟨rfl, G3.out⟩
    · have hm := bad_middle hok
      have C1 := Lib.hid (fun W hs => implMiddle_num ya yc ms W hs (by omega) hm)
      have C2 := Lib.hid (fun W hs => specMiddle_num ya yc ms W hs (by omega) hm)
      clear hm hok
      go_wp2_with fail
      refine (C1.out _ (own_sl MO.out)).mono ?_; rintro e w2 ⟨rfl, hF2⟩
      have M2 := Lib.hid (own_keep MO.out hF2)
      have G2 := Lib.hid (HF.out.and hF2)
      clear hF2
      go_wp2_with fail
      refine (C2.out _ (own_sl M2.out)).mono ?_; rintro e w3 ⟨rfl, hF3⟩
      have G3 := Lib.hid (G2.out.and hF3)
      clear hF3
      go_wp2_with (go_at_call 16; refine (alive_any _).mono ?_; rintro e w' ⟨rfl, rfl⟩)
      go_ret
      exact ⟨rfl, G3.out⟩
  · have hl : (1048576 : Int) < cs.length := by omega
    go_enter Try.func10, Try.ntmps10
    go_wp2
    go_ret
    exact ⟨rfl, Fr.refl _ _ _⟩
end Go.Proofs.Ytoedenmimcmkoaa.fnMiddleMark
