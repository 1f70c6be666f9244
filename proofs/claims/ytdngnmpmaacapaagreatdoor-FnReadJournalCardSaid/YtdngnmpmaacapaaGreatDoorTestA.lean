/-
  Contracts: TestsOk and BoardOk, of the program and of the reference.
-/
import Derived.Test.YtdngnmpmaacapaaGreatDoorOrd
namespace Go.Proofs.YtdngnmpmaacapaaGreatDoor
open Go.RowKit

def testsTo (xs : List Tst) (k : Nat) : Bool := (xs.take k).all testOk
theorem tests_next {xs : List Tst} {k : Nat} (hk : k < xs.length) (h : testsTo xs k = true) (hc : testOk (xs.getD k noTest) = true) : testsTo xs (k + 1) = true := by
  unfold testsTo at *
  rw [List.take_succ_eq_append_getElem hk, List.all_append, h]
  simpa [List.getD_eq_getElem?_getD, hk] using hc
theorem all_bad {α : Type} (p : α → Bool) (d : α) {xs : List α} {k : Nat} (hk : k < xs.length) (hc : p (xs.getD k d) = false) : xs.all p = false := by
  rw [List.all_eq_false]
  exact ⟨xs[k], List.getElem_mem hk, by simpa [List.getD_eq_getElem?_getD, hk] using hc⟩
theorem tests_bad {xs : List Tst} {k : Nat} (hk : k < xs.length) (hc : testOk (xs.getD k noTest) = false) : false = testsOkB xs := by
  rw [testsOkB, all_bad testOk noTest hk hc]; rfl
theorem tests_end {xs : List Tst} (h : testsTo xs xs.length = true) : decide (xs.length ≤ 6) = testsOkB xs := by
  unfold testsTo at h; rw [List.take_length] at h; simp [testsOkB, h]

theorem specTestsOk_any (a : Option Addr) (cap : Nat) (xs : List Tst) (w : World) (hs : Sl w a (tests xs)) (hm : xs.length ≤ 1048576) (hz : Small xs) :
    Calls Tryz.prog 54 #[.slice a xs.length cap] w fun e w' => e = .returned (.bool (testsOkB xs)) ∧ ∃ m, w' = w.drewN m := by
  have HC := Lib.hid hs; have HZ := Lib.hid hz; clear hs hz
  go_enter Tryz.func54, Tryz.ntmps54
  go_wp2
  go_loopw [3] (fun i wr => ∃ k : Nat, k ≤ xs.length ∧ i = .int .i64 k ∧ Hid (testsTo xs k = true) ∧ ∃ m, wr = w.drewN m) (fun i _ => xs.length - (intOf i).toNat)
  case atStart => exact ⟨0, Nat.zero_le _, rfl, rfl, 0, rfl⟩
  case round =>
    obtain ⟨k, hk, rfl, hT, m, rfl⟩ := hrel
    by_cases hlt : k < xs.length
    · obtain ⟨b, off, rfl, hc0, hc1, hc2, hc1', hc2'⟩ := HC.out.test k hlt
      have hbad := Lib.hid (tests_bad hlt)
      have hnext := Lib.hid (tests_next hlt hT.out)
      obtain ⟨s1, s2, s3⟩ := HZ.out.at k
      generalize xs.getD k noTest = x at *
      obtain ⟨x1, x2, x3⟩ := x
      have CO := Lib.hid (specOrder_any x1 x2 · s1 s2)
      cases h1 : testOk (x1, x2, x3)
      · have hb := Lib.hid (hbad.out h1)
        have hneg : ordI x1 x2 < 0 := by simp [testOk] at h1; exact h1
        clear h1 hbad hnext
        generalize ordI x1 x2 = o at *
        go_wp2
        go_quiet ((go_at_call 96; first | exact quiet_add (CO.out _) | exact quiet_more (CO.out _)))
        go_wp2
        go_ret
        exact ⟨ret_bool hb.out, _, by first | rfl | exact World.drewN_drewN ..⟩
      · have hb := Lib.hid (hnext.out h1)
        have hneg : 0 ≤ ordI x1 x2 := by simp [testOk] at h1; exact h1
        clear h1 hbad hnext
        generalize ordI x1 x2 = o at *
        go_wp2
        go_quiet ((go_at_call 96; first | exact quiet_add (CO.out _) | exact quiet_more (CO.out _)))
        go_wp2
        go_roundw
        case rel => exact ⟨k + 1, by omega, by go_num, hb, _, by first | rfl | exact World.drewN_drewN ..⟩
        case measure => simp [intOf]; omega
    · have hkk : k = xs.length := by omega
      have hfin := Lib.hid (tests_end (xs := xs) (hkk ▸ hT.out))
      clear hkk
      go_wp2
      all_goals go_ret
      all_goals exact ⟨ret_bool (by rw [← hfin.out]; simp; try omega), _, rfl⟩

theorem notTakes_any (x : Tst) (hx : small x) (w : World) : Calls Tryz.prog 98 #[.agg #[.string x.1, .string x.2.1, .string x.2.2]] w fun e w' => e = .returned (.bool (!testOk x)) ∧ Fr w.heap.size none w w' := by
  obtain ⟨x1, x2, x3⟩ := x
  obtain ⟨s1, s2, s3⟩ := hx
  go_enter Tryz.func98, Tryz.ntmps98
  go_wp2_with (go_at_call 99; refine (takes_any _ _ _ s1 s2).mono ?_; rintro e w' ⟨rfl, rfl⟩)
  go_ret
  exact ⟨rfl, (Fr.refl _ _ _).alloc (Nat.le_refl _) _⟩
theorem notAns_any (x : Tst) (hx : small x) (w : World) : Calls Tryz.prog 58 #[.agg #[.string x.1, .string x.2.1, .string x.2.2]] w fun e w' => e = .returned (.bool (!ansOk x)) ∧ Fr w.heap.size none w w' := by
  obtain ⟨x1, x2, x3⟩ := x
  obtain ⟨s1, s2, s3⟩ := hx
  go_enter Tryz.func58, Tryz.ntmps58
  go_wp2_with (go_at_call 55; refine (num_val s3 rfl _).mono ?_; rintro e w' ⟨rfl, rfl⟩)
  go_ret
  exact ⟨rfl, (Fr.refl _ _ _).alloc (Nat.le_refl _) _⟩

theorem anyT_take_succ (p : Tst → Bool) (xs : List Tst) (k : Nat) (h : k < xs.length) : (xs.take (k+1)).any p = ((xs.take k).any p || p (xs.getD k noTest)) := by
  rw [List.take_succ_eq_append_getElem h, List.any_append]; simp [List.getD_eq_getElem?_getD, h]
theorem anyT_of_take (p : Tst → Bool) (xs : List Tst) (k : Nat) (h : k < xs.length) (hp : p (xs.getD k noTest) = true) : xs.any p = true := by
  rw [List.any_eq_true]; exact ⟨xs[k], List.getElem_mem h, by simpa [List.getD_eq_getElem?_getD, h] using hp⟩

theorem indexFuncT (g : FuncId) (p : Tst → Bool) (eg : ∀ args w, (callFunc g args).run Tryz.prog w = .ok (.enter g args) w)
    (hg : ∀ (x : Tst), small x → ∀ w, Calls Tryz.prog g #[.agg #[.string x.1, .string x.2.1, .string x.2.2]] w fun e w' => e = .returned (.bool (p x)) ∧ Fr w.heap.size none w w')
    (a : Option Addr) (cap : Nat) (xs : List Tst) (w : World) (hs : Sl w a (tests xs)) (hm : xs.length ≤ 1048576) (hz : Small xs) :
    Calls Tryz.prog 100 #[.slice a xs.length cap, .func (.func g) #[] #[]] w fun e w' => ∃ r : Int, e = .returned (.int .i64 r) ∧ decide (0 ≤ r) = xs.any p ∧ Fr w.heap.size none w w' := by
  have HC := Lib.hid hs; have HZ := Lib.hid hz; clear hs hz
  have HG := Lib.hid hg; clear hg
  go_enter Tryz.func100, Tryz.ntmps100
  go_wp2
  go_loopw [8] (fun i wr => ∃ k : Nat, k ≤ xs.length ∧ i = .int .i64 k ∧ Hid ((xs.take k).any p = false) ∧ Fr w.heap.size none w wr) (fun i _ => xs.length - (intOf i).toNat)
  case atStart => exact ⟨0, Nat.zero_le _, rfl, rfl, Fr.refl _ _ _⟩
  case round =>
    obtain ⟨k, hk, rfl, hT, hF⟩ := hrel
    have HF := Lib.hid hF; clear hF
    by_cases hlt : k < xs.length
    · obtain ⟨b, off, rfl, hc0, hc1, hc2, hc1', hc2'⟩ := (HC.out.fr HF.out).test k hlt
      have hx := HZ.out.at k
      cases hb : p (xs.getD k noTest)
      · have HB := Lib.hid hb; clear hb
        have hT' := Lib.hid (show (xs.take (k+1)).any p = false by rw [anyT_take_succ p xs k hlt, hT.out, HB.out]; rfl)
        generalize xs.getD k noTest = x at *
        go_wp2_with fail
        refine (HG.out x hx _).mono ?_
        rintro e w' ⟨rfl, hF2⟩
        have HF2 := Lib.hid (HF.out.and hF2); clear hF2
        rw [HB.out]
        go_wp2
        go_roundw
        case rel => exact ⟨k + 1, by omega, by go_num, hT', HF2.out⟩
        case measure => simp [intOf]; omega
      · have HB := Lib.hid hb; clear hb
        have hT' := Lib.hid (show xs.any p = true from anyT_of_take p xs k hlt HB.out)
        generalize xs.getD k noTest = x at *
        go_wp2_with fail
        refine (HG.out x hx _).mono ?_
        rintro e w' ⟨rfl, hF2⟩
        have HF2 := Lib.hid (HF.out.and hF2); clear hF2
        rw [HB.out]
        go_wp2
        go_ret
        exact ⟨_, rfl, by rw [hT'.out]; simp, HF2.out⟩
    · have hkk : k = xs.length := by omega
      have hT' := Lib.hid (show xs.any p = false by have := hT.out; rw [hkk, List.take_length] at this; exact this)
      clear hkk
      go_wp2
      go_ret
      exact ⟨_, rfl, by rw [hT'.out]; decide, HF.out⟩

theorem containsFuncT (g : FuncId) (p : Tst → Bool) (eg : ∀ args w, (callFunc g args).run Tryz.prog w = .ok (.enter g args) w)
    (hg : ∀ (x : Tst), small x → ∀ w, Calls Tryz.prog g #[.agg #[.string x.1, .string x.2.1, .string x.2.2]] w fun e w' => e = .returned (.bool (p x)) ∧ Fr w.heap.size none w w')
    (a : Option Addr) (cap : Nat) (xs : List Tst) (w : World) (hs : Sl w a (tests xs)) (hm : xs.length ≤ 1048576) (hz : Small xs) :
    Calls Tryz.prog 57 #[.slice a xs.length cap, .func (.func g) #[] #[]] w fun e w' => e = .returned (.bool (xs.any p)) ∧ Fr w.heap.size none w w' := by
  have HG := Lib.hid hg; clear hg
  have HS := Lib.hid hs; clear hs
  go_enter Tryz.func57, Tryz.ntmps57
  go_wp2_with fail
  refine (indexFuncT g p eg HG.out a cap xs w HS.out hm hz).mono ?_
  rintro e w' ⟨r, rfl, hr, hF⟩
  have HR := Lib.hid hr; clear hr
  go_wp2
  go_ret
  exact ⟨ret_bool HR.out, hF⟩


theorem implTestsOk_any (a : Option Addr) (cap : Nat) (xs : List Tst) (w : World) (hs : Sl w a (tests xs)) (hm : xs.length ≤ 1048576) (hz : Small xs) :
    Calls Tryz.prog 56 #[.slice a xs.length cap] w fun e w' => e = .returned (.bool (testsOkB xs)) ∧ Fr w.heap.size none w w' := by
  have HS := Lib.hid hs; clear hs
  by_cases hl : xs.length ≤ 6
  · have hfin := Lib.hid (show (!xs.any fun c => !testOk c) = testsOkB xs by rw [testsOkB, List.all_eq_not_any_not]; simp [hl])
    go_enter Tryz.func56, Tryz.ntmps56
    go_wp2_with (go_at_call 57; refine (containsFuncT 98 (fun c => !testOk c) (enters_by Tryz.func98 (by kernel_rfl) rfl) notTakes_any _ _ _ _ HS.out hm hz).mono ?_; rintro e w' ⟨rfl, hF⟩)
    go_ret
    exact ⟨ret_bool hfin.out, hF⟩
  · have hfin := Lib.hid (show false = testsOkB xs by rw [testsOkB]; simp [hl])
    have hlt : (6 : Int) < xs.length := by omega
    go_enter Tryz.func56, Tryz.ntmps56
    go_wp2
    go_ret
    exact ⟨ret_bool hfin.out, Fr.refl _ _ _⟩
theorem implTests_val {a : Option Addr} {cap : Nat} {xs : List Tst} {w : World} {r : Bool} (hs : Sl w a (tests xs)) (hm : xs.length ≤ 1048576) (hz : Small xs) (h : testsOkB xs = r) :
    Calls Tryz.prog 56 #[.slice a xs.length cap] w fun e w' => e = .returned (.bool r) ∧ Fr w.heap.size none w w' := h ▸ implTestsOk_any a cap xs w hs hm hz
theorem implBoardOk_any (a : Option Addr) (cap : Nat) (xs : List Tst) (w : World) (hs : Sl w a (tests xs)) (hm : xs.length ≤ 1048576) (hz : Small xs) :
    Calls Tryz.prog 14 #[.slice a xs.length cap] w fun e w' => e = .returned (.bool (boardOkB xs)) ∧ Fr w.heap.size none w w' := by
  have HS := Lib.hid hs; clear hs
  cases h : testsOkB xs
  · have hfin := Lib.hid (show false = boardOkB xs by simp [boardOkB, h])
    have H := Lib.hid h; clear h
    go_enter Tryz.func14, Tryz.ntmps14
    go_wp2_with (go_at_call 56; refine (implTests_val HS.out hm hz H.out).mono ?_; rintro e w' ⟨rfl, hF⟩)
    go_ret
    exact ⟨ret_bool hfin.out, hF⟩
  · have hfin := Lib.hid (show (!xs.any fun c => !ansOk c) = boardOkB xs by rw [boardOkB, h, List.all_eq_not_any_not]; simp)
    have H := Lib.hid h; clear h
    go_enter Tryz.func14, Tryz.ntmps14
    go_wp2_with fail
    refine (implTests_val HS.out hm hz H.out).mono ?_; rintro e w1 ⟨rfl, hF1⟩
    have HF1 := Lib.hid hF1; clear hF1
    go_wp2_with fail
    refine (containsFuncT 58 (fun c => !ansOk c) (enters_by Tryz.func58 (by kernel_rfl) rfl) notAns_any _ _ _ _ (HS.out.fr HF1.out) hm hz).mono ?_; rintro e w2 ⟨rfl, hF2⟩
    have HF2 := Lib.hid (HF1.out.and hF2); clear hF2
    go_wp2
    go_ret
    exact ⟨ret_bool hfin.out, HF2.out⟩
theorem implBoard_val {a : Option Addr} {cap : Nat} {xs : List Tst} {w : World} {r : Bool} (hs : Sl w a (tests xs)) (hm : xs.length ≤ 1048576) (hz : Small xs) (h : boardOkB xs = r) :
    Calls Tryz.prog 14 #[.slice a xs.length cap] w fun e w' => e = .returned (.bool r) ∧ Fr w.heap.size none w w' := h ▸ implBoardOk_any a cap xs w hs hm hz
theorem specTests_val {a : Option Addr} {cap : Nat} {xs : List Tst} {w : World} {r : Bool} (hs : Sl w a (tests xs)) (hm : xs.length ≤ 1048576) (hz : Small xs) (h : testsOkB xs = r) :
    Calls Tryz.prog 54 #[.slice a xs.length cap] w fun e w' => e = .returned (.bool r) ∧ ∃ m, w' = w.drewN m := h ▸ specTestsOk_any a cap xs w hs hm hz
def ansTo (xs : List Tst) (k : Nat) : Bool := (xs.take k).all ansOk
theorem ans_next {xs : List Tst} {k : Nat} (hk : k < xs.length) (h : ansTo xs k = true) (hc : ansOk (xs.getD k noTest) = true) : ansTo xs (k + 1) = true := by
  unfold ansTo at *
  rw [List.take_succ_eq_append_getElem hk, List.all_append, h]
  simpa [List.getD_eq_getElem?_getD, hk] using hc
theorem board_bad {xs : List Tst} {k : Nat} (hk : k < xs.length) (hc : ansOk (xs.getD k noTest) = false) : false = boardOkB xs := by
  rw [boardOkB, all_bad ansOk noTest hk hc]; simp
theorem board_end {xs : List Tst} (h : ansTo xs xs.length = true) : testsOkB xs = boardOkB xs := by
  unfold ansTo at h; rw [List.take_length] at h; simp [boardOkB, h]
theorem specBoardOk_any (a : Option Addr) (cap : Nat) (xs : List Tst) (w : World) (hs : Sl w a (tests xs)) (hm : xs.length ≤ 1048576) (hz : Small xs) :
    Calls Tryz.prog 12 #[.slice a xs.length cap] w fun e w' => e = .returned (.bool (boardOkB xs)) ∧ ∃ m, w' = w.drewN m := by
  have HC := Lib.hid hs; have HZ := Lib.hid hz; clear hs hz
  go_enter Tryz.func12, Tryz.ntmps12
  go_wp2
  go_loop [3] (fun i => ∃ k : Nat, k ≤ xs.length ∧ i = .int .i64 k ∧ Hid (ansTo xs k = true)) (fun i => xs.length - (intOf i).toNat)
  case atStart => exact ⟨0, Nat.zero_le _, rfl, rfl⟩
  case round =>
    obtain ⟨k, hk, rfl, hT⟩ := hrel
    by_cases hlt : k < xs.length
    · obtain ⟨b, off, rfl, hc0, hc1, hc2, hc1', hc2'⟩ := HC.out.test k hlt
      have hbad := Lib.hid (board_bad hlt)
      have hnext := Lib.hid (ans_next hlt hT.out)
      obtain ⟨s1, s2, s3⟩ := HZ.out.at k
      generalize xs.getD k noTest = x at *
      obtain ⟨x1, x2, x3⟩ := x
      cases h1 : ansOk (x1, x2, x3)
      · have hb := Lib.hid (hbad.out h1)
        have H1 := Lib.hid h1
        clear h1 hbad hnext
        go_wp2_with (go_at_call 53; refine (numS_val s3 H1.out _).mono ?_; rintro e w' ⟨rfl, rfl⟩)
        go_ret
        exact ⟨ret_bool hb.out, 0, rfl⟩
      · have hb := Lib.hid (hnext.out h1)
        have H1 := Lib.hid h1
        clear h1 hbad hnext
        go_wp2_with fail
        refine (numS_val s3 H1.out _).mono ?_; rintro e w' ⟨rfl, rfl⟩
        go_wp2
        go_round
        case rel => exact ⟨k + 1, by omega, by go_num, hb⟩
        case measure => simp [intOf]; omega
    · have hkk : k = xs.length := by omega
      have hfin := Lib.hid (board_end (xs := xs) (hkk ▸ hT.out))
      clear hkk
      go_wp2_with (go_at_call 54; refine (specTestsOk_any _ _ _ _ HC.out hm HZ.out).mono ?_; rintro e w' ⟨rfl, m2, rfl⟩)
      go_ret
      exact ⟨ret_bool hfin.out, _, rfl⟩
theorem specBoard_val {a : Option Addr} {cap : Nat} {xs : List Tst} {w : World} {r : Bool} (hs : Sl w a (tests xs)) (hm : xs.length ≤ 1048576) (hz : Small xs) (h : boardOkB xs = r) :
    Calls Tryz.prog 12 #[.slice a xs.length cap] w fun e w' => e = .returned (.bool r) ∧ ∃ m, w' = w.drewN m := h ▸ specBoardOk_any a cap xs w hs hm hz
end Go.Proofs.YtdngnmpmaacapaaGreatDoor
