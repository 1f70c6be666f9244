/-
  Merged: WaysE WaysF.
-/
import Derived.Test.YtdngnmpmaacapaaGreatDoorMWaysD
import Derived.Test.YtdngnmpmaacapaaGreatDoorMOrdP
import Derived.Deep.RegionHeld3
import Derived.Deep.Cut
set_option linter.unusedVariables false
set_option linter.unusedSimpArgs false
/-
  Contracts: explains of the program: whether a way explains exercises.
-/
namespace Go.Proofs.YtdngnmpmaacapaaGreatDoor
open Go.RowKit

theorem bytes_beq (a b : ByteArray) : (a.toList == b.toList) = decide (a = b) := by
  by_cases h : a = b
  · subst h; simp
  · have : (a.toList == b.toList) = false := by
      rw [beq_eq_false_iff_ne]
      intro e
      apply h
      rw [ByteArray.toList_eq, ByteArray.toList_eq] at e
      have := congrArg mkL e
      rwa [mkL_data, mkL_data] at this
    rw [this]; simp [h]
theorem expl_ret {x1 x2 x3 y : ByteArray} {way : Int} (h : tbI x1 x2 way = y) : (!(y.toList == x3.toList)) = !expOne way (x1, x2, x3) := by
  subst h; rw [bytes_beq]; rfl
set_option maxHeartbeats 1000000 in
set_option maxRecDepth 100000 in
theorem notExpl_any (q : Nat) (way : Int) (x : Tst) (hw : 0 ≤ way ∧ way ≤ 15) (h1 : numOk x.1 = true) (h2 : numOk x.2.1 = true) (w : World) (hp : w.cell? ⟨q, 0, none⟩ = some (.int .i64 way)) :
    Calls Tryz.prog 207 #[.agg #[.string x.1, .string x.2.1, .string x.2.2], .pointer (some ⟨q, 0, none⟩)] w fun e w' => e = .returned (.bool (!expOne way x)) ∧ Fr w.heap.size none w w' := by
  obtain ⟨x1, x2, x3⟩ := x
  dsimp only at h1 h2 ⊢
  have CT := Lib.hid (fun W => takenBy_fn x1 x2 way W h1 h2 hw)
  have HR := Lib.hid (fun y h => expl_ret (x1 := x1) (x2 := x2) (x3 := x3) (way := way) (y := y) h)
  obtain ⟨y, hy⟩ : ∃ y, tbI x1 x2 way = y := ⟨_, rfl⟩
  have HY := Lib.hid (HR.out y hy)
  rw [hy] at CT
  clear hy HR h1 h2 hw
  have hq := World.block_lt_of_cell? w _ hp
  dsimp only at hq
  have HP := Lib.hid hp; clear hp
  go_enter Tryz.func207, Tryz.ntmps207
  go_upto_region 1 with fail
  obtain ⟨w0, hw0⟩ : ∃ w0, w0 = w.alloc (.cells #[.string x1, .string x2, .string x3] 52) := ⟨_, rfl⟩
  have G0 := Lib.hid (show Fr w.heap.size none w w0 by rw [hw0]; exact (Fr.refl _ _ _).alloc (Nat.le_refl _) _)
  have q0 : w0.cell? ⟨w.heap.size, 0, none⟩ = some (.string x1) := by rw [hw0]; go_simp
  have q1 : w0.cell? ⟨w.heap.size, 1, none⟩ = some (.string x2) := by rw [hw0]; go_simp
  have q2 : w0.cell? ⟨w.heap.size, 2, none⟩ = some (.string x3) := by rw [hw0]; go_simp
  have q3 : w0.cell? ⟨q, 0, none⟩ = some (.int .i64 way) := (G0.out.cell (p := ⟨q, 0, none⟩) hq (by simp)).trans HP.out
  have hb : w.heap.size < w0.heap.size := by rw [hw0]; simp
  have hb2 : q < w0.heap.size := by omega
  rw [← hw0]
  clear hw0
  go_region_held3 (fun w' => w'.cell? ⟨w.heap.size, 0, none⟩ = some (.string x1) ∧ w'.cell? ⟨w.heap.size, 1, none⟩ = some (.string x2) ∧ w'.cell? ⟨w.heap.size, 2, none⟩ = some (.string x3) ∧ w'.cell? ⟨q, 0, none⟩ = some (.int .i64 way))
    (first | go_keep | (go_split_ands; refine ⟨?_, ?_, ?_, ?_⟩ <;> (rw [hF2.cell (by first | exact hb | exact hb2 | simpa using hb | simpa using hb2) (by simp)]; assumption)))
    (first | (go_at_call 140; refine (CT.out _).mono ?_; rintro e w2 ⟨rfl, hF2⟩))
  all_goals
    have F2 := Lib.hid (G0.out.and ((Fr.refl _ _ w0).drew.and hF2))
    go_wp2
    go_ret
    exact ⟨ret_bool HY.out, F2.out⟩
/-- Both numerals of an exercise are numerals. -/
def goodTst (x : Tst) : Prop := numOk x.1 = true ∧ numOk x.2.1 = true
theorem good_of {xs : List Tst} (h : testsOkB xs = true) (k : Nat) (hk : k < xs.length) : goodTst (xs.getD k noTest) := by
  simp only [testsOkB, Bool.and_eq_true, List.all_eq_true, testOk, decide_eq_true_eq] at h
  have e : xs.getD k noTest = xs[k] := by simp [List.getD_eq_getElem?_getD, hk]
  rw [e]
  exact ord_ok (h.1 _ (List.getElem_mem hk))
theorem any_take_succ (p : Tst → Bool) (xs : List Tst) (k : Nat) (h : k < xs.length) : (xs.take (k+1)).any p = ((xs.take k).any p || p (xs.getD k noTest)) := by
  rw [List.take_succ_eq_append_getElem h, List.any_append]; simp [List.getD_eq_getElem?_getD, h]
theorem any_of_take (p : Tst → Bool) (xs : List Tst) (k : Nat) (h : k < xs.length) (hp : p (xs.getD k noTest) = true) : xs.any p = true := by
  rw [List.any_eq_true]; exact ⟨xs[k], List.getElem_mem h, by simpa [List.getD_eq_getElem?_getD, h] using hp⟩

theorem indexFuncC (g : FuncId) (p : Tst → Bool) (qb : Nat) (v : Value) (eg : ∀ args w, (callFunc g args).run Tryz.prog w = .ok (.enter g args) w)
    (hg : ∀ (x : Tst), goodTst x → ∀ w, w.cell? ⟨qb, 0, none⟩ = some v → Calls Tryz.prog g #[.agg #[.string x.1, .string x.2.1, .string x.2.2], .pointer (some ⟨qb, 0, none⟩)] w fun e w' => e = .returned (.bool (p x)) ∧ Fr w.heap.size none w w')
    (a : Option Addr) (cap : Nat) (xs : List Tst) (w : World) (hs : Sl w a (tests xs)) (hq : w.cell? ⟨qb, 0, none⟩ = some v) (hm : xs.length ≤ 1048576) (hz : ∀ k, k < xs.length → goodTst (xs.getD k noTest)) :
    Calls Tryz.prog 100 #[.slice a xs.length cap, .func (.func g) #[] #[.pointer (some ⟨qb, 0, none⟩)]] w fun e w' => ∃ r : Int, e = .returned (.int .i64 r) ∧ decide (0 ≤ r) = xs.any p ∧ Fr w.heap.size none w w' := by
  have hql := World.block_lt_of_cell? w _ hq
  have HC := Lib.hid hs; have HZ := Lib.hid hz; have HQ := Lib.hid hq; clear hs hz hq
  have HG := Lib.hid hg; clear hg
  go_enter Tryz.func100, Tryz.ntmps100
  go_wp2
  go_loopw [8] (fun i wr => ∃ k : Nat, k ≤ xs.length ∧ i = .int .i64 k ∧ Hid ((xs.take k).any p = false) ∧ Fr w.heap.size none w wr) (fun i _ => xs.length - (intOf i).toNat)
  case atStart => exact ⟨0, Nat.zero_le _, rfl, rfl, Fr.refl _ _ _⟩
  case round =>
    obtain ⟨k, hk, rfl, hT, hF⟩ := hrel
    have HF := Lib.hid hF; clear hF
    by_cases hlt : k < xs.length
    · obtain ⟨b, off, rfl, hc0, hc1, hc2, hc1', hc2'⟩ := (HC.out.fr HF.out).test k hlt
      have hx := Lib.hid (HZ.out k hlt)
      have QR := Lib.hid ((HF.out.cell (p := ⟨qb, 0, none⟩) hql (by simp)).trans HQ.out)
      cases hb : p (xs.getD k noTest)
      · have HB := Lib.hid hb; clear hb
        have hT' := Lib.hid (show (xs.take (k+1)).any p = false by rw [any_take_succ p xs k hlt, hT.out, HB.out]; rfl)
        generalize xs.getD k noTest = x at *
        go_wp2_with fail
        refine (HG.out x hx.out _ QR.out).mono ?_
        rintro e w' ⟨rfl, hF2⟩
        have HF2 := Lib.hid (HF.out.and hF2); clear hF2
        rw [HB.out]
        go_wp2
        go_roundw
        case rel => exact ⟨k + 1, by omega, by go_num, hT', HF2.out⟩
        case measure => simp [intOf]; omega
      · have HB := Lib.hid hb; clear hb
        have hT' := Lib.hid (show xs.any p = true from any_of_take p xs k hlt HB.out)
        generalize xs.getD k noTest = x at *
        go_wp2_with fail
        refine (HG.out x hx.out _ QR.out).mono ?_
        rintro e w' ⟨rfl, hF2⟩
        have HF2 := Lib.hid (HF.out.and hF2); clear hF2
        rw [HB.out]
        go_wp2
        go_ret
        exact ⟨_, rfl, by rw [hT'.out]; simp, HF2.out⟩
    · have hkk : k = xs.length := by omega
      have hT' := Lib.hid (show xs.any p = false by have := hT.out; rw [hkk, List.take_length] at this; exact this)
      clear hkk
      go_wp2
      go_ret
      exact ⟨_, rfl, by rw [hT'.out]; decide, HF.out⟩

theorem containsFuncC (g : FuncId) (p : Tst → Bool) (qb : Nat) (v : Value) (eg : ∀ args w, (callFunc g args).run Tryz.prog w = .ok (.enter g args) w)
    (hg : ∀ (x : Tst), goodTst x → ∀ w, w.cell? ⟨qb, 0, none⟩ = some v → Calls Tryz.prog g #[.agg #[.string x.1, .string x.2.1, .string x.2.2], .pointer (some ⟨qb, 0, none⟩)] w fun e w' => e = .returned (.bool (p x)) ∧ Fr w.heap.size none w w')
    (a : Option Addr) (cap : Nat) (xs : List Tst) (w : World) (hs : Sl w a (tests xs)) (hq : w.cell? ⟨qb, 0, none⟩ = some v) (hm : xs.length ≤ 1048576) (hz : ∀ k, k < xs.length → goodTst (xs.getD k noTest)) :
    Calls Tryz.prog 57 #[.slice a xs.length cap, .func (.func g) #[] #[.pointer (some ⟨qb, 0, none⟩)]] w fun e w' => e = .returned (.bool (xs.any p)) ∧ Fr w.heap.size none w w' := by
  have HG := Lib.hid hg; clear hg
  have HS := Lib.hid hs; have HQ := Lib.hid hq; have HZ := Lib.hid hz; clear hs hq hz
  go_enter Tryz.func57, Tryz.ntmps57
  go_wp2_with fail
  refine (indexFuncC g p qb v eg HG.out a cap xs w HS.out HQ.out hm HZ.out).mono ?_
  rintro e w' ⟨r, rfl, hr, hF⟩
  have HR := Lib.hid hr; clear hr
  go_wp2
  go_ret
  exact ⟨ret_bool HR.out, hF⟩

theorem explains_any (a : Option Addr) (cap : Nat) (xs : List Tst) (way : Int) (w : World) (hs : Sl w a (tests xs)) (hm : xs.length ≤ 1048576) (hok : testsOkB xs = true) (hw : 0 ≤ way ∧ way ≤ 15) :
    Calls Tryz.prog 179 #[.slice a xs.length cap, .int .i64 way] w fun e w' => e = .returned (.bool (xs.all (expOne way))) ∧ Fr w.heap.size none w w' := by
  have HS := Lib.hid (hs.fr ((Fr.refl w.heap.size none w).alloc (Nat.le_refl _) (.cells #[.int .i64 way] 3))); clear hs
  have hfin := Lib.hid (show (!xs.any fun c => !expOne way c) = xs.all (expOne way) by rw [List.all_eq_not_any_not])
  have F0 := Lib.hid ((Fr.refl w.heap.size none w).alloc (Nat.le_refl _) (.cells #[.int .i64 way] 3))
  have HQ := Lib.hid (show (w.alloc (.cells #[.int .i64 way] 3)).cell? ⟨w.heap.size, 0, none⟩ = some (.int .i64 way) by go_simp)
  have HZ := Lib.hid (fun k hk => good_of hok k hk)
  have HG := Lib.hid (fun (x : Tst) (hx : goodTst x) W hp => notExpl_any w.heap.size way x hw hx.1 hx.2 W hp)
  have HE := Lib.hid (enters_by (P := Tryz.prog) Tryz.func207 (by kernel_rfl) rfl)
  clear hok
  go_enter Tryz.func179, Tryz.ntmps179
  go_wp2_with (go_at_call 57; refine (containsFuncC 207 (fun c => !expOne way c) w.heap.size (.int .i64 way) HE.out HG.out _ _ _ _ HS.out HQ.out hm HZ.out).mono ?_; rintro e w' ⟨rfl, hF⟩; (have F2 := Lib.hid (F0.out.and hF); clear hF))
  go_ret
  exact ⟨ret_bool hfin.out, F2.out⟩

theorem isWay_any (way : Int) (w : World) (hw : 0 ≤ way ∧ way ≤ 15) : Calls Tryz.prog 178 #[.int .i64 way] w fun e w' => e = .returned (.bool true) ∧ w = w' := by
  have h : inB way 0 15 = true := inB_true.2 hw
  have H := Lib.hid h; clear h
  go_enter Tryz.func178, Tryz.ntmps178
  go_wp2_with (go_at_call 97; refine (in_val H.out _).mono ?_; rintro e w' ⟨rfl, rfl⟩)
  go_ret
  exact ⟨rfl, rfl⟩

theorem Explains_any (a : Option Addr) (cap : Nat) (xs : List Tst) (way : Int) (w : World) (hs : Sl w a (tests xs)) (hm : xs.length ≤ 1048576) (hz : Small xs) (hw : 0 ≤ way ∧ way ≤ 15) :
    Calls Tryz.prog 143 #[.slice a xs.length cap, .int .i64 way] w fun e w' => e = .returned (.bool (expI xs way)) ∧ Fr w.heap.size none w w' := by
  have HS := Lib.hid hs; clear hs
  cases h : testsOkB xs
  · have hfin := Lib.hid (show false = expI xs way by simp [expI, h])
    have H := Lib.hid h; clear h
    go_enter Tryz.func143, Tryz.ntmps143
    go_wp2_with (go_at_call 56; refine (implTests_val HS.out hm hz H.out).mono ?_; rintro e w' ⟨rfl, hF⟩)
    go_ret
    exact ⟨ret_bool hfin.out, hF⟩
  · have hfin := Lib.hid (show xs.all (expOne way) = expI xs way by simp [expI, h])
    have H := Lib.hid h; clear h
    generalize hr : xs.all (expOne way) = r at *
    have CE := Lib.hid (fun W hS => hr ▸ explains_any a cap xs way W hS hm H.out hw)
    clear hr
    go_enter Tryz.func143, Tryz.ntmps143
    go_wp2_with fail
    refine (implTests_val HS.out hm hz H.out).mono ?_; rintro e w1 ⟨rfl, hF1⟩
    have F1 := Lib.hid hF1
    have S1 := Lib.hid (HS.out.fr hF1)
    clear hF1
    go_wp2_with fail
    refine (isWay_any way _ hw).mono ?_; rintro e w' ⟨rfl, rfl⟩
    go_wp2_with fail
    refine (CE.out _ S1.out).mono ?_; rintro e w2 ⟨rfl, hF2⟩
    have F2 := Lib.hid (F1.out.and hF2); clear hF2
    go_wp2
    go_ret
    exact ⟨ret_bool hfin.out, F2.out⟩
end Go.Proofs.YtdngnmpmaacapaaGreatDoor
/-
  Contracts: WaysFor of the program: the ways that explain exercises.
-/
namespace Go.Proofs.YtdngnmpmaacapaaGreatDoor
open Go.RowKit

theorem clipW_any (a : Option Addr) (cap n : Nat) (w : World) (hn : n ≤ cap) (hc : cap ≤ 9223372036854775807) :
    Calls Tryz.prog 177 #[.slice a n cap] w fun e w' => e = .returned (.slice a n n) ∧ w = w' := by
  go_enter Tryz.func177, Tryz.ntmps177
  go_wp2
  go_ret
  exact ⟨rfl, rfl⟩
theorem mayWay_any (q : Nat) (a : Option Addr) (cap : Nat) (xs : List Tst) (way : Int) (w : World) (hp : w.cell? ⟨q, 0, none⟩ = some (.slice a xs.length cap)) (hs : Sl w a (tests xs)) (hm : xs.length ≤ 1048576) (hz : Small xs) (hw : 0 ≤ way ∧ way ≤ 15) :
    Calls Tryz.prog 142 #[.int .i64 way, .pointer (some ⟨q, 0, none⟩)] w fun e w' => e = .returned (.bool (expI xs way)) ∧ Fr w.heap.size none w w' := by
  have HS := Lib.hid hs; clear hs
  go_enter Tryz.func142, Tryz.ntmps142
  go_wp2_with fail
  refine (Explains_any a cap xs way _ HS.out hm hz hw).mono ?_; rintro e w' ⟨rfl, hF⟩
  go_wp2
  go_ret
  exact ⟨rfl, hF⟩
theorem app_ints' {w : World} {B : Nat} {v : Value} {xs ys : List Int} {x : Int} (h : w.ownsRow B 3 1 v (xs.length + 1) (ints xs ++ [.int .i64 x])) (e0 : xs ++ [x] = ys) :
    ∃ a c, v = .slice a ys.length c ∧ w.ownsRow B 3 1 (.slice a ys.length c) ys.length (ints ys) := by
  subst e0; exact app_ints h

set_option maxHeartbeats 2000000 in
set_option maxRecDepth 100000 in
theorem which_any (q : Nat) (a : Option Addr) (cap : Nat) (xs : List Tst) (w : World) (hp : w.cell? ⟨q, 0, none⟩ = some (.slice a xs.length cap)) (hs : Sl w a (tests xs)) (hm : xs.length ≤ 1048576) (hz : Small xs) :
    Calls Tryz.prog 141 #[.func (.func 142) #[] #[.pointer (some ⟨q, 0, none⟩)]] w fun e w' => (∃ a' c', e = .returned (.slice a' (waysI xs 16).length c')) ∧ Fr w.heap.size none w w' := by
  have hql := World.block_lt_of_cell? w _ hp
  dsimp only at hql
  have HS := Lib.hid hs; have HP := Lib.hid hp; clear hs hp
  go_enter Tryz.func141, Tryz.ntmps141
  go_wp2
  go_loopw [3, 5] (fun v i wr => ∃ (k : Nat) (ys : List Int) (a' : Option Addr) (c' : Nat), k ≤ 16 ∧ i = .int .i64 k ∧ v = .slice a' ys.length c' ∧ Hid (waysI xs k = ys) ∧ ys.length ≤ 16 ∧ wr.ownsRow w.heap.size 3 1 (.slice a' ys.length c') ys.length (ints ys) ∧ Fr w.heap.size none w wr) (fun _ i _ => 16 - (intOf i).toNat)
  case atStart => exact ⟨0, [], none, 0, by omega, rfl, rfl, rfl, by simp, World.ownsRow_nil _ _ _ _, Fr.refl _ _ _⟩
  case round =>
    obtain ⟨k, ys, a', c', hk, rfl, rfl, hY, hl, ho, hF⟩ := hrel
    have HO := Lib.hid ho; have HF := Lib.hid hF; have hz1 := hF.size; clear ho hF
    by_cases hlt : k < 16
    · have hlt' : (k : Int) < 16 := by omega
      have k0 : (0 : Int) ≤ (k : Int) := by omega
      have QR := Lib.hid ((HF.out.cell (p := ⟨q, 0, none⟩) hql (by simp)).trans HP.out)
      have SR := Lib.hid (HS.out.fr HF.out)
      have CM := Lib.hid (fun W hp hs => mayWay_any q a cap xs (k : Int) W hp hs hm hz (by omega))
      have WY := Lib.hid (fun h => waysI_yes (xs := xs) (k := k) h)
      have WN := Lib.hid (fun h => waysI_no (xs := xs) (k := k) h)
      have WL := waysI_len xs (k + 1)
      generalize expI xs (k : Int) = r at *
      cases r
      · have e1 := Lib.hid ((WN.out rfl).symm.trans hY.out)
        clear WY WN
        go_wp2_with fail
        refine (CM.out _ QR.out SR.out).mono ?_; rintro e w1 ⟨rfl, hF1⟩
        have F1 := Lib.hid (HF.out.trans (hF1.mono hz1))
        have O1 := Lib.hid (own_keep HO.out hF1)
        clear hF1
        go_wp2
        go_roundw
        case rel => exact ⟨k + 1, ys, a', c', by omega, by go_num, rfl, e1, hl, O1.out, F1.out⟩
        case measure => simp [intOf]; omega
      · have e0 := Lib.hid (show ys ++ [(k : Int)] = waysI xs (k + 1) by rw [← hY.out]; exact WY.out rfl)
        obtain ⟨zs, hzs⟩ : ∃ zs, waysI xs (k + 1) = zs := ⟨_, rfl⟩
        rw [hzs] at e0 WL
        have HZ := Lib.hid hzs
        have hzl : zs.length ≤ 16 := by omega
        clear WY WN hzs
        go_wp2_with fail
        refine (CM.out _ QR.out SR.out).mono ?_; rintro e w1 ⟨rfl, hF1⟩
        have F1 := Lib.hid (HF.out.trans (hF1.mono hz1))
        have O1 := Lib.hid (own_keep HO.out hF1)
        have z1 := F1.out.size
        clear hF1
        go_wp2_with (at_builtin; refine app1 73 3 (.int .i64 0) 1 8 Tryz.underlying73 infoInt rfl (by decide) (by decide) rfl _ _ rfl [.int .i64 (k : Int)] O1.out rfl rfl rfl (by simp [Value.oneCell']) (by omega) z1 ?_; intro v' w' ho' hF'; (
          have F2 := Lib.hid (app_frame F1.out O1.out hF' z1)
          obtain ⟨a2, c2, rfl, ho3⟩ := app_ints' ho' e0.out
          have O3 := Lib.hid ho3
          clear ho' hF' ho3))
        go_roundw
        case rel => exact ⟨k + 1, zs, a2, c2, by omega, by go_num, rfl, HZ, hzl, O3.out, F2.out⟩
        case measure => simp [intOf]; omega
    · have hke : k = 16 := by omega
      subst hke
      obtain ⟨a2, c2, hv, hcap, hcm⟩ := own_slice HO.out
      cases hv
      unfold maxLen at hcm
      have HL := Lib.hid (show ys.length = (waysI xs 16).length by rw [hY.out])
      go_wp2_with (go_at_call 177; refine (clipW_any _ _ _ _ hcap (by omega)).mono ?_; rintro e w' ⟨rfl, rfl⟩)
      go_ret
      exact ⟨⟨a', ys.length, by rw [← HL.out]; rfl⟩, HF.out⟩

theorem waysFor_any (a : Option Addr) (cap : Nat) (xs : List Tst) (w : World) (hs : Sl w a (tests xs)) (hm : xs.length ≤ 1048576) (hz : Small xs) :
    Calls Tryz.prog 110 #[.slice a xs.length cap] w fun e w' => (∃ a' c', e = .returned (.slice a' (waysI xs 16).length c')) ∧ Fr w.heap.size none w w' := by
  have HS := Lib.hid (hs.fr ((Fr.refl w.heap.size none w).alloc (Nat.le_refl _) (.cells #[.slice a xs.length cap] 23))); clear hs
  have F0 := Lib.hid ((Fr.refl w.heap.size none w).alloc (Nat.le_refl _) (.cells #[.slice a xs.length cap] 23))
  have HQ := Lib.hid (show (w.alloc (.cells #[.slice a xs.length cap] 23)).cell? ⟨w.heap.size, 0, none⟩ = some (.slice a xs.length cap) by go_simp)
  go_enter Tryz.func110, Tryz.ntmps110
  go_wp2_with fail
  refine (which_any w.heap.size a cap xs _ HQ.out HS.out hm hz).mono ?_; rintro e w' ⟨⟨a', c', rfl⟩, hF⟩
  have F2 := Lib.hid (F0.out.and hF); clear hF
  go_wp2
  go_ret
  exact ⟨⟨a', c', rfl⟩, F2.out⟩
end Go.Proofs.YtdngnmpmaacapaaGreatDoor
