/-
  Merged: ScoreC WaysG Fault Sim ApartS.
-/
import Derived.Test.YtdngnmpmaacapaaGreatDoorMSumI
import Derived.Test.YtdngnmpmaacapaaGreatDoorMWaysE
import Derived.Test.YtdngnmpmaacapaaGreatDoorMTakenX
import Derived.Test.YtdngnmpmaacapaaGreatDoorMAskP
import Derived.Test.YtdngnmpmaacapaaGreatDoorMBoardB
set_option linter.unusedVariables false
set_option linter.unusedSimpArgs false
/-
  Contracts: ScoreOf, MarkOf of both; Explains of the reference.
-/
namespace Go.Proofs.YtdngnmpmaacapaaGreatDoor
open Go.RowKit

theorem tests_le {xs : List Tst} (h : testsOkB xs = true) : xs.length ≤ 6 := by
  simp only [testsOkB, Bool.and_eq_true, decide_eq_true_eq] at h; exact h.2
theorem tests_at {xs : List Tst} (h : testsOkB xs = true) (k : Nat) (hk : k < xs.length) : 0 ≤ ordI (xs.getD k noTest).1 (xs.getD k noTest).2.1 := by
  simp only [testsOkB, Bool.and_eq_true, List.all_eq_true] at h
  have e : xs.getD k noTest = xs[k] := by simp [List.getD_eq_getElem?_getD, hk]
  rw [e]
  have := h.1 _ (List.getElem_mem hk)
  simpa [testOk] using this
theorem right_beq {x1 x2 x3 y : ByteArray} {r : Bool} (h : tbI x1 x2 0 = y) (hr : rightI (x1, x2, x3) = r) : (x3.toList == y.toList) = r := by
  subst h; subst hr; rw [bytes_beq]; unfold rightI
  by_cases h : x3 = tbI x1 x2 0
  · rw [h]
  · simp [h, Ne.symm h, eq_comm]
theorem right_beq2 {x1 x2 x3 y : ByteArray} {r : Bool} (h : tbI x1 x2 0 = y) (hr : rightI (x1, x2, x3) = r) : (y.toList == x3.toList) = r := by
  subst h; subst hr; rw [bytes_beq]; rfl

set_option maxHeartbeats 2000000 in
set_option maxRecDepth 100000 in
theorem implScore_any (a : Option Addr) (cap : Nat) (xs : List Tst) (w : World) (hs : Sl w a (tests xs)) (hok : testsOkB xs = true) (hz : Small xs) :
    Calls Tryz.prog 108 #[.slice a xs.length cap] w fun e w' => e = .returned (.int .i64 (scoreN xs : Int)) ∧ Fr w.heap.size none w w' := by
  have hl := tests_le hok
  have HA := Lib.hid (fun k hk => tests_at hok k hk)
  have HS := Lib.hid hs; have HOK := Lib.hid hok; have HZ := Lib.hid hz
  clear hs hok hz
  have E0 := Lib.hid (scoreTo_end xs)
  have SL := Lib.hid (fun k => scoreTo_le xs k)
  go_enter Tryz.func108, Tryz.ntmps108
  go_wp2_with fail
  refine (implTests_val HS.out (by omega) HZ.out HOK.out).mono ?_; rintro e w1 ⟨rfl, hF1⟩
  have F1 := Lib.hid hF1; clear hF1
  go_wp2
  go_loopw [3, 11] (fun v i wr => ∃ (k n : Nat), k ≤ xs.length ∧ i = .int .i64 k ∧ v = .int .i64 n ∧ Hid (scoreTo xs k = n) ∧ n ≤ k ∧ Fr w.heap.size none w wr) (fun _ i _ => xs.length - (intOf i).toNat)
  case atStart => exact ⟨0, 0, Nat.zero_le _, rfl, rfl, rfl, Nat.le_refl _, F1.out⟩
  case round =>
    obtain ⟨k, n, hk, rfl, rfl, hN, hnk, hF⟩ := hrel
    have HF := Lib.hid hF; have hzz := hF.size; clear hF
    by_cases hlt : k < xs.length
    · obtain ⟨b, off, rfl, hc0, _, _, hc1, hc2⟩ := (HS.out.fr HF.out).test k hlt
      have ho := HA.out k hlt
      have Y := Lib.hid (fun h => scoreTo_yes (xs := xs) hlt h)
      have N := Lib.hid (fun h => scoreTo_no (xs := xs) hlt h)
      obtain ⟨t1, t2, t3⟩ := HZ.out.at k
      generalize xs.getD k noTest = x at *
      obtain ⟨x1, x2, x3⟩ := x
      dsimp only at *
      obtain ⟨o1, o2⟩ := ord_ok ho
      have CT := Lib.hid (fun W => takenBy_fn x1 x2 0 W o1 o2 (by omega))
      obtain ⟨r, hr⟩ : ∃ r, rightI (x1, x2, x3) = r := ⟨_, rfl⟩
      obtain ⟨y, hy⟩ : ∃ y, tbI x1 x2 0 = y := ⟨_, rfl⟩
      have HR := right_beq hy hr
      rw [hy] at CT
      rw [hr] at Y N
      clear hy hr o1 o2 ho HA
      have k0 : (0 : Int) ≤ (k : Int) := by omega
      have k1 : (k : Int) < (xs.length : Int) := by omega
      have n0 : (0 : Int) ≤ (n : Int) := by omega
      go_upto_region 7 with fail
      obtain ⟨w0, hw0⟩ : ∃ w0, w0 = wr.alloc (.cells #[.string x1, .string x2, .string x3] 52) := ⟨_, rfl⟩
      have G0 := Lib.hid (show Fr wr.heap.size none wr w0 by rw [hw0]; exact (Fr.refl _ _ _).alloc (Nat.le_refl _) _)
      have q0 : w0.cell? ⟨wr.heap.size, 0, none⟩ = some (.string x1) := by rw [hw0]; go_simp
      have q1 : w0.cell? ⟨wr.heap.size, 1, none⟩ = some (.string x2) := by rw [hw0]; go_simp
      have q2 : w0.cell? ⟨wr.heap.size, 2, none⟩ = some (.string x3) := by rw [hw0]; go_simp
      have hb : wr.heap.size < w0.heap.size := by rw [hw0]; simp
      rw [← hw0]
      clear hw0 hc0 hc1 hc2
      go_region_held3 (fun w' => w'.cell? ⟨wr.heap.size, 0, none⟩ = some (.string x1) ∧ w'.cell? ⟨wr.heap.size, 1, none⟩ = some (.string x2) ∧ w'.cell? ⟨wr.heap.size, 2, none⟩ = some (.string x3))
        (first | go_keep | (go_split_ands; refine ⟨?_, ?_, ?_⟩ <;> (rw [hF2.cell (by first | exact hb | simpa using hb) (by simp)]; assumption)))
        (first | (go_at_call 140; refine (CT.out _).mono ?_; rintro e w2 ⟨rfl, hF2⟩))
      have F2 := Lib.hid (HF.out.and (G0.out.and ((Fr.refl _ _ w0).drew.and hF2)))
      clear q0 q1 q2 hF2 CT HR
      cases r
      · have e1 := Lib.hid ((N.out rfl).trans hN.out)
        go_wp2
        go_roundw
        case rel => exact ⟨k + 1, n, by omega, by go_num, rfl, e1, by omega, F2.out⟩
        case measure => simp [intOf]; omega
      · have e1 := Lib.hid ((Y.out rfl).trans (by rw [hN.out] : scoreTo xs k + 1 = n + 1))
        go_wp2
        go_roundw
        case rel => exact ⟨k + 1, n + 1, by omega, by go_num, by go_num, e1, by omega, F2.out⟩
        case measure => simp [intOf]; omega
    · have hke : k = xs.length := by omega
      have hge : (xs.length : Int) ≤ (k : Int) := by omega
      have e1 := Lib.hid (show (n : Int) = (scoreN xs : Int) by rw [← hN.out, hke, E0.out])
      clear hke hN
      go_wp2
      go_ret
      exact ⟨ret_int e1.out, HF.out⟩

set_option maxHeartbeats 2000000 in
set_option maxRecDepth 100000 in
theorem specScore_any (a : Option Addr) (cap : Nat) (xs : List Tst) (w : World) (hs : Sl w a (tests xs)) (hok : testsOkB xs = true) (hz : Small xs) :
    Calls Tryz.prog 44 #[.slice a xs.length cap] w fun e w' => e = .returned (.int .i64 (scoreN xs : Int)) ∧ Fr w.heap.size none w w' := by
  have hl := tests_le hok
  have HA := Lib.hid (fun k hk => tests_at hok k hk)
  have HS := Lib.hid hs; have HOK := Lib.hid hok; have HZ := Lib.hid hz
  clear hs hok hz
  have E0 := Lib.hid (scoreTo_end xs)
  go_enter Tryz.func44, Tryz.ntmps44
  go_wp2_with fail
  refine (specTests_val HS.out (by omega) HZ.out HOK.out).mono ?_; rintro e w1 ⟨rfl, m, rfl⟩
  have F1 := Lib.hid ((Fr.refl w.heap.size none w).drewN m)
  generalize w.drewN m = w1 at *
  go_wp2
  go_loopw [3, 4] (fun v i wr => ∃ (k n : Nat), k ≤ xs.length ∧ i = .int .i64 k ∧ v = .int .i64 n ∧ Hid (scoreTo xs k = n) ∧ n ≤ k ∧ Fr w.heap.size none w wr) (fun _ i _ => xs.length - (intOf i).toNat)
  case atStart => exact ⟨0, 0, Nat.zero_le _, rfl, rfl, rfl, Nat.le_refl _, F1.out⟩
  case round =>
    obtain ⟨k, n, hk, rfl, rfl, hN, hnk, hF⟩ := hrel
    have HF := Lib.hid hF; have hzz := hF.size; clear hF
    by_cases hlt : k < xs.length
    · obtain ⟨b, off, rfl, hc0, _, _, hc1, hc2⟩ := (HS.out.fr HF.out).test k hlt
      have ho := HA.out k hlt
      have Y := Lib.hid (fun h => scoreTo_yes (xs := xs) hlt h)
      have N := Lib.hid (fun h => scoreTo_no (xs := xs) hlt h)
      obtain ⟨t1, t2, t3⟩ := HZ.out.at k
      generalize xs.getD k noTest = x at *
      obtain ⟨x1, x2, x3⟩ := x
      dsimp only at *
      have CT := Lib.hid (fun W => specDif_any x1 x2 W t1 t2)
      rw [dif_tb ho] at CT
      dsimp only at CT
      obtain ⟨r, hr⟩ : ∃ r, rightI (x1, x2, x3) = r := ⟨_, rfl⟩
      obtain ⟨y, hy⟩ : ∃ y, tbI x1 x2 0 = y := ⟨_, rfl⟩
      have HR := Lib.hid (right_beq2 hy hr)
      rw [hy] at CT
      rw [hr] at Y N
      clear hy hr ho HA
      have hb := World.block_lt_of_cell? wr _ hc0
      dsimp only at hb
      have k0 : (0 : Int) ≤ (k : Int) := by omega
      have k1 : (k : Int) < (xs.length : Int) := by omega
      have n0 : (0 : Int) ≤ (n : Int) := by omega
      go_upto_region 7 with fail
      go_region_held3 (fun w' => w'.cell? ⟨b, off + k * 3, none⟩ = some (.string x1) ∧ w'.cell? ⟨b, off + k * 3 + 1, none⟩ = some (.string x2))
        (first | go_keep | (go_split_ands; refine ⟨?_, ?_⟩ <;> (rw [hF2.cell (by first | exact hb | simpa using hb) (by simp)]; assumption)))
        (first | (go_at_call 85; refine (CT.out _).mono ?_; rintro e w2 ⟨rfl, hF2⟩))
      have d2 : w2.cell? ⟨b, off + k * 3 + 2, none⟩ = some (.string x3) := (hF2.cell (p := ⟨b, off + k * 3 + 2, none⟩) hb (by simp)).trans hc2
      have F2 := Lib.hid (HF.out.and ((Fr.refl _ _ wr).drew.and hF2))
      have HR1 := HR.out
      clear hc0 hc1 hc2 hF2 CT HR
      cases r
      · have e1 := Lib.hid ((N.out rfl).trans hN.out)
        go_wp2
        go_roundw
        case rel => exact ⟨k + 1, n, by omega, by go_num, rfl, e1, by omega, F2.out⟩
        case measure => simp [intOf]; omega
      · have e1 := Lib.hid ((Y.out rfl).trans (by rw [hN.out] : scoreTo xs k + 1 = n + 1))
        go_wp2
        go_roundw
        case rel => exact ⟨k + 1, n + 1, by omega, by go_num, by go_num, e1, by omega, F2.out⟩
        case measure => simp [intOf]; omega
    · have hke : k = xs.length := by omega
      have hge : (xs.length : Int) ≤ (k : Int) := by omega
      have e1 := Lib.hid (show (n : Int) = (scoreN xs : Int) by rw [← hN.out, hke, E0.out])
      clear hke hN
      go_wp2
      go_ret
      exact ⟨ret_int e1.out, HF.out⟩

theorem mark_no {r n : Int} (h : (inB n 1 99 && inB r 0 n) = false) : -1 = markI r n := by unfold markI; rw [h]; rfl
theorem mark_yes {r n : Int} (h : inB n 1 99 = true) (h2 : inB r 0 n = true) : (200 * r + n).tdiv (2 * n) = markI r n := by
  unfold markI; rw [h, h2]
  simp only [inB_true] at h h2
  rw [Int.tdiv_eq_ediv_of_nonneg (by omega)]; rfl
theorem implMark_any (r n : Int) (w : World) (hr : -100 ≤ r ∧ r ≤ 100) (hn : 0 ≤ n ∧ n ≤ 100) : Calls Tryz.prog 109 #[.int .i64 r, .int .i64 n] w fun e w' => e = .returned (.int .i64 (markI r n)) ∧ w = w' := by
  cases h1 : inB n 1 99
  · have hm := Lib.hid (mark_no (r := r) (n := n) (by rw [h1]; rfl))
    have H1 := Lib.hid h1; clear h1
    go_enter Tryz.func109, Tryz.ntmps109
    go_wp2_with fail
    refine (in_val H1.out _).mono ?_; rintro e w' ⟨rfl, rfl⟩
    go_wp2
    go_ret
    exact ⟨ret_int hm.out, rfl⟩
  cases h2 : inB r 0 n
  · have hm := Lib.hid (mark_no (r := r) (n := n) (by rw [h1, h2]; rfl))
    have H1 := Lib.hid h1; have H2 := Lib.hid h2; clear h1 h2
    go_enter Tryz.func109, Tryz.ntmps109
    go_wp2_with fail
    refine (in_val H1.out _).mono ?_; rintro e w' ⟨rfl, rfl⟩
    go_wp2_with fail
    refine (in_val H2.out _).mono ?_; rintro e w' ⟨rfl, rfl⟩
    go_wp2
    go_ret
    exact ⟨ret_int hm.out, rfl⟩
  have hm := Lib.hid (mark_yes h1 h2)
  have hne : (2 * n == 0) = false := by rw [beq_eq_false_iff_ne]; have := inB_true.1 h1; omega
  have hn1 : 1 ≤ n := (inB_true.1 h1).1
  have H1 := Lib.hid h1; have H2 := Lib.hid h2; clear h1 h2
  go_enter Tryz.func109, Tryz.ntmps109
  go_wp2_with fail
  refine (in_val H1.out _).mono ?_; rintro e w' ⟨rfl, rfl⟩
  go_wp2_with fail
  refine (in_val H2.out _).mono ?_; rintro e w' ⟨rfl, rfl⟩
  go_wp2
  go_ret
  exact ⟨ret_int (by first | exact hm.out | (rw [← hm.out]; rw [Int.tdiv_eq_ediv_of_nonneg (by have := inB_true.1 H2.out; omega)])), rfl⟩
end Go.Proofs.YtdngnmpmaacapaaGreatDoor
/-
  Contracts: WaysFor of both, with its cells; Explains of the reference.
-/
namespace Go.Proofs.YtdngnmpmaacapaaGreatDoor
open Go.RowKit

def NewW (xs : List Tst) (w : World) (e : Ending) (w' : World) : Prop := ∃ a c, e = .returned (.slice a (waysI xs 16).length c) ∧ Sl w' a (ints (waysI xs 16)) ∧ Fr w.heap.size none w w'
theorem newW_of {xs : List Tst} {ys : List Int} {w w' : World} {a : Option Addr} {c : Nat} (h : waysI xs 16 = ys) (hs : Sl w' a (ints ys)) (hF : Fr w.heap.size none w w') : NewW xs w (.returned (.slice a ys.length c)) w' := by
  subst h; exact ⟨a, c, rfl, hs, hF⟩
set_option maxHeartbeats 2000000 in
set_option maxRecDepth 100000 in
theorem whichX_any (q : Nat) (a : Option Addr) (cap : Nat) (xs : List Tst) (w : World) (hp : w.cell? ⟨q, 0, none⟩ = some (.slice a xs.length cap)) (hs : Sl w a (tests xs)) (hm : xs.length ≤ 1048576) (hz : Small xs) :
    Calls Tryz.prog 141 #[.func (.func 142) #[] #[.pointer (some ⟨q, 0, none⟩)]] w (NewW xs w) := by
  have hql := World.block_lt_of_cell? w _ hp
  dsimp only at hql
  have HS := Lib.hid hs; have HP := Lib.hid hp; clear hs hp
  go_enter Tryz.func141, Tryz.ntmps141
  go_wp2
  go_loopw [3, 5] (fun v i wr => ∃ (k : Nat) (ys : List Int) (a' : Option Addr) (c' : Nat), k ≤ 16 ∧ i = .int .i64 k ∧ v = .slice a' ys.length c' ∧ Hid (waysI xs k = ys) ∧ ys.length ≤ 16 ∧ wr.ownsRow w.heap.size 3 1 (.slice a' ys.length c') ys.length (ints ys) ∧ Fr w.heap.size none w wr) (fun _ i _ => 16 - (intOf i).toNat)
  case atStart => exact ⟨0, [], none, 0, by omega, rfl, rfl, rfl, by simp, World.ownsRow_nil _ _ _ _, Fr.refl _ _ _⟩
  case round =>
    obtain ⟨k, ys, a', c', hk, rfl, rfl, hY, hl, ho, hF⟩ := hrel
    have HO := Lib.hid ho; have HF := Lib.hid hF; have hz1 := hF.size; clear ho hF
    by_cases hlt : k < 16
    · have hlt' : (k : Int) < 16 := by omega
      have k0 : (0 : Int) ≤ (k : Int) := by omega
      have QR := Lib.hid ((HF.out.cell (p := ⟨q, 0, none⟩) hql (by simp)).trans HP.out)
      have SR := Lib.hid (HS.out.fr HF.out)
      have CM := Lib.hid (fun W hp hs => mayWay_any q a cap xs (k : Int) W hp hs hm hz (by omega))
      have WY := Lib.hid (fun h => waysI_yes (xs := xs) (k := k) h)
      have WN := Lib.hid (fun h => waysI_no (xs := xs) (k := k) h)
      have WL := waysI_len xs (k + 1)
      generalize expI xs (k : Int) = r at *
      cases r
      · have e1 := Lib.hid ((WN.out rfl).symm.trans hY.out)
        clear WY WN
        go_wp2_with fail
        refine (CM.out _ QR.out SR.out).mono ?_; rintro e w1 ⟨rfl, hF1⟩
        have F1 := Lib.hid (HF.out.trans (hF1.mono hz1))
        have O1 := Lib.hid (own_keep HO.out hF1)
        clear hF1
        go_wp2
        go_roundw
        case rel => exact ⟨k + 1, ys, a', c', by omega, by go_num, rfl, e1, hl, O1.out, F1.out⟩
        case measure => simp [intOf]; omega
      · have e0 := Lib.hid (show ys ++ [(k : Int)] = waysI xs (k + 1) by rw [← hY.out]; exact WY.out rfl)
        obtain ⟨zs, hzs⟩ : ∃ zs, waysI xs (k + 1) = zs := ⟨_, rfl⟩
        rw [hzs] at e0 WL
        have HZ := Lib.hid hzs
        have hzl : zs.length ≤ 16 := by omega
        clear WY WN hzs
        go_wp2_with fail
        refine (CM.out _ QR.out SR.out).mono ?_; rintro e w1 ⟨rfl, hF1⟩
        have F1 := Lib.hid (HF.out.trans (hF1.mono hz1))
        have O1 := Lib.hid (own_keep HO.out hF1)
        have z1 := F1.out.size
        clear hF1
        go_wp2_with (at_builtin; refine app1 73 3 (.int .i64 0) 1 8 Tryz.underlying73 infoInt rfl (by decide) (by decide) rfl _ _ rfl [.int .i64 (k : Int)] O1.out rfl rfl rfl (by simp [Value.oneCell']) (by omega) z1 ?_; intro v' w' ho' hF'; (
          have F2 := Lib.hid (app_frame F1.out O1.out hF' z1)
          obtain ⟨a2, c2, rfl, ho3⟩ := app_ints' ho' e0.out
          have O3 := Lib.hid ho3
          clear ho' hF' ho3))
        go_roundw
        case rel => exact ⟨k + 1, zs, a2, c2, by omega, by go_num, rfl, HZ, hzl, O3.out, F2.out⟩
        case measure => simp [intOf]; omega
    · have hke : k = 16 := by omega
      subst hke
      obtain ⟨a2, c2, hv, hcap, hcm⟩ := own_slice HO.out
      cases hv
      unfold maxLen at hcm
      go_wp2_with (go_at_call 177; refine (clipW_any _ _ _ _ hcap (by omega)).mono ?_; rintro e w' ⟨rfl, rfl⟩)
      go_ret
      exact newW_of hY.out (own_sl HO.out) HF.out

theorem waysX_any (a : Option Addr) (cap : Nat) (xs : List Tst) (w : World) (hs : Sl w a (tests xs)) (hm : xs.length ≤ 1048576) (hz : Small xs) :
    Calls Tryz.prog 110 #[.slice a xs.length cap] w (NewW xs w) := by
  have HS := Lib.hid (hs.fr ((Fr.refl w.heap.size none w).alloc (Nat.le_refl _) (.cells #[.slice a xs.length cap] 23))); clear hs
  have F0 := Lib.hid ((Fr.refl w.heap.size none w).alloc (Nat.le_refl _) (.cells #[.slice a xs.length cap] 23))
  have HQ := Lib.hid (show (w.alloc (.cells #[.slice a xs.length cap] 23)).cell? ⟨w.heap.size, 0, none⟩ = some (.slice a xs.length cap) by go_simp)
  go_enter Tryz.func110, Tryz.ntmps110
  go_wp2_with fail
  refine (whichX_any w.heap.size a cap xs _ HQ.out HS.out hm hz).mono ?_; rintro e w' ⟨a', c', rfl, hs', hF⟩
  have F2 := Lib.hid (F0.out.and hF); clear hF
  go_wp2
  go_ret
  exact ⟨a', c', rfl, hs', F2.out⟩

/-- The first k exercises are explained. -/
def expTo (xs : List Tst) (way : Int) (k : Nat) : Bool := (xs.take k).all (expOne way)
theorem expTo_succ {xs : List Tst} {way : Int} {k : Nat} (hk : k < xs.length) : expTo xs way (k + 1) = (expTo xs way k && expOne way (xs.getD k noTest)) := by
  have e : xs.getD k noTest = xs[k] := by simp [List.getD_eq_getElem?_getD, hk]
  unfold expTo; rw [List.take_succ_eq_append_getElem hk, List.all_append, e]; simp
theorem exp_bad {xs : List Tst} {way : Int} {k : Nat} (hk : k < xs.length) (h : expOne way (xs.getD k noTest) = false) : false = expI xs way := by
  have e : xs.getD k noTest = xs[k] := by simp [List.getD_eq_getElem?_getD, hk]
  rw [e] at h
  have : xs.all (expOne way) = false := by rw [List.all_eq_false]; exact ⟨_, List.getElem_mem hk, by simp [h]⟩
  unfold expI; rw [this]; simp
theorem exp_beq {x1 x2 x3 y : ByteArray} {way : Int} {r : Bool} (h : tbI x1 x2 way = y) (hr : expOne way (x1, x2, x3) = r) : (y.toList == x3.toList) = r := by
  subst h; subst hr; rw [bytes_beq]; rfl
set_option maxHeartbeats 2000000 in
set_option maxRecDepth 100000 in
theorem specExplains_any (a : Option Addr) (cap : Nat) (xs : List Tst) (way : Int) (w : World) (hs : Sl w a (tests xs)) (hok : testsOkB xs = true) (hz : Small xs) (hw : 0 ≤ way ∧ way ≤ 15) :
    Calls Tryz.prog 87 #[.slice a xs.length cap, .int .i64 way] w fun e w' => e = .returned (.bool (expI xs way)) ∧ Fr w.heap.size none w w' := by
  have hl := tests_le hok
  have HA := Lib.hid (fun k hk => tests_at hok k hk)
  have HW := Lib.hid (show inB way 0 15 = true from inB_true.2 hw)
  have E0 := Lib.hid (show expI xs way = expTo xs way xs.length by unfold expI expTo; rw [hok, List.take_length]; rfl)
  have HS := Lib.hid hs; have HOK := Lib.hid hok; have HZ := Lib.hid hz
  clear hs hok hz
  have hw0 := hw.1; have hw1 := hw.2
  clear hw
  go_enter Tryz.func87, Tryz.ntmps87
  go_wp2_with fail
  refine (specTests_val HS.out (by omega) HZ.out HOK.out).mono ?_; rintro e w1 ⟨rfl, m, rfl⟩
  have F1 := Lib.hid ((Fr.refl w.heap.size none w).drewN m)
  generalize w.drewN m = w1 at *
  go_wp2_with fail
  refine (l1In_val HW.out _).mono ?_; rintro e w' ⟨rfl, rfl⟩
  go_wp2
  go_loopw [5] (fun i wr => ∃ k : Nat, k ≤ xs.length ∧ i = .int .i64 k ∧ Hid (expTo xs way k = true) ∧ Fr w.heap.size none w wr) (fun i _ => xs.length - (intOf i).toNat)
  case atStart => exact ⟨0, Nat.zero_le _, rfl, Lib.hid (by simp [expTo]), F1.out⟩
  case round =>
    obtain ⟨k, hk, rfl, hE, hF⟩ := hrel
    have HF := Lib.hid hF; have hzz := hF.size; clear hF
    by_cases hlt : k < xs.length
    · obtain ⟨b, off, rfl, hc0, _, _, hc1, hc2⟩ := (HS.out.fr HF.out).test k hlt
      have ho := HA.out k hlt
      have Y := Lib.hid (expTo_succ (way := way) hlt)
      have N := Lib.hid (fun h => exp_bad (way := way) hlt h)
      obtain ⟨t1, t2, t3⟩ := HZ.out.at k
      generalize xs.getD k noTest = x at *
      obtain ⟨x1, x2, x3⟩ := x
      dsimp only at *
      have CT := Lib.hid (fun W => specTakenByX x1 x2 way W t1 t2)
      have hx : tbX x1 x2 way = (tbI x1 x2 way, true) := by unfold tbX; rw [HW.out]; simp [ho]
      rw [hx] at CT
      dsimp only at CT
      obtain ⟨r, hr⟩ : ∃ r, expOne way (x1, x2, x3) = r := ⟨_, rfl⟩
      obtain ⟨y, hy⟩ : ∃ y, tbI x1 x2 way = y := ⟨_, rfl⟩
      have HR := Lib.hid (exp_beq hy hr)
      rw [hy] at CT
      rw [hr] at Y N
      clear hy hr ho HA hx
      have hb := World.block_lt_of_cell? wr _ hc0
      dsimp only at hb
      have k0 : (0 : Int) ≤ (k : Int) := by omega
      have k1 : (k : Int) < (xs.length : Int) := by omega
      go_upto_region 6 with fail
      go_region_held3 (fun w' => w'.cell? ⟨b, off + k * 3, none⟩ = some (.string x1) ∧ w'.cell? ⟨b, off + k * 3 + 1, none⟩ = some (.string x2))
        (first | go_keep | (go_split_ands; refine ⟨?_, ?_⟩ <;> (rw [hF2.cell (by first | exact hb | simpa using hb) (by simp)]; assumption)))
        (first | (go_at_call 106; refine (CT.out _).mono ?_; rintro e w2 ⟨rfl, hF2⟩))
      have d2 : w2.cell? ⟨b, off + k * 3 + 2, none⟩ = some (.string x3) := (hF2.cell (p := ⟨b, off + k * 3 + 2, none⟩) hb (by simp)).trans hc2
      have F2 := Lib.hid (HF.out.and ((Fr.refl _ _ wr).drew.and hF2))
      have HR1 := HR.out
      clear hc0 hc1 hc2 hF2 CT HR
      cases r
      · have e1 := Lib.hid (N.out rfl)
        go_wp2
        go_ret
        exact ⟨ret_bool e1.out, F2.out⟩
      · have e1 := Lib.hid (show expTo xs way (k + 1) = true by rw [Y.out, hE.out]; rfl)
        go_wp2
        go_roundw
        case rel => exact ⟨k + 1, by omega, by go_num, e1, F2.out⟩
        case measure => simp [intOf]; omega
    · have hke : k = xs.length := by omega
      have hge : (xs.length : Int) ≤ (k : Int) := by omega
      have e1 := Lib.hid (show true = expI xs way by rw [E0.out, ← hke]; exact hE.out.symm)
      clear hke hE
      go_wp2
      go_ret
      exact ⟨ret_bool e1.out, HF.out⟩

set_option maxHeartbeats 2000000 in
set_option maxRecDepth 100000 in
theorem specWays_any (a : Option Addr) (cap : Nat) (xs : List Tst) (w : World) (hs : Sl w a (tests xs)) (hok : testsOkB xs = true) (hz : Small xs) :
    Calls Tryz.prog 48 #[.slice a xs.length cap] w (NewW xs w) := by
  have HS := Lib.hid hs; clear hs
  have F0 := Lib.hid ((Fr.refl w.heap.size none w).alloc (Nat.le_refl _) (.cells #[] 3))
  have O0 := Lib.hid (World.ownsRow_made (e := 3) (size := 1) (base := w.heap.size) w #[] 0 (Nat.le_refl _) (by simp [maxLen]) (by simp))
  go_enter Tryz.func48, Tryz.ntmps48
  go_wp2
  go_loopw [3, 4] (fun v i wr => ∃ (k : Nat) (ys : List Int) (a' : Option Addr) (c' : Nat), k ≤ 16 ∧ i = .int .i64 k ∧ v = .slice a' ys.length c' ∧ Hid (waysI xs k = ys) ∧ ys.length ≤ 16 ∧ wr.ownsRow w.heap.size 3 1 (.slice a' ys.length c') ys.length (ints ys) ∧ Fr w.heap.size none w wr) (fun _ i _ => 16 - (intOf i).toNat)
  case atStart => exact ⟨0, [], some ⟨w.heap.size, 0, none⟩, 0, by omega, rfl, rfl, rfl, by simp, O0.out, F0.out⟩
  case round =>
    obtain ⟨k, ys, a', c', hk, rfl, rfl, hY, hl, ho, hF⟩ := hrel
    have HO := Lib.hid ho; have HF := Lib.hid hF; have hz1 := hF.size; clear ho hF
    by_cases hlt : k < 16
    · have hlt' : (k : Int) < 16 := by omega
      have k0 : (0 : Int) ≤ (k : Int) := by omega
      have SR := Lib.hid (HS.out.fr HF.out)
      have CM := Lib.hid (fun W hs => specExplains_any a cap xs (k : Int) W hs hok hz (by omega))
      have WY := Lib.hid (fun h => waysI_yes (xs := xs) (k := k) h)
      have WN := Lib.hid (fun h => waysI_no (xs := xs) (k := k) h)
      have WL := waysI_len xs (k + 1)
      generalize expI xs (k : Int) = r at *
      cases r
      · have e1 := Lib.hid ((WN.out rfl).symm.trans hY.out)
        clear WY WN
        go_wp2_with fail
        refine (CM.out _ SR.out).mono ?_; rintro e w1 ⟨rfl, hF1⟩
        have F1 := Lib.hid (HF.out.trans (hF1.mono hz1))
        have O1 := Lib.hid (own_keep HO.out hF1)
        clear hF1
        go_wp2
        go_roundw
        case rel => exact ⟨k + 1, ys, a', c', by omega, by go_num, rfl, e1, hl, O1.out, F1.out⟩
        case measure => simp [intOf]; omega
      · have e0 := Lib.hid (show ys ++ [(k : Int)] = waysI xs (k + 1) by rw [← hY.out]; exact WY.out rfl)
        obtain ⟨zs, hzs⟩ : ∃ zs, waysI xs (k + 1) = zs := ⟨_, rfl⟩
        rw [hzs] at e0 WL
        have HZ := Lib.hid hzs
        have hzl : zs.length ≤ 16 := by omega
        clear WY WN hzs
        go_wp2_with fail
        refine (CM.out _ SR.out).mono ?_; rintro e w1 ⟨rfl, hF1⟩
        have F1 := Lib.hid (HF.out.trans (hF1.mono hz1))
        have O1 := Lib.hid (own_keep HO.out hF1)
        have z1 := F1.out.size
        clear hF1
        go_wp2_with (at_builtin; refine app1 73 3 (.int .i64 0) 1 8 Tryz.underlying73 infoInt rfl (by decide) (by decide) rfl _ _ rfl [.int .i64 (k : Int)] O1.out rfl rfl rfl (by simp [Value.oneCell']) (by omega) z1 ?_; intro v' w' ho' hF'; (
          have F2 := Lib.hid (app_frame F1.out O1.out hF' z1)
          obtain ⟨a2, c2, rfl, ho3⟩ := app_ints' ho' e0.out
          have O3 := Lib.hid ho3
          clear ho' hF' ho3))
        go_roundw
        case rel => exact ⟨k + 1, zs, a2, c2, by omega, by go_num, rfl, HZ, hzl, O3.out, F2.out⟩
        case measure => simp [intOf]; omega
    · have hke : k = 16 := by omega
      subst hke
      go_wp2
      go_ret
      exact newW_of hY.out (own_sl HO.out) HF.out
end Go.Proofs.YtdngnmpmaacapaaGreatDoor
/-
  Contracts: FaultsIn of both; MarkOf of the reference.
-/
namespace Go.Proofs.YtdngnmpmaacapaaGreatDoor
open Go.RowKit

theorem way_of {d : Int} (h0 : 0 ≤ d) (h1 : d ≤ 15) : d = 0 ∨ d = 1 ∨ d = 2 ∨ d = 3 ∨ d = 4 ∨ d = 5 ∨ d = 6 ∨ d = 7 ∨ d = 8 ∨ d = 9 ∨ d = 10 ∨ d = 11 ∨ d = 12 ∨ d = 13 ∨ d = 14 ∨ d = 15 := by omega
set_option maxHeartbeats 4000000 in
set_option maxRecDepth 100000 in
theorem ones64_any (n : Int) (w : World) (h : 0 ≤ n ∧ n ≤ 15) : Calls Tryz.prog 214 #[.int .u64 n] w fun e w' => e = .returned (.int .i64 (fltI n)) ∧ w = w' := by
  rcases way_of h.1 h.2 with rfl | rfl | rfl | rfl | rfl | rfl | rfl | rfl | rfl | rfl | rfl | rfl | rfl | rfl | rfl | rfl
  all_goals
    go_enter Tryz.func214, Tryz.ntmps214
    go_wp2
    go_ret
    exact ⟨by kernel_rfl, rfl⟩
set_option maxRecDepth 100000 in
theorem ones_any (n : Int) (w : World) (h : 0 ≤ n ∧ n ≤ 15) : Calls Tryz.prog 182 #[.int .u64 n] w fun e w' => e = .returned (.int .i64 (fltI n)) ∧ w = w' := by
  have CO := Lib.hid (fun W => ones64_any n W h)
  go_enter Tryz.func182, Tryz.ntmps182
  go_wp2_with fail
  refine (CO.out _).mono ?_; rintro e w' ⟨rfl, rfl⟩
  go_wp2
  go_ret
  exact ⟨rfl, rfl⟩
theorem implFaults_any (n : Int) (w : World) (h : 0 ≤ n ∧ n ≤ 15) : Calls Tryz.prog 146 #[.int .i64 n] w fun e w' => e = .returned (.int .i64 (fltI n)) ∧ w = w' := by
  have CO := Lib.hid (fun W => ones_any n W h)
  have hu : n % 18446744073709551616 = n := by omega
  obtain ⟨h0, h1⟩ := h
  go_enter Tryz.func146, Tryz.ntmps146
  go_wp2_with fail
  refine (isWay_any n _ ⟨h0, h1⟩).mono ?_; rintro e w' ⟨rfl, rfl⟩
  go_wp2_with fail
  refine (CO.out _).mono ?_; rintro e w' ⟨rfl, rfl⟩
  go_wp2
  go_ret
  exact ⟨rfl, rfl⟩
theorem specFaults_any (n : Int) (w : World) (h : 0 ≤ n ∧ n ≤ 15) : Calls Tryz.prog 88 #[.int .i64 n] w fun e w' => e = .returned (.int .i64 (fltI n)) ∧ w = w' := by
  have H := Lib.hid (show inB n 0 15 = true from inB_true.2 h)
  have hr := Lib.hid (show n.tmod 2 + (n.tdiv 2).tmod 2 + (n.tdiv 4).tmod 2 + n.tdiv 8 = fltI n by
    rw [Int.tmod_eq_emod_of_nonneg (by omega), Int.tdiv_eq_ediv_of_nonneg (by omega), Int.tdiv_eq_ediv_of_nonneg (by omega), Int.tdiv_eq_ediv_of_nonneg (by omega), Int.tmod_eq_emod_of_nonneg (by omega), Int.tmod_eq_emod_of_nonneg (by omega)]; rfl)
  obtain ⟨h0, h1⟩ := h
  go_enter Tryz.func88, Tryz.ntmps88
  go_wp2_with fail
  refine (l1In_val H.out _).mono ?_; rintro e w' ⟨rfl, rfl⟩
  go_wp2
  go_ret
  exact ⟨ret_int (by first | exact hr.out | (unfold fltI; omega)), rfl⟩
theorem specMark_any (r n : Int) (w : World) (hr : -100 ≤ r ∧ r ≤ 100) (hn : 0 ≤ n ∧ n ≤ 100) : Calls Tryz.prog 45 #[.int .i64 r, .int .i64 n] w fun e w' => e = .returned (.int .i64 (markI r n)) ∧ w = w' := by
  cases h1 : inB n 1 99
  · have hm := Lib.hid (mark_no (r := r) (n := n) (by rw [h1]; rfl))
    have H1 := Lib.hid h1; clear h1
    go_enter Tryz.func45, Tryz.ntmps45
    go_wp2_with fail
    refine (l1In_val H1.out _).mono ?_; rintro e w' ⟨rfl, rfl⟩
    go_wp2
    go_ret
    exact ⟨ret_int hm.out, rfl⟩
  cases h2 : inB r 0 n
  · have hm := Lib.hid (mark_no (r := r) (n := n) (by rw [h1, h2]; rfl))
    have H1 := Lib.hid h1; have H2 := Lib.hid h2; clear h1 h2
    go_enter Tryz.func45, Tryz.ntmps45
    go_wp2_with fail
    refine (l1In_val H1.out _).mono ?_; rintro e w' ⟨rfl, rfl⟩
    go_wp2_with fail
    refine (l1In_val H2.out _).mono ?_; rintro e w' ⟨rfl, rfl⟩
    go_wp2
    go_ret
    exact ⟨ret_int hm.out, rfl⟩
  have hm := Lib.hid (mark_yes h1 h2)
  have hne : (2 * n == 0) = false := by rw [beq_eq_false_iff_ne]; have := inB_true.1 h1; omega
  have hn1 : 1 ≤ n := (inB_true.1 h1).1
  have H1 := Lib.hid h1; have H2 := Lib.hid h2; clear h1 h2
  go_enter Tryz.func45, Tryz.ntmps45
  go_wp2_with fail
  refine (l1In_val H1.out _).mono ?_; rintro e w' ⟨rfl, rfl⟩
  go_wp2_with fail
  refine (l1In_val H2.out _).mono ?_; rintro e w' ⟨rfl, rfl⟩
  go_wp2
  go_ret
  exact ⟨ret_int (by first | exact hm.out | (rw [← hm.out]; rw [Int.tdiv_eq_ediv_of_nonneg (by have := inB_true.1 H2.out; omega)])), rfl⟩
end Go.Proofs.YtdngnmpmaacapaaGreatDoor
/-
  Contracts: SimplestFor of both.
-/
namespace Go.Proofs.YtdngnmpmaacapaaGreatDoor
open Go.RowKit

theorem sim_step {ws : List Int} {k : Nat} {z : Int} (hz : z = if k = 0 then ws.getD 0 0 else simTo ws k) (h0 : 0 ≤ z) :
    (if fltI (ws.getD k 0) < fltI z then ws.getD k 0 else z) = simTo ws (k + 1) := by
  by_cases hk : k = 0
  · subst hk
    rw [if_pos rfl] at hz
    subst hz
    rw [simTo_one, if_neg (by omega)]
  · rw [if_neg hk] at hz
    simp only [simTo, ← hz]
    by_cases hf : fltI (ws.getD k 0) < fltI z
    · rw [if_pos hf, if_pos (.inr hf)]
    · rw [if_neg hf, if_neg (by rintro (h | h) <;> omega)]
theorem simI_bd (xs : List Tst) : (waysI xs 16 = [] ∧ simI xs = -1) ∨ (waysI xs 16 ≠ [] ∧ 0 ≤ simI xs ∧ simI xs < 16) := by
  have hb := simTo_bd (ws := waysI xs 16) (fun y hy => by have := waysI_bd xs 16 y hy; omega) (waysI xs 16).length (Nat.le_refl _)
  unfold simI
  rcases hb with ⟨h1, h2⟩ | ⟨h1, h2, h3⟩
  · exact .inl ⟨List.eq_nil_of_length_eq_zero h1, h2⟩
  · exact .inr ⟨fun e => by rw [e] at h1; simp at h1, h2, h3⟩

set_option maxHeartbeats 2000000 in
set_option maxRecDepth 100000 in
theorem implSimplest_any (a : Option Addr) (cap : Nat) (xs : List Tst) (w : World) (hs : Sl w a (tests xs)) (hm : xs.length ≤ 1048576) (hz : Small xs) :
    Calls Tryz.prog 114 #[.slice a xs.length cap] w fun e w' => e = .returned (.tuple #[.int .i64 (simI xs), .bool (decide (0 ≤ simI xs))]) ∧ Fr w.heap.size none w w' := by
  have CW := Lib.hid (fun W hS => waysX_any a cap xs W hS hm hz)
  have HS := Lib.hid hs; clear hs
  have WB := Lib.hid (waysI_bd xs 16)
  have WL := waysI_len xs 16
  have SI := Lib.hid (show simI xs = simTo (waysI xs 16) (waysI xs 16).length from rfl)
  unfold NewW at CW
  generalize simI xs = sv at *
  generalize waysI xs 16 = ws at *
  by_cases he : ws.length = 0
  · have hr := Lib.hid (show sv = -1 by rw [SI.out, he]; rfl)
    have hz0 : ((ws.length : Int) == 0) = true := by rw [he]; rfl
    have HE := Lib.hid he; clear he
    go_enter Tryz.func114, Tryz.ntmps114
    go_wp2_with fail
    refine (CW.out _ HS.out).mono ?_; rintro e w1 ⟨a1, c1, rfl, hs1, hF1⟩
    have F1 := Lib.hid hF1; clear hs1 hF1
    go_wp2
    go_ret2
    exact ⟨by rw [hr.out]; rfl, F1.out⟩
  · have hz0 : ((ws.length : Int) == 0) = false := by rw [beq_eq_false_iff_ne]; omega
    have hpos : (0 : Int) < (ws.length : Int) := by omega
    have hp : 0 < ws.length := by omega
    clear he
    go_enter Tryz.func114, Tryz.ntmps114
    go_wp2_with fail
    refine (CW.out _ HS.out).mono ?_; rintro e w1 ⟨a1, c1, rfl, hs1, hF1⟩
    have F1 := Lib.hid hF1; have S1 := Lib.hid hs1; clear hs1 hF1
    obtain ⟨b, off, rfl, hc⟩ := S1.out.int 0 hp
    have hc0 : w1.cell? ⟨b, off, none⟩ = some (.int .i64 (ws.getD 0 0)) := hc
    have b0 := WB.out _ (getD_mem hp)
    obtain ⟨z0, hz0'⟩ : ∃ z, ws.getD 0 0 = z := ⟨_, rfl⟩
    rw [hz0'] at hc hc0 b0
    have HZ0 := Lib.hid hz0'; clear hz0'
    go_wp2
    go_loopw [5, 18] (fun v i wr => ∃ (k : Nat) (z : Int), k ≤ ws.length ∧ i = .int .i64 k ∧ v = .int .i64 z ∧ Hid (z = if k = 0 then ws.getD 0 0 else simTo ws k) ∧ 0 ≤ z ∧ z ≤ 15 ∧ wr = w1) (fun _ i _ => ws.length - (intOf i).toNat)
    case atStart => exact ⟨0, z0, Nat.zero_le _, rfl, rfl, Lib.hid HZ0.out.symm, by omega, by omega, rfl⟩
    case round =>
      obtain ⟨k, z, hk, rfl, rfl, hZ, z1, z2, rfl⟩ := hrel
      by_cases hlt : k < ws.length
      · obtain ⟨b', off', e', hck⟩ := S1.out.int k hlt
        cases e'
        have bk := WB.out _ (getD_mem hlt)
        have st := Lib.hid (sim_step (k := k) hZ.out z1)
        generalize ws.getD k 0 = y at *
        have y0 : 0 ≤ y ∧ y ≤ 15 := by omega
        have CY := Lib.hid (fun W => implFaults_any y W y0)
        have CZ := Lib.hid (fun W => implFaults_any z W ⟨z1, z2⟩)
        obtain ⟨fy, hfy⟩ : ∃ f, fltI y = f := ⟨_, rfl⟩
        obtain ⟨fz, hfz⟩ : ∃ f, fltI z = f := ⟨_, rfl⟩
        have st2 := st.out
        rw [hfy, hfz] at st2
        rw [hfy] at CY
        rw [hfz] at CZ
        have ST := Lib.hid st2
        clear st st2 hfy hfz hZ bk
        have k0 : (0 : Int) ≤ (k : Int) := by omega
        have k1 : (k : Int) < (ws.length : Int) := by omega
        by_cases hf : fy < fz
        · have e1 := Lib.hid (show y = if k + 1 = 0 then ws.getD 0 0 else simTo ws (k + 1) by rw [if_neg (by omega), ← ST.out, if_pos hf])
          go_wp2_with fail
          refine (CY.out _).mono ?_; rintro e w' ⟨rfl, rfl⟩
          go_wp2_with fail
          refine (CZ.out _).mono ?_; rintro e w' ⟨rfl, rfl⟩
          go_wp2
          go_roundw
          case rel => exact ⟨k + 1, y, by omega, by go_num, rfl, e1, y0.1, y0.2, by first | rfl | trivial⟩
          case measure => simp [intOf]; omega
        · have e1 := Lib.hid (show z = if k + 1 = 0 then ws.getD 0 0 else simTo ws (k + 1) by rw [if_neg (by omega), ← ST.out, if_neg hf])
          go_wp2_with fail
          refine (CY.out _).mono ?_; rintro e w' ⟨rfl, rfl⟩
          go_wp2_with fail
          refine (CZ.out _).mono ?_; rintro e w' ⟨rfl, rfl⟩
          go_wp2
          go_roundw
          case rel => exact ⟨k + 1, z, by omega, by go_num, rfl, e1, z1, z2, by first | rfl | trivial⟩
          case measure => simp [intOf]; omega
      · have hke : k = ws.length := by omega
        have hge : (ws.length : Int) ≤ (k : Int) := by omega
        have hr := Lib.hid (show z = sv by rw [hZ.out, if_neg (by omega), SI.out, hke])
        clear hke hZ
        go_wp2
        go_ret2
        exact ⟨by rw [← hr.out]; simp [z1], F1.out⟩

set_option maxHeartbeats 2000000 in
set_option maxRecDepth 100000 in
theorem specSimplest_any (a : Option Addr) (cap : Nat) (xs : List Tst) (w : World) (hs : Sl w a (tests xs)) (hok : testsOkB xs = true) (hz : Small xs) :
    Calls Tryz.prog 49 #[.slice a xs.length cap] w fun e w' => e = .returned (.tuple #[.int .i64 (simI xs), .bool (decide (0 ≤ simI xs))]) ∧ Fr w.heap.size none w w' := by
  have CW := Lib.hid (fun W hS => specWays_any a cap xs W hS hok hz)
  have HS := Lib.hid hs; clear hs
  have WB := Lib.hid (waysI_bd xs 16)
  have WL := waysI_len xs 16
  have SI := Lib.hid (show simI xs = simTo (waysI xs 16) (waysI xs 16).length from rfl)
  unfold NewW at CW
  generalize simI xs = sv at *
  generalize waysI xs 16 = ws at *
  have SB := Lib.hid (fun k hk => simTo_bd (ws := ws) (fun y hy => by have := WB.out y hy; omega) k hk)
  go_enter Tryz.func49, Tryz.ntmps49
  go_wp2_with fail
  refine (CW.out _ HS.out).mono ?_; rintro e w1 ⟨a1, c1, rfl, hs1, hF1⟩
  have F1 := Lib.hid hF1; have S1 := Lib.hid hs1; clear hs1 hF1
  go_wp2
  go_loopw [4, 6] (fun v i wr => ∃ (k : Nat) (z : Int), k ≤ ws.length ∧ i = .int .i64 k ∧ v = .int .i64 z ∧ Hid (simTo ws k = z) ∧ wr = w1) (fun _ i _ => ws.length - (intOf i).toNat)
  case atStart => exact ⟨0, -1, Nat.zero_le _, rfl, rfl, rfl, rfl⟩
  case round =>
    obtain ⟨k, z, hk, rfl, rfl, hZ, rfl⟩ := hrel
    have sb := SB.out k hk
    rw [hZ.out] at sb
    by_cases hlt : k < ws.length
    · obtain ⟨b, off, rfl, hck⟩ := S1.out.int k hlt
      have bk := WB.out _ (getD_mem hlt)
      have st := Lib.hid (show simTo ws (k + 1) = if z < 0 ∨ fltI (ws.getD k 0) < fltI z then ws.getD k 0 else z by simp only [simTo, hZ.out])
      generalize ws.getD k 0 = y at *
      have y0 : 0 ≤ y ∧ y ≤ 15 := by omega
      have CY := Lib.hid (fun W => specFaults_any y W y0)
      have CZ := Lib.hid (fun W h => specFaults_any z W h)
      obtain ⟨fy, hfy⟩ : ∃ f, fltI y = f := ⟨_, rfl⟩
      obtain ⟨fz, hfz⟩ : ∃ f, fltI z = f := ⟨_, rfl⟩
      have st2 := st.out
      rw [hfy, hfz] at st2
      rw [hfy] at CY
      rw [hfz] at CZ
      have ST := Lib.hid st2
      clear st st2 hfy hfz hZ bk
      have k0 : (0 : Int) ≤ (k : Int) := by omega
      have k1 : (k : Int) < (ws.length : Int) := by omega
      by_cases hneg : z < 0
      · have e1 := Lib.hid (show simTo ws (k + 1) = y by rw [ST.out, if_pos (.inl hneg)])
        clear sb
        go_wp2
        go_roundw
        case rel => exact ⟨k + 1, y, by omega, by go_num, rfl, e1, by first | rfl | trivial⟩
        case measure => simp [intOf]; omega
      · have zb : 0 ≤ z ∧ z ≤ 15 := by omega
        have hnn : 0 ≤ z := zb.1
        clear sb
        by_cases hf : fy < fz
        · have e1 := Lib.hid (show simTo ws (k + 1) = y by rw [ST.out, if_pos (.inr hf)])
          go_wp2_with fail
          refine (CY.out _).mono ?_; rintro e w' ⟨rfl, rfl⟩
          go_wp2_with fail
          refine (CZ.out _ zb).mono ?_; rintro e w' ⟨rfl, rfl⟩
          go_wp2
          go_roundw
          case rel => exact ⟨k + 1, y, by omega, by go_num, rfl, e1, by first | rfl | trivial⟩
          case measure => simp [intOf]; omega
        · have e1 := Lib.hid (show simTo ws (k + 1) = z by rw [ST.out, if_neg (by rintro (h | h) <;> omega)])
          go_wp2_with fail
          refine (CY.out _).mono ?_; rintro e w' ⟨rfl, rfl⟩
          go_wp2_with fail
          refine (CZ.out _ zb).mono ?_; rintro e w' ⟨rfl, rfl⟩
          go_wp2
          go_roundw
          case rel => exact ⟨k + 1, z, by omega, by go_num, rfl, e1, by first | rfl | trivial⟩
          case measure => simp [intOf]; omega
    · have hke : k = ws.length := by omega
      have hge : (ws.length : Int) ≤ (k : Int) := by omega
      have hr := Lib.hid (show z = sv by rw [SI.out, ← hke, hZ.out])
      clear hke hZ
      go_wp2
      all_goals go_ret2
      all_goals exact ⟨by rw [← hr.out]; rfl, F1.out⟩
end Go.Proofs.YtdngnmpmaacapaaGreatDoor
/-
  Contracts: AnsweredBy, ApartBy of the reference.
-/
namespace Go.Proofs.YtdngnmpmaacapaaGreatDoor
open Go.RowKit

theorem ansd_len (xs : List Tst) (way : Nat) : (ansd xs way).length = xs.length := by simp [ansd]
theorem ansd_take {xs : List Tst} {way k : Nat} (hk : k < xs.length) : (ansd xs way).take k ++ [((xs.getD k noTest).1, (xs.getD k noTest).2.1, tbI (xs.getD k noTest).1 (xs.getD k noTest).2.1 (way : Int))] = (ansd xs way).take (k + 1) := by
  have hk2 : k < (ansd xs way).length := by rw [ansd_len]; exact hk
  have e : xs.getD k noTest = xs[k] := by simp [List.getD_eq_getElem?_getD, hk]
  rw [List.take_succ_eq_append_getElem hk2, e]
  simp [ansd]
theorem app_tests' {w' : World} {base : Nat} {v' : Value} {xs ys : List Tst} {x1 x2 x3 : ByteArray} (h : w'.ownsRow base 52 3 v' (xs.length + 1) (tests xs ++ [.string x1, .string x2, .string x3])) (e : xs ++ [(x1, x2, x3)] = ys) :
    ∃ a c, v' = .slice a ys.length c ∧ w'.ownsRow base 52 3 (.slice a ys.length c) ys.length (tests ys) := by subst e; exact app_tests h
/-- New exercises. -/
def NewX (ys : List Tst) (w : World) (e : Ending) (w' : World) : Prop := ∃ a c, e = .returned (.slice a ys.length c) ∧ Sl w' a (tests ys) ∧ Fr w.heap.size none w w'
theorem newX_of {xs ys : List Tst} {w w' : World} {a : Option Addr} {cap : Nat} (h : xs = ys) (hs : Sl w' a (tests xs)) (hF : Fr w.heap.size none w w') : NewX ys w (.returned (.slice a xs.length cap)) w' := by
  subst h; exact ⟨a, cap, rfl, hs, hF⟩

set_option maxHeartbeats 2000000 in
set_option maxRecDepth 100000 in
theorem answeredX_any (a : Option Addr) (cap : Nat) (xs : List Tst) (way : Nat) (w : World) (hs : Sl w a (tests xs)) (hok : testsOkB xs = true) (hz : Small xs) (hw : way ≤ 15) :
    Calls Tryz.prog 89 #[.slice a xs.length cap, .int .i64 (way : Int)] w (NewX (ansd xs way) w) := by
  have hl6 := tests_le hok
  have HA := Lib.hid (fun k hk => tests_at hok k hk)
  have HW := Lib.hid (show inB (way : Int) 0 15 = true from inB_true.2 (by omega))
  have HS := Lib.hid hs; have HZ := Lib.hid hz; have HOK := Lib.hid hok; clear hs hz hok
  have TK := Lib.hid (fun k (hk : k < xs.length) => ansd_take (way := way) hk)
  have TE := Lib.hid (show (ansd xs way).take xs.length = ansd xs way by rw [← ansd_len xs way, List.take_length])
  have O0 := Lib.hid (World.ownsRow_made (e := 52) (size := 3) (base := w.heap.size) w #[] 0 (Nat.le_refl _) (by simp [maxLen]) (by simp))
  have F0 := Lib.hid ((Fr.refl w.heap.size none w).alloc (Nat.le_refl _) (.cells #[] 52))
  go_enter Tryz.func89, Tryz.ntmps89
  go_wp2
  go_loopw [5, 6] (fun v i wr => ∃ (k : Nat) (ys : List Tst) (a' : Option Addr) (c' : Nat), k ≤ xs.length ∧ i = .int .i64 k ∧ v = .slice a' ys.length c' ∧ Hid ((ansd xs way).take k = ys) ∧ ys.length ≤ 6 ∧ wr.ownsRow w.heap.size 52 3 (.slice a' ys.length c') ys.length (tests ys) ∧ Fr w.heap.size none w wr) (fun _ i _ => xs.length - (intOf i).toNat)
  case atStart => exact ⟨0, [], some ⟨w.heap.size, 0, none⟩, 0, Nat.zero_le _, rfl, rfl, rfl, by simp, O0.out, F0.out⟩
  case round =>
    obtain ⟨k, ys, a', c', hk, rfl, rfl, hY, hl2, ho, hF⟩ := hrel
    have HO := Lib.hid ho; have HF := Lib.hid hF; have hz := hF.size
    clear ho hF
    by_cases hlt : k < xs.length
    · have hlt' : (k : Int) < (xs.length : Int) := by omega
      go_wp2_with (first | (go_at_call 54; refine (specTests_val (HS.out.fr HF.out) (by omega) HZ.out HOK.out).mono ?_; rintro e w2 ⟨rfl, m, rfl⟩) | (go_at_call 86; refine (l1In_val HW.out _).mono ?_; rintro e w' ⟨rfl, rfl⟩))
      obtain ⟨w1, hw1⟩ : ∃ w1, w1 = wr.drewN m := ⟨_, rfl⟩
      have F1 := Lib.hid (show Fr w.heap.size none w w1 by rw [hw1]; exact HF.out.drewN m)
      have O1 := Lib.hid (show w1.ownsRow w.heap.size 52 3 (.slice a' ys.length c') ys.length (tests ys) by rw [hw1]; exact own_drewN HO.out m)
      have z1 := F1.out.size
      rw [← hw1]; clear hw1
      have hlo : ∀ q, a = some q → q.block < w.heap.size := by
        intro q hq
        obtain ⟨b', off', e', h0', _⟩ := HS.out.test k hlt
        rw [e'] at hq; cases hq
        exact World.block_lt_of_cell? w ⟨b', off' + k * 3, none⟩ h0'
      obtain ⟨b, off, rfl, hc0, _, _, hc1, hc2⟩ := (HS.out.fr F1.out).test k hlt
      have hbw : b < w.heap.size := hlo _ rfl
      clear hlo
      have ho := HA.out k hlt
      have e0 := Lib.hid (show ys ++ [((xs.getD k noTest).1, (xs.getD k noTest).2.1, tbI (xs.getD k noTest).1 (xs.getD k noTest).2.1 (way : Int))] = (ansd xs way).take (k + 1) by rw [← hY.out]; exact TK.out k hlt)
      obtain ⟨t1, t2, t3⟩ := HZ.out.at k
      generalize xs.getD k noTest = x at *
      obtain ⟨x1, x2, x3⟩ := x
      dsimp only at *
      have CT := Lib.hid (fun W => specTakenByX x1 x2 (way : Int) W t1 t2)
      have hx : tbX x1 x2 (way : Int) = (tbI x1 x2 (way : Int), true) := by unfold tbX; rw [HW.out]; simp [ho]
      rw [hx] at CT
      dsimp only at CT
      clear hx ho
      obtain ⟨y, hy⟩ : ∃ y, tbI x1 x2 (way : Int) = y := ⟨_, rfl⟩
      rw [hy] at CT e0
      clear hy
      obtain ⟨zs, hzs⟩ : ∃ z, (ansd xs way).take (k + 1) = z := ⟨_, rfl⟩
      have HZS := Lib.hid hzs
      rw [hzs] at e0
      have hzl : zs.length ≤ 6 := by rw [← hzs, List.length_take]; omega
      clear hzs
      have hb := World.block_lt_of_cell? w1 _ hc0
      dsimp only at hb
      have k0 : (0 : Int) ≤ (k : Int) := by omega
      go_wp2
      go_region_held3 (fun w' => w'.cell? ⟨b, off + k * 3, none⟩ = some (.string x1) ∧ w'.cell? ⟨b, off + k * 3 + 1, none⟩ = some (.string x2))
        (first | go_keep | (go_split_ands; refine ⟨?_, ?_⟩ <;> (rw [hF2.cell (by first | (simpa using hb) | (simp; omega)) (by simp)]; assumption)))
        (first | (go_at_call 106; refine (CT.out _).mono ?_; rintro e w2 ⟨rfl, hF2⟩))
      have F2 := Lib.hid (F1.out.and (((Fr.refl w1.heap.size none w1).drew).and hF2))
      have O2 := Lib.hid (row_keep O1.out (((Fr.refl w1.heap.size none w1).drew).and hF2))
      have d0 : w2.cell? ⟨b, off + k * 3, none⟩ = some (.string x1) := (hF2.cell (p := ⟨b, off + k * 3, none⟩) hb (by simp)).trans hc0
      have d1 : w2.cell? ⟨b, off + k * 3 + 1, none⟩ = some (.string x2) := (hF2.cell (p := ⟨b, off + k * 3 + 1, none⟩) hb (by simp)).trans hc1
      have z2 := F2.out.size
      have hne : some b ≠ (Value.slice a' ys.length c').ownBlock := fun e => by have := (own_lt O2.out b e.symm).1; omega
      have hne := Lib.hid hne
      clear hF2 hc0 hc1 hc2
      go_wp2
      go_region_held3 (fun w' => w'.cell? ⟨b, off + k * 3, none⟩ = some (.string x1) ∧ w'.cell? ⟨b, off + k * 3 + 1, none⟩ = some (.string x2))
        (first | go_keep | (go_split_ands; refine ⟨?_, ?_⟩ <;> (rw [hF'.cell (by simp; omega) (by first | exact hne.out | simpa using hne.out)]; assumption)))
        (first | (refine stepOwn (by rfl) (.tmp 39) (.tmp 52) (by rfl) _ ys.length ys x1 x2 y w2.heap.size (by rfl) ((own_drewN O2.out 1).alloc _) (by rfl) (World.alloc_heap_new _ _) (by omega) (by simp; omega) ?_; intro v' w' ho' hF'))
      have F3 := Lib.hid (app_frame (F2.out.drew.alloc z2 _) ((own_drewN O2.out 1).alloc _) hF' (by simp; omega))
      obtain ⟨a3, c3, rfl, ho3⟩ := app_tests' ho' e0.out
      have O3 := Lib.hid ho3
      clear ho' hF' ho3
      go_wp2
      go_roundw
      case rel => exact ⟨k + 1, zs, a3, c3, by omega, by go_num, rfl, HZS, hzl, O3.out, F3.out⟩
      case measure => simp [intOf]; omega
    · have hge : (xs.length : Int) ≤ (k : Int) := by omega
      have hke : k = xs.length := by omega
      have e1 := Lib.hid (show ys = ansd xs way by rw [← hY.out, hke, TE.out])
      clear hke hY
      go_wp2
      go_ret
      exact newX_of e1.out (own_sl HO.out) HF.out

set_option maxHeartbeats 2000000 in
set_option maxRecDepth 100000 in
theorem specApart_any (a : Option Addr) (cap : Nat) (xs : List Tst) (w : World) (hs : Sl w a (tests xs)) (hok : testsOkB xs = true) (hz : Small xs) :
    Calls Tryz.prog 50 #[.slice a xs.length cap] w fun e w' => e = .returned (.int .i64 (apartTo xs 16 : Int)) ∧ Fr w.heap.size none w w' := by
  have hl6 := tests_le hok
  have CA := Lib.hid (fun (o : Nat) W hS (ho : o ≤ 15) => answeredX_any a cap xs o W hS hok hz ho)
  have CE := Lib.hid (fun (o way : Nat) a' c' W hS (hw : way ≤ 15) => specExplains_any a' c' (ansd xs o) (way : Int) W hS (by rw [ansd_ok]; exact hok) (small_ansd hz o) (by omega))
  have EE := Lib.hid (fun (o way : Nat) => exp_ansd hok o way)
  have HS := Lib.hid hs; have HZ := Lib.hid hz; have HOK := Lib.hid hok; clear hs hz hok
  have AL := Lib.hid (fun k => apartTo_le xs k)
  go_enter Tryz.func50, Tryz.ntmps50
  go_wp2_with fail
  refine (specTests_val HS.out (by omega) HZ.out HOK.out).mono ?_; rintro e w1 ⟨rfl, m, rfl⟩
  have F1 := Lib.hid ((Fr.refl w.heap.size none w).drewN m)
  generalize w.drewN m = w1 at *
  go_wp2
  go_loopw [3, 4] (fun v i wr => ∃ (k n : Nat), k ≤ 16 ∧ i = .int .i64 k ∧ v = .int .i64 n ∧ n ≤ k ∧ Hid (apartTo xs k = n) ∧ Fr w.heap.size none w wr) (fun _ i _ => 16 - (intOf i).toNat)
  case atStart => exact ⟨0, 0, by omega, rfl, rfl, by omega, rfl, F1.out⟩
  case round =>
    obtain ⟨k, n, hk, rfl, rfl, hnk, hN, hF⟩ := hrel
    have HF := Lib.hid hF; clear hF
    by_cases hlt : k < 16
    · have hlt' : (k : Int) < 16 := by omega
      have k0 : (0 : Int) ≤ (k : Int) := by omega
      have n0 : (0 : Int) ≤ (n : Int) := by omega
      go_wp2
      go_loopw [5, 6] (fun v i wi => ∃ (o : Nat) (f : Bool) (z : Int), o ≤ k ∧ i = .int .i64 o ∧ v = .int .i64 z ∧ (0 ≤ z ∧ z ≤ 1) ∧ Hid (z = if f then 1 else 0) ∧ Hid (freshTo xs k o = f) ∧ Fr w.heap.size none w wi) (fun _ i _ => k - (intOf i).toNat)
      case atStart => exact ⟨0, true, 1, by omega, rfl, rfl, by omega, rfl, rfl, HF.out⟩
      case round =>
        obtain ⟨o, f, z, ho, rfl, rfl, hzb, hfz, hf, hF2⟩ := hrel
        have HF2 := Lib.hid hF2; clear hF2
        by_cases hlt2 : o < k
        · have hlt2' : (o : Int) < (k : Int) := by omega
          have o0 : (0 : Int) ≤ (o : Int) := by omega
          have FS := Lib.hid (freshTo_succ xs k o)
          have CA1 := Lib.hid (fun W hS => CA.out o W hS (by omega))
          have CE1 := Lib.hid (fun a' c' W hS => CE.out o k a' c' W hS (by omega))
          rw [EE.out o k] at CE1
          unfold NewX at CA1
          obtain ⟨r, hr⟩ : ∃ r, decide (ansI xs o = ansI xs k) = r := ⟨_, rfl⟩
          rw [hr] at CE1
          have fs := Lib.hid (show freshTo xs k (o + 1) = (f && !r) by rw [FS.out, hf.out, ← hr]; simp)
          clear hr FS hf
          generalize ansd xs o = ys at *
          have S2 := Lib.hid (HS.out.fr HF2.out)
          go_wp2_with fail
          refine (CA1.out _ S2.out).mono ?_; rintro e w2 ⟨a2, c2, rfl, hs2, hF3⟩
          have F3 := Lib.hid (HF2.out.and hF3)
          have S3 := Lib.hid hs2
          clear hF3 hs2
          go_wp2_with fail
          refine (CE1.out _ _ _ S3.out).mono ?_; rintro e w3 ⟨rfl, hF4⟩
          have F4 := Lib.hid (F3.out.and hF4)
          clear hF4
          cases r
          · go_wp2
            go_roundw
            case rel => exact ⟨o + 1, f, z, by omega, by go_num, rfl, hzb, hfz, by show freshTo xs k (o + 1) = f; rw [fs.out]; simp, F4.out⟩
            case measure => simp [intOf]; omega
          · go_wp2
            go_roundw
            case rel => exact ⟨o + 1, false, 0, by omega, by go_num, rfl, by omega, rfl, by show freshTo xs k (o + 1) = false; rw [fs.out]; simp, F4.out⟩
            case measure => simp [intOf]; omega
        · have hoe : o = k := by omega
          have hge : (k : Int) ≤ (o : Int) := by omega
          have hfr := Lib.hid (show freshI xs k = f by rw [← freshTo_end, ← hf.out, hoe])
          clear hoe hf
          cases f
          · have e1 := Lib.hid ((apartTo_no hfr.out).trans hN.out)
            obtain rfl : z = 0 := hfz.out
            go_wp2
            go_roundw
            case rel => exact ⟨k + 1, n, by omega, by go_num, by first | rfl | simp, by omega, e1, HF2.out⟩
            case measure => simp [intOf]; omega
          · have e1 := Lib.hid ((apartTo_yes hfr.out).trans (by rw [hN.out] : apartTo xs k + 1 = n + 1))
            obtain rfl : z = 1 := hfz.out
            go_wp2
            go_roundw
            case rel => exact ⟨k + 1, n + 1, by omega, by go_num, by first | rfl | go_num | simp, by omega, e1, HF2.out⟩
            case measure => simp [intOf]; omega
    · have hke : k = 16 := by omega
      subst hke
      have e1 := Lib.hid (show (n : Int) = (apartTo xs 16 : Int) by rw [hN.out])
      clear hN
      go_wp2
      go_ret
      exact ⟨ret_int e1.out, HF.out⟩
end Go.Proofs.YtdngnmpmaacapaaGreatDoor
