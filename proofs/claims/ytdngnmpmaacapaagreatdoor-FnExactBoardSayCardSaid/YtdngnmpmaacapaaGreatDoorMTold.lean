/-
  Merged: Told QuestI.
-/
import Derived.Test.YtdngnmpmaacapaaGreatDoorMRowsC
import Derived.Test.YtdngnmpmaacapaaGreatDoorMShelfI
import Derived.Test.YtdngnmpmaacapaaGreatDoorMTell
import Derived.Test.YtdngnmpmaacapaaGreatDoorMAskP
import Derived.Lib.AppendIntMem
import Derived.Test.YtdngnmpmaacapaaGreatDoorMScoreC
set_option linter.unusedVariables false
set_option linter.unusedSimpArgs false
/-
  Contracts: told, ApartBy of the program; strconv.Itoa, where the library's table of powers of ten lies as its text lays it.
-/
namespace Go.Proofs.YtdngnmpmaacapaaGreatDoor
open Go.RowKit

/-- The library's table of powers of ten. -/
def Tab (w : World) : Prop := Lib.TabIs Tryz.prog w "internal/strconv.uint64pow10" .u64 Lib.pow10Tab
theorem Tab.fr {w w' : World} (h : Tab w) (hF : Fr w.heap.size none w w') : Tab w' := by
  unfold Tab Lib.TabIs World.var? at h ⊢
  cases hg : Tryz.prog.globalNamed "internal/strconv.uint64pow10" with
  | none => rw [hg] at h; simp at h
  | some g =>
    rw [hg] at h
    simp only [Option.bind_some] at h ⊢
    have hlt : g < w.heap.size := by
      rcases Nat.lt_or_ge g w.heap.size with h' | h'
      · exact h'
      · rw [Array.getElem?_eq_none h'] at h; cases h
    rw [hF.block g hlt (by simp)]
    exact h
theorem itoaT (n : Nat) (w : World) (hn : n < 1000) (hT : Tab w) : Calls Tryz.prog 111 #[.int .i64 (n : Int)] w fun e w' => e = .returned (.string (decS n)) ∧ Fr w.heap.size none w w' := by
  refine (itoa_all (n : Int) (by omega) (by omega) w hT).mono ?_
  rintro e w' ⟨rfl, k, os, rfl⟩
  refine ⟨?_, Fr.of_below (Lib.below_grow _ _ (Nat.le_refl _) k os)⟩
  have : Lib.itoa (n : Int) = Lib.decDigits n := by unfold Lib.itoa; rw [if_neg (by omega)]; simp
  rw [this]; rfl
theorem itoa_minus : (⟨(Lib.itoa (-1)).toArray⟩ : ByteArray) = ⟨#[45, 49]⟩ := by
  have h : Lib.itoa (-1) = [45, 49] := by
    unfold Lib.itoa
    rw [if_pos (by omega)]
    show 45 :: Lib.decDigits 1 = _
    rw [Lib.decDigits, dif_pos (by omega)]
    rfl
  rw [h]
theorem itoaM (w : World) (hT : Tab w) : Calls Tryz.prog 111 #[.int .i64 (-1)] w fun e w' => e = .returned (.string ⟨#[45, 49]⟩) ∧ Fr w.heap.size none w w' := by
  refine (itoa_all (-1) (by omega) (by omega) w hT).mono ?_
  rintro e w' ⟨rfl, k, os, rfl⟩
  exact ⟨by rw [itoa_minus], Fr.of_below (Lib.below_grow _ _ (Nat.le_refl _) k os)⟩
theorem dec_zero : decS 0 = ⟨#[48]⟩ := (decS_one (n := 0) (by omega)).trans rfl
theorem itoaS (n : Nat) (w : World) (hn : n < 100) : Calls Tryz.prog 111 #[.int .i64 (n : Int)] w fun e w' => e = .returned (.string (decS n)) ∧ Fr w.heap.size none w w' := by
  refine (itoa_small n hn w).mono ?_
  rintro e w' ⟨rfl, rfl⟩
  exact ⟨rfl, Fr.refl _ _ _⟩
theorem toldS_neg {n : Int} (h : n < 0) : noneS = toldS n := by unfold toldS; rw [if_pos h]
theorem toldS_nat (n : Nat) : decS n = toldS (n : Int) := by unfold toldS; rw [if_neg (by omega)]; simp
theorem toldI_any (n : Int) (w : World) (h0 : -1 ≤ n) (h1 : n < 1000) (hT : Tab w) : Calls Tryz.prog 107 #[.int .i64 n] w fun e w' => e = .returned (.string (toldS n)) ∧ Fr w.heap.size none w w' := by
  by_cases hn : n < 0
  · have hr := Lib.hid (toldS_neg hn)
    go_enter Tryz.func107, Tryz.ntmps107
    go_wp2
    go_ret
    exact ⟨by rw [← hr.out]; rfl, Fr.refl _ _ _⟩
  · obtain ⟨k, rfl⟩ : ∃ k : Nat, n = (k : Int) := ⟨n.toNat, by omega⟩
    have hr := Lib.hid (toldS_nat k)
    have CI := Lib.hid (fun W hT => itoaT k W (by omega) hT)
    have HT := Lib.hid hT; clear hT
    have hk : (0 : Int) ≤ (k : Int) := by omega
    go_enter Tryz.func107, Tryz.ntmps107
    go_wp2_with fail
    refine (CI.out _ HT.out).mono ?_; rintro e w1 ⟨rfl, hF1⟩
    go_wp2
    go_ret
    exact ⟨by rw [← hr.out]; rfl, hF1⟩

set_option maxRecDepth 100000 in
theorem implApart_any (a : Option Addr) (cap : Nat) (xs : List Tst) (w : World) (hs : Sl w a (tests xs)) (hok : testsOkB xs = true) (hz : Small xs) :
    Calls Tryz.prog 115 #[.slice a xs.length cap] w fun e w' => e = .returned (.int .i64 (apartTo xs 16 : Int)) ∧ Fr w.heap.size none w w' := by
  have hl6 := tests_le hok
  have CL := Lib.hid (fun b cb W hS hb => lots_any a cap xs b cb W hS hok hb)
  have HS := Lib.hid hs; have HZ := Lib.hid hz; have HOK := Lib.hid hok
  clear hs hz hok
  have AK := Lib.hid (apart_keys xs 16)
  go_enter Tryz.func115, Tryz.ntmps115
  go_wp2_with fail
  refine (implTests_val HS.out (by omega) HZ.out HOK.out).mono ?_; rintro e w1 ⟨rfl, hF1⟩
  have F1 := Lib.hid hF1; clear hF1
  go_wp2_with fail
  refine (whichAll_any _).mono ?_; rintro e w2 ⟨⟨b, cb, rfl, hsb⟩, hF2⟩
  have F2 := Lib.hid (F1.out.and hF2)
  have SB := Lib.hid hsb
  clear hF2 hsb
  go_wp2_with fail
  refine (CL.out _ _ _ (HS.out.fr F2.out) SB.out).mono ?_; rintro e w3 ⟨⟨B, n, rfl, D, hown, hsz, _⟩, hF3⟩
  have F3 := Lib.hid (F2.out.and hF3)
  have HSZ := Lib.hid (show (Go.Maps.size D : Int) = (apartTo xs 16 : Int) by rw [hsz, AK.out])
  clear hF3 hsz
  go_wp2_with (at_len; go_loud (refine wpList_len_own _ rfl _ 144 rfl 9 3 Tryz.underlying144 _ B n D rfl hown ?_))
  go_ret
  exact ⟨by rw [← HSZ.out]; rfl, F3.out⟩
end Go.Proofs.YtdngnmpmaacapaaGreatDoor
/-
  Contracts: question of the program: a question of one word. (Printed by gen_quest.py.)
-/
namespace Go.Proofs.YtdngnmpmaacapaaGreatDoor
open Go.RowKit

theorem board_tests {xs : List Tst} (h : boardOkB xs = true) : testsOkB xs = true := by
  simp only [boardOkB, Bool.and_eq_true] at h; exact h.1
/-- An answer, and that it is one. -/
def SaidPost (t : ByteArray) (w : World) (e : Ending) (w' : World) : Prop := e = .returned (.tuple #[.string t, .bool true]) ∧ Fr w.heap.size none w w'
theorem parts_step {ys : List Int} {k : Nat} (hk : k < ys.length) : (ys.take k).map (fun y => decS y.toNat) ++ [decS (ys.getD k 0).toNat] = (ys.take (k + 1)).map (fun y => decS y.toNat) := by
  rw [take_int hk]; simp
theorem ways_text {ys : List Int} : orS (joinS (ys.map fun y => decS y.toNat) [44]) (decide (0 < (ys.length : Int))) = rowTextI ys := by
  unfold rowTextI
  by_cases h : ys = []
  · subst h; rfl
  · have : 0 < ys.length := List.length_pos_iff.2 h
    rw [if_neg h, decide_eq_true (by omega)]; rfl
set_option maxHeartbeats 2000000 in
set_option maxRecDepth 100000 in
theorem quest_score (a : Option Addr) (cap : Nat) (xs : List Tst) (w : World) (hT : Tab w) (hs : Sl w a (tests xs)) (hok : boardOkB xs = true) (hz : Small xs) :
    Calls Tryz.prog 82 #[.slice a xs.length cap, .string ⟨#[115, 99, 111, 114, 101]⟩] w (SaidPost (decS (scoreN xs)) w) := by
  have hl := board_le hok
  have hok2 := board_tests hok
  have CS := Lib.hid (fun W hS => implScore_any a cap xs W hS hok2 hz)
  have CT := Lib.hid (fun W hT => toldI_any (scoreN xs : Int) W (by omega) (by have := scoreN_le xs; omega) hT)
  rw [← toldS_nat] at CT
  have HS := Lib.hid hs; have HT := Lib.hid hT
  clear hs hok hok2 hz hT
  generalize decS (scoreN xs) = t at *
  go_enter Tryz.func82, Tryz.ntmps82
  go_wp2_with fail
  refine (CS.out _ HS.out).mono ?_; rintro e w1 ⟨rfl, hF1⟩
  have F1 := Lib.hid hF1; clear hF1
  go_wp2_with fail
  refine (CT.out _ (HT.out.fr F1.out)).mono ?_; rintro e w2 ⟨rfl, hF2⟩
  go_wp2
  go_ret2
  exact ⟨rfl, F1.out.and hF2⟩
set_option maxHeartbeats 2000000 in
set_option maxRecDepth 100000 in
theorem quest_mark (a : Option Addr) (cap : Nat) (xs : List Tst) (w : World) (hT : Tab w) (hs : Sl w a (tests xs)) (hok : boardOkB xs = true) (hz : Small xs) :
    Calls Tryz.prog 82 #[.slice a xs.length cap, .string ⟨#[109, 97, 114, 107]⟩] w (SaidPost (toldS (markI (scoreN xs) xs.length)) w) := by
  have hl := board_le hok
  have hok2 := board_tests hok
  have hsc := scoreN_le xs
  have CS := Lib.hid (fun W hS => implScore_any a cap xs W hS hok2 hz)
  have CM := Lib.hid (fun W => implMark_any (scoreN xs : Int) (xs.length : Int) W (by omega) (by omega))
  have hb := markI_bd (scoreN xs : Int) (xs.length : Int)
  have CT := Lib.hid (fun W hT => toldI_any (markI (scoreN xs : Int) (xs.length : Int)) W (by omega) (by omega) hT)
  have HS := Lib.hid hs; have HT := Lib.hid hT
  clear hs hok hok2 hz hT hb
  generalize toldS (markI (scoreN xs : Int) (xs.length : Int)) = t at *
  generalize markI (scoreN xs : Int) (xs.length : Int) = mk at *
  go_enter Tryz.func82, Tryz.ntmps82
  go_wp2_with fail
  refine (CS.out _ HS.out).mono ?_; rintro e w1 ⟨rfl, hF1⟩
  have F1 := Lib.hid hF1; clear hF1
  go_wp2_with fail
  refine (CM.out _).mono ?_; rintro e w' ⟨rfl, rfl⟩
  go_wp2_with fail
  refine (CT.out _ (HT.out.fr F1.out)).mono ?_; rintro e w2 ⟨rfl, hF2⟩
  go_wp2
  go_ret2
  exact ⟨rfl, F1.out.and hF2⟩
set_option maxHeartbeats 2000000 in
set_option maxRecDepth 100000 in
theorem quest_ways (a : Option Addr) (cap : Nat) (xs : List Tst) (w : World) (hT : Tab w) (hs : Sl w a (tests xs)) (hok : boardOkB xs = true) (hz : Small xs) :
    Calls Tryz.prog 82 #[.slice a xs.length cap, .string ⟨#[119, 97, 121, 115]⟩] w (SaidPost (rowTextI (waysI xs 16)) w) := by
  have hl := board_le hok
  have hok2 := board_tests hok
  have CW := Lib.hid (fun W hS => waysX_any a cap xs W hS (by omega) hz)
  have WB := Lib.hid (waysI_bd xs 16)
  have WL := waysI_len xs 16
  have WT := Lib.hid (ways_text (ys := waysI xs 16))
  have HS := Lib.hid hs; have HT := Lib.hid hT
  clear hs hok hok2 hz hT
  unfold NewW at CW
  generalize rowTextI (waysI xs 16) = t at *
  generalize waysI xs 16 = ys at *
  have PS := Lib.hid (fun k (hk : k < ys.length) => parts_step hk)
  have PL := Lib.hid (fun k => show ((ys.take k).map (fun y => decS y.toNat)).length ≤ 16 by rw [List.length_map, List.length_take]; omega)
  have PE := Lib.hid (show (ys.take ys.length).map (fun y => decS y.toNat) = ys.map (fun y => decS y.toNat) by rw [List.take_length])
  have PM := Lib.hid (show (ys.map (fun y => decS y.toNat)).length = ys.length by simp)
  have PZ := Lib.hid (show ∀ x ∈ ys.map (fun y => decS y.toNat), x.size ≤ 2 by
    intro x hx
    rw [List.mem_map] at hx
    obtain ⟨y, hy, rfl⟩ := hx
    have := WB.out y hy
    exact decS_size2 (by omega))
  go_enter Tryz.func82, Tryz.ntmps82
  go_wp2_with fail
  refine (CW.out _ HS.out).mono ?_; rintro e w1 ⟨a1, c1, rfl, hs1, hF1⟩
  have F1 := Lib.hid hF1; have S1 := Lib.hid hs1; clear hs1 hF1
  go_wp2
  go_loopw [6, 30] (fun v i wr => ∃ (k : Nat) (ps : List ByteArray) (a' : Option Addr) (c' : Nat), k ≤ ys.length ∧ i = .int .i64 k ∧ v = .slice a' ps.length c' ∧ Hid ((ys.take k).map (fun y => decS y.toNat) = ps) ∧ wr.ownsRow w1.heap.size 9 1 (.slice a' ps.length c') ps.length (strs ps) ∧ Fr w1.heap.size none w1 wr) (fun _ i _ => ys.length - (intOf i).toNat)
  case atStart => exact ⟨0, [], none, 0, Nat.zero_le _, rfl, rfl, rfl, World.ownsRow_nil _ _ _ _, Fr.refl _ _ _⟩
  case round =>
    obtain ⟨k, ps, a', c', hk, rfl, rfl, hP, ho, hF⟩ := hrel
    have HF := Lib.hid hF; have HO := Lib.hid ho; have hz1 := hF.size; clear hF ho
    have pl := PL.out k
    rw [hP.out] at pl
    by_cases hlt : k < ys.length
    · obtain ⟨b, off, rfl, hc⟩ := (S1.out.fr HF.out).int k hlt
      have bd := WB.out _ (getD_mem hlt)
      have e0 := Lib.hid (show ps ++ [decS (ys.getD k 0).toNat] = (ys.take (k + 1)).map (fun y => decS y.toNat) by rw [← hP.out]; exact PS.out k hlt)
      obtain ⟨y, hy⟩ : ∃ y : Nat, ys.getD k 0 = (y : Int) := ⟨(ys.getD k 0).toNat, by omega⟩
      rw [hy] at hc e0 bd
      rw [show ((y : Int)).toNat = y by omega] at e0
      have CI := Lib.hid (fun W => itoaS y W (by omega))
      obtain ⟨zs, hzs⟩ : ∃ z, (ys.take (k + 1)).map (fun y => decS y.toNat) = z := ⟨_, rfl⟩
      have HZS := Lib.hid hzs
      rw [hzs] at e0
      generalize decS y = dy at *
      clear hy hzs bd
      have k0 : (0 : Int) ≤ (k : Int) := by omega
      have k1 : (k : Int) < (ys.length : Int) := by omega
      go_wp2_with fail
      refine (CI.out _).mono ?_; rintro e w2 ⟨rfl, hF2⟩
      have F2 := Lib.hid (HF.out.and hF2)
      have O2 := Lib.hid (own_keep HO.out hF2)
      have z2 := F2.out.size
      clear hF2
      go_wp2_with (at_builtin; refine app1 32 9 (.string ByteArray.empty) 1 16 Tryz.underlying32 infoStr rfl (by decide) (by decide) rfl _ _ rfl [.string dy] O2.out rfl rfl rfl (by simp [Value.oneCell']) (by omega) z2 ?_; intro v' w' ho' hF'; (
        have F3 := Lib.hid (app_frame F2.out O2.out hF' z2)
        obtain ⟨a2, c2, rfl, ho3⟩ := app_strs ho' e0.out
        have O3 := Lib.hid ho3
        clear ho' hF' ho3))
      go_roundw
      case rel => exact ⟨k + 1, zs, a2, c2, by omega, by go_num, rfl, HZS, O3.out, F3.out⟩
      case measure => simp [intOf]; omega
    · have hke : k = ys.length := by omega
      have hge : (ys.length : Int) ≤ (k : Int) := by omega
      have e1 := Lib.hid (show ps = ys.map (fun y => decS y.toNat) by rw [← hP.out, hke, PE.out])
      have el := Lib.hid (show ps.length = ys.length by rw [e1.out, PM.out])
      have CJ := Lib.hid (fun W hS => join_any a' c' ps 44 2 W hS (own_caps HO.out).1 (by omega) (by omega) (fun x hx => by rw [e1.out] at hx; exact PZ.out x hx))
      have hwt := Lib.hid (show orS (joinS ps [44]) (decide (0 < (ps.length : Int))) = t by rw [el.out, e1.out]; exact WT.out)
      clear hke hP e1 el PS PL PE PM PZ WT WB
      obtain ⟨J, hJ⟩ : ∃ z, joinS ps [44] = z := ⟨_, rfl⟩
      rw [hJ] at CJ hwt
      clear hJ
      obtain ⟨q, hq⟩ : ∃ z, decide (0 < (ps.length : Int)) = z := ⟨_, rfl⟩
      rw [hq] at hwt
      have hq2 : decide (0 < ps.length) = q := by rw [← hq]; simp
      have CO := Lib.hid (fun W => or_any J q W)
      rw [hwt.out] at CO
      go_wp2_with fail
      refine (CJ.out _ (own_sl HO.out)).mono ?_; rintro e w2 ⟨rfl, hF2⟩
      have F2 := Lib.hid (HF.out.and hF2); clear hF2
      go_wp2_with fail
      refine (CO.out _).mono ?_; rintro e w' ⟨rfl, rfl⟩
      go_wp2
      go_ret2
      exact ⟨rfl, F1.out.and F2.out⟩
set_option maxHeartbeats 2000000 in
set_option maxRecDepth 100000 in
theorem quest_simplest (a : Option Addr) (cap : Nat) (xs : List Tst) (w : World) (hT : Tab w) (hs : Sl w a (tests xs)) (hok : boardOkB xs = true) (hz : Small xs) :
    Calls Tryz.prog 82 #[.slice a xs.length cap, .string ⟨#[115, 105, 109, 112, 108, 101, 115, 116]⟩] w (SaidPost (toldS (simI xs)) w) := by
  have hl := board_le hok
  have hok2 := board_tests hok
  have CS := Lib.hid (fun W hS => implSimplest_any a cap xs W hS (by omega) hz)
  have hb : -1 ≤ simI xs ∧ simI xs < 16 := by rcases simI_bd xs with ⟨_, h⟩ | ⟨_, h⟩ <;> omega
  have CT := Lib.hid (fun W hT => toldI_any (simI xs) W (by omega) (by omega) hT)
  have HS := Lib.hid hs; have HT := Lib.hid hT
  clear hs hok hok2 hz hT hb
  generalize toldS (simI xs) = t at *
  generalize decide (0 ≤ simI xs) = q at *
  generalize simI xs = s at *
  go_enter Tryz.func82, Tryz.ntmps82
  go_wp2_with fail
  refine (CS.out _ HS.out).mono ?_; rintro e w1 ⟨rfl, hF1⟩
  have F1 := Lib.hid hF1; clear hF1
  go_wp2_with fail
  refine (CT.out _ (HT.out.fr F1.out)).mono ?_; rintro e w2 ⟨rfl, hF2⟩
  go_wp2
  go_ret2
  exact ⟨rfl, F1.out.and hF2⟩
set_option maxHeartbeats 2000000 in
set_option maxRecDepth 100000 in
theorem quest_apart (a : Option Addr) (cap : Nat) (xs : List Tst) (w : World) (hT : Tab w) (hs : Sl w a (tests xs)) (hok : boardOkB xs = true) (hz : Small xs) :
    Calls Tryz.prog 82 #[.slice a xs.length cap, .string ⟨#[97, 112, 97, 114, 116]⟩] w (SaidPost (decS (apartTo xs 16)) w) := by
  have hl := board_le hok
  have hok2 := board_tests hok
  have CS := Lib.hid (fun W hS => implApart_any a cap xs W hS hok2 hz)
  have CT := Lib.hid (fun W hT => toldI_any (apartTo xs 16 : Int) W (by omega) (by have := apartTo_le xs 16; omega) hT)
  rw [← toldS_nat] at CT
  have HS := Lib.hid hs; have HT := Lib.hid hT
  clear hs hok hok2 hz hT
  generalize decS (apartTo xs 16) = t at *
  go_enter Tryz.func82, Tryz.ntmps82
  go_wp2_with fail
  refine (CS.out _ HS.out).mono ?_; rintro e w1 ⟨rfl, hF1⟩
  have F1 := Lib.hid hF1; clear hF1
  go_wp2_with fail
  refine (CT.out _ (HT.out.fr F1.out)).mono ?_; rintro e w2 ⟨rfl, hF2⟩
  go_wp2
  go_ret2
  exact ⟨rfl, F1.out.and hF2⟩
set_option maxHeartbeats 2000000 in
set_option maxRecDepth 100000 in
theorem quest_many (a : Option Addr) (cap : Nat) (xs : List Tst) (w : World) (hT : Tab w) (hs : Sl w a (tests xs)) (hok : boardOkB xs = true) (hz : Small xs) :
    Calls Tryz.prog 82 #[.slice a xs.length cap, .string ⟨#[109, 97, 110, 121]⟩] w (SaidPost (decS xs.length) w) := by
  have hl := board_le hok
  have hok2 := board_tests hok
  have CT := Lib.hid (fun W hT => toldI_any (xs.length : Int) W (by omega) (by omega) hT)
  rw [← toldS_nat] at CT
  have HT := Lib.hid hT
  clear hs hok hok2 hz hT
  generalize decS xs.length = t at *
  go_enter Tryz.func82, Tryz.ntmps82
  go_wp2_with fail
  refine (CT.out _ HT.out).mono ?_; rintro e w2 ⟨rfl, hF2⟩
  go_wp2
  go_ret2
  exact ⟨rfl, hF2⟩
set_option maxRecDepth 100000 in
theorem quest_none (a : Option Addr) (cap n : Nat) (s : ByteArray) (w : World) (h0 : s ≠ scoreS) (h1 : s ≠ markS') (h2 : s ≠ waysS) (h3 : s ≠ simpleS) (h4 : s ≠ apartS) (h5 : s ≠ manyS) :
    Calls Tryz.prog 82 #[.slice a n cap, .string s] w fun e w' => e = .returned (.tuple #[.string ⟨#[]⟩, .bool false]) ∧ w = w' := by
  have e0 : (s.toList == [115, 99, 111, 114, 101]) = false := lit_ne (l := [115, 99, 111, 114, 101]) h0
  have e1 : (s.toList == [109, 97, 114, 107]) = false := lit_ne (l := [109, 97, 114, 107]) h1
  have e2 : (s.toList == [119, 97, 121, 115]) = false := lit_ne (l := [119, 97, 121, 115]) h2
  have e3 : (s.toList == [115, 105, 109, 112, 108, 101, 115, 116]) = false := lit_ne (l := [115, 105, 109, 112, 108, 101, 115, 116]) h3
  have e4 : (s.toList == [97, 112, 97, 114, 116]) = false := lit_ne (l := [97, 112, 97, 114, 116]) h4
  have e5 : (s.toList == [109, 97, 110, 121]) = false := lit_ne (l := [109, 97, 110, 121]) h5
  go_enter Tryz.func82, Tryz.ntmps82
  go_wp2
  go_ret2
  exact ⟨rfl, rfl⟩
/-- What a question is answered, if it is one. -/
def QuestPost (r : Option ByteArray) (w : World) (e : Ending) (w' : World) : Prop :=
  (match r with
    | some t => e = .returned (.tuple #[.string t, .bool true])
    | none => e = .returned (.tuple #[.string ⟨#[]⟩, .bool false])) ∧ Fr w.heap.size none w w'
theorem quest_any (a : Option Addr) (cap : Nat) (xs : List Tst) (s : ByteArray) (w : World) (hT : Tab w) (hs : Sl w a (tests xs)) (hok : boardOkB xs = true) (hz : Small xs) :
    Calls Tryz.prog 82 #[.slice a xs.length cap, .string s] w (QuestPost (askI xs s) w) := by
  unfold askI
  by_cases h0 : s = scoreS
  · rw [if_pos h0]; subst h0; exact quest_score a cap xs w hT hs hok hz
  rw [if_neg h0]
  by_cases h1 : s = markS'
  · rw [if_pos h1]; subst h1; exact quest_mark a cap xs w hT hs hok hz
  rw [if_neg h1]
  by_cases h2 : s = waysS
  · rw [if_pos h2]; subst h2; exact quest_ways a cap xs w hT hs hok hz
  rw [if_neg h2]
  by_cases h3 : s = simpleS
  · rw [if_pos h3]; subst h3; exact quest_simplest a cap xs w hT hs hok hz
  rw [if_neg h3]
  by_cases h4 : s = apartS
  · rw [if_pos h4]; subst h4; exact quest_apart a cap xs w hT hs hok hz
  rw [if_neg h4]
  by_cases h5 : s = manyS
  · rw [if_pos h5]; subst h5; exact quest_many a cap xs w hT hs hok hz
  rw [if_neg h5]
  exact (quest_none a cap xs.length s w h0 h1 h2 h3 h4 h5).mono fun _ _ ⟨he, hw⟩ => ⟨he, hw ▸ Fr.refl _ _ w⟩
end Go.Proofs.YtdngnmpmaacapaaGreatDoor
