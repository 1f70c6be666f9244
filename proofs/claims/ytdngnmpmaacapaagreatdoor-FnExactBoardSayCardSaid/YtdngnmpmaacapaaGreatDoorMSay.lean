/-
  Merged: Say SayP Texts Exl TextsB.
-/
import Derived.Test.YtdngnmpmaacapaaGreatDoorMReckI
import Derived.Test.YtdngnmpmaacapaaGreatDoorMRowsC
import Derived.Test.YtdngnmpmaacapaaGreatDoorMWroteS
import Derived.Test.YtdngnmpmaacapaaGreatDoorMTestB
import Derived.Deep.RegionHeld3
import Derived.Test.YtdngnmpmaacapaaGreatDoorMTestE
set_option linter.unusedVariables false
set_option linter.unusedSimpArgs false
/-
  Contracts: BoardSay of both.
-/
namespace Go.Proofs.YtdngnmpmaacapaaGreatDoor
open Go.RowKit

/-- Texts no longer than what is laid. -/
def SmallT (ls : List ByteArray) : Prop := ∀ k, (ls.getD k noS).size ≤ 1048576
theorem readD_tiny {s : ByteArray} (h : (readD s).2 = true) : small (readD s).1.2 := by
  rcases readD_twoWays s with ⟨_, hd⟩ | hn
  · exact hd
  · rw [hn] at h; cases h
theorem lineI_small {xs : List Tst} (h : Small xs) (s : ByteArray) : Small (lineI xs s).1 := by
  unfold lineI
  split
  · next h2 => exact do_small h (readD_tiny h2)
  · exact h
theorem sayTo_small {xs : List Tst} (h : Small xs) (ls : List ByteArray) : ∀ k, Small (sayTo xs ls k).1
  | 0 => h
  | k + 1 => lineI_small (sayTo_small h ls k) _
theorem boardLine_yes {xs : List Tst} (h : boardOkB xs = true) (s : ByteArray) : boardLineI xs s = lineI xs s := by unfold boardLineI; rw [h]; rfl
theorem say_no {xs : List Tst} {ls : List ByteArray} (h : sayOk xs ls = false) : ([], []) = boardSayI xs ls := by simp [boardSayI, h]
theorem say_yes {xs : List Tst} {ls : List ByteArray} (h : sayOk xs ls = true) : sayTo xs ls ls.length = boardSayI xs ls := by simp [boardSayI, h]
/-- A new slice of exercises, and texts. -/
def NewTL (r : List Tst × List ByteArray) (w : World) (e : Ending) (w' : World) : Prop :=
  ∃ a cap b cb, e = .returned (.tuple #[.slice a r.1.length cap, .slice b r.2.length cb]) ∧ Own w' w.heap.size 52 3 (.slice a r.1.length cap) r.1.length (tests r.1) ∧ Own w' w.heap.size 9 1 (.slice b r.2.length cb) r.2.length (strs r.2) ∧ Fr w.heap.size none w w'
theorem newTL_of {ys : List Tst} {ts : List ByteArray} {r : List Tst × List ByteArray} {w w' : World} {a b : Option Addr} {ca cb : Nat} (h : (ys, ts) = r) (ho : Own w' w.heap.size 52 3 (.slice a ys.length ca) ys.length (tests ys)) (hs : Own w' w.heap.size 9 1 (.slice b ts.length cb) ts.length (strs ts)) (hF : Fr w.heap.size none w w') :
    NewTL r w (.returned (.tuple #[.slice a ys.length ca, .slice b ts.length cb])) w' := by
  subst h; exact ⟨a, ca, b, cb, rfl, ho, hs, hF⟩
theorem say_step {xs : List Tst} {ls : List ByteArray} {k : Nat} {ys : List Tst} {ts : List ByteArray} {s : ByteArray} (h : sayTo xs ls k = (ys, ts)) (hs : ls.getD k noS = s) :
    sayTo xs ls (k + 1) = ((lineI ys s).1, ts ++ [(lineI ys s).2]) := by
  simp only [sayTo, h, hs]
theorem own_clip {w : World} {B n cap : Nat} {E : TypeId} {z : Nat} {a : Option Addr} {cs : List Value} (h : Own w B E z (.slice a n cap) n cs) : Own w B E z (.slice a n n) n cs := by
  refine ⟨h.1, ?_⟩
  rcases h.2 with ⟨h', h0⟩ | ⟨g, cap', cur, h', hb, hg, hnc, hcm, hcs, ht⟩
  · simp only [Value.slice.injEq] at h'
    obtain ⟨rfl, rfl, _⟩ := h'
    exact .inl ⟨rfl, rfl⟩
  · simp only [Value.slice.injEq] at h'
    obtain ⟨rfl, _, rfl⟩ := h'
    exact .inr ⟨g, n, cur, rfl, hb, hg, Nat.le_refl _, by omega, Nat.le_trans (Nat.mul_le_mul_right _ hnc) hcs, ht⟩

set_option maxHeartbeats 4000000 in
set_option maxRecDepth 100000 in
theorem implSay_any (a : Option Addr) (ca : Nat) (xs : List Tst) (b : Option Addr) (cb : Nat) (ls : List ByteArray) (m : Int) (w : World) (hT : Tab w) (hM : w.cell? ⟨0, 0, none⟩ = some (.int .i64 m)) (hs : Sl w a (tests xs)) (hm : xs.length ≤ 1048576) (hz : Small xs) (hk : Sl w b (strs ls)) (hm2 : ls.length ≤ 1048576) (hz2 : SmallT ls) :
    Calls Tryz.prog 20 #[.slice a xs.length ca, .slice b ls.length cb] w (NewTL (boardSayI xs ls) w) := by
  have HS := Lib.hid hs; have HK := Lib.hid hk; have HT := Lib.hid hT; have HM := Lib.hid hM
  have hb0 := World.block_lt_of_cell? w _ hM
  dsimp only at hb0
  clear hs hk hT hM
  have HZ2 := Lib.hid hz2; clear hz2
  cases h : boardOkB xs
  · have hr := Lib.hid (say_no (xs := xs) (ls := ls) (by simp [sayOk, h]))
    have H := Lib.hid h; clear h
    go_enter Tryz.func20, Tryz.ntmps20
    go_wp2_with fail
    refine (implBoard_val HS.out hm hz H.out).mono ?_; rintro e w1 ⟨rfl, hF1⟩
    have F1 := Lib.hid hF1; clear hF1
    go_wp2
    go_ret2
    exact newTL_of hr.out (Own.nil _ _ _ _) (Own.nil _ _ _ _) F1.out
  · by_cases hd : ls.length ≤ 40
    · have hl := board_le h
      have hok : sayOk xs ls = true := by simp [sayOk, h, hd]
      have hr := Lib.hid (say_yes hok)
      have RS := Lib.hid (fun k => sayTo_small hz ls k)
      have RO := Lib.hid (fun k => sayTo_ok h ls k)
      have RL := Lib.hid (fun k => sayTo_len xs ls k)
      clear hok
      have H := Lib.hid h; clear h
      go_enter Tryz.func20, Tryz.ntmps20
      go_wp2_with fail
      refine (implBoard_val HS.out hm hz H.out).mono ?_; rintro e w1 ⟨rfl, hF1⟩
      have F1 := Lib.hid hF1
      have S1 := Lib.hid (HS.out.fr hF1)
      clear hF1
      go_wp2_with fail
      refine (cloneT_any a ca xs _ S1.out hm).mono ?_; rintro e w2 ⟨a2, rfl, ho2, hF2⟩
      have F2 := Lib.hid (F1.out.and hF2)
      have O2 := Lib.hid (Own.base_le ho2 F1.out.size)
      clear ho2 hF2
      go_wp2
      go_loopw [6, 7, 24] (fun o v i wr => ∃ (k : Nat) (ys : List Tst) (ts : List ByteArray) (ao : Option Addr) (co : Nat) (av : Option Addr) (cv : Nat), k ≤ ls.length ∧ i = .int .i64 k ∧ o = .slice ao ys.length co ∧ v = .slice av ts.length cv ∧ Hid (sayTo xs ls k = (ys, ts)) ∧ Own wr w.heap.size 52 3 (.slice ao ys.length co) ys.length (tests ys) ∧ wr.ownsRow w.heap.size 9 1 (.slice av ts.length cv) ts.length (strs ts) ∧ Fr w.heap.size none w wr) (fun _ _ i _ => ls.length - (intOf i).toNat)
      case atStart => exact ⟨0, xs, [], a2, xs.length, none, 0, Nat.zero_le _, rfl, rfl, rfl, rfl, O2.out, World.ownsRow_nil _ _ _ _, F2.out⟩
      case round =>
        obtain ⟨k, ys, ts, ao, co, av, cv, hk, rfl, rfl, rfl, hE, ho, hv, hF⟩ := hrel
        have HO := Lib.hid ho; have HV := Lib.hid hv; have HF := Lib.hid hF; have z0 := hF.size; clear ho hF hv
        by_cases hlt : k < ls.length
        · obtain ⟨b1, off1, rfl, hc0⟩ := (HK.out.fr HF.out).str k hlt
          have tl : ts.length = k := by have := RL.out k; rw [hE.out] at this; exact this
          obtain ⟨s, hse⟩ : ∃ s, ls.getD k noS = s := ⟨_, rfl⟩
          have hsz : s.size ≤ 1048576 := hse ▸ HZ2.out k
          have E1 := Lib.hid (say_step hE.out hse)
          have hys : Small ys := by have := RS.out k; rw [hE.out] at this; exact this
          have hyo : boardOkB ys = true := by have := RO.out k; rw [hE.out] at this; exact this
          have hyl := board_le hyo
          rw [hse] at hc0
          have CL := Lib.hid (fun W hT hM hS hc => implAnswer_any ao co ys s m W hT hM hS hyo hys hc hsz)
          have hc0' := Lib.hid hc0
          have TT := Lib.hid (HT.out.fr HF.out)
          have MM := Lib.hid ((HF.out.cell (p := ⟨0, 0, none⟩) hb0 (by simp)).trans HM.out)
          have tl9 : ts.length ≤ 40 := by omega
          generalize lineI ys s = r at *
          obtain ⟨r1, r2⟩ := r
          dsimp only at *
          clear hse hsz hE hys hyo hyl hk tl
          have hrl := own_lecap HO.out
          go_wp2_with fail
          refine (CL.out _ TT.out MM.out (Own.sl HO.out) hrl).mono ?_; rintro e w4 ⟨a4, c4, rfl, ho4, hF4⟩
          have F4 := Lib.hid (HF.out.and hF4)
          have O4 := Lib.hid (fun (W : World) (hW : Fr w4.heap.size (Value.slice av ts.length cv).ownBlock w4 W) => ((ho4.frB hW (fun g hg => ⟨(ho4.lt g hg).2, fun e => by have h1 := (HV.out.lt g e.symm).2; have h2 := (ho4.lt g hg).1; omega⟩)).base_le (base' := w.heap.size) z0))
          have V4 := Lib.hid (own_keep HV.out hF4)
          have z4 := F4.out.size
          clear ho4 hF4
          obtain ⟨l2, hl2⟩ : ∃ z, ts ++ [r2] = z := ⟨_, rfl⟩
          have HL2 := Lib.hid hl2
          have e1 := E1.out
          rw [hl2] at e1
          have E2 := Lib.hid e1
          clear e1 hl2 E1
          go_wp2_with (at_builtin; refine app1 32 9 (.string ByteArray.empty) 1 16 Tryz.underlying32 infoStr rfl (by decide) (by decide) rfl _ _ rfl [.string r2] V4.out rfl rfl rfl (by simp [Value.oneCell']) (by omega) z4 ?_; intro v' w' ho' hF'; (
            have F5 := Lib.hid (app_frame F4.out V4.out hF' z4)
            obtain ⟨a', c', rfl, ho3⟩ := app_strs ho' HL2.out
            have V5 := Lib.hid ho3
            have O5 := Lib.hid (O4.out _ hF')
            clear ho' ho3 hF' O4))
          go_roundw
          case rel => exact ⟨k + 1, r1, l2, a4, c4, a', c', by omega, by go_num, rfl, rfl, E2, O5.out, V5.out, F5.out⟩
          case measure => simp [intOf]; omega
        · have hkk : k = ls.length := by omega
          have e2 := Lib.hid (hE.out.symm.trans (show sayTo xs ls k = boardSayI xs ls by rw [hkk]; exact hr.out))
          have CC := Lib.hid (fun W => clipS_any av cv ts.length W (own_caps HV.out).1 (own_caps HV.out).2)
          clear hkk hE
          go_wp2_with fail
          refine (CC.out _).mono ?_; rintro e w' ⟨rfl, rfl⟩
          go_wp2
          go_ret2
          exact newTL_of e2.out HO.out (own_clip (Own.of HV.out)) HF.out
    · have hok : sayOk xs ls = false := by simp [sayOk, hd]
      have hr := Lib.hid (say_no hok)
      have hgt : (40 : Int) < (ls.length : Int) := by omega
      clear hok hd
      have H := Lib.hid h; clear h
      go_enter Tryz.func20, Tryz.ntmps20
      go_wp2_with fail
      refine (implBoard_val HS.out hm hz H.out).mono ?_; rintro e w1 ⟨rfl, hF1⟩
      have F1 := Lib.hid hF1; clear hF1
      go_wp2
      go_ret2
      exact newTL_of hr.out (Own.nil _ _ _ _) (Own.nil _ _ _ _) F1.out
set_option maxHeartbeats 4000000 in
set_option maxRecDepth 100000 in
theorem specSay_any (a : Option Addr) (ca : Nat) (xs : List Tst) (b : Option Addr) (cb : Nat) (ls : List ByteArray) (w : World) (hs : Sl w a (tests xs)) (hm : xs.length ≤ 1048576) (hz : Small xs) (hk : Sl w b (strs ls)) (hm2 : ls.length ≤ 1048576) (hz2 : SmallT ls) (hp : a = none → ca = 0) :
    Calls Tryz.prog 17 #[.slice a xs.length ca, .slice b ls.length cb] w (NewTL (boardSayI xs ls) w) := by
  have HS := Lib.hid hs; have HK := Lib.hid hk
  have F0 := Lib.hid ((Fr.refl w.heap.size none w).alloc (Nat.le_refl _) (.cells #[] 9))
  have V0 := Lib.hid (World.ownsRow_made (e := 9) (size := 1) (base := w.heap.size) w #[] 0 (Nat.le_refl _) (by simp [maxLen]) (by simp))
  have SA := Lib.hid (HS.out.fr F0.out)
  clear hs hk
  have HZ2 := Lib.hid hz2; clear hz2
  cases h : boardOkB xs
  · have hr := Lib.hid (say_no (xs := xs) (ls := ls) (by simp [sayOk, h]))
    have H := Lib.hid h; clear h
    go_enter Tryz.func17, Tryz.ntmps17
    go_wp2_with fail
    refine (specBoard_val SA.out hm hz H.out).mono ?_; rintro e w1 ⟨rfl, mm, rfl⟩
    have F1 := Lib.hid (F0.out.drewN mm)
    go_wp2
    go_ret2
    exact newTL_of hr.out (madeNil F1.out.size (by simp)) (Own.keep (Own.drewN (Own.of V0.out) mm) ((Fr.refl _ none _).alloc (Nat.le_refl _) _)) (F1.out.alloc F1.out.size _)
  · by_cases hd : ls.length ≤ 40
    · have hl := board_le h
      have hok : sayOk xs ls = true := by simp [sayOk, h, hd]
      have hr := Lib.hid (say_yes hok)
      have RS := Lib.hid (fun k => sayTo_small hz ls k)
      have RO := Lib.hid (fun k => sayTo_ok h ls k)
      have RL := Lib.hid (fun k => sayTo_len xs ls k)
      clear hok
      have H := Lib.hid h; clear h
      go_enter Tryz.func17, Tryz.ntmps17
      go_wp2_with fail
      refine (specBoard_val SA.out hm hz H.out).mono ?_; rintro e w1' ⟨rfl, mm, rfl⟩
      obtain ⟨w1, hw1⟩ : ∃ w1, w1 = (w.alloc (.cells #[] 9)).drewN mm := ⟨_, rfl⟩
      have F1 := Lib.hid (show Fr w.heap.size none w w1 by rw [hw1]; exact F0.out.drewN mm)
      have V1 := Lib.hid (show w1.ownsRow w.heap.size 9 1 (.slice (some ⟨w.heap.size, 0, none⟩) 0 0) 0 [] by rw [hw1]; exact own_keep V0.out ((Fr.refl _ none _).drewN mm))
      rw [← hw1]
      clear hw1
      have S1 := Lib.hid (HS.out.fr F1.out)
      have SW := Lib.hid (S1.out.fr ((Fr.refl w1.heap.size none w1).alloc (Nat.le_refl _) (.cells #[] 52)))
      have HP := Lib.hid hp; clear hp
      go_wp2_with (at_builtin; refine appAllO rfl _ _ rfl a ca xs (World.ownsRow_made (base := w1.heap.size) w1 #[] 0 (Nat.le_refl _) (by simp [maxLen]) (by simp)) rfl rfl HP.out SW.out (by omega) (by simp) ?_; intro v' w2 ho2 hF2; (
        have K2 := Lib.hid (((Fr.refl w1.heap.size none w1).alloc (Nat.le_refl _) (.cells #[] 52)).trans (hF2.up (B' := w1.heap.size) (by simp) (by intro g hg; cases hg; exact Nat.le_refl _)))
        have F2 := Lib.hid (F1.out.and K2.out)
        have V2 := Lib.hid (own_keep V1.out K2.out)
        obtain ⟨a2, c2, rfl, _, _⟩ := own_slice ho2
        rw [Nat.zero_add] at ho2
        rw [List.nil_append] at ho2
        have O2 := Lib.hid ((Own.of ho2).base_le F1.out.size)
        have z2 := F2.out.size
        clear ho2 hF2))
      go_loopw [6, 7, 8] (fun v o i wr => ∃ (k : Nat) (ys : List Tst) (ts : List ByteArray) (ao : Option Addr) (co : Nat) (av : Option Addr) (cv : Nat), k ≤ ls.length ∧ i = .int .i64 k ∧ o = .slice ao ys.length co ∧ v = .slice av ts.length cv ∧ Hid (sayTo xs ls k = (ys, ts)) ∧ Own wr w.heap.size 52 3 (.slice ao ys.length co) ys.length (tests ys) ∧ wr.ownsRow w.heap.size 9 1 (.slice av ts.length cv) ts.length (strs ts) ∧ Fr w.heap.size none w wr) (fun _ _ i _ => ls.length - (intOf i).toNat)
      case atStart => exact ⟨0, xs, [], a2, c2, some ⟨w.heap.size, 0, none⟩, 0, Nat.zero_le _, rfl, rfl, rfl, rfl, O2.out, V2.out, F2.out⟩
      case round =>
        obtain ⟨k, ys, ts, ao, co, av, cv, hk, rfl, rfl, rfl, hE, ho, hv, hF⟩ := hrel
        have HO := Lib.hid ho; have HV := Lib.hid hv; have HF := Lib.hid hF; have z0 := hF.size; clear ho hF hv
        by_cases hlt : k < ls.length
        · obtain ⟨b1, off1, rfl, hc0⟩ := (HK.out.fr HF.out).str k hlt
          have tl : ts.length = k := by have := RL.out k; rw [hE.out] at this; exact this
          obtain ⟨s, hse⟩ : ∃ s, ls.getD k noS = s := ⟨_, rfl⟩
          have hsz : s.size ≤ 1048576 := hse ▸ HZ2.out k
          have E1 := Lib.hid (say_step hE.out hse)
          have hys : Small ys := by have := RS.out k; rw [hE.out] at this; exact this
          have hyo : boardOkB ys = true := by have := RO.out k; rw [hE.out] at this; exact this
          have hyl := board_le hyo
          rw [hse] at hc0
          have CL := Lib.hid (fun W hS hc => specLine_any ao co ys s W hS (by omega) hys hc hsz)
          rw [boardLine_yes hyo] at CL
          have hc0' := Lib.hid hc0
          have tl9 : ts.length ≤ 40 := by omega
          generalize lineI ys s = r at *
          obtain ⟨r1, r2⟩ := r
          dsimp only at *
          clear hse hsz hE hys hyo hyl hk tl
          go_wp2_with fail
          refine (CL.out _ (Own.sl HO.out) (fun h => (own_hnone HO.out h).2)).mono ?_; rintro e w4 ⟨a4, c4, rfl, ho4, hF4⟩
          have F4 := Lib.hid (HF.out.and hF4)
          have O4 := Lib.hid (fun (W : World) (hW : Fr w4.heap.size (Value.slice av ts.length cv).ownBlock w4 W) => ((ho4.frB hW (fun g hg => ⟨(ho4.lt g hg).2, fun e => by have h1 := (HV.out.lt g e.symm).2; have h2 := (ho4.lt g hg).1; omega⟩)).base_le (base' := w.heap.size) z0))
          have V4 := Lib.hid (own_keep HV.out hF4)
          have z4 := F4.out.size
          clear ho4 hF4
          obtain ⟨l2, hl2⟩ : ∃ z, ts ++ [r2] = z := ⟨_, rfl⟩
          have HL2 := Lib.hid hl2
          have e1 := E1.out
          rw [hl2] at e1
          have E2 := Lib.hid e1
          clear e1 hl2 E1
          go_wp2_with (at_builtin; refine app1 32 9 (.string ByteArray.empty) 1 16 Tryz.underlying32 infoStr rfl (by decide) (by decide) rfl _ _ rfl [.string r2] V4.out rfl rfl rfl (by simp [Value.oneCell']) (by omega) z4 ?_; intro v' w' ho' hF'; (
            have F5 := Lib.hid (app_frame F4.out V4.out hF' z4)
            obtain ⟨a', c', rfl, ho3⟩ := app_strs ho' HL2.out
            have V5 := Lib.hid ho3
            have O5 := Lib.hid (O4.out _ hF')
            clear ho' ho3 hF' O4))
          go_roundw
          case rel => exact ⟨k + 1, r1, l2, a4, c4, a', c', by omega, by go_num, rfl, rfl, E2, O5.out, V5.out, F5.out⟩
          case measure => simp [intOf]; omega
        · have hkk : k = ls.length := by omega
          have e2 := Lib.hid (hE.out.symm.trans (show sayTo xs ls k = boardSayI xs ls by rw [hkk]; exact hr.out))
          clear hkk hE
          go_wp2
          go_ret2
          exact newTL_of e2.out HO.out (Own.of HV.out) HF.out
    · have hok : sayOk xs ls = false := by simp [sayOk, hd]
      have hr := Lib.hid (say_no hok)
      have hgt : (40 : Int) < (ls.length : Int) := by omega
      clear hok hd
      have H := Lib.hid h; clear h
      go_enter Tryz.func17, Tryz.ntmps17
      go_wp2_with fail
      refine (specBoard_val SA.out hm hz H.out).mono ?_; rintro e w1 ⟨rfl, mm, rfl⟩
      have F1 := Lib.hid (F0.out.drewN mm)
      go_wp2
      go_ret2
      exact newTL_of hr.out (madeNil F1.out.size (by simp)) (Own.keep (Own.drewN (Own.of V0.out) mm) ((Fr.refl _ none _).alloc (Nat.le_refl _) _)) (F1.out.alloc F1.out.size _)
end Go.Proofs.YtdngnmpmaacapaaGreatDoor
/-
  Plain law: what lines are answered.
-/
namespace Go.Proofs.YtdngnmpmaacapaaGreatDoor
open Go.RowKit

def p12S : ByteArray := ⟨#[112, 114, 111, 100, 117, 99, 116, 32, 49, 50, 32, 49, 50]⟩
def d12S : ByteArray := ⟨#[100, 105, 118, 105, 100, 101, 32, 49, 52, 52, 32, 49, 50]⟩
def twelve : ByteArray := ⟨#[49, 50]⟩
def gross : ByteArray := ⟨#[49, 52, 52]⟩
theorem p12_words : wordsB p12S = [productW, twelve, twelve] := by decide
theorem d12_words : wordsB d12S = [divideW, gross, twelve] := by decide
theorem p12_prod : prodI twelve twelve = (gross, true) := by decide +kernel
theorem d12_val : valI twelve = 12 := by decide +kernel
theorem d12_quo : quoI gross 12 = (twelve, 0, true) := by decide +kernel
theorem p12_line {xs : List Tst} (h : boardOkB xs = true) : boardLineI xs p12S = (xs, gross) := by
  have h1 : readD p12S = (noDeed, false) := by decide
  have h2 : askI xs p12S = none := by
    unfold askI
    rw [if_neg (by decide), if_neg (by decide), if_neg (by decide), if_neg (by decide), if_neg (by decide), if_neg (by decide)]
  have h3 : reckI (wordsB p12S) = gross := by
    rw [p12_words]
    unfold reckI
    rw [if_neg (by decide), if_neg (by decide), if_pos (by decide)]
    show orS (prodI twelve twelve).1 (prodI twelve twelve).2 = gross
    rw [p12_prod]; rfl
  unfold boardLineI lineI sayI
  rw [if_pos h, h1, h2, h3]
  rfl
theorem d12_line {xs : List Tst} (h : boardOkB xs = true) : boardLineI xs d12S = (xs, ⟨#[49, 50, 32, 48]⟩) := by
  have h1 : readD d12S = (noDeed, false) := by decide
  have h2 : askI xs d12S = none := by
    unfold askI
    rw [if_neg (by decide), if_neg (by decide), if_neg (by decide), if_neg (by decide), if_neg (by decide), if_neg (by decide)]
  have h3 : reckI (wordsB d12S) = ⟨#[49, 50, 32, 48]⟩ := by
    rw [d12_words]
    unfold reckI
    rw [if_neg (by decide), if_neg (by decide), if_neg (by decide), if_pos (by decide)]
    show quoS gross (valI twelve) = _
    unfold quoS
    rw [d12_val, d12_quo]
    show orS (twelve ++ ⟨#[32]⟩ ++ decS 0) true = _
    rw [decS_one (by decide)]
    decide
  unfold boardLineI lineI sayI
  rw [if_pos h, h1, h2, h3]
  rfl

theorem size_ne {s : ByteArray} (h : 0 < s.size) : s ≠ ⟨#[]⟩ := by intro e; rw [e] at h; exact absurd h (by decide)
theorem decS_pos (n : Nat) : 0 < (decS n).size := by
  by_cases h : n < 10
  · rw [decS_one h]; exact Nat.one_pos
  · rw [decS_more h, ByteArray.size_append]; have : (⟨#[UInt8.ofNat (48 + n % 10)]⟩ : ByteArray).size = 1 := rfl; omega
theorem orS_pos {s : ByteArray} {b : Bool} (h : b = true → 0 < s.size) : 0 < (orS s b).size := by
  cases b
  · exact (by decide : 0 < noneS.size)
  · exact h rfl
theorem toldS_pos (n : Int) : 0 < (toldS n).size := by
  unfold toldS; split
  · decide
  · exact decS_pos _
theorem plainT_pos {ds : List Int} (h : plainOk ds = true) : 0 < (plainT ds).size := by
  unfold plainT
  rw [if_pos h]
  simp only [plainOk, Bool.and_eq_true] at h
  have := (num_len h.2).1
  omega
theorem sumI_pos {s t : ByteArray} (h : (sumI s t).2 = true) : 0 < (sumI s t).1.size := by
  unfold sumI at h ⊢
  split at h
  · next hc => rw [if_pos hc]; exact plainT_pos h
  · cases h
theorem difI_pos {s t : ByteArray} (h : (difI s t).2 = true) : 0 < (difI s t).1.size := by
  unfold difI at h ⊢
  split at h
  · next hc => rw [if_pos hc]; exact plainT_pos h
  · cases h
theorem join_pos {x : List UInt8} {l : List (List UInt8)} (sep : List UInt8) (h : 0 < x.length) : 0 < (Lib.join (x :: l) sep).length := by
  cases l with
  | nil => simpa [Lib.join] using h
  | cons y l => simp [Lib.join]; omega
theorem rowText_pos (ys : List Int) : 0 < (rowTextI ys).size := by
  unfold rowTextI
  cases ys with
  | nil => decide
  | cons y ys =>
    rw [if_neg (by simp)]
    unfold joinS
    have := decS_pos y.toNat
    have h := join_pos (x := (decS y.toNat).data.toList) (l := (ys.map fun y => decS y.toNat).map (·.data.toList)) [44] (by simpa using this)
    unfold mkL
    rw [ByteArray.size, List.size_toArray]
    simpa using h
theorem totF_pos : ∀ (l : List ByteArray) (s : ByteArray), 0 < s.size → (totF l s).2 = true → 0 < (totF l s).1.size := by
  intro l
  induction l with
  | nil => intro s h _; exact h
  | cons x l ih =>
    intro s _ h
    unfold totF at h ⊢
    split at h
    · next hc => rw [if_pos hc]; exact ih _ (sumI_pos hc) h
    · cases h
theorem prodI_pos {s t : ByteArray} (h : (prodI s t).2 = true) : 0 < (prodI s t).1.size := by
  unfold prodI at h ⊢
  split
  · next l hl =>
    rw [hl] at h
    exact totF_pos l _ (by decide) h
  · next hl => rw [hl] at h; cases h
theorem reck_pos (ws : List ByteArray) : 0 < (reckI ws).size := by
  unfold reckI
  split
  · exact orS_pos sumI_pos
  split
  · exact orS_pos difI_pos
  split
  · exact orS_pos prodI_pos
  split
  · unfold quoS
    refine orS_pos fun _ => ?_
    rw [ByteArray.size_append, ByteArray.size_append]
    have : (⟨#[32]⟩ : ByteArray).size = 1 := rfl
    omega
  split
  · exact toldS_pos _
  split
  · exact toldS_pos _
  · decide
theorem say_pos (xs : List Tst) (s : ByteArray) : 0 < (sayI xs s).size := by
  unfold sayI
  split
  · next t h =>
    unfold askI at h
    split at h
    · cases h; exact decS_pos _
    split at h
    · cases h; exact toldS_pos _
    split at h
    · cases h; exact rowText_pos _
    split at h
    · cases h; exact toldS_pos _
    split at h
    · cases h; exact decS_pos _
    split at h
    · cases h; exact decS_pos _
    · cases h
  · exact reck_pos _
theorem line_pos (xs : List Tst) (s : ByteArray) : 0 < (lineI xs s).2.size := by
  unfold lineI
  split
  · show 0 < (okS _).size
    cases (doI xs (readD s).1).2 <;> decide
  · exact say_pos _ _
theorem sayTo_pos (xs : List Tst) (ls : List ByteArray) : ∀ k, ∀ s ∈ (sayTo xs ls k).2, 0 < s.size
  | 0 => by intro s hs; simp [sayTo] at hs
  | k + 1 => by
    intro s hs
    simp only [sayTo, List.mem_append, List.mem_singleton] at hs
    rcases hs with hs | rfl
    · exact sayTo_pos xs ls k s hs
    · exact line_pos _ _

theorem sayTo_take (xs : List Tst) (ls : List ByteArray) (h : Nat) : ∀ k, k ≤ h → sayTo xs (ls.take h) k = sayTo xs ls k
  | 0, _ => rfl
  | k + 1, hk => by
    have e : (ls.take h).getD k noS = ls.getD k noS := by
      rw [List.getD_eq_getElem?_getD, List.getElem?_take, if_pos (by omega), ← List.getD_eq_getElem?_getD]
    simp only [sayTo, sayTo_take xs ls h k (by omega), e]
theorem sayTo_drop (xs : List Tst) (ls : List ByteArray) (h : Nat) : ∀ k, sayTo xs ls (h + k) = ((sayTo (sayTo xs ls h).1 (ls.drop h) k).1, (sayTo xs ls h).2 ++ (sayTo (sayTo xs ls h).1 (ls.drop h) k).2)
  | 0 => by simp [sayTo]
  | k + 1 => by
    have e : (ls.drop h).getD k noS = ls.getD (h + k) noS := by
      rw [List.getD_eq_getElem?_getD, List.getElem?_drop, ← List.getD_eq_getElem?_getD]
    rw [← Nat.add_assoc]
    simp only [sayTo, sayTo_drop xs ls h k, e, List.append_assoc]
/-- Lines in two parts, one after the other, lead to the same board and the same answers. -/
theorem say_parts {xs : List Tst} {ls : List ByteArray} (h : sayOk xs ls = true) (k : Nat) (hk : k ≤ ls.length) :
    sayOk xs (ls.take k) = true ∧ sayOk (boardSayI xs (ls.take k)).1 (ls.drop k) = true ∧
      boardSayI xs ls = ((boardSayI (boardSayI xs (ls.take k)).1 (ls.drop k)).1, (boardSayI xs (ls.take k)).2 ++ (boardSayI (boardSayI xs (ls.take k)).1 (ls.drop k)).2) := by
  simp only [sayOk, Bool.and_eq_true, decide_eq_true_eq] at h
  have h1 : sayOk xs (ls.take k) = true := by simp only [sayOk, Bool.and_eq_true, decide_eq_true_eq]; exact ⟨h.1, by rw [List.length_take]; omega⟩
  have e1 : boardSayI xs (ls.take k) = sayTo xs ls k := by
    rw [← say_yes h1, List.length_take, Nat.min_eq_left hk, sayTo_take xs ls k k (Nat.le_refl _)]
  have h2 : sayOk (boardSayI xs (ls.take k)).1 (ls.drop k) = true := by
    simp only [sayOk, Bool.and_eq_true, decide_eq_true_eq]
    rw [e1]
    exact ⟨sayTo_ok h.1 ls k, by rw [List.length_drop]; omega⟩
  refine ⟨h1, h2, ?_⟩
  have h0 : sayOk xs ls = true := by simp only [sayOk, Bool.and_eq_true, decide_eq_true_eq]; exact h
  rw [← say_yes h2, e1, ← say_yes h0, List.length_drop]
  have := sayTo_drop xs ls k (ls.length - k)
  rw [show k + (ls.length - k) = ls.length by omega] at this
  exact this
theorem sayI_len {xs : List Tst} {ls : List ByteArray} (h : sayOk xs ls = true) : (boardSayI xs ls).2.length = ls.length := by rw [← say_yes h]; exact sayTo_len _ _ _
theorem sayI_ok {xs : List Tst} {ls : List ByteArray} (h : sayOk xs ls = true) : boardOkB (boardSayI xs ls).1 = true := by
  rw [← say_yes h]
  simp only [sayOk, Bool.and_eq_true, decide_eq_true_eq] at h
  exact sayTo_ok h.1 _ _
theorem sayI_small {xs : List Tst} {ls : List ByteArray} (h : Small xs) : Small (boardSayI xs ls).1 := by
  unfold boardSayI; split
  · exact sayTo_small h _ _
  · exact small_nil
theorem sayI_pos (xs : List Tst) (ls : List ByteArray) : ∀ s ∈ (boardSayI xs ls).2, 0 < s.size := by
  unfold boardSayI; split
  · exact sayTo_pos _ _ _
  · intro s hs; simp at hs
theorem smallT_take {ls : List ByteArray} (h : SmallT ls) (k : Nat) : SmallT (ls.take k) := by
  intro j
  rw [List.getD_eq_getElem?_getD, List.getElem?_take]
  split
  · rw [← List.getD_eq_getElem?_getD]; exact h j
  · exact Nat.zero_le _
theorem smallT_drop {ls : List ByteArray} (h : SmallT ls) (k : Nat) : SmallT (ls.drop k) := by
  intro j
  rw [List.getD_eq_getElem?_getD, List.getElem?_drop, ← List.getD_eq_getElem?_getD]
  exact h _
theorem strs_take {w : World} {a : Option Addr} {ls : List ByteArray} (h : Sl w a (strs ls)) (k : Nat) : Sl w a (strs (ls.take k)) := by
  intro j hj
  rw [strs_length, List.length_take] at hj
  obtain ⟨b, off, h1, h2⟩ := h j (by rw [strs_length]; omega)
  refine ⟨b, off, h1, ?_⟩
  rw [h2]
  simp [strs]
theorem strs_drop {w : World} {b off : Nat} {ls : List ByteArray} (h : Sl w (some ⟨b, off, none⟩) (strs ls)) (k : Nat) : Sl w (some ⟨b, off + k, none⟩) (strs (ls.drop k)) := by
  intro j hj
  rw [strs_length, List.length_drop] at hj
  obtain ⟨b', off', h1, h2⟩ := h (k + j) (by rw [strs_length]; omega)
  cases h1
  refine ⟨b, off + k, rfl, ?_⟩
  rw [Nat.add_assoc, h2]
  simp [strs]
end Go.Proofs.YtdngnmpmaacapaaGreatDoor
/-
  Contracts: the statements' own helpers on slices of texts.
-/
namespace Go.Proofs.YtdngnmpmaacapaaGreatDoor
open Go.RowKit

set_option maxRecDepth 100000 in
theorem sameTexts_any (a b : Option Addr) (ca cb : Nat) (xs : List ByteArray) (w : World) (ha : Sl w a (strs xs)) (hb : Sl w b (strs xs)) (hn : xs.length ≤ 1048576) :
    Calls Tryz.prog 28 #[.slice a xs.length ca, .slice b xs.length cb] w fun e w' => e = .returned (.bool true) ∧ Fr w.heap.size none w w' := by
  have HA := Lib.hid ha; have HB := Lib.hid hb; clear ha hb
  go_enter Tryz.func28, Tryz.ntmps28
  go_wp2
  go_loopw [5] (fun i wr => ∃ k : Nat, k ≤ xs.length ∧ i = .int .i64 k ∧ ∃ m, wr = w.drewN m) (fun i _ => xs.length - (intOf i).toNat)
  case atStart => exact ⟨0, Nat.zero_le _, rfl, 0, rfl⟩
  case round =>
    obtain ⟨k, hk, rfl, m, rfl⟩ := hrel
    by_cases hlt : k < xs.length
    · obtain ⟨b1, off1, rfl, hc1⟩ := HA.out.str k hlt
      obtain ⟨b2, off2, rfl, hc2⟩ := HB.out.str k hlt
      generalize xs.getD k noS = x at *
      have hlt' : (k : Int) < (xs.length : Int) := by omega
      go_wp2
      go_quiet (fail)
      go_wp2
      go_roundw
      case rel => exact ⟨k + 1, by omega, by go_num, _, rfl⟩
      case measure => simp [intOf]; omega
    · go_wp2
      go_ret
      exact ⟨rfl, (Fr.refl _ _ w).drewN m⟩
set_option maxRecDepth 100000 in
theorem eqStringS_any (a b : Option Addr) (ca cb : Nat) (xs : List ByteArray) (w : World) (ha : Sl w a (strs xs)) (hb : Sl w b (strs xs)) (hn : xs.length ≤ 1048576) :
    Calls Tryz.prog 22 #[.slice a xs.length ca, .slice b xs.length cb] w fun e w' => e = .returned (.bool true) ∧ Fr w.heap.size none w w' := by
  have HA := Lib.hid ha; have HB := Lib.hid hb; clear ha hb
  go_enter Tryz.func22, Tryz.ntmps22
  go_wp2
  go_loopw [5] (fun i wr => ∃ k : Nat, k ≤ xs.length ∧ i = .int .i64 k ∧ ∃ m, wr = w.drewN m) (fun i _ => xs.length - (intOf i).toNat)
  case atStart => exact ⟨0, Nat.zero_le _, rfl, 0, rfl⟩
  case round =>
    obtain ⟨k, hk, rfl, m, rfl⟩ := hrel
    by_cases hlt : k < xs.length
    · obtain ⟨b1, off1, rfl, hc1⟩ := HA.out.str k hlt
      obtain ⟨b2, off2, rfl, hc2⟩ := HB.out.str k hlt
      generalize xs.getD k noS = x at *
      have hlt' : (k : Int) < (xs.length : Int) := by omega
      go_wp2
      go_quiet (fail)
      go_wp2
      go_roundw
      case rel => exact ⟨k + 1, by omega, by go_num, _, rfl⟩
      case measure => simp [intOf]; omega
    · go_wp2
      go_ret
      exact ⟨rfl, (Fr.refl _ _ w).drewN m⟩

/-- Texts of any length that the machine bears. -/
def BigT (ls : List ByteArray) : Prop := ∀ k, (ls.getD k noS).size ≤ 9223372036854775807
set_option maxRecDepth 100000 in
theorem szStringS_any (a : Option Addr) (cap : Nat) (xs : List ByteArray) (l : Int) (w : World) (hs : Sl w a (strs xs)) (hn : xs.length ≤ 9223372036854775807) (hb : BigT xs) (h0 : 0 ≤ l) (h1 : l ≤ 1048576) :
    Calls Tryz.prog 16 #[.slice a xs.length cap, .int .i64 l] w fun e w' => (∃ z : Int, e = .returned (.int .i64 z) ∧ Left l z (xs.length ≤ 1048576 ∧ SmallT xs)) ∧ Fr w.heap.size none w w' := by
  have HS := Lib.hid hs; have HB := Lib.hid hb; clear hs hb
  by_cases hl : (xs.length : Int) ≤ l
  · go_enter Tryz.func16, Tryz.ntmps16
    go_wp2
    go_loopw [1, 5] (fun z i wr => ∃ k : Nat, k ≤ xs.length ∧ i = .int .i64 k ∧ (∃ q : Int, z = .int .i64 q ∧ 0 ≤ q ∧ q ≤ l) ∧ Hid (∀ j, j < k → (xs.getD j noS).size ≤ 1048576) ∧ wr = w) (fun _ i _ => xs.length - (intOf i).toNat)
    case atStart => exact ⟨0, Nat.zero_le _, rfl, ⟨_, rfl, by omega, by omega⟩, Lib.hid (by intro j hj; omega), rfl⟩
    case round =>
      obtain ⟨k, hk, rfl, ⟨q, rfl, q0, q1⟩, hT, rfl⟩ := hrel
      by_cases hlt : k < xs.length
      · obtain ⟨b, off, rfl, hc⟩ := HS.out.str k hlt
        have hbig := HB.out k
        have step : (xs.getD k noS).size ≤ 1048576 → ∀ j, j < k + 1 → (xs.getD j noS).size ≤ 1048576 := by
          intro hsm j hj
          by_cases e : j = k
          · subst e; exact hsm
          · exact hT.out j (by omega)
        have ST := Lib.hid step; clear step
        have hlt' : (k : Int) < (xs.length : Int) := by omega
        have k0 : (0 : Int) ≤ (k : Int) := by omega
        generalize xs.getD k noS = x at *
        by_cases hx : (x.size : Int) ≤ q
        · have HN := Lib.hid (ST.out (by omega))
          have hx' : ¬ (q - (x.size : Int) < 0) := by omega
          go_wp2
          go_roundw
          case rel => exact ⟨k + 1, by omega, by go_num, ⟨_, rfl, by omega, by omega⟩, HN, by first | trivial | rfl⟩
          case measure => simp [intOf]; omega
        · have hx' : q - (x.size : Int) < 0 := by omega
          go_wp2
          go_ret
          exact ⟨⟨_, rfl, .inl rfl⟩, Fr.refl _ _ _⟩
      · have hkk : k = xs.length := by omega
        have hfin : Hid (xs.length ≤ 1048576 ∧ SmallT xs) := by
          refine ⟨by omega, ?_⟩
          intro j
          by_cases hj : j < xs.length
          · exact hT.out j (by omega)
          · rw [List.getD_eq_getElem?_getD, List.getElem?_eq_none (by omega)]; exact Nat.zero_le _
        clear hkk
        go_wp2
        go_ret
        exact ⟨⟨_, rfl, .inr ⟨by omega, by omega, hfin.out⟩⟩, Fr.refl _ _ _⟩
  · have hl' : l - (xs.length : Int) < 0 := by omega
    go_enter Tryz.func16, Tryz.ntmps16
    go_wp2
    go_ret
    exact ⟨⟨_, rfl, .inl rfl⟩, Fr.refl _ _ _⟩

theorem strs_set (A : List ByteArray) (x y : ByteArray) (C : List ByteArray) (k : Nat) (hA : A.length = k) : (strs (A ++ x :: C)).set k (.string y) = strs ((A ++ [y]) ++ C) := by
  subst hA
  simp [strs, List.set_append]
theorem take_snocS {xs : List ByteArray} {k : Nat} (hk : k < xs.length) : xs.take k ++ [xs.getD k noS] = xs.take (k + 1) := by
  rw [List.take_succ_eq_append_getElem hk]; simp [List.getD_eq_getElem?_getD, hk]
set_option maxRecDepth 100000 in
theorem toStringS_any (a : Option Addr) (cap : Nat) (xs : List ByteArray) (w : World) (hs : Sl w a (strs xs)) (hn : xs.length ≤ 1048576) :
    Calls Tryz.prog 19 #[.slice a xs.length cap] w fun e w' => ∃ g, e = .returned (.slice (some ⟨g, 0, none⟩) xs.length xs.length) ∧ w'.ownsRow w.heap.size 9 1 (.slice (some ⟨g, 0, none⟩) xs.length xs.length) xs.length (strs xs) ∧ Fr w.heap.size none w w' := by
  obtain ⟨w1, hr, ho1, HF⟩ := mkStrs xs.length (by omega) w
  have HO := Lib.hid ho1; clear ho1
  have HS := Lib.hid hs; clear hs
  go_enter Tryz.func19, Tryz.ntmps19
  go_wp2
  clear hr
  go_loopw [4] (fun i wr => ∃ k : Nat, k ≤ xs.length ∧ i = .int .i64 k ∧ wr.ownsRow w.heap.size 9 1 (.slice (some ⟨w.heap.size, 0, none⟩) xs.length xs.length) xs.length (strs (xs.take k ++ List.replicate (xs.length - k) noS)) ∧ Fr w.heap.size none w wr) (fun i _ => xs.length - (intOf i).toNat)
  case atStart => exact ⟨0, Nat.zero_le _, rfl, by simpa using HO.out, HF⟩
  case round =>
    obtain ⟨k, hk, rfl, ho, hF⟩ := hrel
    by_cases hlt : k < xs.length
    · obtain ⟨b, off, rfl, hcell⟩ := (HS.out.fr hF).str k hlt
      have hl1 : (strs (xs.take k ++ List.replicate (xs.length - k) noS)).length = xs.length := by rw [strs_length]; simp; omega
      have hc2 : ∃ v, wr.cell? ⟨w.heap.size, k, none⟩ = some v := by
        rw [ho.cellAt k (by omega), List.getElem?_eq_getElem (by omega)]; exact ⟨_, rfl⟩
      obtain ⟨v0, hc2⟩ := hc2
      have hf2 := ho.frozenAt k
      have hst := (ho.stored k (.string (xs.getD k noS))).1
      rw [show xs.length - k = (xs.length - (k + 1)) + 1 by omega, List.replicate_succ, strs_set _ _ _ _ _ (by rw [List.length_take]; omega), take_snocS hlt] at hst
      have HST := Lib.hid hst; clear hst ho hl1
      have HF' := Lib.hid (hF.setCell (p := ⟨w.heap.size, k, none⟩) (.inl (Nat.le_refl _)) (.string (xs.getD k noS))); clear hF
      generalize xs.getD k noS = x at *
      have hlt' : (k : Int) < (xs.length : Int) := by omega
      have k0 : (0 : Int) ≤ (k : Int) := by omega
      go_wp2
      go_roundw
      case rel => exact ⟨k + 1, by omega, by go_num, HST.out, HF'.out⟩
      case measure => simp [intOf]; omega
    · have hkk : k = xs.length := by omega
      have ho' : wr.ownsRow w.heap.size 9 1 (.slice (some ⟨w.heap.size, 0, none⟩) xs.length xs.length) xs.length (strs xs) := by
        rw [hkk, List.take_length, Nat.sub_self, List.replicate_zero, List.append_nil] at ho; exact ho
      have HO' := Lib.hid ho'
      clear hkk ho ho'
      go_wp2
      go_ret
      exact ⟨_, rfl, HO'.out, hF⟩

/-- What marking writes. -/
def markedS (n : Nat) (q : Int) : List ByteArray := (List.range n).map fun j : Nat => markS (q + (j : Int))
theorem markedS_length (n : Nat) (q : Int) : (markedS n q).length = n := by simp [markedS]
theorem markedS_getD (n : Nat) (q : Int) (j : Nat) (h : j < n) : (markedS n q).getD j noS = markS (q + j) := by simp [markedS, List.getD_eq_getElem?_getD, h]
theorem markedS_succ (k : Nat) (q : Int) : markedS k q ++ [markS (q + (k : Int))] = markedS (k + 1) q := by simp [markedS, List.range_succ]
set_option maxHeartbeats 1000000 in
set_option maxRecDepth 100000 in
theorem markStringS_any (a : Option Addr) (cap : Nat) (xs : List ByteArray) (q : Int) (w : World) (base : Nat) (ho : Own w base 9 1 (.slice a xs.length cap) xs.length (strs xs)) (hn : xs.length ≤ 1048576) (hq : 0 ≤ q) (hq2 : q ≤ 549755813888) :
    Calls Tryz.prog 24 #[.slice a xs.length cap, .int .i64 q] w fun e w' => e = .returned (.int .i64 (q + xs.length)) ∧ Own w' base 9 1 (.slice a xs.length cap) xs.length (strs (markedS xs.length q)) ∧ Fr w.heap.size (Value.slice a xs.length cap).ownBlock w w' := by
  have HO := Lib.hid ho; clear ho
  go_enter Tryz.func24, Tryz.ntmps24
  go_wp2
  go_loopw [1, 5] (fun c i wr => ∃ k : Nat, k ≤ xs.length ∧ i = .int .i64 k ∧ c = .int .i64 (q + k) ∧ Own wr base 9 1 (.slice a xs.length cap) xs.length (strs (markedS k q ++ xs.drop k)) ∧ Fr w.heap.size (Value.slice a xs.length cap).ownBlock w wr) (fun _ i _ => xs.length - (intOf i).toNat)
  case atStart => exact ⟨0, Nat.zero_le _, rfl, by go_num, by simpa [markedS] using HO.out, Fr.refl _ _ _⟩
  case round =>
    obtain ⟨k, hk, rfl, rfl, ho, hF⟩ := hrel
    have HF := Lib.hid hF; clear hF
    by_cases hlt : k < xs.length
    · obtain ⟨g, rfl⟩ : ∃ g, a = some ⟨g, 0, none⟩ := by
        rcases ho.2 with ⟨h', h0⟩ | ⟨g, cap', cur, h', _⟩
        · omega
        · simp only [Value.slice.injEq] at h'; exact ⟨g, h'.1⟩
      have ho2 := ho
      rw [drop_str hlt] at ho2
      have O1 := Lib.hid ho2; clear ho ho2
      have hms := Lib.hid (markedS_succ k q)
      generalize xs.getD k noS = x at *
      go_wp2_with fail
      refine (markText_any (q + (k : Int)) (by omega) (by omega) _).mono ?_; rintro e w2 ⟨rfl, hF2⟩
      have O2 := Lib.hid (Own.keep O1.out hF2)
      have F2 := Lib.hid (HF.out.next hF2 HF.out.size)
      clear hF2
      have hl1 : (strs (markedS k q ++ x :: xs.drop (k + 1))).length = xs.length := by rw [strs_length]; simp [markedS_length]; omega
      have hc2 : ∃ v, w2.cell? ⟨g, k, none⟩ = some v := by
        rw [O2.out.cellAt k (by omega), List.getElem?_eq_getElem (by omega)]; exact ⟨_, rfl⟩
      obtain ⟨v0, hc2⟩ := hc2
      have hf2 := O2.out.frozenAt k
      have hst := O2.out.stored k (.string (markS (q + (k : Int))))
      rw [strs_set _ _ _ _ _ (markedS_length k q), hms.out] at hst
      have HST := Lib.hid hst; clear hst hl1
      have HF' := Lib.hid (F2.out.setCell (p := ⟨g, k, none⟩) (.inr rfl) (.string (markS (q + (k : Int)))))
      have hlt' : (k : Int) < (xs.length : Int) := by omega
      have k0 : (0 : Int) ≤ (k : Int) := by omega
      go_wp2
      go_roundw
      case rel => exact ⟨k + 1, by omega, by go_num, by go_num, HST.out, HF'.out⟩
      case measure => simp [intOf]; omega
    · have hkk : k = xs.length := by omega
      have ho' : Own wr base 9 1 (.slice a xs.length cap) xs.length (strs (markedS xs.length q)) := by
        rw [hkk, List.drop_length, List.append_nil] at ho; exact ho
      have HO' := Lib.hid ho'
      have hq' := Lib.hid (show q + (k : Int) = q + xs.length by omega)
      clear hkk ho ho'
      go_wp2
      go_ret
      exact ⟨ret_int hq'.out, HO'.out, HF.out⟩
set_option maxHeartbeats 1000000 in
set_option maxRecDepth 100000 in
theorem heldStringS_any (a : Option Addr) (cap n : Nat) (q : Int) (w : World) (hs : Sl w a (strs (markedS n q))) (hn : n ≤ 1048576) (hq : 0 ≤ q) (hq2 : q ≤ 549755813888) :
    Calls Tryz.prog 26 #[.slice a n cap, .int .i64 q] w fun e w' => e = .returned (.int .i64 (q + n)) ∧ Fr w.heap.size none w w' := by
  have HS := Lib.hid hs; clear hs
  go_enter Tryz.func26, Tryz.ntmps26
  go_wp2
  go_loopw [1, 5] (fun c i wr => ∃ k : Nat, k ≤ n ∧ i = .int .i64 k ∧ c = .int .i64 (q + k) ∧ Fr w.heap.size none w wr) (fun _ i _ => n - (intOf i).toNat)
  case atStart => exact ⟨0, Nat.zero_le _, rfl, by go_num, Fr.refl _ _ _⟩
  case round =>
    obtain ⟨k, hk, rfl, rfl, hF⟩ := hrel
    have HF := Lib.hid hF; clear hF
    by_cases hlt : k < n
    · obtain ⟨b, off, rfl, hc0⟩ := HS.out.str k (by rw [markedS_length]; exact hlt)
      rw [markedS_getD n q k hlt] at hc0
      have hbw := World.block_lt_of_cell? w _ hc0
      have hbwr : b < wr.heap.size := Nat.lt_of_lt_of_le hbw HF.out.size
      rw [← HF.out.cell (p := ⟨b, off + k, none⟩) hbw (by simp)] at hc0
      have k0 : (0 : Int) ≤ (k : Int) := by omega
      have k1 : (k : Int) < (n : Int) := by omega
      go_wp2
      go_region_held3 (fun w' => w'.cell? ⟨b, off + k, none⟩ = some (.string (markS (q + (k : Int))))) (first | go_keep | (rw [hw2.cell (by first | exact hbwr | simpa using hbwr) (by simp)]; assumption))
        (first | (go_at_call 64; refine (markText_any (q + (k : Int)) (by omega) (by omega) _).mono ?_; rintro e w2 ⟨rfl, hw2⟩))
      have F2 := Lib.hid (HF.out.drew.trans (hw2.mono HF.out.size))
      clear hw2
      go_wp2
      go_roundw
      case rel => exact ⟨k + 1, by omega, by go_num, by go_num, F2.out⟩
      case measure => simp [intOf]; omega
    · have hq' := Lib.hid (show q + (k : Int) = q + (n : Int) by omega)
      go_wp2
      go_ret
      exact ⟨ret_int hq'.out, HF.out⟩
end Go.Proofs.YtdngnmpmaacapaaGreatDoor
/-
  The contracts of BoardLine and BoardSay, as the exact laws meet them.
-/
namespace Go.Proofs.YtdngnmpmaacapaaGreatDoor
open Go.RowKit

/-- Slices of different types lie apart. -/
theorem apartT {w : World} {B B' E E' z z' n n' : Nat} {v v' : Value} {cs cs' : List Value} (h : Own w B E z v n cs) (h' : Own w B' E' z' v' n' cs') (hE : E ≠ E') : ∀ g, v.ownBlock = some g → g < w.heap.size ∧ some g ≠ v'.ownBlock := by
  intro g hg
  refine ⟨(h.lt g hg).2, fun e => ?_⟩
  rcases h.2 with ⟨rfl, _⟩ | ⟨g1, c1, cur1, rfl, _, hh, _⟩
  · simp [Value.ownBlock] at hg
  · rcases h'.2 with ⟨rfl, _⟩ | ⟨g2, c2, cur2, rfl, _, hh', _⟩
    · simp [Value.ownBlock] at e
    · simp [Value.ownBlock] at hg e
      subst hg; subst e
      rw [hh] at hh'
      simp only [Option.some.injEq, Obj.cells.injEq] at hh'
      exact hE hh'.2.1
theorem specLineE (a : Option Addr) (ca : Nat) (xs : List Tst) (s : ByteArray) (w : World) (hs : Sl w a (tests xs)) (hm : xs.length ≤ 1048576) (hz : Small xs) (hsz : s.size ≤ 1048576) (hp : a = none → ca = 0) :
    Calls Tryz.prog 10 #[.slice a xs.length ca, .string s] w (NewTS (boardLineI xs s).1 (boardLineI xs s).2 w) := specLine_any a ca xs s w hs hm hz hp hsz
theorem implLineE (a : Option Addr) (ca : Nat) (xs : List Tst) (s : ByteArray) {m : Int} (w : World) (hs : Sl w a (tests xs)) (hm : xs.length ≤ 1048576) (hz : Small xs) (hsz : s.size ≤ 1048576) (hc : xs.length ≤ ca) (hT : Tab w) (hM : w.cell? ⟨0, 0, none⟩ = some (.int .i64 m)) :
    Calls Tryz.prog 9 #[.slice a xs.length ca, .string s] w (NewTS (boardLineI xs s).1 (boardLineI xs s).2 w) := implLine_any a ca xs s m w hT hM hs hm hz hc hsz
theorem lineE_le {xs : List Tst} {s : ByteArray} (h : xs.length ≤ 1048576) : (boardLineI xs s).1.length ≤ 1048576 := by
  unfold boardLineI
  split
  · next hb => exact Nat.le_trans (board_le (line_ok hb s)) (by decide)
  · exact Nat.zero_le _
theorem specSayE (a : Option Addr) (ca : Nat) (xs : List Tst) (b : Option Addr) (cb : Nat) (ls : List ByteArray) (w : World) (hs : Sl w a (tests xs)) (hm : xs.length ≤ 1048576) (hz : Small xs) (hk : Sl w b (strs ls)) (hm2 : ls.length ≤ 1048576) (hz2 : SmallT ls) (hp : a = none → ca = 0) :
    Calls Tryz.prog 17 #[.slice a xs.length ca, .slice b ls.length cb] w (NewTL (boardSayI xs ls) w) := specSay_any a ca xs b cb ls w hs hm hz hk hm2 hz2 hp
theorem implSayE (a : Option Addr) (ca : Nat) (xs : List Tst) (b : Option Addr) (cb : Nat) (ls : List ByteArray) {m : Int} (w : World) (hs : Sl w a (tests xs)) (hm : xs.length ≤ 1048576) (hz : Small xs) (hk : Sl w b (strs ls)) (hm2 : ls.length ≤ 1048576) (hz2 : SmallT ls) (hT : Tab w) (hM : w.cell? ⟨0, 0, none⟩ = some (.int .i64 m)) :
    Calls Tryz.prog 20 #[.slice a xs.length ca, .slice b ls.length cb] w (NewTL (boardSayI xs ls) w) := implSay_any a ca xs b cb ls m w hT hM hs hm hz hk hm2 hz2
theorem sayE_le {xs : List Tst} {ls : List ByteArray} : (boardSayI xs ls).1.length ≤ 1048576 := by
  cases h : sayOk xs ls
  · simp [boardSayI, h]
  · exact Nat.le_trans (board_le (sayI_ok h)) (by decide)
theorem sayE_le2 {xs : List Tst} {ls : List ByteArray} : (boardSayI xs ls).2.length ≤ 1048576 := by
  cases h : sayOk xs ls
  · simp [boardSayI, h]
  · rw [sayI_len h]
    simp only [sayOk, Bool.and_eq_true, decide_eq_true_eq] at h
    omega
end Go.Proofs.YtdngnmpmaacapaaGreatDoor
/-
  Slices of texts: cut and appended.
-/
namespace Go.Proofs.YtdngnmpmaacapaaGreatDoor
open Go.RowKit

theorem unguard {P : Program} {ops : Array Oper} {Q : Exit → Act → World → Prop} {a : Act} {w : World} {rest : List Oper} {d : Option Nat} {op : Op} {ty : TypeId} {pos : String} {af : Array Edge} {g : Option (Nat × Bool)}
    (hw : Region.wanted ⟨d, op, ty, pos, af, g⟩ (yielded ops a.tmps) = true) (h : wpList P ops Q (⟨d, op, ty, pos, af, none⟩ :: rest) a w) : wpList P ops Q (⟨d, op, ty, pos, af, g⟩ :: rest) a w := by
  unfold wpList at h ⊢
  rw [if_pos hw]
  rw [if_pos (by rfl)] at h
  exact h
theorem cells_oneS (xs : List ByteArray) : ∀ u ∈ strs xs, u.oneCell' = true := by
  intro u hu
  obtain ⟨x, _, rfl⟩ := List.mem_map.1 hu
  rfl
theorem appAllS {ops : Array Oper} {rest : List Oper} {o : Oper} {a : Act} {Q : Exit → Act → World → Prop} {wr : World}
    (hgd : o.guard = none) (s x : Operand) (ho : o.op = .call { callee := .builtin .append, args := #[s, x], argTypes := #[32, 32] })
    {B : Nat} {v : Value} {n : Nat} {cs : List Value} (p : Option Addr) (c : Nat) (xs : List ByteArray) (hown : wr.ownsRow B 9 1 v n cs) (hs : a.eval s = v) (hx : a.eval x = .slice p xs.length c)
    (hp : p = none → c = 0) (hsl : Sl wr p (strs xs)) (hn : n + xs.length ≤ 1099511627776) (hB : B ≤ wr.heap.size)
    (h : ∀ v' w', w'.ownsRow B 9 1 v' (n + xs.length) (cs ++ strs xs) → Fr wr.heap.size v.ownBlock wr w' → wpList Tryz.prog ops Q rest (a.put o.dst v') w') :
    wpList Tryz.prog ops Q (o :: rest) a wr := by
  cases p with
  | none =>
    have h0 : xs = [] := by
      cases xs with
      | nil => rfl
      | cons c r => obtain ⟨b, off, e, _⟩ := hsl 0 (by rw [strs_length]; simp); cases e
    subst h0
    have hc := hp rfl
    subst hc
    obtain ⟨i0, hi, hz0, hz1, hz2⟩ := info_parts infoStr
    refine wpList_append_own_none hgd s x 32 ho B 9 i0 1 Tryz.underlying32 hi v n cs hs hown hx ?_
    exact h v wr (by simpa [strs] using hown) (Fr.refl _ _ _)
  | some q =>
    exact appAll 32 9 (.string ByteArray.empty) 1 16 Tryz.underlying32 infoStr rfl (by decide) (by decide) hgd s x ho q xs.length c (strs xs) hown hs hx (by rw [strs_length, Nat.mul_one]) hsl (cells_oneS xs) hn hB h

theorem cut_lo (b : Nat) (n c k : Nat) (W : World) (hk : k ≤ n) (hc : n ≤ c) (hm : c ≤ 9223372036854775807) :
    (Instr.slice 32 (.slice (some ⟨b, 0, none⟩) n c) none (some (.int .i64 (k : Int))) none).run Tryz.prog W = .ok (.slice (some ⟨b, 0, none⟩) k c) W := by
  have k0 : (0 : Int) ≤ (k : Int) := by omega
  have k1 : (k : Int) ≤ (c : Int) := by omega
  go_simp
theorem cut_hi (b : Nat) (n c k : Nat) (W : World) (hk : k ≤ n) (hc : n ≤ c) (hm : c ≤ 9223372036854775807) (hz : c = k → 0 = k) :
    (Instr.slice 32 (.slice (some ⟨b, 0, none⟩) n c) (some (.int .i64 (k : Int))) none none).run Tryz.prog W = .ok (.slice (some ⟨b, k, none⟩) (n - k) (c - k)) W := by
  have k0 : (0 : Int) ≤ (k : Int) := by omega
  have k1 : (k : Int) ≤ (n : Int) := by omega
  have k2 : (n : Int) ≤ (c : Int) := by omega
  go_simp
  exact hz
/-- A slice of texts is none, or begins a block. -/
def Heads (a : Option Addr) (n c : Nat) : Prop := (a = none ∧ n = 0 ∧ c = 0) ∨ ∃ g, a = some ⟨g, 0, none⟩
theorem heads_of {w : World} {B : Nat} {E : TypeId} {z n c : Nat} {a : Option Addr} {cs : List Value} (h : Own w B E z (.slice a n c) n cs) : Heads a n c := by
  rcases h.2 with ⟨h', h0⟩ | ⟨g, cap', cur, h', _⟩
  · simp only [Value.slice.injEq] at h'
    exact .inl ⟨h'.1, h0, h'.2.2⟩
  · simp only [Value.slice.injEq] at h'
    exact .inr ⟨g, h'.1⟩
theorem cut_first {a : Option Addr} {c : Nat} {ls : List ByteArray} (h : Heads a ls.length c) (hc : ls.length ≤ c) (hm : c ≤ 9223372036854775807) (k : Nat) (hk : k ≤ ls.length) :
    ∀ W : World, (Instr.slice 32 (.slice a ls.length c) none (some (.int .i64 (k : Int))) none).run Tryz.prog W = .ok (.slice a (ls.take k).length c) W := by
  intro W
  rw [List.length_take, Nat.min_eq_left hk]
  rcases h with ⟨rfl, h0, rfl⟩ | ⟨g, rfl⟩
  · have : k = 0 := by omega
    subst this
    rw [h0]
    go_simp
  · exact cut_lo g _ c k W hk hc hm
theorem cut_second {a : Option Addr} {c : Nat} {ls : List ByteArray} (h : Heads a ls.length c) (hc : ls.length ≤ c) (hm : c ≤ 9223372036854775807) (k : Nat) (hk : k ≤ ls.length) (hz : c = k → 0 = k) :
    ∃ a2, (∀ W : World, (Instr.slice 32 (.slice a ls.length c) (some (.int .i64 (k : Int))) none none).run Tryz.prog W = .ok (.slice a2 (ls.drop k).length (c - k)) W) ∧ ∀ W, Sl W a (strs ls) → Sl W a2 (strs (ls.drop k)) := by
  rcases h with ⟨rfl, h0, rfl⟩ | ⟨g, rfl⟩
  · have : k = 0 := by omega
    subst this
    refine ⟨none, fun W => ?_, fun W h => h⟩
    rw [List.length_drop, h0]
    go_simp
  · refine ⟨some ⟨g, k, none⟩, fun W => ?_, fun W h => ?_⟩
    · rw [List.length_drop]; exact cut_hi g _ c k W hk hc hm hz
    · have := strs_drop h k
      rwa [Nat.zero_add] at this
end Go.Proofs.YtdngnmpmaacapaaGreatDoor
