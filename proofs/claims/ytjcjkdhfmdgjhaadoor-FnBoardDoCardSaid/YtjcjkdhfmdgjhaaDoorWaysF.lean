/-
  Contracts: WaysFor of the program: the ways that explain exercises.
-/
import Derived.Test.YtjcjkdhfmdgjhaaDoorWaysE
namespace Go.Proofs.YtjcjkdhfmdgjhaaDoor
open Go.RowKit

theorem clipW_any (a : Option Addr) (cap n : Nat) (w : World) (hn : n ≤ cap) (hc : cap ≤ 9223372036854775807) :
    Calls Tryd.prog 35 #[.slice a n cap] w fun e w' => e = .returned (.slice a n n) ∧ w = w' := by
  go_enter Tryd.func35, Tryd.ntmps35
  go_wp2
  go_ret
  exact ⟨rfl, rfl⟩
theorem mayWay_any (q : Nat) (a : Option Addr) (cap : Nat) (xs : List Tst) (way : Int) (w : World) (hp : w.cell? ⟨q, 0, none⟩ = some (.slice a xs.length cap)) (hs : Sl w a (tests xs)) (hm : xs.length ≤ 1048576) (hz : Small xs) (hw : 0 ≤ way ∧ way ≤ 15) :
    Calls Tryd.prog 21 #[.int .i64 way, .pointer (some ⟨q, 0, none⟩)] w fun e w' => e = .returned (.bool (expI xs way)) ∧ Fr w.heap.size none w w' := by
  have HS := Lib.hid hs; clear hs
  go_enter Tryd.func21, Tryd.ntmps21
  go_wp2_with fail
  refine (Explains_any a cap xs way _ HS.out hm hz hw).mono ?_; rintro e w' ⟨rfl, hF⟩
  go_wp2
  go_ret
  exact ⟨rfl, hF⟩
theorem app_ints' {w : World} {B : Nat} {v : Value} {xs ys : List Int} {x : Int} (h : w.ownsRow B 3 1 v (xs.length + 1) (ints xs ++ [.int .i64 x])) (e0 : xs ++ [x] = ys) :
    ∃ a c, v = .slice a ys.length c ∧ w.ownsRow B 3 1 (.slice a ys.length c) ys.length (ints ys) := by
  subst e0; exact app_ints h

set_option maxHeartbeats 2000000 in
set_option maxRecDepth 100000 in
theorem which_any (q : Nat) (a : Option Addr) (cap : Nat) (xs : List Tst) (w : World) (hp : w.cell? ⟨q, 0, none⟩ = some (.slice a xs.length cap)) (hs : Sl w a (tests xs)) (hm : xs.length ≤ 1048576) (hz : Small xs) :
    Calls Tryd.prog 20 #[.func (.func 21) #[] #[.pointer (some ⟨q, 0, none⟩)]] w fun e w' => (∃ a' c', e = .returned (.slice a' (waysI xs 16).length c')) ∧ Fr w.heap.size none w w' := by
  have hql := World.block_lt_of_cell? w _ hp
  dsimp only at hql
  have HS := Lib.hid hs; have HP := Lib.hid hp; clear hs hp
  go_enter Tryd.func20, Tryd.ntmps20
  go_wp2
  go_loopw [3, 5] (fun v i wr => ∃ (k : Nat) (ys : List Int) (a' : Option Addr) (c' : Nat), k ≤ 16 ∧ i = .int .i64 k ∧ v = .slice a' ys.length c' ∧ Hid (waysI xs k = ys) ∧ ys.length ≤ 16 ∧ wr.ownsRow w.heap.size 3 1 (.slice a' ys.length c') ys.length (ints ys) ∧ Fr w.heap.size none w wr) (fun _ i _ => 16 - (intOf i).toNat)
  case atStart => exact ⟨0, [], none, 0, by omega, rfl, rfl, rfl, by simp, World.ownsRow_nil _ _ _ _, Fr.refl _ _ _⟩
  case round =>
    obtain ⟨k, ys, a', c', hk, rfl, rfl, hY, hl, ho, hF⟩ := hrel
    have HO := Lib.hid ho; have HF := Lib.hid hF; have hz1 := hF.size; clear ho hF
    by_cases hlt : k < 16
    · have hlt' : (k : Int) < 16 := by omega
      have k0 : (0 : Int) ≤ (k : Int) := by omega
      have QR := Lib.hid ((HF.out.cell (p := ⟨q, 0, none⟩) hql (by simp)).trans HP.out)
      have SR := Lib.hid (HS.out.fr HF.out)
      have CM := Lib.hid (fun W hp hs => mayWay_any q a cap xs (k : Int) W hp hs hm hz (by omega))
      have WY := Lib.hid (fun h => waysI_yes (xs := xs) (k := k) h)
      have WN := Lib.hid (fun h => waysI_no (xs := xs) (k := k) h)
      have WL := waysI_len xs (k + 1)
      generalize expI xs (k : Int) = r at *
      cases r
      · have e1 := Lib.hid ((WN.out rfl).symm.trans hY.out)
        clear WY WN
        go_wp2_with fail
        refine (CM.out _ QR.out SR.out).mono ?_; rintro e w1 ⟨rfl, hF1⟩
        have F1 := Lib.hid (HF.out.trans (hF1.mono hz1))
        have O1 := Lib.hid (own_keep HO.out hF1)
        clear hF1
        go_wp2
        go_roundw
        case rel => exact ⟨k + 1, ys, a', c', by omega, by go_num, rfl, e1, hl, O1.out, F1.out⟩
        case measure => simp [intOf]; omega
      · have e0 := Lib.hid (show ys ++ [(k : Int)] = waysI xs (k + 1) by rw [← hY.out]; exact WY.out rfl)
        obtain ⟨zs, hzs⟩ : ∃ zs, waysI xs (k + 1) = zs := ⟨_, rfl⟩
        rw [hzs] at e0 WL
        have HZ := Lib.hid hzs
        have hzl : zs.length ≤ 16 := by omega
        clear WY WN hzs
        go_wp2_with fail
        refine (CM.out _ QR.out SR.out).mono ?_; rintro e w1 ⟨rfl, hF1⟩
        have F1 := Lib.hid (HF.out.trans (hF1.mono hz1))
        have O1 := Lib.hid (own_keep HO.out hF1)
        have z1 := F1.out.size
        clear hF1
        go_wp2_with (at_builtin; refine app1 35 3 (.int .i64 0) 1 8 Tryd.underlying35 infoInt rfl (by decide) (by decide) rfl _ _ rfl [.int .i64 (k : Int)] O1.out rfl rfl rfl (by simp [Value.oneCell']) (by omega) z1 ?_; intro v' w' ho' hF'; (
          have F2 := Lib.hid (app_frame F1.out O1.out hF' z1)
          obtain ⟨a2, c2, rfl, ho3⟩ := app_ints' ho' e0.out
          have O3 := Lib.hid ho3
          clear ho' hF' ho3))
        go_roundw
        case rel => exact ⟨k + 1, zs, a2, c2, by omega, by go_num, rfl, HZ, hzl, O3.out, F2.out⟩
        case measure => simp [intOf]; omega
    · have hke : k = 16 := by omega
      subst hke
      obtain ⟨a2, c2, hv, hcap, hcm⟩ := own_slice HO.out
      cases hv
      unfold maxLen at hcm
      have HL := Lib.hid (show ys.length = (waysI xs 16).length by rw [hY.out])
      go_wp2_with (go_at_call 35; refine (clipW_any _ _ _ _ hcap (by omega)).mono ?_; rintro e w' ⟨rfl, rfl⟩)
      go_ret
      exact ⟨⟨a', ys.length, by rw [← HL.out]; rfl⟩, HF.out⟩

theorem waysFor_any (a : Option Addr) (cap : Nat) (xs : List Tst) (w : World) (hs : Sl w a (tests xs)) (hm : xs.length ≤ 1048576) (hz : Small xs) :
    Calls Tryd.prog 10 #[.slice a xs.length cap] w fun e w' => (∃ a' c', e = .returned (.slice a' (waysI xs 16).length c')) ∧ Fr w.heap.size none w w' := by
  have HS := Lib.hid (hs.fr ((Fr.refl w.heap.size none w).alloc (Nat.le_refl _) (.cells #[.slice a xs.length cap] 23))); clear hs
  have F0 := Lib.hid ((Fr.refl w.heap.size none w).alloc (Nat.le_refl _) (.cells #[.slice a xs.length cap] 23))
  have HQ := Lib.hid (show (w.alloc (.cells #[.slice a xs.length cap] 23)).cell? ⟨w.heap.size, 0, none⟩ = some (.slice a xs.length cap) by go_simp)
  go_enter Tryd.func10, Tryd.ntmps10
  go_wp2_with fail
  refine (which_any w.heap.size a cap xs _ HQ.out HS.out hm hz).mono ?_; rintro e w' ⟨⟨a', c', rfl⟩, hF⟩
  have F2 := Lib.hid (F0.out.and hF); clear hF
  go_wp2
  go_ret
  exact ⟨⟨a', c', rfl⟩, F2.out⟩
end Go.Proofs.YtjcjkdhfmdgjhaaDoor
