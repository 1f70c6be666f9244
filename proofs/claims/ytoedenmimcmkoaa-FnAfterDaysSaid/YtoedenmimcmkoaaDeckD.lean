/-
  Contracts: ask and AfterDay, of the program and of the reference.
-/
import Derived.Test.YtoedenmimcmkoaaDeckC
namespace Go.Proofs.Ytoedenmimcmkoaa
open Go.RowKit

theorem own_card_set {w : World} {B g n cap : Nat} {cs : List (Int × Int)} (ho : Own w B 63 2 (.slice (some ⟨g, 0, none⟩) n cap) n (cards cs)) (i : Nat) (hi : i < cs.length) (x : Int × Int) :
    Own ((w.setCell ⟨g, i * 2, none⟩ (.int .i64 x.1)).setCell ⟨g, i * 2 + 1, none⟩ (.int .i64 x.2)) B 63 2 (.slice (some ⟨g, 0, none⟩) n cap) n (cards (cs.set i x)) ∧
    w.cell? ⟨g, i * 2, none⟩ = some (.int .i64 (cs.getD i (0, 0)).1) ∧ w.cell? ⟨g, i * 2 + 1, none⟩ = some (.int .i64 (cs.getD i (0, 0)).2) ∧ w.frozen? ⟨g, i * 2, none⟩ = false ∧ w.frozen? ⟨g, i * 2 + 1, none⟩ = false := by
  have e : cs = cs.take i ++ cs.getD i (0, 0) :: cs.drop (i + 1) := by rw [← drop_getD cs (0, 0) i hi, List.take_append_drop]
  have hA : (cards (cs.take i)).length = i * 2 := by rw [cards_length, List.length_take, Nat.min_eq_left (by omega)]
  have hc : cards cs = cards (cs.take i) ++ ([.int .i64 (cs.getD i (0, 0)).1, .int .i64 (cs.getD i (0, 0)).2] ++ cards (cs.drop (i + 1))) := by
    conv => lhs; rw [e]
    rw [cards, rows_append]; rfl
  rw [hc] at ho
  obtain ⟨g1, g2, g3, g4⟩ := ownO_get2 i hA ho
  refine ⟨?_, g1, g2, g3, g4⟩
  have h := ownO_set2 i (.int .i64 x.1) (.int .i64 x.2) hA ho
  rw [List.set_eq_take_append_cons_drop, if_pos hi, cards, rows_append]
  exact h

theorem dueN_eq (cs : List (Int × Int)) (day : Int) (k : Nat) : dueN cs day k = (dueTo cs day k).length := rfl

set_option maxHeartbeats 1000000 in
theorem ask_any (a : Option Addr) (ca : Nat) (cs : List (Int × Int)) (day : Int) (b : Option Addr) (cb : Nat) (ks : List Int) (B : Nat) (w : World) (ho : Own w B 63 2 (.slice a cs.length ca) cs.length (cards cs))
    (hk : Sl w b (ints ks)) (hlen : ks.length = cs.length) (hok : deckOkB cs = true) (hday : inB day 0 200 = true) (hb : ∀ p, b = some p → 0 < ks.length → p.block < B) (hBw : B ≤ w.heap.size) :
    Calls Try.prog 64 #[.slice a cs.length ca, .int .i64 day, .slice b ks.length cb] w fun e w' => e = .returned (.int .i64 (dueTo cs day cs.length).length) ∧
      Own w' B 63 2 (.slice a cs.length ca) cs.length (cards (upTo cs day ks cs.length)) ∧ Fr w.heap.size (Value.slice a cs.length ca).ownBlock w w' := by
  have hl := deck_len hok
  have hd := inB_true.1 hday
  obtain ⟨hd0, hd1⟩ := hd
  have HO := Lib.hid ho; have HK := Lib.hid hk; have HL := Lib.hid hlen; have HIN := Lib.hid (deck_in hok); have HB := Lib.hid hb
  have hdue := Lib.hid (due_yes hok hday)
  clear ho hk hlen hok hday hb
  go_enter Try.func64, Try.ntmps64
  go_wp2_with fail
  refine (implDueOn_any _ _ cs day _ HO.out.sl (by omega)).mono ?_; rintro e w1 ⟨da, dc, rfl, hdo, hF1⟩
  rw [← hdue.out] at hdo ⊢
  have DO := Lib.hid hdo
  have O1 := Lib.hid (Own.keep HO.out hF1)
  have F1 := Lib.hid hF1
  have z1 := hF1.size
  have hdl := dueTo_len cs day cs.length
  have DL := Lib.hid (Own.lt hdo)
  have OL := Lib.hid (Own.lt HO.out)
  clear hdo hF1
  go_wp2
  go_loopw [16] (fun i wr => ∃ j : Nat, ∃ k : Nat, j ≤ (dueTo cs day cs.length).length ∧ i = .int .i64 j ∧ k ≤ cs.length ∧ Hid (dueN cs day k = j) ∧ Own wr B 63 2 (.slice a cs.length ca) cs.length (cards (upTo cs day ks k)) ∧ Hid (Fr w1.heap.size (Value.slice a cs.length ca).ownBlock w1 wr)) (fun i _ => (dueTo cs day cs.length).length - (intOf i).toNat)
  case atStart => exact ⟨0, 0, Nat.zero_le _, rfl, Nat.zero_le _, rfl, by rw [upTo_zero]; exact O1.out, Fr.refl _ _ _⟩
  case round =>
    obtain ⟨j, k, hj, rfl, hk, hdk, ho, hF⟩ := hrel
    by_cases hlt : j < (dueTo cs day cs.length).length
    · obtain ⟨i, hi, hgi, hdi, hdue2⟩ := due_at cs day cs.length j hlt
      have hsame := upTo_same (ks := ks) (show dueN cs day k = dueN cs day i by rw [hdk.out, hdi])
      rw [hsame] at ho
      have hui : (upTo cs day ks i).getD i (0, 0) = cs.getD i (0, 0) := by rw [upTo_getD _ _ _ _ _ hi, if_neg (by omega)]
      have hset := upTo_set cs day ks i hi
      obtain ⟨⟨i1, i2⟩, i3, i4⟩ := HIN.out i hi
      have hn1 : Hid (dueN cs day (i + 1) = j + 1) := by show _ = _; rw [dueN_succ, if_pos hdue2, hdi]
      have hnx : nextC day (cs.getD i (0, 0)) (ks.getD i 0) = ((if ks.getD i 0 = 1 then min ((cs.getD i (0, 0)).1 + 1) 5 else 1), day + waitZ (if ks.getD i 0 = 1 then min ((cs.getD i (0, 0)).1 + 1) 5 else 1)) := by unfold nextC; rw [if_pos hdue2]
      have hlo : 0 < cs.length := by omega
      obtain ⟨g, rfl⟩ := ho.addr hlo
      have hgl := OL.out g rfl
      have FF : Fr w.heap.size (some g) w wr := (F1.out.weak _).trans (hF.out.mono z1)
      have hkl : i < ks.length := by have := HL.out; omega
      obtain ⟨kb, ko, hkb, hkc⟩ := (HK.out.frL FF (fun p hp h0 => by have := HB.out p hp (by rw [ints_length] at h0; exact h0); exact ⟨by omega, by simp; omega⟩)).int i hkl
      subst hkb
      have hap := apart DL.out OL.out (.inr (Nat.le_refl _)) (Nat.le_refl w1.heap.size)
      have DO2 := DO.out.frB hF.out hap
      obtain ⟨db, dof, rfl, hdc⟩ := DO2.sl.int j hlt
      rw [hgi] at hdc
      obtain ⟨os, c1, c2, f1, f2⟩ := own_card_set ho i (by rw [upTo_length]; exact hi) (nextC day (cs.getD i (0, 0)) (ks.getD i 0))
      rw [hset] at os
      rw [hui] at c1 c2
      rw [hnx] at os
      have F3 : Hid (∀ x y, Fr w1.heap.size (some g) w1 ((wr.setCell ⟨g, i * 2, none⟩ x).setCell ⟨g, i * 2 + 1, none⟩ y)) := fun x y => (hF.out.setCell (p := ⟨g, i * 2, none⟩) (.inr rfl) x).setCell (p := ⟨g, i * 2 + 1, none⟩) (.inr rfl) y
      have OS := Lib.hid os
      have hii : (i : Int) < cs.length := by omega
      have hii2 : (i : Int) < ks.length := by omega
      have hw := fun b W h => wait_any b W h
      have HW := Lib.hid hw
      clear hw os hset hui hnx hsame hdue2 hdi hdk hgi ho hF FF DO2 hap
      generalize cs.getD i (0, 0) = c at *
      generalize ks.getD i 0 = kn at *
      obtain ⟨ca1, ca2⟩ := c
      by_cases hkn : kn = 1
      · rw [if_pos hkn] at OS
        subst hkn
        by_cases h5 : ca1 + 1 ≤ 5
        · have hm : min (ca1 + 1) 5 = ca1 + 1 := by omega
          rw [hm] at OS
          have hwb := waitZ_bd (b := ca1 + 1) ⟨by omega, by omega⟩
          obtain ⟨hw1, hw2⟩ := hwb
          have HI := Lib.hid (inB_true.2 ⟨by omega, h5⟩ : inB (ca1 + 1) 1 5 = true)
          clear hm
          go_wp2_with (go_at_call 83; refine (HW.out _ _ HI.out).mono ?_; rintro e w' ⟨rfl, rfl⟩)
          go_roundw
          case rel => exact ⟨j + 1, i + 1, by omega, by go_num, by omega, hn1, OS.out, F3.out _ _⟩
          case measure => simp [intOf]; omega
        · have hm : min (ca1 + 1) 5 = 5 := by omega
          rw [hm] at OS
          have HI : Hid (inB 5 1 5 = true) := Lib.hid (by decide)
          have hw5 : Hid (waitZ 5 = 16) := Lib.hid (by decide)
          rw [hw5.out] at OS
          have hW5 : Hid (∀ W, Calls Try.prog 83 #[.int .i64 5] W fun e w' => e = .returned (.int .i64 16) ∧ W = w') := fun W => hw5.out ▸ HW.out 5 W HI.out
          clear hm
          go_wp2_with (go_at_call 83; refine (hW5.out _).mono ?_; rintro e w' ⟨rfl, rfl⟩)
          go_roundw
          case rel => exact ⟨j + 1, i + 1, by omega, by go_num, by omega, hn1, OS.out, F3.out _ _⟩
          case measure => simp [intOf]; omega
      · rw [if_neg hkn] at OS
        have hz : (kn == 1) = false := by rw [beq_eq_false_iff_ne]; exact hkn
        have hw5 : Hid (waitZ 1 = 1) := Lib.hid (by decide)
        rw [hw5.out] at OS
        have hW5 : Hid (∀ W, Calls Try.prog 83 #[.int .i64 1] W fun e w' => e = .returned (.int .i64 1) ∧ W = w') := fun W => hw5.out ▸ HW.out 1 W (by decide)
        clear hkn
        go_wp2_with (go_at_call 83; refine (hW5.out _).mono ?_; rintro e w' ⟨rfl, rfl⟩)
        go_roundw
        case rel => exact ⟨j + 1, i + 1, by omega, by go_num, by omega, hn1, OS.out, F3.out _ _⟩
        case measure => simp [intOf]; omega
    · have hjj : j = (dueTo cs day cs.length).length := by omega
      have hsame := upTo_same (ks := ks) (show dueN cs day k = dueN cs day cs.length by rw [hdk.out, hjj]; rfl)
      rw [hsame] at ho
      have HO2 := Lib.hid ho
      have FF := Lib.hid ((F1.out.weak _).trans (hF.out.mono z1))
      clear hjj hsame ho
      go_wp2
      go_ret
      exact ⟨rfl, HO2.out, FF.out⟩
end Go.Proofs.Ytoedenmimcmkoaa
