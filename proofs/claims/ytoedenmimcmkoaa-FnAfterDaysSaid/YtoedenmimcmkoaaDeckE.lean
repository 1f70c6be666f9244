/-
  Contracts: AfterDay, of the program and of the reference.
-/
import Derived.Test.YtoedenmimcmkoaaDeckD
namespace Go.Proofs.Ytoedenmimcmkoaa
open Go.RowKit

/-- A new slice of cards, and a truth. -/
def NewCB (ys : List (Int × Int)) (b : Bool) (w : World) (e : Ending) (w' : World) : Prop :=
  ∃ a cap, e = .returned (.tuple #[.slice a ys.length cap, .bool b]) ∧ Own w' w.heap.size 63 2 (.slice a ys.length cap) ys.length (cards ys) ∧ Fr w.heap.size none w w'
theorem newCB_nil {ys : List (Int × Int)} {w w' : World} {a : Option Addr} {b : Bool} (h : [] = ys) (ho : Own w' w.heap.size 63 2 (.slice a 0 0) 0 []) (hF : Fr w.heap.size none w w') : NewCB ys b w (.returned (.tuple #[.slice a 0 0, .bool b])) w' := by
  subst h; exact ⟨a, 0, rfl, ho, hF⟩
theorem after_no {cs : List (Int × Int)} {day : Int} {ks : List Int} (h : dayOk cs day ks = false) : [] = afterI cs day ks := by simp [afterI, h]
theorem after_yes {cs : List (Int × Int)} {day : Int} {ks : List Int} (h : dayOk cs day ks = true) : upTo cs day ks cs.length = afterI cs day ks := by simp [afterI, h]
theorem known_parts {cs : List (Int × Int)} {ks : List Int} (h : knownB cs ks = true) : deckOkB cs = true ∧ ks.length = cs.length := by
  simp only [knownB, Bool.and_eq_true, decide_eq_true_eq] at h; exact ⟨h.1, h.2.1⟩

theorem app_card_frame {w wr w' : World} {B n : Nat} {v : Value} {cs : List Value} (h0 : Fr B none w wr) (hown : wr.ownsRow B 63 2 v n cs) (h : Fr wr.heap.size v.ownBlock wr w') (hB : B ≤ wr.heap.size) : Fr B none w w' := app_frame h0 hown h hB

set_option maxHeartbeats 1000000 in
theorem specAfterDay_any (a : Option Addr) (ca : Nat) (cs : List (Int × Int)) (day : Int) (b : Option Addr) (cb : Nat) (ks : List Int) (w : World) (hs : Sl w a (cards cs)) (hm : cs.length ≤ 1048576) (hk : Sl w b (ints ks)) (hm2 : ks.length ≤ 1048576) :
    Calls Try.prog 68 #[.slice a cs.length ca, .int .i64 day, .slice b ks.length cb] w (NewCB (afterI cs day ks) (dayOk cs day ks) w) := by
  have HS0 := Lib.hid hs; have HK0 := Lib.hid hk
  have HS := Lib.hid (hs.fr ((Fr.refl _ _ _).alloc (Nat.le_refl _) (.cells #[] 63))); have HK := Lib.hid (hk.fr ((Fr.refl _ _ _).alloc (Nat.le_refl _) (.cells #[] 63))); clear hs hk
  have F0 : Hid (Fr w.heap.size none w (w.alloc (.cells #[] 63))) := (Fr.refl _ _ _).alloc (Nat.le_refl _) _
  have O0 : Hid ((w.alloc (.cells #[] 63)).ownsRow w.heap.size 63 2 (.slice (some ⟨w.heap.size, 0, none⟩) 0 0) 0 []) := World.ownsRow_made _ _ _ (Nat.le_refl _) (by simp [maxLen]) (by simp)
  cases h : deckOkB cs
  · have hd : dayOk cs day ks = false := by simp [dayOk, knownB, h]
    have hf := Lib.hid (after_no hd); have H := Lib.hid h; have HD := Lib.hid hd; clear h hd
    go_enter Try.func68, Try.ntmps68
    go_wp2_with (go_at_call 66; refine (specDeck_val HS.out hm H.out).mono ?_; rintro e w' ⟨rfl, rfl⟩)
    go_ret2
    rw [HD.out]
    exact newCB_nil hf.out (Own.of O0.out) F0.out
  · cases h2 : inB day 0 200
    · have hd : dayOk cs day ks = false := by simp [dayOk, h2]
      have hf := Lib.hid (after_no hd); have H := Lib.hid h; have H2 := Lib.hid h2; have HD := Lib.hid hd; clear h h2 hd
      go_enter Try.func68, Try.ntmps68
      go_wp2_with (first | (go_at_call 66; refine (specDeck_val HS.out hm H.out).mono ?_; rintro e w' ⟨rfl, rfl⟩) | (go_at_call 65; refine (l1In_val H2.out _).mono ?_; rintro e w' ⟨rfl, rfl⟩))
      go_ret2
      rw [HD.out]
      exact newCB_nil hf.out (Own.of O0.out) F0.out
    · by_cases hl : ks.length = cs.length
      · have hl8 := deck_len h
        have hin := Lib.hid (deck_in h)
        obtain ⟨hd0, hd1⟩ := inB_true.1 h2
        have hz : ((ks.length : Int) != (cs.length : Int)) = false := by rw [hl]; simp
        have HH : Hid (∀ k, k < cs.length → inB (ks.getD k 0) 0 1 = false → dayOk cs day ks = false) := by
          intro k hk hb
          have : (ks.all fun n => inB n 0 1) = false := by
            rw [List.all_eq_false]
            exact ⟨ks[k], List.getElem_mem (by omega), by simpa [List.getD_eq_getElem?_getD, show k < ks.length by omega] using hb⟩
          simp [dayOk, knownB, this]
        have HY : Hid ((∀ k, k < cs.length → inB (ks.getD k 0) 0 1 = true) → dayOk cs day ks = true) := by
          intro hall
          have : (ks.all fun n => inB n 0 1) = true := by
            rw [all_allTo, allTo_iff]; intro k hk; exact hall k (by omega)
          simp [dayOk, knownB, this, h, h2, hl]
        have H := Lib.hid h; have H2 := Lib.hid h2; have HLEN := Lib.hid hl; clear h h2 hl
        go_enter Try.func68, Try.ntmps68
        go_wp2_with (first | (go_at_call 66; refine (specDeck_val HS.out hm H.out).mono ?_; rintro e w' ⟨rfl, rfl⟩) | (go_at_call 65; refine (l1In_val H2.out _).mono ?_; rintro e w' ⟨rfl, rfl⟩))
        go_loopw [8, 9] (fun v i wr => ∃ k : Nat, ∃ (ao : Option Addr) (co : Nat), k ≤ cs.length ∧ v = .slice ao k co ∧ i = .int .i64 k ∧ Hid (∀ j, j < k → inB (ks.getD j 0) 0 1 = true) ∧ wr.ownsRow w.heap.size 63 2 (.slice ao k co) k (cards ((upTo cs day ks cs.length).take k)) ∧ Hid (Fr w.heap.size none w wr)) (fun _ i _ => cs.length - (intOf i).toNat)
        case atStart => exact ⟨0, _, 0, Nat.zero_le _, rfl, rfl, (fun j hj => by omega), O0.out, F0⟩
        case round =>
          obtain ⟨k, ao, co, hk, rfl, rfl, hall, ho, hF⟩ := hrel
          have HO := Lib.hid ho
          have hsz := hF.out.size
          clear ho
          by_cases hlt : k < cs.length
          · obtain ⟨b1, off1, rfl, hc1, hc2, hc3⟩ := (HS0.out.fr hF.out).card k hlt
            have hkl : k < ks.length := by have := HLEN.out; omega
            have hkl' : (k : Int) < ks.length := by omega
            obtain ⟨b2, off2, rfl, hk1⟩ := (HK0.out.fr hF.out).int k hkl
            have hb2 : b2 < wr.heap.size := World.block_lt_of_cell? wr _ hk1
            have hb1 : b1 < wr.heap.size := World.block_lt_of_cell? wr _ hc1
            obtain ⟨⟨i1, i2⟩, i3, i4⟩ := hin.out k hlt
            have htk := Lib.hid (upTo_take cs day ks k hlt)
            have hbad := Lib.hid (HH.out k hlt)
            have hgood : Hid (inB (ks.getD k 0) 0 1 = true → ∀ j, j < k + 1 → inB (ks.getD j 0) 0 1 = true) := by
              intro hg j hj
              by_cases hjk : j = k
              · subst hjk; exact hg
              · exact hall.out j (by omega)
            have ST : Hid (∀ (x : Int × Int) (W : World) (hW : Fr wr.heap.size none wr W) (v' : Value) (w' : World), nextC day (cs.getD k (0, 0)) (ks.getD k 0) = x → w'.ownsRow w.heap.size 63 2 v' (k + 1) (cards ((upTo cs day ks cs.length).take k) ++ [.int .i64 x.1, .int .i64 x.2]) → Fr W.heap.size (Value.slice ao k co).ownBlock W w' →
                ∃ a' c', v' = .slice a' (k + 1) c' ∧ w'.ownsRow w.heap.size 63 2 (.slice a' (k + 1) c') (k + 1) (cards ((upTo cs day ks cs.length).take (k + 1))) ∧ Hid (Fr w.heap.size none w w')) := by
              intro x W hW v' w' hx ho' hF'
              obtain ⟨a', c', rfl, _, _⟩ := own_slice ho'
              refine ⟨a', c', rfl, ?_, ?_⟩
              · rw [htk.out, hx, cards, rows_append, rows_one]; exact ho'
              · have hW' := hF.out.and hW
                exact hW'.trans (hF'.up hW'.size fun g hg => (own_lt HO.out g hg).1)
            have hnx : Hid (nextC day (cs.getD k (0, 0)) (ks.getD k 0) = if (cs.getD k (0, 0)).2 ≤ day then ((if ks.getD k 0 = 1 then min ((cs.getD k (0, 0)).1 + 1) 5 else 1), day + waitZ (if ks.getD k 0 = 1 then min ((cs.getD k (0, 0)).1 + 1) 5 else 1)) else cs.getD k (0, 0)) := rfl
            clear htk
            generalize hcg : nextC day (cs.getD k (0, 0)) (ks.getD k 0) = nx at *
            clear hcg
            generalize cs.getD k (0, 0) = c at *
            generalize ks.getD k 0 = kn at *
            obtain ⟨c1, c2⟩ := c
            cases hin2 : inB kn 0 1
            · have hd := Lib.hid (hbad.out hin2)
              have hf := Lib.hid (after_no hd.out)
              have H3 := Lib.hid hin2; clear hin2
              have HE : Hid (Own (wr.alloc (.cells #[] 63)) w.heap.size 63 2 (.slice (some ⟨wr.heap.size, 0, none⟩) 0 0) 0 []) := (Own.of (World.ownsRow_made (base := wr.heap.size) _ #[] 0 (Nat.le_refl _) (by simp [maxLen]) (by simp))).base_le hsz
              go_wp2_with (go_at_call 65; refine (l1In_val H3.out _).mono ?_; rintro e w' ⟨rfl, rfl⟩)
              go_ret2
              rw [hd.out]
              exact newCB_nil hf.out HE.out (hF.out.alloc hsz _)
            · have hg := Lib.hid (hgood.out hin2)
              have H3 := Lib.hid hin2
              have hk01 := inB_true.1 hin2
              clear hin2
              have hr01 : kn = 0 ∨ kn = 1 := by omega
              clear hk01
              by_cases hdue : c2 ≤ day
              · rw [if_pos hdue] at hnx
                rcases hr01 with rfl | rfl
                · have hx : Hid (nx = (1, day + 1)) := hnx.out
                  have HW : Hid (∀ W, Calls Try.prog 84 #[.int .i64 1] W fun e w' => e = .returned (.int .i64 1) ∧ W = w') := fun W => specWaitOf_any 1 W
                  go_wp2_with (first | (go_at_call 65; refine (l1In_val H3.out _).mono ?_; rintro e w' ⟨rfl, rfl⟩) | (go_at_call 84; refine (HW.out _).mono ?_; rintro e w' ⟨rfl, rfl⟩) | (at_builtin; refine app1g 35 63 (.agg #[.int .i64 0, .int .i64 0]) 2 16 Try.underlying35 infoCard rfl (by decide) (by decide) rfl _ _ rfl [.int .i64 (1), .int .i64 (day + 1)] (HO.out.alloc _) rfl _ (by simp) rfl rfl (by simp [Value.oneCell']) (by omega) (by simp; omega) ?_; intro v' w' ho' hF'))
                  obtain ⟨a', c', rfl, h1, h2⟩ := ST.out (1, day + 1) _ ((Fr.refl _ _ _).alloc (Nat.le_refl _) _) v' w' hx.out ho' hF'
                  have H5 := Lib.hid h1; clear h1 ho' hF'
                  go_wp2
                  go_roundw
                  case rel => exact ⟨k + 1, a', c', by omega, rfl, by go_num, hg.out, H5.out, h2⟩
                  case measure => simp [intOf]; omega
                · by_cases h5 : c1 + 1 ≤ 5
                  · have hm5 : min (c1 + 1) 5 = c1 + 1 := by omega
                    have hx : Hid (nx = (c1 + 1, day + waitZ (c1 + 1))) := by have := hnx.out; simp only [if_true, hm5] at this; exact this
                    have hI : inB (c1 + 1) 1 5 = true := inB_true.2 ⟨by omega, by omega⟩
                    have HW : Hid (∀ W, Calls Try.prog 84 #[.int .i64 (c1 + 1)] W fun e w' => e = .returned (.int .i64 (waitZ (c1 + 1))) ∧ W = w') := fun W => waitOf_yes hI ▸ specWaitOf_any (c1 + 1) W
                    obtain ⟨hw1, hw2⟩ := waitZ_bd (b := c1 + 1) ⟨by omega, by omega⟩
                    clear hm5 hI hnx
                    generalize waitZ (c1 + 1) = wz at *
                    go_wp2_with (first | (go_at_call 65; refine (l1In_val H3.out _).mono ?_; rintro e w' ⟨rfl, rfl⟩) | (go_at_call 84; refine (HW.out _).mono ?_; rintro e w' ⟨rfl, rfl⟩) | (at_builtin; refine app1g 35 63 (.agg #[.int .i64 0, .int .i64 0]) 2 16 Try.underlying35 infoCard rfl (by decide) (by decide) rfl _ _ rfl [.int .i64 (c1 + 1), .int .i64 (day + wz)] (HO.out.alloc _) rfl _ (by simp) rfl rfl (by simp [Value.oneCell']) (by omega) (by simp; omega) ?_; intro v' w' ho' hF'))
                    obtain ⟨a', c', rfl, h1, h2⟩ := ST.out (c1 + 1, day + wz) _ ((Fr.refl _ _ _).alloc (Nat.le_refl _) _) v' w' hx.out ho' hF'
                    have H5 := Lib.hid h1; clear h1 ho' hF'
                    go_wp2
                    go_roundw
                    case rel => exact ⟨k + 1, a', c', by omega, rfl, by go_num, hg.out, H5.out, h2⟩
                    case measure => simp [intOf]; omega
                  · have hm5 : min (c1 + 1) 5 = 5 := by omega
                    have hx : Hid (nx = (5, day + 16)) := by have := hnx.out; simp only [if_true, hm5] at this; exact this
                    have HW : Hid (∀ W, Calls Try.prog 84 #[.int .i64 5] W fun e w' => e = .returned (.int .i64 16) ∧ W = w') := fun W => specWaitOf_any 5 W
                    clear hm5 hnx
                    go_wp2_with (first | (go_at_call 65; refine (l1In_val H3.out _).mono ?_; rintro e w' ⟨rfl, rfl⟩) | (go_at_call 84; refine (HW.out _).mono ?_; rintro e w' ⟨rfl, rfl⟩) | (at_builtin; refine app1g 35 63 (.agg #[.int .i64 0, .int .i64 0]) 2 16 Try.underlying35 infoCard rfl (by decide) (by decide) rfl _ _ rfl [.int .i64 (5), .int .i64 (day + 16)] (HO.out.alloc _) rfl _ (by simp) rfl rfl (by simp [Value.oneCell']) (by omega) (by simp; omega) ?_; intro v' w' ho' hF'))
                    obtain ⟨a', c', rfl, h1, h2⟩ := ST.out (5, day + 16) _ ((Fr.refl _ _ _).alloc (Nat.le_refl _) _) v' w' hx.out ho' hF'
                    have H5 := Lib.hid h1; clear h1 ho' hF'
                    go_wp2
                    go_roundw
                    case rel => exact ⟨k + 1, a', c', by omega, rfl, by go_num, hg.out, H5.out, h2⟩
                    case measure => simp [intOf]; omega
              · have hx : Hid (nx = (c1, c2)) := by have := hnx.out; rw [if_neg hdue] at this; exact this
                have hdue' : day < c2 := by omega
                go_wp2_with (first | (go_at_call 65; refine (l1In_val H3.out _).mono ?_; rintro e w' ⟨rfl, rfl⟩) | (at_builtin; refine app1g 35 63 (.agg #[.int .i64 0, .int .i64 0]) 2 16 Try.underlying35 infoCard rfl (by decide) (by decide) rfl _ _ rfl [.int .i64 (c1), .int .i64 (c2)] (HO.out.alloc _) rfl _ (by simp) rfl rfl (by simp [Value.oneCell']) (by omega) (by simp; omega) ?_; intro v' w' ho' hF'))
                obtain ⟨a', c', rfl, h1, h2⟩ := ST.out (c1, c2) _ ((Fr.refl _ _ _).alloc (Nat.le_refl _) _) v' w' hx.out ho' hF'
                have H5 := Lib.hid h1; clear h1 ho' hF'
                go_wp2
                go_roundw
                case rel => exact ⟨k + 1, a', c', by omega, rfl, by go_num, hg.out, H5.out, h2⟩
                case measure => simp [intOf]; omega
          · have hkk : k = cs.length := by omega
            have hlt' : (cs.length : Int) ≤ k := by omega
            have hd := Lib.hid (HY.out (fun j hj => hall.out j (by omega)))
            have hf := Lib.hid (after_yes hd.out)
            have hlen : Hid ((afterI cs day ks).length = k) := by show _ = _; rw [← hf.out, upTo_length, hkk]
            have HO2 : Hid (Own wr w.heap.size 63 2 (.slice ao k co) k (cards (afterI cs day ks))) := by
              have := Own.of HO.out
              rw [List.take_of_length_le (by rw [upTo_length]; omega), hf.out] at this; exact this
            clear hkk
            go_wp2
            go_ret2
            rw [hd.out]
            refine ⟨ao, co, by rw [hlen.out]; rfl, ?_, hF.out⟩
            rw [hlen.out]; exact HO2.out
      · have hd : dayOk cs day ks = false := by simp [dayOk, knownB, hl]
        have hz : ((ks.length : Int) != (cs.length : Int)) = true := by rw [bne_iff_ne]; omega
        have hf := Lib.hid (after_no hd); have H := Lib.hid h; have H2 := Lib.hid h2; have HD := Lib.hid hd; clear h h2 hd hl
        go_enter Try.func68, Try.ntmps68
        go_wp2_with (first | (go_at_call 66; refine (specDeck_val HS.out hm H.out).mono ?_; rintro e w' ⟨rfl, rfl⟩) | (go_at_call 65; refine (l1In_val H2.out _).mono ?_; rintro e w' ⟨rfl, rfl⟩))
        go_ret2
        rw [HD.out]
        exact newCB_nil hf.out (Own.of O0.out) F0.out
end Go.Proofs.Ytoedenmimcmkoaa
