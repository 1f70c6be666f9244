/-
  For every code the law FnAfterDay of the given program returns true, and the code reads as before. No condition.
-/
import Derived.Test.YthlkeblnkfmilaaDeckE
import Derived.Test.YthlkeblnkfmilaaDrawDeckB
import Derived.Test.YthlkeblnkfmilaaHas
import Derived.Test.YthlkeblnkfmilaaNum
namespace Go.Proofs.Ythlkeblnkfmilaa.fnAfterDay
open Go.RowKit
theorem mem_due {cs : List (Int × Int)} {day : Int} (h : deckOkB cs = true) (h2 : inB day 0 200 = true) (k : Nat) (hk : k < cs.length) : decide ((k : Int) ∈ dueI cs day) = decide ((cs.getD k (0, 0)).2 ≤ day) := by
  rw [← due_yes h h2]
  unfold dueTo
  apply decide_eq_decide.2
  simp only [List.mem_map, List.mem_filter, List.mem_range, decide_eq_true_eq]
  constructor
  · rintro ⟨i, ⟨h1, h2⟩, h3⟩
    have : i = k := by omega
    subst this; exact h2
  · intro h3; exact ⟨k, ⟨hk, h3⟩, rfl⟩
theorem day_parts {cs : List (Int × Int)} {day : Int} {ks : List Int} (h : dayOk cs day ks = true) : deckOkB cs = true ∧ inB day 0 200 = true := by
  simp only [dayOk, knownB, Bool.and_eq_true] at h; exact ⟨h.1.1, h.2⟩
theorem after_same {cs : List (Int × Int)} {day : Int} {ks : List Int} (h : dayOk cs day ks = true) (k : Nat) (hk : k < cs.length) (hd : ¬ (cs.getD k (0, 0)).2 ≤ day) : (afterI cs day ks).getD k (0, 0) = cs.getD k (0, 0) := by
  rw [← after_yes h, upTo_getD _ _ _ _ _ hk, if_pos hk, nextC, if_neg hd]
theorem none_due {cs : List (Int × Int)} {day : Int} {ks : List Int} (h : dayOk cs day ks = true) : (dueI (afterI cs day ks) day).length = 0 := by
  obtain ⟨h1, h2⟩ := day_parts h
  rw [← after_yes h]
  have hok := upTo_ok (cs := cs) (day := day) (ks := ks) (k := cs.length) h1 (inB_true.1 h2)
  rw [← due_yes hok h2]
  unfold dueTo
  rw [List.length_map, List.length_eq_zero_iff, List.filter_eq_nil_iff]
  intro t ht
  rw [List.mem_range, upTo_length] at ht
  rw [upTo_getD _ _ _ _ _ ht, if_pos ht, decide_eq_true_iff]
  unfold nextC
  have hc := (deck_in h1 t ht).1
  split
  · have hb : 1 ≤ (if ks.getD t 0 = 1 then min ((cs.getD t (0, 0)).1 + 1) 5 else 1) ∧ (if ks.getD t 0 = 1 then min ((cs.getD t (0, 0)).1 + 1) 5 else 1) ≤ 5 := by split <;> omega
    have hw := waitZ_bd hb
    simp only; omega
  · assumption
set_option maxHeartbeats 1000000 in
theorem walk {w : World} (a : Option Addr) (cap : Nat) (bs : List Int) (hs : Sl w a (bs.map (Value.int .u8))) (hb : ∀ x ∈ bs, 0 ≤ x ∧ x ≤ 255) (hcap : bs.length ≤ cap) :
    Calls Try.prog 12 #[.slice a bs.length cap] w fun e w' => e = .returned (.bool true) ∧ Fr w.heap.size none w w' := by
  have HS : Hid (Sl w a (u8s bs)) := hs
  have HB := Lib.hid hb; clear hs hb
  by_cases hn : bs.length ≤ 1048576
  · go_enter Try.func12, Try.ntmps12
    go_wp2_with fail
    refine (drawAfterDay_any a cap bs _ HS.out HB.out hn hcap).mono ?_; rintro e w1 ⟨va, vc, xs, d, ka, kc, ks, rfl, ho, hl, d0, d1, ko, kl, hF⟩
    have G1 := Lib.hid hF; have O1 := Lib.hid ho; have K1 := Lib.hid ko; clear hF ho ko
    have c1 := fun W hs hk => implAfterDay_any va vc xs d ka kc ks W hs (by omega) hk (by omega)
    have c2 := fun W hs hk => specAfterDay_any va vc xs d ka kc ks W hs (by omega) hk (by omega)
    have c3 := fun W hs => implDueOn_any va vc xs d W hs (by omega)
    have C1 := Lib.hid c1; have C2 := Lib.hid c2; have C3 := Lib.hid c3; clear c1 c2 c3
    have hle := Lib.hid (afterI_len xs d ks)
    have hle2 := Lib.hid (dueI_le xs d)
    go_wp2_with fail
    refine (C1.out _ (own_sl O1.out) (own_sl K1.out)).mono ?_; rintro e w2 ⟨fa, fc, rfl, fo, hF2⟩
    have FO2 := Lib.hid fo
    have O2 := Lib.hid (own_keep O1.out hF2)
    have K2 := Lib.hid (own_keep K1.out hF2)
    have G2 := Lib.hid (G1.out.and hF2)
    clear fo hF2
    go_wp2_with fail
    refine (C2.out _ (own_sl O2.out) (own_sl K2.out)).mono ?_; rintro e w3 ⟨sa, sc, rfl, so, hF3⟩
    have FO3 := Lib.hid (FO2.out.keep hF3)
    have O3 := Lib.hid (own_keep O2.out hF3)
    have G3 := Lib.hid (G2.out.and hF3)
    have SO3 := Lib.hid so
    clear so hF3
    go_wp2_with fail
    refine (sameCards_any _ _ _ _ (afterI xs d ks) _ FO3.out.sl SO3.out.sl hle.out).mono ?_; rintro e w4 ⟨rfl, hF4⟩
    have FO4 := Lib.hid (FO3.out.keep hF4)
    have O4 := Lib.hid (own_keep O3.out hF4)
    have G4 := Lib.hid (G3.out.and hF4)
    clear hF4
    cases h : dayOk xs d ks
    · have hz : (((afterI xs d ks).length : Int) == 0) = true := by rw [← after_no h]; rfl
      clear h
      go_wp2_with (go_at_call 18; refine (alive_any _).mono ?_; rintro e w' ⟨rfl, rfl⟩)
      go_ret
      exact ⟨rfl, G4.out⟩
    · obtain ⟨p1, p2⟩ := day_parts h
      have Q1 := Lib.hid (fun k hk => mem_due p1 p2 k hk)
      have Q2 := Lib.hid (fun k hk => after_same h k hk)
      have Q3 := Lib.hid (none_due h)
      have Q4 := Lib.hid (show (afterI xs d ks).length = xs.length by rw [← after_yes h, upTo_length])
      have Q5 := Lib.hid (show deckOkB (afterI xs d ks) = true by rw [← after_yes h]; exact upTo_ok p1 (inB_true.1 p2))
      clear p1 p2 h
      go_wp2_with fail
      refine (C3.out _ (own_sl O4.out)).mono ?_; rintro e w5 ⟨na, nc, rfl, no, hF5⟩
      have NO := Lib.hid no
      have FO5 := Lib.hid (FO4.out.keep hF5)
      have O5 := Lib.hid (own_keep O4.out hF5)
      have G5 := Lib.hid (G4.out.and hF5)
      clear no hF5
      go_wp2
      go_loopw [11] (fun i wr => ∃ k : Nat, k ≤ xs.length ∧ i = .int .i64 k ∧ ∃ m, wr = w5.drewN m) (fun i _ => xs.length - (intOf i).toNat)
      case atStart => exact ⟨0, Nat.zero_le _, rfl, 0, rfl⟩
      case round =>
        obtain ⟨k, hk, rfl, m, rfl⟩ := hrel
        by_cases hlt : k < xs.length
        · have hlx : (k : Int) < ((afterI xs d ks).length : Int) := by rw [Q4.out]; omega
          have hlt' : (k : Int) < (xs.length : Int) := by omega
          by_cases hd : (xs.getD k (0, 0)).2 ≤ d
          · have hm := Lib.hid (show decide ((k : Int) ∈ dueI xs d) = true by rw [Q1.out k hlt]; exact decide_eq_true hd)
            have CH : Hid (∀ n, Calls Try.prog 40 #[.slice na (dueI xs d).length nc, .int .i64 (k : Int)] (w5.drewN n) fun e w' => e = .returned (.bool true) ∧ w5.drewN n = w') := fun n => has_val (NO.out.sl.drewN n) hle2.out hm.out
            clear hd
            go_wp2
            go_quiet ((go_at_call 40; exact quiet_add_left (CH.out _)))
            go_wp2
            go_roundw
            case rel => exact ⟨k + 1, by omega, by go_num, _, by first | rfl | exact World.drewN_drewN ..⟩
            case measure => simp [intOf]; omega
          · have hm := Lib.hid (show decide ((k : Int) ∈ dueI xs d) = false by rw [Q1.out k hlt]; exact decide_eq_false hd)
            have CH : Hid (∀ n, Calls Try.prog 40 #[.slice na (dueI xs d).length nc, .int .i64 (k : Int)] (w5.drewN n) fun e w' => e = .returned (.bool false) ∧ w5.drewN n = w') := fun n => has_val (NO.out.sl.drewN n) hle2.out hm.out
            have he := Q2.out k hlt (by omega)
            obtain ⟨b1, off1, rfl, hc1, hc2, hc3⟩ := FO5.out.sl.card k (by rw [Q4.out]; exact hlt)
            obtain ⟨b2, off2, rfl, hd1, hd2, hd3⟩ := (own_sl O5.out).card k hlt
            rw [he] at hc1 hc2 hc3
            clear hd he
            generalize xs.getD k (0, 0) = x at *
            obtain ⟨xa, xb⟩ := x
            go_wp2
            go_quiet ((go_at_call 40; exact quiet_add_left (CH.out _)))
            go_wp2
            go_roundw
            case rel => exact ⟨k + 1, by omega, by go_num, _, by first | rfl | exact World.drewN_drewN ..⟩
            case measure => simp [intOf]; omega
        · have hge : ((afterI xs d ks).length : Int) ≤ (k : Int) := by rw [Q4.out]; omega
          have q1 : (((afterI xs d ks).length : Int) == (xs.length : Int)) = true := by rw [Q4.out]; simp
          have q2 : (((dueI (afterI xs d ks) d).length : Int) == 0) = true := by rw [Q3.out]; rfl
          go_wp2_with fail
          refine (implDeck_val (FO5.out.sl.drewN m) hle.out Q5.out).mono ?_; rintro e w6 ⟨rfl, hF6⟩
          have FO6 := Lib.hid ((FO5.out.drewN m).keep hF6)
          have G6 := Lib.hid ((G5.out.drewN m).and hF6); clear hF6
          go_wp2_with fail
          refine (implDueOn_any fa fc (afterI xs d ks) d _ FO6.out.sl hle.out).mono ?_; rintro e w7 ⟨da, dc, rfl, _, hF7⟩
          have G7 := Lib.hid (G6.out.and hF7); clear hF7
          go_wp2
          go_ret
          exact ⟨rfl, G7.out⟩
  · have hl : (1048576 : Int) < bs.length := by omega
    go_enter Try.func12, Try.ntmps12
    go_wp2
    go_ret
    exact ⟨rfl, Fr.refl _ _ _⟩
end Go.Proofs.Ythlkeblnkfmilaa.fnAfterDay
