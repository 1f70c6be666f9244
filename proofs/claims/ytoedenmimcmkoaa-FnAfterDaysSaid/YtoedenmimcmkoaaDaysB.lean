/-
  Contracts: AfterDays of the reference.
-/
import Derived.Test.YtoedenmimcmkoaaDaysA
namespace Go.Proofs.Ytoedenmimcmkoaa
open Go.RowKit

theorem specDay_val {a : Option Addr} {ca : Nat} {cs : List (Int × Int)} {day : Int} {b : Option Addr} {cb : Nat} {ks : List Int} {w : World} {r : Bool} (hs : Sl w a (cards cs)) (hm : cs.length ≤ 1048576) (hk : Sl w b (ints ks)) (hm2 : ks.length ≤ 1048576) (h : dayOk cs day ks = r) :
    Calls Try.prog 68 #[.slice a cs.length ca, .int .i64 day, .slice b ks.length cb] w (NewCB (afterI cs day ks) r w) := h ▸ specAfterDay_any a ca cs day b cb ks w hs hm hk hm2
theorem newCNB_made {ys : List (Int × Int)} {n : Int} {w w1 : World} (h : [] = ys) (hn : 0 = n) (hF : Fr w.heap.size none w w1) (X : Obj) (hX : X = .cells #[] 63) : NewCNB ys n false w (.returned (.tuple #[.slice (some ⟨w1.heap.size, 0, none⟩) 0 0, .int .i64 0, .bool false])) (w1.alloc X) := by
  subst hX
  have ho := Own.of (World.ownsRow_made (e := 63) (size := 2) (base := w.heap.size) w1 #[] 0 hF.size (by simp [maxLen]) (by simp))
  exact newCNB_nil h hn ho (hF.alloc hF.size _)

set_option maxHeartbeats 1000000 in
theorem specAfterDays_no (a : Option Addr) (ca : Nat) (cs : List (Int × Int)) (d1 d2 : Int) (b : Option Addr) (cb : Nat) (ks : List Int) (w : World) (hs : Sl w a (cards cs)) (hm : cs.length ≤ 1048576) (hm2 : ks.length ≤ 1048576)
    (h : inB d1 0 d2 = false ∨ inB d2 0 200 = false ∨ deckOkB cs = false ∨ ks.length ≠ cs.length) (hf : [] = daysC cs d1 d2 ks) (hf2 : 0 = daysN cs d1 d2 ks) :
    Calls Try.prog 25 #[.slice a cs.length ca, .int .i64 d1, .int .i64 d2, .slice b ks.length cb] w (NewCNB (daysC cs d1 d2 ks) (daysN cs d1 d2 ks) false w) := by
  have HS := Lib.hid hs; have HF := Lib.hid hf; have HF2 := Lib.hid hf2; clear hs hf hf2
  cases k1 : inB d1 0 d2
  · have K1 := Lib.hid k1; clear k1 h
    go_enter Try.func25, Try.ntmps25
    go_wp2_with fail
    refine (l1In_val K1.out _).mono ?_; rintro e w' ⟨rfl, rfl⟩
    go_wp2
    go_ret3
    exact newCNB_made HF.out HF2.out (Fr.refl _ _ _) _ rfl
  · cases k2 : inB d2 0 200
    · have K1 := Lib.hid k1; have K2 := Lib.hid k2; clear k1 k2 h
      go_enter Try.func25, Try.ntmps25
      go_wp2_with fail
      refine (l1In_val K1.out _).mono ?_; rintro e w' ⟨rfl, rfl⟩
      go_wp2_with fail
      refine (l1In_val K2.out _).mono ?_; rintro e w' ⟨rfl, rfl⟩
      go_wp2
      go_ret3
      exact newCNB_made HF.out HF2.out (Fr.refl _ _ _) _ rfl
    · cases k3 : deckOkB cs
      · have K1 := Lib.hid k1; have K2 := Lib.hid k2; have K3 := Lib.hid k3; clear k1 k2 k3 h
        go_enter Try.func25, Try.ntmps25
        go_wp2_with fail
        refine (l1In_val K1.out _).mono ?_; rintro e w' ⟨rfl, rfl⟩
        go_wp2_with fail
        refine (l1In_val K2.out _).mono ?_; rintro e w' ⟨rfl, rfl⟩
        go_wp2_with fail
        refine (specDeck_val HS.out hm K3.out).mono ?_; rintro e w' ⟨rfl, rfl⟩
        go_wp2
        go_ret3
        exact newCNB_made HF.out HF2.out (Fr.refl _ _ _) _ rfl
      · have hz : ((ks.length : Int) != (cs.length : Int)) = true := by
          rw [bne_iff_ne]
          intro e
          rcases h with h | h | h | h
          · rw [k1] at h; cases h
          · rw [k2] at h; cases h
          · rw [k3] at h; cases h
          · omega
        have K1 := Lib.hid k1; have K2 := Lib.hid k2; have K3 := Lib.hid k3; clear k1 k2 k3 h
        go_enter Try.func25, Try.ntmps25
        go_wp2_with fail
        refine (l1In_val K1.out _).mono ?_; rintro e w' ⟨rfl, rfl⟩
        go_wp2_with fail
        refine (l1In_val K2.out _).mono ?_; rintro e w' ⟨rfl, rfl⟩
        go_wp2_with fail
        refine (specDeck_val HS.out hm K3.out).mono ?_; rintro e w' ⟨rfl, rfl⟩
        go_wp2
        go_ret3
        exact newCNB_made HF.out HF2.out (Fr.refl _ _ _) _ rfl

-- MAIN
set_option maxHeartbeats 1000000 in
theorem specAfterDays_bad (a : Option Addr) (ca : Nat) (cs : List (Int × Int)) (d1 d2 : Int) (b : Option Addr) (cb : Nat) (ks : List Int) (w : World) (hs : Sl w a (cards cs)) (hm : cs.length ≤ 1048576) (hk : Sl w b (ints ks)) (hm2 : ks.length ≤ 1048576)
    (k1 : inB d1 0 d2 = true) (k2 : inB d2 0 200 = true) (k3 : deckOkB cs = true) (hlen : ks.length = cs.length) (hbad : ks.all (fun n => inB n 0 1) = false) (hf : [] = daysC cs d1 d2 ks) (hf2 : 0 = daysN cs d1 d2 ks) :
    Calls Try.prog 25 #[.slice a cs.length ca, .int .i64 d1, .int .i64 d2, .slice b ks.length cb] w (NewCNB (daysC cs d1 d2 ks) (daysN cs d1 d2 ks) false w) := by
  have HF := Lib.hid hf; have HF2 := Lib.hid hf2
  have hday : ∀ day, dayOk cs day ks = false := by intro day; simp [dayOk, knownB, hbad]
  have HDAY := Lib.hid hday
  have hl := deck_len k3
  have hb1 := inB_true.1 k1; have hb2 := inB_true.1 k2
  obtain ⟨u1, u2⟩ := hb1; obtain ⟨u3, u4⟩ := hb2
  have hz : ((ks.length : Int) != (cs.length : Int)) = false := by rw [bne_eq_false_iff_eq]; omega
  have HS := Lib.hid hs; have HK := Lib.hid hk; have K1 := Lib.hid k1; have K2 := Lib.hid k2; have K3 := Lib.hid k3; have HLEN := Lib.hid hlen; have HBAD := Lib.hid hbad
  clear hs hk k1 k2 k3 hlen hbad hf hf2 hday
  cases a with
  | none =>
    have h0 : cs.length = 0 := by
      by_cases h : cs.length = 0
      · exact h
      · obtain ⟨b1, off, e, _⟩ := HS.out.card 0 (by omega)
        cases e
    have h1 : ks = [] := List.eq_nil_of_length_eq_zero (by rw [HLEN.out]; exact h0)
    have := HBAD.out
    rw [h1] at this
    cases this
  | some p =>
    go_enter Try.func25, Try.ntmps25
    go_wp2_with fail
    refine (l1In_val K1.out _).mono ?_; rintro e w' ⟨rfl, rfl⟩
    go_wp2_with fail
    refine (l1In_val K2.out _).mono ?_; rintro e w' ⟨rfl, rfl⟩
    go_wp2_with fail
    refine (specDeck_val HS.out hm K3.out).mono ?_; rintro e w' ⟨rfl, rfl⟩
    go_wp2_with (at_builtin; refine appAll 35 63 (.agg #[.int .i64 0, .int .i64 0]) 2 16 Try.underlying35 infoCard rfl (by decide) (by decide) rfl _ _ rfl p cs.length ca (cards cs) (World.ownsRow_made (base := w.heap.size) w #[] 0 (Nat.le_refl _) (by simp [maxLen]) (by simp)) rfl rfl (cards_length cs) (HS.out.fr ((Fr.refl _ _ _).alloc (Nat.le_refl _) _)) (cells_one cs) (by omega) (by simp) ?_; intro v' w1 ho' hF')
    obtain ⟨oa, oc, rfl, _, _⟩ := own_slice ho'
    rw [Nat.zero_add, List.nil_append] at ho'
    have O1 := Lib.hid (Own.of ho')
    have G1 := Lib.hid (((Fr.refl _ _ w).alloc (Nat.le_refl _) _).trans (hF'.up (B' := w.heap.size) (by simp) (by intro g hg; cases hg; exact Nat.le_refl _)))
    clear ho' hF'
    rw [Nat.zero_add]
    go_wp2
    go_loopw [11, 12, 13] (fun v n d wr => v = .slice oa cs.length oc ∧ n = .int .i64 0 ∧ d = .int .i64 d1 ∧ wr = w1) (fun _ _ _ _ => 0)
    case atStart => exact ⟨rfl, rfl, rfl, rfl⟩
    case round =>
      obtain ⟨rfl, rfl, rfl, rfl⟩ := hrel
      by_cases hlt : d1 < d2
      · go_wp2_with fail
        refine (specDueOn_any oa oc cs d1 _ O1.out.sl hm).mono ?_; rintro e w2 ⟨da, dc, rfl, _, hF2⟩
        have O2 := Lib.hid (O1.out.keep hF2)
        have G2 := Lib.hid (G1.out.and hF2); clear hF2
        have hdl := Nat.le_trans (show (dueI cs d1).length ≤ cs.length by unfold dueI; split; exact dueTo_len _ _ _; exact Nat.zero_le _) hl
        go_wp2_with fail
        refine (specDay_val O2.out.sl hm (HK.out.fr G2.out) hm2 (HDAY.out d1)).mono ?_; rintro e w3 ⟨xa, xc, rfl, _, hF3⟩
        have G3 := Lib.hid (G2.out.and hF3); clear hF3
        go_wp2
        go_ret3
        exact newCNB_made HF.out HF2.out G3.out _ rfl
      · have hge : d2 ≤ d1 := by omega
        clear hlt
        go_wp2
        go_loop [16] (fun i => ∃ k : Nat, k ≤ ks.length ∧ i = .int .i64 k ∧ Hid ((ks.take k).all (fun n => inB n 0 1) = true)) (fun i => ks.length - (intOf i).toNat)
        case atStart => exact ⟨0, Nat.zero_le _, rfl, rfl⟩
        case round =>
          obtain ⟨k, hk, rfl, hall⟩ := hrel
          by_cases hlk : k < ks.length
          · obtain ⟨b2, off2, rfl, hc⟩ := (HK.out.fr G1.out).int k hlk
            have hlk' : (k : Int) < (ks.length : Int) := by omega
            cases hx : inB (ks.getD k 0) 0 1
            · have HX := Lib.hid hx; clear hx
              generalize ks.getD k 0 = x at *
              go_wp2_with fail
              refine (l1In_val HX.out _).mono ?_; rintro e w' ⟨rfl, rfl⟩
              go_wp2
              go_ret3
              exact newCNB_made HF.out HF2.out G1.out _ rfl
            · have hall2 := Lib.hid (show (ks.take (k + 1)).all (fun n => inB n 0 1) = true by
                rw [List.take_succ_eq_append_getElem hlk, List.all_append, hall.out]
                simpa [List.getD_eq_getElem?_getD, hlk] using hx)
              have HX := Lib.hid hx; clear hx
              generalize ks.getD k 0 = x at *
              go_wp2_with fail
              refine (l1In_val HX.out _).mono ?_; rintro e w' ⟨rfl, rfl⟩
              go_wp2
              go_round
              case rel => exact ⟨k + 1, by omega, by go_num, hall2⟩
              case measure => simp [intOf]; omega
          · have hke : k = ks.length := by omega
            have := hall.out
            rw [hke, List.take_length, HBAD.out] at this
            cases this
set_option maxHeartbeats 1000000 in
theorem specAfterDays_yes (a : Option Addr) (ca : Nat) (cs : List (Int × Int)) (d1 d2 : Int) (b : Option Addr) (cb : Nat) (ks : List Int) (w : World) (hs : Sl w a (cards cs)) (hm : cs.length ≤ 1048576) (hk : Sl w b (ints ks)) (hm2 : ks.length ≤ 1048576)
    (k1 : inB d1 0 d2 = true) (k2 : inB d2 0 200 = true) (k3 : deckOkB cs = true) (hlen : ks.length = cs.length) (hgood : ks.all (fun n => inB n 0 1) = true) (hf : runC cs ks d1 (d2 - d1).toNat = daysC cs d1 d2 ks) (hf2 : (runN cs ks d1 (d2 - d1).toNat : Int) = daysN cs d1 d2 ks) :
    Calls Try.prog 25 #[.slice a cs.length ca, .int .i64 d1, .int .i64 d2, .slice b ks.length cb] w (NewCNB (daysC cs d1 d2 ks) (daysN cs d1 d2 ks) true w) := by
  have hb1 := inB_true.1 k1; have hb2 := inB_true.1 k2
  obtain ⟨u1, u2⟩ := hb1; obtain ⟨u3, u4⟩ := hb2
  obtain ⟨x, rfl⟩ := Int.eq_ofNat_of_zero_le u1
  obtain ⟨y, rfl⟩ := Int.eq_ofNat_of_zero_le u3
  have hy : y ≤ 200 := by omega
  have hxy : x ≤ y := by omega
  rw [show ((y : Int) - (x : Int)).toNat = y - x by omega] at hf hf2
  have hl := deck_len k3
  have hz : ((ks.length : Int) != (cs.length : Int)) = false := by rw [bne_eq_false_iff_eq]; omega
  have HS := Lib.hid hs; have HK := Lib.hid hk; have K1 := Lib.hid k1; have K2 := Lib.hid k2; have K3 := Lib.hid k3; have HLEN := Lib.hid hlen; have HGOOD := Lib.hid hgood
  have HF := Lib.hid hf; have HF2 := Lib.hid hf2
  clear hs hk k1 k2 k3 hlen hgood hf hf2 u1 u2 u3 u4
  cases a with
  | none =>
    have h0 : cs = [] := by
      cases cs with
      | nil => rfl
      | cons c r =>
        obtain ⟨b1, off, e, _⟩ := HS.out.card 0 (by simp)
        cases e
    subst h0
    have hz0 : ((ks.length : Int) != 0) = false := by rw [HLEN.out]; rfl
    go_enter Try.func25, Try.ntmps25
    go_wp2_with fail
    refine (l1In_val K1.out _).mono ?_; rintro e w' ⟨rfl, rfl⟩
    go_wp2_with fail
    refine (l1In_val K2.out _).mono ?_; rintro e w' ⟨rfl, rfl⟩
    go_wp2_with fail
    refine (specDeck_val HS.out hm K3.out).mono ?_; rintro e w' ⟨rfl, rfl⟩
    have O1 := Lib.hid (Own.of (World.ownsRow_made (e := 63) (size := 2) (base := w.heap.size) w #[] 0 (Nat.le_refl _) (by simp [maxLen]) (by simp)))
    have G1 := Lib.hid ((Fr.refl w.heap.size none w).alloc (Nat.le_refl _) (.cells #[] 63))
    go_wp2
    go_loopw [11, 12, 13] (fun v n d wr => ∃ (t : Nat) (a' : Option Addr) (c' : Nat), v = .slice a' 0 c' ∧ x + t ≤ y ∧ n = .int .i64 (runN ([] : List (Int × Int)) ks x t) ∧ d = .int .i64 ((x + t : Nat) : Int) ∧ Own wr w.heap.size 63 2 (.slice a' 0 c') 0 (cards (runC ([] : List (Int × Int)) ks x t)) ∧ Fr w.heap.size none w wr) (fun _ _ d _ => y - (intOf d).toNat)
    case atStart => exact ⟨0, some ⟨w.heap.size, 0, none⟩, 0, rfl, hxy, rfl, rfl, O1.out, G1.out⟩
    case round =>
      obtain ⟨t, oa', oc', rfl, ht, rfl, rfl, ho, hF⟩ := hrel
      have HO := Lib.hid ho; have HG := Lib.hid hF; have hzz := hF.size; clear ho hF
      have hnl : runN ([] : List (Int × Int)) ks x t ≤ t * 0 := runN_le ([] : List (Int × Int)) ks x t
      have hnm : t * 0 ≤ 200 * 8 := Nat.mul_le_mul (by omega) hl
      have hn1 : runN ([] : List (Int × Int)) ks x t ≤ 1600 := by omega
      clear hnl hnm
      by_cases hlt : x + t < y
      · have hL : (runC ([] : List (Int × Int)) ks x t).length = 0 := runC_length ([] : List (Int × Int)) ks x t
        have hokt : deckOkB (runC ([] : List (Int × Int)) ks x t) = true := runC_ok K3.out (by omega) t (by omega)
        have hday : inB ((x : Int) + t) 0 200 = true := inB_true.2 ⟨by omega, by omega⟩
        have hkn : dayOk (runC ([] : List (Int × Int)) ks x t) ((x : Int) + t) ks = true := by
          simp only [dayOk, knownB, Bool.and_eq_true, decide_eq_true_eq]
          exact ⟨⟨hokt, by rw [hL]; exact HLEN.out, HGOOD.out⟩, hday⟩
        have eA : afterI (runC ([] : List (Int × Int)) ks x t) ((x : Int) + t) ks = runC ([] : List (Int × Int)) ks x (t + 1) := (after_yes hkn).symm
        have eD := due_yes hokt hday
        have eN : runN ([] : List (Int × Int)) ks x t + (dueI (runC ([] : List (Int × Int)) ks x t) ((x : Int) + t)).length = runN ([] : List (Int × Int)) ks x (t + 1) := by rw [← eD]; rfl
        have hdl : (dueI (runC ([] : List (Int × Int)) ks x t) ((x : Int) + t)).length ≤ 0 := by rw [← eD, ← hL]; exact dueTo_len _ _ _
        have eL : (runC ([] : List (Int × Int)) ks x (t + 1)).length = 0 := runC_length ([] : List (Int × Int)) ks x (t + 1)
        have cD : ∀ W, Sl W oa' (cards (runC ([] : List (Int × Int)) ks x t)) → Calls Try.prog 67 #[.slice oa' 0 oc', .int .i64 ((x : Int) + t)] W (NewI (dueI (runC ([] : List (Int × Int)) ks x t) ((x : Int) + t)) W) := by
          intro W h
          have := specDueOn_any oa' oc' (runC ([] : List (Int × Int)) ks x t) ((x : Int) + t) W h (by rw [hL]; exact hm)
          rw [hL] at this; exact this
        have cA : ∀ W, Sl W oa' (cards (runC ([] : List (Int × Int)) ks x t)) → Sl W b (ints ks) → Calls Try.prog 68 #[.slice oa' 0 oc', .int .i64 ((x : Int) + t), .slice b ks.length cb] W (NewCB (runC ([] : List (Int × Int)) ks x (t + 1)) true W) := by
          intro W h h'
          have := specDay_val (a := oa') (ca := oc') (cb := cb) h (by rw [hL]; exact hm) h' hm2 hkn
          rw [hL, eA] at this; exact this
        have CD := Lib.hid cD; have CA := Lib.hid cA; have EN := Lib.hid eN; have EL := Lib.hid eL
        have hcast : ((x + t : Nat) : Int) = (x : Int) + (t : Int) := by omega
        clear cD cA eN eL hL hokt hday hkn eA eD
        go_wp2_with fail
        refine (CD.out _ HO.out.sl).mono ?_; rintro e w2 ⟨da, dc, rfl, _, hF2⟩
        have O2 := Lib.hid (HO.out.keep hF2)
        have G2 := Lib.hid (HG.out.and hF2); have z2 := hF2.size; clear hF2
        go_wp2_with fail
        refine (CA.out _ O2.out.sl (HK.out.fr G2.out)).mono ?_; rintro e w3 ⟨xa, xc, rfl, xo, hF3⟩
        rw [EL.out] at xo ⊢
        have O3 := Lib.hid (xo.base_le (by omega : w.heap.size ≤ w2.heap.size))
        have G3 := Lib.hid (G2.out.and hF3); clear hF3 xo
        go_wp2
        go_roundw
        case rel => exact ⟨t + 1, xa, xc, rfl, by omega, by rw [← EN.out]; go_num, by go_num, O3.out, G3.out⟩
        case measure => simp [intOf]; omega
      · have hge : (y : Int) ≤ ((x + t : Nat) : Int) := by omega
        have hte : t = y - x := by omega
        have e1 := Lib.hid (show (runN ([] : List (Int × Int)) ks x t : Int) = daysN ([] : List (Int × Int)) x y ks by rw [hte]; exact HF2.out)
        have e2 := Lib.hid (show runC ([] : List (Int × Int)) ks x t = daysC ([] : List (Int × Int)) x y ks by rw [hte]; exact HF.out)
        have e3 := Lib.hid (show 0 = (daysC ([] : List (Int × Int)) x y ks).length by rw [← e2.out, runC_length] <;> rfl)
        have ho := HO.out
        rw [e2.out] at ho
        have O9 := Lib.hid ho
        clear hte ho
        generalize ((x + t : Nat) : Int) = dd at *
        go_wp2
        go_loopw [16] (fun i wq => ∃ k : Nat, k ≤ ks.length ∧ i = .int .i64 k ∧ Own wq w.heap.size 63 2 (.slice oa' 0 oc') 0 (cards (daysC ([] : List (Int × Int)) x y ks)) ∧ Fr w.heap.size none w wq) (fun i _ => ks.length - (intOf i).toNat)
        case atStart => exact ⟨0, Nat.zero_le _, rfl, O9.out, HG.out⟩
        case round =>
          obtain ⟨k, hk, rfl, ho9, hG9⟩ := hrel
          have P9 := Lib.hid ho9; have Q9 := Lib.hid hG9; clear ho9 hG9
          by_cases hlk : k < ks.length
          · obtain ⟨b2, off2, rfl, hc⟩ := (HK.out.fr Q9.out).int k hlk
            have hlk' : (k : Int) < (ks.length : Int) := by omega
            have hx : inB (ks.getD k 0) 0 1 = true := by
              have := HGOOD.out
              rw [List.all_eq_true] at this
              exact this _ (by simp [List.getD_eq_getElem?_getD, hlk])
            have HX := Lib.hid hx; clear hx
            generalize ks.getD k 0 = q at *
            go_wp2_with fail
            refine (l1In_val HX.out _).mono ?_; rintro e w' ⟨rfl, rfl⟩
            go_wp2
            go_roundw
            case rel => exact ⟨k + 1, by omega, by go_num, P9.out, Q9.out⟩
            case measure => simp [intOf]; omega
          · have hgk : (ks.length : Int) ≤ (k : Int) := by omega
            go_wp2
            go_ret3
            rw [e1.out]
            have := P9.out
            rw [e3.out] at this ⊢
            exact ⟨_, _, rfl, this, Q9.out⟩
  | some p =>
    go_enter Try.func25, Try.ntmps25
    go_wp2_with fail
    refine (l1In_val K1.out _).mono ?_; rintro e w' ⟨rfl, rfl⟩
    go_wp2_with fail
    refine (l1In_val K2.out _).mono ?_; rintro e w' ⟨rfl, rfl⟩
    go_wp2_with fail
    refine (specDeck_val HS.out hm K3.out).mono ?_; rintro e w' ⟨rfl, rfl⟩
    go_wp2_with (at_builtin; refine appAll 35 63 (.agg #[.int .i64 0, .int .i64 0]) 2 16 Try.underlying35 infoCard rfl (by decide) (by decide) rfl _ _ rfl p cs.length ca (cards cs) (World.ownsRow_made (base := w.heap.size) w #[] 0 (Nat.le_refl _) (by simp [maxLen]) (by simp)) rfl rfl (cards_length cs) (HS.out.fr ((Fr.refl _ _ _).alloc (Nat.le_refl _) _)) (cells_one cs) (by omega) (by simp) ?_; intro v' w1 ho' hF')
    obtain ⟨oa, oc, rfl, _, _⟩ := own_slice ho'
    rw [Nat.zero_add, List.nil_append] at ho'
    have O1 := Lib.hid (Own.of ho')
    have G1 := Lib.hid (((Fr.refl _ _ w).alloc (Nat.le_refl _) _).trans (hF'.up (B' := w.heap.size) (by simp) (by intro g hg; cases hg; exact Nat.le_refl _)))
    clear ho' hF'
    rw [Nat.zero_add]
    go_wp2
    go_loopw [11, 12, 13] (fun v n d wr => ∃ (t : Nat) (a' : Option Addr) (c' : Nat), v = .slice a' cs.length c' ∧ x + t ≤ y ∧ n = .int .i64 (runN cs ks x t) ∧ d = .int .i64 ((x + t : Nat) : Int) ∧ Own wr w.heap.size 63 2 (.slice a' cs.length c') cs.length (cards (runC cs ks x t)) ∧ Fr w.heap.size none w wr) (fun _ _ d _ => y - (intOf d).toNat)
    case atStart => exact ⟨0, oa, oc, rfl, hxy, rfl, rfl, O1.out, G1.out⟩
    case round =>
      obtain ⟨t, oa', oc', rfl, ht, rfl, rfl, ho, hF⟩ := hrel
      have HO := Lib.hid ho; have HG := Lib.hid hF; have hzz := hF.size; clear ho hF
      have hnl : runN cs ks x t ≤ t * cs.length := runN_le cs ks x t
      have hnm : t * cs.length ≤ 200 * 8 := Nat.mul_le_mul (by omega) hl
      have hn1 : runN cs ks x t ≤ 1600 := by omega
      clear hnl hnm
      by_cases hlt : x + t < y
      · have hL : (runC cs ks x t).length = cs.length := runC_length cs ks x t
        have hokt : deckOkB (runC cs ks x t) = true := runC_ok K3.out (by omega) t (by omega)
        have hday : inB ((x : Int) + t) 0 200 = true := inB_true.2 ⟨by omega, by omega⟩
        have hkn : dayOk (runC cs ks x t) ((x : Int) + t) ks = true := by
          simp only [dayOk, knownB, Bool.and_eq_true, decide_eq_true_eq]
          exact ⟨⟨hokt, by rw [hL]; exact HLEN.out, HGOOD.out⟩, hday⟩
        have eA : afterI (runC cs ks x t) ((x : Int) + t) ks = runC cs ks x (t + 1) := (after_yes hkn).symm
        have eD := due_yes hokt hday
        have eN : runN cs ks x t + (dueI (runC cs ks x t) ((x : Int) + t)).length = runN cs ks x (t + 1) := by rw [← eD]; rfl
        have hdl : (dueI (runC cs ks x t) ((x : Int) + t)).length ≤ cs.length := by rw [← eD, ← hL]; exact dueTo_len _ _ _
        have eL : (runC cs ks x (t + 1)).length = cs.length := runC_length cs ks x (t + 1)
        have cD : ∀ W, Sl W oa' (cards (runC cs ks x t)) → Calls Try.prog 67 #[.slice oa' cs.length oc', .int .i64 ((x : Int) + t)] W (NewI (dueI (runC cs ks x t) ((x : Int) + t)) W) := by
          intro W h
          have := specDueOn_any oa' oc' (runC cs ks x t) ((x : Int) + t) W h (by rw [hL]; exact hm)
          rw [hL] at this; exact this
        have cA : ∀ W, Sl W oa' (cards (runC cs ks x t)) → Sl W b (ints ks) → Calls Try.prog 68 #[.slice oa' cs.length oc', .int .i64 ((x : Int) + t), .slice b ks.length cb] W (NewCB (runC cs ks x (t + 1)) true W) := by
          intro W h h'
          have := specDay_val (a := oa') (ca := oc') (cb := cb) h (by rw [hL]; exact hm) h' hm2 hkn
          rw [hL, eA] at this; exact this
        have CD := Lib.hid cD; have CA := Lib.hid cA; have EN := Lib.hid eN; have EL := Lib.hid eL
        have hcast : ((x + t : Nat) : Int) = (x : Int) + (t : Int) := by omega
        clear cD cA eN eL hL hokt hday hkn eA eD
        go_wp2_with fail
        refine (CD.out _ HO.out.sl).mono ?_; rintro e w2 ⟨da, dc, rfl, _, hF2⟩
        have O2 := Lib.hid (HO.out.keep hF2)
        have G2 := Lib.hid (HG.out.and hF2); have z2 := hF2.size; clear hF2
        go_wp2_with fail
        refine (CA.out _ O2.out.sl (HK.out.fr G2.out)).mono ?_; rintro e w3 ⟨xa, xc, rfl, xo, hF3⟩
        rw [EL.out] at xo ⊢
        have O3 := Lib.hid (xo.base_le (by omega : w.heap.size ≤ w2.heap.size))
        have G3 := Lib.hid (G2.out.and hF3); clear hF3 xo
        go_wp2
        go_roundw
        case rel => exact ⟨t + 1, xa, xc, rfl, by omega, by rw [← EN.out]; go_num, by go_num, O3.out, G3.out⟩
        case measure => simp [intOf]; omega
      · have hge : (y : Int) ≤ ((x + t : Nat) : Int) := by omega
        have hte : t = y - x := by omega
        have e1 := Lib.hid (show (runN cs ks x t : Int) = daysN cs x y ks by rw [hte]; exact HF2.out)
        have e2 := Lib.hid (show runC cs ks x t = daysC cs x y ks by rw [hte]; exact HF.out)
        have e3 := Lib.hid (show cs.length = (daysC cs x y ks).length by rw [← e2.out, runC_length] <;> rfl)
        have ho := HO.out
        rw [e2.out] at ho
        have O9 := Lib.hid ho
        clear hte ho
        generalize ((x + t : Nat) : Int) = dd at *
        go_wp2
        go_loopw [16] (fun i wq => ∃ k : Nat, k ≤ ks.length ∧ i = .int .i64 k ∧ Own wq w.heap.size 63 2 (.slice oa' cs.length oc') cs.length (cards (daysC cs x y ks)) ∧ Fr w.heap.size none w wq) (fun i _ => ks.length - (intOf i).toNat)
        case atStart => exact ⟨0, Nat.zero_le _, rfl, O9.out, HG.out⟩
        case round =>
          obtain ⟨k, hk, rfl, ho9, hG9⟩ := hrel
          have P9 := Lib.hid ho9; have Q9 := Lib.hid hG9; clear ho9 hG9
          by_cases hlk : k < ks.length
          · obtain ⟨b2, off2, rfl, hc⟩ := (HK.out.fr Q9.out).int k hlk
            have hlk' : (k : Int) < (ks.length : Int) := by omega
            have hx : inB (ks.getD k 0) 0 1 = true := by
              have := HGOOD.out
              rw [List.all_eq_true] at this
              exact this _ (by simp [List.getD_eq_getElem?_getD, hlk])
            have HX := Lib.hid hx; clear hx
            generalize ks.getD k 0 = q at *
            go_wp2_with fail
            refine (l1In_val HX.out _).mono ?_; rintro e w' ⟨rfl, rfl⟩
            go_wp2
            go_roundw
            case rel => exact ⟨k + 1, by omega, by go_num, P9.out, Q9.out⟩
            case measure => simp [intOf]; omega
          · have hgk : (ks.length : Int) ≤ (k : Int) := by omega
            go_wp2
            go_ret3
            rw [e1.out]
            have := P9.out
            rw [e3.out] at this ⊢
            exact ⟨_, _, rfl, this, Q9.out⟩
end Go.Proofs.Ytoedenmimcmkoaa
