/-
  Contracts: AfterDays, of the program and of the reference.
-/
import Derived.Test.YtoedenmimcmkoaaDaysP
import Derived.Test.YtoedenmimcmkoaaDeckE
namespace Go.Proofs.Ytoedenmimcmkoaa
open Go.RowKit

/-- A new slice of cards, a number and a truth. -/
def NewCNB (ys : List (Int × Int)) (n : Int) (b : Bool) (w : World) (e : Ending) (w' : World) : Prop :=
  ∃ a cap, e = .returned (.tuple #[.slice a ys.length cap, .int .i64 n, .bool b]) ∧ Own w' w.heap.size 63 2 (.slice a ys.length cap) ys.length (cards ys) ∧ Fr w.heap.size none w w'
theorem newCNB_nil {ys : List (Int × Int)} {n : Int} {w w' : World} {a : Option Addr} {b : Bool} (h : [] = ys) (hn : 0 = n) (ho : Own w' w.heap.size 63 2 (.slice a 0 0) 0 []) (hF : Fr w.heap.size none w w') : NewCNB ys n b w (.returned (.tuple #[.slice a 0 0, .int .i64 0, .bool b])) w' := by
  subst h; subst hn; exact ⟨a, 0, rfl, ho, hF⟩

set_option maxHeartbeats 1000000 in
theorem implAfterDays_any (a : Option Addr) (ca : Nat) (cs : List (Int × Int)) (d1 d2 : Int) (b : Option Addr) (cb : Nat) (ks : List Int) (w : World) (hs : Sl w a (cards cs)) (hm : cs.length ≤ 1048576) (hk : Sl w b (ints ks)) (hm2 : ks.length ≤ 1048576) :
    Calls Try.prog 24 #[.slice a cs.length ca, .int .i64 d1, .int .i64 d2, .slice b ks.length cb] w (NewCNB (daysC cs d1 d2 ks) (daysN cs d1 d2 ks) (daysOk cs d1 d2 ks) w) := by
  have hbl : ∀ p, b = some p → 0 < ks.length → p.block < w.heap.size := by
    intro q hq h0
    obtain ⟨b1, off, h1, h2⟩ := hk.int 0 h0
    rw [hq] at h1; cases h1
    exact World.block_lt_of_cell? w _ h2
  have HS := Lib.hid hs; have HK := Lib.hid hk; have HBL := Lib.hid hbl; clear hs hk hbl
  cases h : daysOk cs d1 d2 ks
  · have hf := Lib.hid (daysC_no h); have hf2 := Lib.hid (daysN_no h)
    cases k1 : knownB cs ks
    · have K1 := Lib.hid k1; clear h k1
      go_enter Try.func24, Try.ntmps24
      go_wp2_with fail
      refine (known_val HS.out hm HK.out hm2 K1.out).mono ?_; rintro e w1 ⟨rfl, hF⟩
      have HF := Lib.hid hF; clear hF
      go_wp2
      go_ret3
      exact newCNB_nil hf.out hf2.out (Own.nil _ _ _ _) HF.out
    · cases k2 : inB d2 0 200
      · have K1 := Lib.hid k1; have K2 := Lib.hid k2; clear h k1 k2
        go_enter Try.func24, Try.ntmps24
        go_wp2_with fail
        refine (known_val HS.out hm HK.out hm2 K1.out).mono ?_; rintro e w1 ⟨rfl, hF⟩
        have HF := Lib.hid hF; clear hF
        go_wp2_with fail
        refine (isDay_val K2.out _).mono ?_; rintro e w' ⟨rfl, rfl⟩
        go_wp2
        go_ret3
        exact newCNB_nil hf.out hf2.out (Own.nil _ _ _ _) HF.out
      · have k3 : inB d1 0 d2 = false := by
          cases k3 : inB d1 0 d2
          · rfl
          · rw [daysOk, k1, k2, k3] at h; cases h
        have K1 := Lib.hid k1; have K2 := Lib.hid k2; have K3 := Lib.hid k3; clear h k1 k2 k3
        go_enter Try.func24, Try.ntmps24
        go_wp2_with fail
        refine (known_val HS.out hm HK.out hm2 K1.out).mono ?_; rintro e w1 ⟨rfl, hF⟩
        have HF := Lib.hid hF; clear hF
        go_wp2_with fail
        refine (isDay_val K2.out _).mono ?_; rintro e w' ⟨rfl, rfl⟩
        go_wp2_with fail
        refine (in_val K3.out _).mono ?_; rintro e w' ⟨rfl, rfl⟩
        go_wp2
        go_ret3
        exact newCNB_nil hf.out hf2.out (Own.nil _ _ _ _) HF.out
  · have hf := Lib.hid (daysC_yes h); have hf2 := Lib.hid (daysN_yes h)
    simp only [daysOk, Bool.and_eq_true] at h
    obtain ⟨k1, k2, k3⟩ := h
    obtain ⟨hok, hlen⟩ := known_parts k1
    have h2 := inB_true.1 k2; have h1 := inB_true.1 k3
    obtain ⟨x, rfl⟩ := Int.eq_ofNat_of_zero_le h1.1
    obtain ⟨y, rfl⟩ := Int.eq_ofNat_of_zero_le h2.1
    have hy : y ≤ 200 := by omega
    have hxy : x ≤ y := by omega
    have hl := deck_len hok
    have hd : ((y : Int) - (x : Int)).toNat = y - x := by omega
    rw [hd] at hf hf2
    have K1 := Lib.hid k1; have K2 := Lib.hid k2; have K3 := Lib.hid k3
    have HOK := Lib.hid hok; have HLEN := Lib.hid hlen
    clear k1 k2 k3 hok hlen h1 h2 hd
    go_enter Try.func24, Try.ntmps24
    go_wp2_with fail
    refine (known_val HS.out hm HK.out hm2 K1.out).mono ?_; rintro e w1 ⟨rfl, hF⟩
    have HF := Lib.hid hF; have z1 := hF.size; clear hF
    go_wp2_with fail
    refine (isDay_val K2.out _).mono ?_; rintro e w' ⟨rfl, rfl⟩
    go_wp2_with fail
    refine (in_val K3.out _).mono ?_; rintro e w' ⟨rfl, rfl⟩
    go_wp2_with fail
    refine (cloneC_any a ca cs _ (HS.out.fr HF.out) hm).mono ?_; rintro e w2 ⟨oa, oc, rfl, ho, hF2⟩
    have O2 := Lib.hid (ho.base_le z1); have G2 := Lib.hid (HF.out.and hF2); have z2 := hF2.size; clear ho hF2
    go_wp2
    go_loopw [12, 13] (fun n d wr => ∃ t : Nat, x + t ≤ y ∧ n = .int .i64 (runN cs ks x t) ∧ d = .int .i64 ((x + t : Nat) : Int) ∧ Own wr w.heap.size 63 2 (.slice oa cs.length oc) cs.length (cards (runC cs ks x t)) ∧ Fr w.heap.size none w wr) (fun _ d _ => y - (intOf d).toNat)
    case atStart => exact ⟨0, hxy, rfl, rfl, O2.out, G2.out⟩
    case round =>
      obtain ⟨t, ht, rfl, rfl, ho, hF⟩ := hrel
      have HO := Lib.hid ho; have HG := Lib.hid hF; have hz := hF.size; clear ho hF
      have hnl := runN_le cs ks x t
      have hnm : t * cs.length ≤ 200 * 8 := Nat.mul_le_mul (by omega) hl
      have hn1 : runN cs ks x t ≤ 1600 := by omega
      clear hnl hnm
      by_cases hlt : x + t < y
      · have hlr := Lib.hid (runC_length cs ks x t)
        have ho2 := HO.out
        have hL : (runC cs ks x t).length = cs.length := hlr.out
        rw [← hL] at ho2
        have ca2 := ask_any oa oc (runC cs ks x t) ((x : Int) + t) b cb ks w.heap.size wr ho2 (HK.out.fr HG.out) (by rw [hL]; exact HLEN.out) (runC_ok HOK.out (by omega) t (by omega)) (inB_true.2 ⟨by omega, by omega⟩) HBL.out hz
        have eN := Lib.hid (show runN cs ks x t + (dueTo (runC cs ks x t) ((x : Int) + t) (runC cs ks x t).length).length = runN cs ks x (t + 1) from rfl)
        have eC := Lib.hid (show upTo (runC cs ks x t) ((x : Int) + t) ks (runC cs ks x t).length = runC cs ks x (t + 1) from rfl)
        have hdl := dueTo_len (runC cs ks x t) ((x : Int) + t) (runC cs ks x t).length
        rw [eC.out] at ca2
        rw [hL] at ca2 hdl
        rw [hL] at eN
        have CA := Lib.hid ca2
        have OB := Lib.hid (HO.out.lt)
        clear ca2 ho2 hL
        have hcast : ((x + t : Nat) : Int) = (x : Int) + (t : Int) := by omega
        go_wp2_with fail
        refine CA.out.mono ?_; rintro e w3 ⟨rfl, ho3, hF3⟩
        have O3 := Lib.hid ho3
        have G3 := Lib.hid (HG.out.trans (hF3.up (B' := w.heap.size) hz (fun g hg => (OB.out g hg).1)))
        clear ho3 hF3
        go_wp2
        go_roundw
        case rel => exact ⟨t + 1, by omega, by rw [← eN.out]; go_num, by go_num, O3.out, G3.out⟩
        case measure => simp [intOf]; omega
      · have hte : t = y - x := by omega
        have hge : (y : Int) ≤ ((x + t : Nat) : Int) := by omega
        have e1 := Lib.hid (show (runN cs ks x t : Int) = daysN cs x y ks by rw [hte]; exact hf2.out)
        have e2 := Lib.hid (show runC cs ks x t = daysC cs x y ks by rw [hte]; exact hf.out)
        have e3 := Lib.hid (show cs.length = (daysC cs x y ks).length by rw [← e2.out, runC_length])
        have ho := HO.out
        rw [e2.out] at ho
        have O9 := Lib.hid ho
        clear hte ho
        go_wp2
        go_ret3
        rw [e1.out]
        have := O9.out
        rw [e3.out] at this ⊢
        exact ⟨_, _, rfl, this, HG.out⟩
end Go.Proofs.Ytoedenmimcmkoaa
