/-
  For every code the law FnPlacesOf of the given program returns true, and the code reads as before. No condition.
-/
import Derived.Test.YtoedenmimcmkoaaMarksE
import Derived.Test.YtoedenmimcmkoaaDrawM2
import Derived.Test.YtoedenmimcmkoaaSame
import Derived.Test.YtoedenmimcmkoaaHas
import Derived.Test.YtoedenmimcmkoaaNum
namespace Go.Proofs.Ytoedenmimcmkoaa.fnPlacesOf
open Go.RowKit
theorem above_mono (xs : List Int) {x y : Int} (h : y ≤ x) : aboveN xs x ≤ aboveN xs y := by
  unfold aboveN
  exact List.countP_mono_left (fun z _ hz => by simp at hz ⊢; omega)
theorem above_strict {x y : Int} (h : y < x) : ∀ {xs : List Int}, x ∈ xs → aboveN xs x < aboveN xs y := by
  intro xs
  induction xs with
  | nil => intro hx; simp at hx
  | cons z xs ih =>
    intro hx
    have e : ∀ n, aboveN (z :: xs) n = aboveN xs n + if n < z then 1 else 0 := by intro n; unfold aboveN; rw [List.countP_cons]; simp
    rw [e, e]
    by_cases hz : z = x
    · subst hz
      have := above_mono xs (Int.le_of_lt h)
      rw [if_neg (Int.lt_irrefl _), if_pos h]; omega
    · have hm : x ∈ xs := by
        rcases List.mem_cons.1 hx with h | h
        · exact absurd h.symm hz
        · exact h
      have := ih hm
      by_cases h1 : x < z
      · rw [if_pos h1, if_pos (Int.lt_trans h h1)]; omega
      · rw [if_neg h1]; omega
theorem has_greatest : ∀ {xs : List Int}, xs ≠ [] → ∃ m, m ∈ xs ∧ ∀ x ∈ xs, x ≤ m := by
  intro xs
  induction xs with
  | nil => intro h; exact absurd rfl h
  | cons z xs ih =>
    intro _
    by_cases h0 : xs = []
    · subst h0; exact ⟨z, by simp, by simp⟩
    · obtain ⟨m, hm, hall⟩ := ih h0
      by_cases hz : z ≤ m
      · exact ⟨m, by simp [hm], by intro x hx; rcases List.mem_cons.1 hx with rfl | h; exact hz; exact hall x h⟩
      · exact ⟨z, by simp, by intro x hx; rcases List.mem_cons.1 hx with rfl | h; exact Int.le_refl _; have := hall x h; omega⟩
theorem places_at {xs : List Int} (h : marksOkB xs = true) (k : Nat) (hk : k < xs.length) : (placesI xs).getD k 0 = 1 + (aboveN xs (xs.getD k 0) : Int) := by
  simp [placesI, h, List.getD_eq_getElem?_getD, hk]
theorem places_lt {xs : List Int} (h : marksOkB xs = true) (k j : Nat) (hk : k < xs.length) (hj : j < xs.length) :
    (xs.getD j 0 < xs.getD k 0 ∧ (placesI xs).getD k 0 < (placesI xs).getD j 0) ∨ (xs.getD k 0 ≤ xs.getD j 0 ∧ (placesI xs).getD j 0 ≤ (placesI xs).getD k 0) := by
  rw [places_at h k hk, places_at h j hj]
  by_cases hx : xs.getD j 0 < xs.getD k 0
  · have := above_strict hx (xs := xs) (by simp [List.getD_eq_getElem?_getD, hk])
    exact .inl ⟨hx, by omega⟩
  · have := above_mono xs (show xs.getD k 0 ≤ xs.getD j 0 by omega)
    exact .inr ⟨by omega, by omega⟩
theorem places_first {xs : List Int} (h : marksOkB xs = true) (h0 : 0 < xs.length) : decide ((1 : Int) ∈ placesI xs) = true := by
  obtain ⟨m, hm, hall⟩ := has_greatest (xs := xs) (by intro e; simp [e] at h0)
  have hz : aboveN xs m = 0 := by
    unfold aboveN; rw [List.countP_eq_zero]; intro x hx; have := hall x hx; simp; omega
  simp only [placesI, h, if_true, decide_eq_true_eq, List.mem_map]
  exact ⟨m, hm, by rw [hz]; rfl⟩
def moreI (xs : List Int) (k : Nat) : List Int := (xs.take k).map (· + 1)
theorem moreI_length (xs : List Int) (k : Nat) (hk : k ≤ xs.length) : (moreI xs k).length = k := by simp [moreI]; omega
theorem moreI_succ (xs : List Int) (k : Nat) (hk : k < xs.length) : ints (moreI xs k) ++ [.int .i64 (xs.getD k 0 + 1)] = ints (moreI xs (k + 1)) := by
  unfold moreI
  have e : xs.getD k 0 = xs[k] := by simp [List.getD_eq_getElem?_getD, hk]
  rw [List.take_succ_eq_append_getElem hk, e, List.map_append, ints_append]
  rfl
theorem more_places {xs : List Int} (h : marksOkB xs = true) (h2 : marksOkB (moreI xs xs.length) = true) : placesI (moreI xs xs.length) = placesI xs := by
  have e : moreI xs xs.length = xs.map (· + 1) := by simp [moreI]
  rw [e] at h2 ⊢
  simp only [placesI, h, h2, if_true, List.map_map]
  apply List.map_congr_left
  intro x _
  have : aboveN (xs.map (· + 1)) (x + 1) = aboveN xs x := by
    unfold aboveN; rw [List.countP_map]; apply List.countP_congr; intro z _; simp
  simp [this]

set_option maxHeartbeats 1000000 in
theorem walk {w : World} (a : Option Addr) (cap : Nat) (cs : List Int) (hs : Sl w a (cs.map (Value.int .u8))) (hb : ∀ x ∈ cs, 0 ≤ x ∧ x ≤ 255) (hcap : cs.length ≤ cap) :
    Calls Try.prog 3 #[.slice a cs.length cap] w fun e w' => e = .returned (.bool true) ∧ Fr w.heap.size none w w' := by
  have HS : Hid (Sl w a (u8s cs)) := hs
  have HB := Lib.hid hb; clear hs hb
  by_cases hn : cs.length ≤ 1048576
  · go_enter Try.func3, Try.ntmps3
    go_wp2_with fail
    refine (drawPlacesOf_any a cap cs _ HS.out HB.out hn hcap).mono ?_; rintro e w1 ⟨ya, yc, ms, rfl, yo, yl, ybd, hF⟩
    have HF := Lib.hid hF
    have MO := Lib.hid yo; have MD := Lib.hid ybd; clear hF yo ybd
    have c1 := fun W hs => implPlacesOf_any ya yc ms W hs (by omega)
    have c2 := fun W hs => specPlacesOf_any ya yc ms W hs (by omega)
    have C1 := Lib.hid c1; have C2 := Lib.hid c2; clear c1 c2
    have hle := Lib.hid (placesI_le ms)
    go_wp2_with fail
    refine (C1.out _ (own_sl MO.out)).mono ?_; rintro e w2 ⟨fa, fc, rfl, fo, hF2⟩
    have FO2 := Lib.hid fo
    have M2 := Lib.hid (own_keep MO.out hF2)
    have G2 := Lib.hid (HF.out.and hF2)
    clear fo hF2
    go_wp2_with fail
    refine (C2.out _ (own_sl M2.out)).mono ?_; rintro e w3 ⟨sa, sc, rfl, so, hF3⟩
    have FO3 := Lib.hid (own_keep FO2.out hF3)
    have M3 := Lib.hid (own_keep M2.out hF3)
    have G3 := Lib.hid (G2.out.and hF3)
    have SO3 := Lib.hid so
    clear so hF3
    go_wp2_with fail
    refine (sameInts_any _ _ _ _ (placesI ms) _ (own_sl FO3.out) (own_sl SO3.out) hle.out).mono ?_; rintro e w4 ⟨rfl, hF4⟩
    have FO4 := Lib.hid (own_keep FO3.out hF4)
    have M4 := Lib.hid (own_keep M3.out hF4)
    have G4 := Lib.hid (G3.out.and hF4)
    clear hF4 FO2 FO3 SO3 M2 M3
    by_cases hok : marksOkB ms = true ∧ 0 < ms.length
    · obtain ⟨h2, h0⟩ := hok
      have K3 := Lib.hid (placesI_length h2)
      have hz : (((placesI ms).length : Int) == 0) = false := by rw [beq_eq_false_iff_ne]; have := K3.out; omega
      have K1 := Lib.hid (fun k j hk hj => places_lt h2 k j hk hj)
      have K2 := Lib.hid (places_first h2 h0)
      have K4 := Lib.hid (fun h => more_places h2 h)
      clear h2
      go_wp2
      go_loopw [5, 6] (fun v i wr => ∃ k : Nat, k ≤ ms.length ∧ i = .int .i64 k ∧ wr.ownsRow w4.heap.size 3 1 v k (ints (moreI ms k)) ∧ Fr w4.heap.size none w4 wr) (fun _ i _ => ms.length - (intOf i).toNat)
      case atStart => exact ⟨0, Nat.zero_le _, rfl, World.ownsRow_made w4 #[] 0 (Nat.le_refl _) (by simp [maxLen]) (by simp), (Fr.refl _ _ w4).alloc (Nat.le_refl _) _⟩
      case round =>
        obtain ⟨k, hk, rfl, ho, hF⟩ := hrel
        have HO := Lib.hid ho; have H5 := Lib.hid hF; have hz4 := hF.size; clear ho hF
        obtain ⟨va, vc, rfl, hvc, _⟩ := own_slice HO.out
        have M5 := Lib.hid ((own_sl M4.out).fr H5.out)
        have P5 := Lib.hid ((own_sl FO4.out).fr H5.out)
        by_cases hlt : k < ms.length
        · obtain ⟨b2, off2, hab, hc2⟩ := M5.out.int k hlt
          subst hab
          obtain ⟨b3, off3, hab, hc3⟩ := P5.out.int k (by have := K3.out; omega)
          subst hab
          have y1 := MD.out (ms.getD k 0) (by simp [List.getD_eq_getElem?_getD, hlt])
          have hst := Lib.hid (moreI_succ ms k hlt)
          have hlt' : (k : Int) < (ms.length : Int) := by omega
          have hb2 : b2 < wr.heap.size := World.block_lt_of_cell? wr _ hc2
          have hb3 : b3 < wr.heap.size := World.block_lt_of_cell? wr _ hc3
          have hx : ∀ q, ms.getD k 0 = q → q = ms.getD k 0 := fun q h => h.symm
          generalize hxe : ms.getD k 0 = x at *
          have HXE := Lib.hid hxe; clear hxe hx
          go_wp2_with (at_builtin; refine app1 23 3 (.int .i64 0) 1 8 Try.underlying23 infoInt rfl (by decide) (by decide) rfl _ _ rfl [.int .i64 (x + 1)] HO.out rfl rfl rfl (by simp [Value.oneCell']) (by omega) hz4 ?_; intro v' w5 ho' hF')
          rw [hst.out] at ho'
          have HO5 := Lib.hid ho'
          have H6 := Lib.hid (app_frame H5.out HO.out hF' hz4)
          have M6 := Lib.hid ((own_sl M4.out).fr H6.out)
          have P6 := Lib.hid ((own_sl FO4.out).fr H6.out)
          clear ho' hF' hc2 hc3
          go_wp2
          go_loopw [7] (fun i wq => ∃ j : Nat, j ≤ ms.length ∧ i = .int .i64 j ∧ ∃ m, wq = w5.drewN m) (fun i _ => ms.length - (intOf i).toNat)
          case atStart => exact ⟨0, Nat.zero_le _, rfl, 0, rfl⟩
          case round =>
            obtain ⟨j, hj, rfl, m, rfl⟩ := hrel
            by_cases hlj : j < ms.length
            · obtain ⟨b2', off2', hab, hc2⟩ := M6.out.int k hlt
              cases hab
              obtain ⟨b3', off3', hab, hc3⟩ := P6.out.int k (by have := K3.out; omega)
              cases hab
              obtain ⟨b2', off2', hab, hd2⟩ := M6.out.int j hlj
              cases hab
              obtain ⟨b3', off3', hab, hd3⟩ := P6.out.int j (by have := K3.out; omega)
              cases hab
              have hcmp : (decide (ms.getD j 0 < ms.getD k 0) = true ∧ decide ((placesI ms).getD k 0 < (placesI ms).getD j 0) = true) ∨ (decide (ms.getD j 0 < ms.getD k 0) = false ∧ decide ((placesI ms).getD k 0 < (placesI ms).getD j 0) = false) := by
                rcases K1.out k j hlt hlj with ⟨i1, i2⟩ | ⟨i1, i2⟩
                · exact .inl ⟨decide_eq_true i1, decide_eq_true i2⟩
                · exact .inr ⟨decide_eq_false (by omega), decide_eq_false (by omega)⟩
              have hlj' : (j : Int) < (ms.length : Int) := by omega
              have hlp : (j : Int) < ((placesI ms).length : Int) := by have := K3.out; omega
              have hlq : (k : Int) < ((placesI ms).length : Int) := by have := K3.out; omega
              rw [HXE.out] at hc2 hcmp
              generalize ms.getD j 0 = y at *
              generalize (placesI ms).getD k 0 = p at *
              generalize (placesI ms).getD j 0 = q at *
              rcases hcmp with ⟨i1, i2⟩ | ⟨i1, i2⟩
              all_goals
                go_wp2
                go_quiet (fail)
                go_wp2
                go_roundw
                case rel => exact ⟨j + 1, by omega, by go_num, _, by first | rfl | exact World.drewN_drewN ..⟩
                case measure => simp [intOf]; omega
            · have hge : (ms.length : Int) ≤ (j : Int) := by omega
              go_wp2
              go_roundw
              case rel => exact ⟨k + 1, by omega, by go_num, own_drewN HO5.out m, H6.out.drewN m⟩
              case measure => simp [intOf]; omega
        · obtain rfl : k = ms.length := by omega
          have hml := Lib.hid (moreI_length ms ms.length (Nat.le_refl _))
          have cm : ∀ b, marksOkB (moreI ms ms.length) = b → Calls Try.prog 18 #[.slice va ms.length vc] wr fun e w' => e = .returned (.bool b) ∧ wr = w' := by
            intro b hb
            have := implMarks_val (a := va) (cap := vc) (xs := moreI ms ms.length) (w := wr) (b := b) (own_sl HO.out) (by rw [hml.out]; omega) hb
            rw [hml.out] at this; exact this
          have hg : (ms.length : Int) ≤ (ms.length : Int) := Int.le_refl _
          cases hm : marksOkB (moreI ms ms.length)
          · have CM := Lib.hid (cm _ hm)
            clear hm cm
            go_wp2_with fail
            refine (has_val P5.out hle.out K2.out).mono ?_; rintro e w' ⟨rfl, rfl⟩
            go_wp2_with fail
            refine CM.out.mono ?_; rintro e w' ⟨rfl, rfl⟩
            go_wp2
            go_ret
            exact ⟨rfl, G4.out.and H5.out⟩
          · have CM := Lib.hid (cm _ hm)
            have cp := implPlacesOf_any va vc (moreI ms ms.length) wr (own_sl HO.out) (by rw [hml.out]; omega)
            rw [hml.out, K4.out hm] at cp
            have CP := Lib.hid cp
            clear hm cm cp
            go_wp2_with fail
            refine (has_val P5.out hle.out K2.out).mono ?_; rintro e w' ⟨rfl, rfl⟩
            go_wp2_with fail
            refine CM.out.mono ?_; rintro e w' ⟨rfl, rfl⟩
            go_wp2_with fail
            refine CP.out.mono ?_; rintro e w6 ⟨ra, rc, rfl, ro, hF6⟩
            have P6 := Lib.hid (P5.out.fr hF6)
            have RO := Lib.hid ro
            have G6 := Lib.hid ((G4.out.and H5.out).and hF6)
            clear ro hF6
            go_wp2_with fail
            refine (sameInts_any _ _ _ _ (placesI ms) _ (own_sl RO.out) P6.out hle.out).mono ?_; rintro e w7 ⟨rfl, hF7⟩
            have G7 := Lib.hid (G6.out.and hF7)
            clear hF7
            go_wp2
            go_ret
            exact ⟨rfl, G7.out⟩
    · have hz : placesI ms = [] := by
        cases h1 : marksOkB ms
        · exact (places_no h1).symm
        · have : ¬ 0 < ms.length := fun h => hok ⟨h1, h⟩
          have : ms = [] := List.eq_nil_of_length_eq_zero (by omega)
          subst this; rfl
      have hz' : (((placesI ms).length : Int) == 0) = true := by rw [hz]; rfl
      clear hz hok
      go_wp2_with (go_at_call 16; refine (alive_any _).mono ?_; rintro e w' ⟨rfl, rfl⟩)
      go_ret
      exact ⟨rfl, G4.out⟩
  · have hl : (1048576 : Int) < cs.length := by omega
    go_enter Try.func3, Try.ntmps3
    go_wp2
    go_ret
    exact ⟨rfl, Fr.refl _ _ _⟩
end Go.Proofs.Ytoedenmimcmkoaa.fnPlacesOf
