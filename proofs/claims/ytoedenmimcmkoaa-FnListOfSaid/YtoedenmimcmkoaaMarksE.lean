/-
  Contracts: PlacesOf, of the program and of the reference.
-/
import Derived.Test.YtoedenmimcmkoaaMarksD
import Derived.Test.YtoedenmimcmkoaaInts
import Derived.Test.YtoedenmimcmkoaaApp
namespace Go.Proofs.Ytoedenmimcmkoaa
open Go.RowKit

theorem marks_len {xs : List Int} (h : marksOkB xs = true) : xs.length ≤ 12 := by simp [marksOkB] at h; exact h.2
theorem marks_in {xs : List Int} (h : marksOkB xs = true) : ∀ n ∈ xs, 0 ≤ n ∧ n ≤ 100 := by
  simp only [marksOkB, Bool.and_eq_true, List.all_eq_true] at h
  exact fun n hn => inB_true.1 (h.1 n hn)
theorem implMarks_val {a : Option Addr} {cap : Nat} {xs : List Int} {w : World} {b : Bool} (hs : Sl w a (ints xs)) (hm : xs.length ≤ 1048576) (h : marksOkB xs = b) :
    Calls Try.prog 18 #[.slice a xs.length cap] w fun e w' => e = .returned (.bool b) ∧ w = w' := h ▸ implMarksOk_any a cap xs w hs hm
theorem specMarks_val {a : Option Addr} {cap : Nat} {xs : List Int} {w : World} {b : Bool} (hs : Sl w a (ints xs)) (hm : xs.length ≤ 1048576) (h : marksOkB xs = b) :
    Calls Try.prog 48 #[.slice a xs.length cap] w fun e w' => e = .returned (.bool b) ∧ w = w' := h ▸ specMarksOk_any a cap xs w hs hm

/-- A new slice of numbers. -/
def NewInts (ys : List Int) (w : World) (e : Ending) (w' : World) : Prop :=
  ∃ a cap, e = .returned (.slice a ys.length cap) ∧ w'.ownsRow w.heap.size 3 1 (.slice a ys.length cap) ys.length (ints ys) ∧ Fr w.heap.size none w w'
theorem newInts_nil {ys : List Int} {w w' : World} (h : [] = ys) (hF : Fr w.heap.size none w w') : NewInts ys w (.returned (.slice none 0 0)) w' := by
  subst h; exact ⟨none, 0, rfl, World.ownsRow_nil _ _ _ _, hF⟩
theorem newInts_of {ys : List Int} {w w' : World} {a : Option Addr} {n cap : Nat} {cs : List Value} (ho : w'.ownsRow w.heap.size 3 1 (.slice a n cap) n cs) (h : cs = ints ys) (hF : Fr w.heap.size none w w') : NewInts ys w (.returned (.slice a n cap)) w' := by
  have hn : n = ys.length := by have := ho.1; rw [h, ints_length] at this; omega
  subst hn; subst h; exact ⟨a, cap, rfl, ho, hF⟩

def placesI (xs : List Int) : List Int := if marksOkB xs then xs.map (fun x => 1 + (aboveN xs x : Int)) else []
theorem places_no {xs : List Int} (h : marksOkB xs = false) : [] = placesI xs := by simp [placesI, h]
theorem places_yes {xs : List Int} (h : marksOkB xs = true) : ((List.range xs.length).map fun j => Value.int .i64 (1 + (aboveN xs (xs.getD j 0) : Int))) = ints (placesI xs) := by
  simp only [placesI, h, if_true]
  apply List.ext_getElem
  · simp [ints]
  · intro i h1 h2; simp [ints] at h1 ⊢; simp [h1]

theorem implPlacesOf_any (a : Option Addr) (cap : Nat) (xs : List Int) (w : World) (hs : Sl w a (ints xs)) (hm : xs.length ≤ 1048576) :
    Calls Try.prog 13 #[.slice a xs.length cap] w (NewInts (placesI xs) w) := by
  have HS := Lib.hid hs; clear hs
  cases h : marksOkB xs
  · have hf := Lib.hid (places_no h); have H := Lib.hid h; clear h
    go_enter Try.func13, Try.ntmps13
    go_wp2_with (go_at_call 18; refine (implMarks_val HS.out hm H.out).mono ?_; rintro e w' ⟨rfl, rfl⟩)
    go_ret
    exact newInts_nil hf.out (Fr.refl _ _ _)
  · have hl := marks_len h
    have hf := Lib.hid (places_yes h); have H := Lib.hid h; clear h
    obtain ⟨w1, hr, ho, hF⟩ := mkInts (fun j => .int .i64 (1 + (aboveN xs (xs.getD j 0) : Int))) xs.length (by omega) w
    have HO := Lib.hid ho; have HF := Lib.hid hF; clear ho hF
    go_enter Try.func13, Try.ntmps13
    go_wp2_with (go_at_call 18; refine (implMarks_val HS.out hm H.out).mono ?_; rintro e w' ⟨rfl, rfl⟩)
    clear hr
    go_loopw [14] (fun i wr => ∃ k : Nat, k ≤ xs.length ∧ i = .int .i64 k ∧ wr.ownsRow w.heap.size 3 1 (.slice (some ⟨w.heap.size, 0, none⟩) xs.length xs.length) xs.length (fillV (fun j => .int .i64 (1 + (aboveN xs (xs.getD j 0) : Int))) (.int .i64 0) xs.length k) ∧ Fr w.heap.size none w wr) (fun i _ => xs.length - (intOf i).toNat)
    case atStart => exact ⟨0, Nat.zero_le _, rfl, HO.out, HF.out⟩
    case round =>
      obtain ⟨k, hk, rfl, ho, hF⟩ := hrel
      by_cases hlt : k < xs.length
      · have HS' := Lib.hid (HS.out.fr hF)
        obtain ⟨b, off, rfl, hcell⟩ := HS'.out.int k hlt
        have hc2 : ∃ v, wr.cell? ⟨w.heap.size, k, none⟩ = some v := by
          rw [ho.cellAt k (by omega), List.getElem?_eq_getElem (by rw [fillV_length]; exact hlt)]; exact ⟨_, rfl⟩
        obtain ⟨v0, hc2⟩ := hc2
        have hf2 := ho.frozenAt k
        have hst := ho.stored k (.int .i64 (1 + (aboveN xs (xs.getD k 0) : Int)))
        rw [fillV_set (fun j => .int .i64 (1 + (aboveN xs (xs.getD j 0) : Int)))] at hst
        have HST := Lib.hid hst; clear hst ho
        have HF' := Lib.hid (hF.setCell (p := ⟨w.heap.size, k, none⟩) (.inl (Nat.le_refl _)) (.int .i64 (1 + (aboveN xs (xs.getD k 0) : Int)))); clear hF
        generalize xs.getD k 0 = x at *
        have hle := aboveN_le xs x
        go_wp2_with (go_at_call 47; refine (above_any _ _ xs _ _ HS'.out hm).mono ?_; rintro e w' ⟨rfl, rfl⟩)
        go_roundw
        case rel => exact ⟨k + 1, by omega, by go_num, HST.out.1, HF'.out⟩
        case measure => simp [intOf]; omega
      · have hkk : k = xs.length := by omega
        have HO' := Lib.hid ho
        rw [hkk, fillV_full] at ho
        have HN := Lib.hid (newInts_of ho hf.out hF)
        clear hkk ho
        go_wp2
        go_ret
        exact HN.out

theorem placesI_length {xs : List Int} (h : marksOkB xs = true) : (placesI xs).length = xs.length := by simp [placesI, h]
theorem placesI_take {xs : List Int} (h : marksOkB xs = true) {k : Nat} (hk : k < xs.length) : ints ((placesI xs).take k) ++ [.int .i64 (1 + (aboveN xs (xs.getD k 0) : Int))] = ints ((placesI xs).take (k + 1)) := by
  have hk' : k < (placesI xs).length := by rw [placesI_length h]; exact hk
  rw [List.take_succ_eq_append_getElem hk', ints_append]
  congr 1
  simp [ints, placesI, h, hk]

set_option maxHeartbeats 800000 in
theorem specPlacesOf_any (a : Option Addr) (cap : Nat) (xs : List Int) (w : World) (hs : Sl w a (ints xs)) (hm : xs.length ≤ 1048576) :
    Calls Try.prog 15 #[.slice a xs.length cap] w (NewInts (placesI xs) w) := by
  have HS := Lib.hid hs; clear hs
  cases h : marksOkB xs
  · have hf := Lib.hid (places_no h); have H := Lib.hid h; clear h
    go_enter Try.func15, Try.ntmps15
    go_wp2
    go_loopw [3, 4] (fun v i wr => v = .slice (some ⟨w.heap.size, 0, none⟩) 0 0 ∧ i = .int .i64 0 ∧ wr.ownsRow w.heap.size 3 1 (.slice (some ⟨w.heap.size, 0, none⟩) 0 0) 0 [] ∧ Fr w.heap.size none w wr) (fun _ _ _ => 0)
    case atStart => exact ⟨rfl, rfl, World.ownsRow_made _ _ _ (Nat.le_refl _) (by simp [maxLen]) (by simp), (Fr.refl _ _ _).alloc (Nat.le_refl _) _⟩
    case round =>
      obtain ⟨rfl, rfl, ho, hF⟩ := hrel
      have HN := Lib.hid (newInts_of ho (show [] = ints (placesI xs) by rw [← hf.out]; rfl) hF); clear ho
      have HS' := Lib.hid (HS.out.fr hF)
      by_cases h0 : 0 < xs.length
      · have h0' : (0 : Int) < xs.length := by omega
        go_wp2_with (go_at_call 48; refine (specMarks_val HS'.out hm H.out).mono ?_; rintro e w' ⟨rfl, rfl⟩)
        go_ret
        exact HN.out
      · have h0' : (xs.length : Int) ≤ 0 := by omega
        go_wp2
        go_ret
        exact HN.out
  · have hl := marks_len h
    have hlen := Lib.hid (placesI_length h)
    have htk := fun k (hk : k < xs.length) => placesI_take h hk
    have HT := Lib.hid htk; clear htk
    have H := Lib.hid h; clear h
    go_enter Try.func15, Try.ntmps15
    go_wp2
    go_loopw [3, 4] (fun v i wr => ∃ k : Nat, ∃ a c, k ≤ xs.length ∧ v = .slice a k c ∧ i = .int .i64 k ∧ wr.ownsRow w.heap.size 3 1 (.slice a k c) k (ints ((placesI xs).take k)) ∧ Fr w.heap.size none w wr) (fun _ i _ => xs.length - (intOf i).toNat)
    case atStart => exact ⟨0, some ⟨w.heap.size, 0, none⟩, 0, Nat.zero_le _, rfl, rfl, World.ownsRow_made _ _ _ (Nat.le_refl _) (by simp [maxLen]) (by simp), (Fr.refl _ _ _).alloc (Nat.le_refl _) _⟩
    case round =>
      obtain ⟨k, ao, co, hk, rfl, rfl, ho, hF⟩ := hrel
      have hsz := hF.size
      have HF := Lib.hid hF; have HO := Lib.hid ho; clear ho
      have HS' := Lib.hid (HS.out.fr hF); clear hF
      by_cases hlt : k < xs.length
      · have hlt' : (k : Int) < xs.length := by omega
        obtain ⟨b, off, rfl, hcell⟩ := HS'.out.int k hlt
        have hT := Lib.hid (HT.out k hlt)
        have hab := Lib.hid (aboveN_take xs (xs.getD k 0))
        have habn := aboveN_le xs (xs.getD k 0)
        generalize xs.getD k 0 = x at *
        go_wp2_with (go_at_call 48; refine (specMarks_val HS'.out hm H.out).mono ?_; rintro e w' ⟨rfl, rfl⟩)
        obtain ⟨wo, rfl⟩ : ∃ wo : World, wo = wr := ⟨_, rfl⟩
        go_loopw [5, 6] (fun c i wr => ∃ j m : Nat, j ≤ xs.length ∧ i = .int .i64 j ∧ c = .int .i64 (1 + aboveN (xs.take j) x) ∧ wr = wo.drewN m) (fun _ i _ => xs.length - (intOf i).toNat)
        case atStart => exact ⟨0, 0, Nat.zero_le _, rfl, rfl, rfl⟩
        case round =>
          obtain ⟨j, m, hj, rfl, rfl, rfl⟩ := hrel
          have hle := aboveN_le (xs.take j) x
          have hl2 : (xs.take j).length ≤ j := List.length_take_le _ _
          by_cases hlj : j < xs.length
          · have hlj' : (j : Int) < xs.length := by omega
            obtain ⟨b2, off2, hab2, hcell2⟩ := HS'.out.int j hlj
            cases hab2
            have hst := Lib.hid (hab.out j hlj)
            generalize xs.getD j 0 = y at *
            go_wp2
            go_quiet (fail)
            go_wp2
            all_goals
              go_roundw
              case rel => exact ⟨j + 1, _, by omega, by go_num, by rw [hst.out]; first | rw [if_pos ‹_›]; go_num | (rw [if_neg (by omega)]; go_num), by first | rfl | exact World.drewN_drewN ..⟩
              case measure => simp [intOf]; omega
          · have hjj : j = xs.length := by omega
            have hst := Lib.hid (show aboveN (xs.take j) x = aboveN xs x by rw [hjj, List.take_length])
            clear hjj
            go_wp2_with (at_builtin; refine app1 23 3 (.int .i64 0) 1 8 Try.underlying23 infoInt rfl (by decide) (by decide) rfl _ _ rfl [.int .i64 (1 + (aboveN (xs.take j) x : Int))] (own_drewN HO.out m) rfl rfl rfl (by simp [Value.oneCell']) (by omega) (by exact hsz) ?_; intro v' w' ho' hF')
            obtain ⟨a', c', rfl, _, _⟩ := own_slice ho'
            have HF2 := Lib.hid (app_frame ((HF.out).drewN m) (own_drewN HO.out m) hF' hsz); clear hF'
            rw [hst.out, hT.out] at ho'
            have HO2 := Lib.hid ho'; clear ho'
            go_wp2
            go_roundw
            case rel => exact ⟨k + 1, a', c', by omega, rfl, by go_num, HO2.out, HF2.out⟩
            case measure => simp [intOf]; omega
      · have hlt' : (xs.length : Int) ≤ k := by omega
        have hkk : k = xs.length := by omega
        have HN := Lib.hid (newInts_of HO.out (show ints ((placesI xs).take k) = ints (placesI xs) by rw [hkk, ← hlen.out, List.take_length]) HF.out)
        clear hkk
        go_wp2
        go_ret
        exact HN.out
theorem placesI_le (xs : List Int) : (placesI xs).length ≤ 1048576 := by
  unfold placesI; split
  · next h => have := marks_len h; simp; omega
  · simp
end Go.Proofs.Ytoedenmimcmkoaa
