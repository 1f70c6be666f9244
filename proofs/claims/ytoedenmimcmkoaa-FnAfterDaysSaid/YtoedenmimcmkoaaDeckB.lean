/-
  Contracts: InBoxes and DueOn, of the program and of the reference.
-/
import Derived.Test.YtoedenmimcmkoaaCardsA
import Derived.Test.YtoedenmimcmkoaaInts
import Derived.Test.YtoedenmimcmkoaaApp
import Derived.RegionTactic
namespace Go.Proofs.Ytoedenmimcmkoaa
open Go.RowKit

/-- A new slice of numbers. -/
def NewI (ys : List Int) (w : World) (e : Ending) (w' : World) : Prop :=
  ∃ a cap, e = .returned (.slice a ys.length cap) ∧ Own w' w.heap.size 3 1 (.slice a ys.length cap) ys.length (ints ys) ∧ Fr w.heap.size none w w'
theorem newI_nil {ys : List Int} {w w' : World} (h : [] = ys) (hF : Fr w.heap.size none w w') : NewI ys w (.returned (.slice none 0 0)) w' := by
  subst h; exact ⟨none, 0, rfl, Own.nil _ _ _ _, hF⟩
theorem newI_own {ys : List Int} {w w' : World} {a : Option Addr} {n cap : Nat} {cs : List Value} (ho : Own w' w.heap.size 3 1 (.slice a n cap) n cs) (h : cs = ints ys) (hF : Fr w.heap.size none w w') : NewI ys w (.returned (.slice a n cap)) w' := by
  have hn : n = ys.length := by have := ho.1; rw [h, ints_length] at this; omega
  subst hn; subst h; exact ⟨a, cap, rfl, ho, hF⟩
theorem newI_of {ys : List Int} {w w' : World} {a : Option Addr} {n cap : Nat} {cs : List Value} (ho : w'.ownsRow w.heap.size 3 1 (.slice a n cap) n cs) (h : cs = ints ys) (hF : Fr w.heap.size none w w') : NewI ys w (.returned (.slice a n cap)) w' := newI_own (Own.of ho) h hF
theorem own_cellI {w : World} {B : Nat} {g n cap : Nat} {xs : List Int} (ho : w.ownsRow B 3 1 (.slice (some ⟨g, 0, none⟩) n cap) n (ints xs)) (j : Nat) (hj : j < n) : w.cell? ⟨g, j, none⟩ = some (.int .i64 (xs.getD j 0)) := by
  have hl : xs.length = n := by have := ho.1; rw [ints_length] at this; omega
  rw [ho.cellAt j (by omega)]; simp [ints, List.getD_eq_getElem?_getD, show j < xs.length by omega]

theorem deck_len {cs : List (Int × Int)} (h : deckOkB cs = true) : cs.length ≤ 8 := by simp [deckOkB] at h; exact h.2
theorem deck_in {cs : List (Int × Int)} (h : deckOkB cs = true) (k : Nat) (hk : k < cs.length) : (1 ≤ (cs.getD k (0, 0)).1 ∧ (cs.getD k (0, 0)).1 ≤ 5) ∧ 0 ≤ (cs.getD k (0, 0)).2 ∧ (cs.getD k (0, 0)).2 ≤ 216 := by
  simp only [deckOkB, Bool.and_eq_true, List.all_eq_true] at h
  have := h.1 cs[k] (List.getElem_mem hk)
  simp only [cardOk, Bool.and_eq_true, inB_true] at this
  simpa [List.getD_eq_getElem?_getD, hk] using this
theorem implDeck_val {a : Option Addr} {cap : Nat} {cs : List (Int × Int)} {w : World} {b : Bool} (hs : Sl w a (cards cs)) (hm : cs.length ≤ 1048576) (h : deckOkB cs = b) :
    Calls Try.prog 78 #[.slice a cs.length cap] w fun e w' => e = .returned (.bool b) ∧ Fr w.heap.size none w w' := h ▸ implDeckOk_any a cap cs w hs hm
theorem specDeck_val {a : Option Addr} {cap : Nat} {cs : List (Int × Int)} {w : World} {b : Bool} (hs : Sl w a (cards cs)) (hm : cs.length ≤ 1048576) (h : deckOkB cs = b) :
    Calls Try.prog 66 #[.slice a cs.length cap] w fun e w' => e = .returned (.bool b) ∧ w = w' := h ▸ specDeckOk_any a cap cs w hs hm

/-- How many of the first k cards lie in each box. -/
def boxI (cs : List (Int × Int)) (k : Nat) : List Int := (List.range 5).map fun g : Nat => ((cs.take k).countP fun c => c.1 - 1 == (g : Int) : Int)
theorem boxI_length (cs : List (Int × Int)) (k : Nat) : (boxI cs k).length = 5 := by simp [boxI]
theorem boxI_zero (cs : List (Int × Int)) : ints (boxI cs 0) = List.replicate 5 (.int .i64 0) := by simp [boxI, ints, List.range_succ, List.replicate_succ]
theorem boxI_getD (cs : List (Int × Int)) (k g : Nat) (hg : g < 5) : (boxI cs k).getD g 0 = ((cs.take k).countP fun c => c.1 - 1 == (g : Int) : Int) := by
  simp [boxI, List.getD_eq_getElem?_getD, hg]
theorem boxI_le (cs : List (Int × Int)) (k g : Nat) (hg : g < 5) : 0 ≤ (boxI cs k).getD g 0 ∧ (boxI cs k).getD g 0 ≤ k := by
  rw [boxI_getD cs k g hg]
  have h1 : ((cs.take k).countP fun c => c.1 - 1 == (g : Int)) ≤ (cs.take k).length := List.countP_le_length
  have h2 : (cs.take k).length ≤ k := List.length_take_le _ _
  omega
theorem boxI_set (cs : List (Int × Int)) (k g : Nat) (hk : k < cs.length) (hg : (cs.getD k (0, 0)).1 - 1 = (g : Int)) (hg5 : g < 5) :
    (ints (boxI cs k)).set g (.int .i64 ((boxI cs k).getD g 0 + 1)) = ints (boxI cs (k + 1)) := by
  rw [boxI_getD cs k _ hg5]
  apply List.ext_getElem
  · simp [ints, boxI]
  · intro i h1 h2
    rw [List.getElem_set]
    simp only [ints, boxI, List.getElem_map, List.getElem_range]
    rw [List.take_succ_eq_append_getElem hk, List.countP_append]
    have hx : cs.getD k (0, 0) = cs[k] := by simp [List.getD_eq_getElem?_getD, hk]
    rw [hx] at hg
    by_cases h : g = i
    · subst h; simp [List.countP_cons, hg]
    · rw [if_neg h]
      have h' : ¬ ((g : Int) = (i : Int)) := by omega
      simp [List.countP_cons, hg, h']
def boxesI (cs : List (Int × Int)) : List Int := if deckOkB cs then boxI cs cs.length else []
theorem boxes_no {cs : List (Int × Int)} (h : deckOkB cs = false) : [] = boxesI cs := by simp [boxesI, h]
theorem boxes_yes {cs : List (Int × Int)} (h : deckOkB cs = true) : ints (boxI cs cs.length) = ints (boxesI cs) := by simp [boxesI, h]
theorem boxesI_le (cs : List (Int × Int)) : (boxesI cs).length ≤ 1048576 := by unfold boxesI; split <;> simp [boxI_length]

theorem mk5 (w : World) : ∃ w1, (Instr.makeSlice 23 (.int .i64 5) (.int .i64 5)).run Try.prog w = .ok (.slice (some ⟨w.heap.size, 0, none⟩) 5 5) w1 ∧
      w1.ownsRow w.heap.size 3 1 (.slice (some ⟨w.heap.size, 0, none⟩) 5 5) 5 (List.replicate 5 (.int .i64 0)) ∧ Fr w.heap.size none w w1 := by
  obtain ⟨w1, hr, ho, hF⟩ := mkInts (fun _ => .int .i64 0) 5 (by omega) w
  exact ⟨w1, hr, by rw [fillV_zero] at ho; exact ho, hF⟩



/-- Which of the first k cards are due. -/
def dueTo (cs : List (Int × Int)) (day : Int) (k : Nat) : List Int := ((List.range k).filter fun j => decide ((cs.getD j (0, 0)).2 ≤ day)).map fun j : Nat => (j : Int)
theorem dueTo_succ (cs : List (Int × Int)) (day : Int) (k : Nat) : dueTo cs day (k + 1) = if (cs.getD k (0, 0)).2 ≤ day then dueTo cs day k ++ [(k : Int)] else dueTo cs day k := by
  unfold dueTo
  rw [List.range_succ, List.filter_append, List.map_append]
  by_cases h : (cs.getD k (0, 0)).2 ≤ day
  · rw [if_pos h]; simp only [List.filter_cons, decide_eq_true h, if_true, List.filter_nil]; rfl
  · rw [if_neg h]; simp only [List.filter_cons, decide_eq_false h, List.filter_nil]; simp
theorem dueTo_len (cs : List (Int × Int)) (day : Int) (k : Nat) : (dueTo cs day k).length ≤ k := by
  unfold dueTo; rw [List.length_map]; exact Nat.le_trans (List.length_filter_le _ _) (by simp)
def dueI (cs : List (Int × Int)) (day : Int) : List Int := if deckOkB cs && inB day 0 200 then dueTo cs day cs.length else []
theorem due_no1 {cs : List (Int × Int)} {day : Int} (h : deckOkB cs = false) : [] = dueI cs day := by simp [dueI, h]
theorem due_no2 {cs : List (Int × Int)} {day : Int} (h : inB day 0 200 = false) : [] = dueI cs day := by simp [dueI, h]
theorem due_yes {cs : List (Int × Int)} {day : Int} (h : deckOkB cs = true) (h2 : inB day 0 200 = true) : dueTo cs day cs.length = dueI cs day := by simp [dueI, h, h2]
theorem dueI_le (cs : List (Int × Int)) (day : Int) : (dueI cs day).length ≤ 1048576 := by
  unfold dueI; split
  · next h => simp only [Bool.and_eq_true] at h; have := deck_len h.1; have := dueTo_len cs day cs.length; omega
  · simp

theorem isDay_any (n : Int) (w : World) : Calls Try.prog 61 #[.int .i64 n] w fun e w' => e = .returned (.bool (inB n 0 200)) ∧ w = w' := by
  go_enter Try.func61, Try.ntmps61
  go_wp2_with (go_at_call 62; refine (in_any _ _ _ _).mono ?_; rintro e w' ⟨rfl, rfl⟩)
  go_ret
  exact ⟨rfl, rfl⟩
theorem isDay_val {n : Int} {b : Bool} (h : inB n 0 200 = b) (w : World) : Calls Try.prog 61 #[.int .i64 n] w fun e w' => e = .returned (.bool b) ∧ w = w' := h ▸ isDay_any n w

theorem clipI_any (a : Option Addr) (cap n : Nat) (w : World) (hn : n ≤ cap) (hc : cap ≤ 9223372036854775807) :
    Calls Try.prog 90 #[.slice a n cap] w fun e w' => e = .returned (.slice a n n) ∧ w = w' := by
  go_enter Try.func90, Try.ntmps90
  go_wp2
  go_ret
  exact ⟨rfl, rfl⟩

set_option maxHeartbeats 400000 in
theorem implDueOn_any (a : Option Addr) (cap : Nat) (cs : List (Int × Int)) (day : Int) (w : World) (hs : Sl w a (cards cs)) (hm : cs.length ≤ 1048576) :
    Calls Try.prog 82 #[.slice a cs.length cap, .int .i64 day] w (NewI (dueI cs day) w) := by
  have HS := Lib.hid hs; clear hs
  cases h : deckOkB cs
  · have hf := Lib.hid (due_no1 (day := day) h); have H := Lib.hid h; clear h
    go_enter Try.func82, Try.ntmps82
    go_wp2_with (go_at_call 78; refine (implDeck_val HS.out hm H.out).mono ?_; rintro e w' ⟨rfl, hF⟩)
    go_ret
    exact newI_nil hf.out hF
  · cases h2 : inB day 0 200
    · have hf := Lib.hid (due_no2 (cs := cs) h2); have H := Lib.hid h; have H2 := Lib.hid h2; clear h h2
      go_enter Try.func82, Try.ntmps82
      go_wp2_with fail
      refine (implDeck_val HS.out hm H.out).mono ?_; rintro e w' ⟨rfl, hF⟩
      go_wp2_with (go_at_call 61; refine (isDay_val H2.out _).mono ?_; rintro e w' ⟨rfl, rfl⟩)
      go_ret
      exact newI_nil hf.out hF
    · have hl := deck_len h
      have hf := Lib.hid (due_yes h h2); have H := Lib.hid h; have H2 := Lib.hid h2; clear h h2
      go_enter Try.func82, Try.ntmps82
      go_wp2_with fail
      refine (implDeck_val HS.out hm H.out).mono ?_; rintro e w0 ⟨rfl, hF0⟩
      have HF0 := Lib.hid hF0
      have z0 := hF0.size
      clear hF0
      go_wp2_with (go_at_call 61; refine (isDay_val H2.out _).mono ?_; rintro e w' ⟨rfl, rfl⟩)
      go_loopw [5, 18] (fun v i wr => ∃ k : Nat, ∃ (ao : Option Addr) (co : Nat), k ≤ cs.length ∧ v = .slice ao (dueTo cs day k).length co ∧ i = .int .i64 k ∧ wr.ownsRow w.heap.size 3 1 (.slice ao (dueTo cs day k).length co) (dueTo cs day k).length (ints (dueTo cs day k)) ∧ Fr w.heap.size none w wr) (fun _ i _ => cs.length - (intOf i).toNat)
      case atStart => exact ⟨0, none, 0, Nat.zero_le _, rfl, rfl, World.ownsRow_nil _ _ _ _, HF0.out⟩
      case round =>
        obtain ⟨k, ao, co, hk, rfl, rfl, ho, hF⟩ := hrel
        have HF := Lib.hid hF; have HO := Lib.hid ho
        have hsz := hF.size
        have hdl := dueTo_len cs day k
        clear hF ho
        by_cases hlt : k < cs.length
        · obtain ⟨b1, off1, rfl, hc1, hc2, hc3⟩ := (HS.out.fr HF.out).card k hlt
          have hsu := Lib.hid (dueTo_succ cs day k)
          generalize cs.getD k (0, 0) = x at *
          obtain ⟨xa, xb⟩ := x
          by_cases hd : xb ≤ day
          · have hnx : Hid (dueTo cs day (k + 1) = dueTo cs day k ++ [(k : Int)]) := by rw [hsu.out]; exact if_pos hd
            go_wp2_with (at_builtin; refine app1g 23 3 (.int .i64 0) 1 8 Try.underlying23 infoInt rfl (by decide) (by decide) rfl _ _ rfl [.int .i64 (k : Int)] (HO.out.alloc _) rfl _ (by simp) rfl rfl (by simp [Value.oneCell']) (by omega) (by simp; omega) ?_; intro v' w' ho' hF')
            obtain ⟨a', c', rfl, _, _⟩ := own_slice ho'
            have hlen : Hid ((dueTo cs day (k + 1)).length = (dueTo cs day k).length + 1) := by rw [hnx.out]; show _ = _; simp
            have H1 : Hid (w'.ownsRow w.heap.size 3 1 (.slice a' (dueTo cs day (k + 1)).length c') (dueTo cs day (k + 1)).length (ints (dueTo cs day (k + 1)))) := by rw [hlen.out, hnx.out, ints_append]; exact ho'
            have H3 := Lib.hid (app_frame (HF.out.alloc hsz _) (HO.out.alloc _) hF' (by simp; omega))
            clear ho' hF'
            go_wp2
            go_roundw
            case rel => exact ⟨k + 1, a', c', by omega, by rw [hlen.out], by go_num, H1.out, H3.out⟩
            case measure => simp [intOf]; omega
          · have hnx : Hid (dueTo cs day (k + 1) = dueTo cs day k) := by rw [hsu.out]; exact if_neg hd
            have hd' : day < xb := by omega
            go_wp2
            go_roundw
            case rel => exact ⟨k + 1, ao, co, by omega, by rw [hnx.out], by go_num, by rw [hnx.out]; exact HO.out.alloc _, HF.out.alloc hsz _⟩
            case measure => simp [intOf]; omega
        · have hkk : k = cs.length := by omega
          obtain ⟨a2, c2, hv, hcap, hcm⟩ := own_slice HO.out
          cases hv
          have HN := Lib.hid (newI_own (Own.of HO.out).clip (show ints (dueTo cs day k) = ints (dueI cs day) by rw [hkk, hf.out]) HF.out)
          unfold maxLen at hcm
          clear hkk
          go_wp2_with (go_at_call 90; refine (clipI_any _ _ _ _ hcap (by omega)).mono ?_; rintro e w' ⟨rfl, rfl⟩)
          go_ret
          exact HN.out

set_option maxHeartbeats 400000 in
theorem specDueOn_any (a : Option Addr) (cap : Nat) (cs : List (Int × Int)) (day : Int) (w : World) (hs : Sl w a (cards cs)) (hm : cs.length ≤ 1048576) :
    Calls Try.prog 67 #[.slice a cs.length cap, .int .i64 day] w (NewI (dueI cs day) w) := by
  have HS := Lib.hid hs; clear hs
  cases h : deckOkB cs
  · have hf := Lib.hid (due_no1 (day := day) h); have H := Lib.hid h; clear h
    have HN : Hid (NewI (dueI cs day) w (.returned (.slice (some ⟨w.heap.size, 0, none⟩) 0 0)) (w.alloc (.cells #[] 3))) := newI_of (World.ownsRow_made _ _ _ (Nat.le_refl _) (by simp [maxLen]) (by simp)) (by rw [← hf.out]; rfl) ((Fr.refl _ _ _).alloc (Nat.le_refl _) _)
    have HS' := Lib.hid (HS.out.fr ((Fr.refl _ _ _).alloc (Nat.le_refl _) (.cells #[] 3)))
    by_cases h0 : 0 < cs.length
    · have h0' : (0 : Int) < cs.length := by omega
      go_enter Try.func67, Try.ntmps67
      go_wp2
      refine wp_loop_rounds 1 ?_
      rw [rounds_succ]
      go_wp2_with (go_at_call 66; refine (specDeck_val HS'.out hm H.out).mono ?_; rintro e w' ⟨rfl, rfl⟩)
      go_ret
      exact HN.out
    · have h0' : (cs.length : Int) ≤ 0 := by omega
      go_enter Try.func67, Try.ntmps67
      go_wp2
      refine wp_loop_rounds 1 ?_
      rw [rounds_succ]
      go_wp2
      go_ret
      exact HN.out
  · cases h2 : inB day 0 200
    · have hf := Lib.hid (due_no2 (cs := cs) h2); have H := Lib.hid h; have H2 := Lib.hid h2; clear h h2
      have HN : Hid (NewI (dueI cs day) w (.returned (.slice (some ⟨w.heap.size, 0, none⟩) 0 0)) (w.alloc (.cells #[] 3))) := newI_of (World.ownsRow_made _ _ _ (Nat.le_refl _) (by simp [maxLen]) (by simp)) (by rw [← hf.out]; rfl) ((Fr.refl _ _ _).alloc (Nat.le_refl _) _)
      have HS' := Lib.hid (HS.out.fr ((Fr.refl _ _ _).alloc (Nat.le_refl _) (.cells #[] 3)))
      by_cases h0 : 0 < cs.length
      · have h0' : (0 : Int) < cs.length := by omega
        go_enter Try.func67, Try.ntmps67
        go_wp2
        refine wp_loop_rounds 1 ?_
        rw [rounds_succ]
        go_wp2_with (first | (go_at_call 66; refine (specDeck_val HS'.out hm H.out).mono ?_; rintro e w' ⟨rfl, rfl⟩) | (go_at_call 65; refine (l1In_val H2.out _).mono ?_; rintro e w' ⟨rfl, rfl⟩))
        go_ret
        exact HN.out
      · have h0' : (cs.length : Int) ≤ 0 := by omega
        go_enter Try.func67, Try.ntmps67
        go_wp2
        refine wp_loop_rounds 1 ?_
        rw [rounds_succ]
        go_wp2
        go_ret
        exact HN.out
    · have hl := deck_len h
      have hf := Lib.hid (due_yes h h2); have H := Lib.hid h; have H2 := Lib.hid h2; clear h h2
      go_enter Try.func67, Try.ntmps67
      go_wp2
      go_loopw [5, 6] (fun v i wr => ∃ k : Nat, ∃ (ao : Option Addr) (co : Nat), k ≤ cs.length ∧ v = .slice ao (dueTo cs day k).length co ∧ i = .int .i64 k ∧ wr.ownsRow w.heap.size 3 1 (.slice ao (dueTo cs day k).length co) (dueTo cs day k).length (ints (dueTo cs day k)) ∧ Fr w.heap.size none w wr) (fun _ i _ => cs.length - (intOf i).toNat)
      case atStart => exact ⟨0, some ⟨w.heap.size, 0, none⟩, 0, Nat.zero_le _, rfl, rfl, World.ownsRow_made _ _ _ (Nat.le_refl _) (by simp [maxLen]) (by simp), (Fr.refl _ _ _).alloc (Nat.le_refl _) _⟩
      case round =>
        obtain ⟨k, ao, co, hk, rfl, rfl, ho, hF⟩ := hrel
        have HF := Lib.hid hF; have HO := Lib.hid ho
        have hsz := hF.size
        have hdl := dueTo_len cs day k
        clear hF ho
        have HS' := Lib.hid (HS.out.fr HF.out)
        by_cases hlt : k < cs.length
        · have hlt' : (k : Int) < cs.length := by omega
          obtain ⟨b1, off1, rfl, hc1, hc2, hc3⟩ := HS'.out.card k hlt
          have hsu := Lib.hid (dueTo_succ cs day k)
          generalize cs.getD k (0, 0) = x at *
          obtain ⟨xa, xb⟩ := x
          by_cases hd : xb ≤ day
          · have hnx : Hid (dueTo cs day (k + 1) = dueTo cs day k ++ [(k : Int)]) := by rw [hsu.out]; exact if_pos hd
            go_wp2_with (first | (go_at_call 66; refine (specDeck_val HS'.out hm H.out).mono ?_; rintro e w' ⟨rfl, rfl⟩) | (go_at_call 65; refine (l1In_val H2.out _).mono ?_; rintro e w' ⟨rfl, rfl⟩) | (at_builtin; refine app1 23 3 (.int .i64 0) 1 8 Try.underlying23 infoInt rfl (by decide) (by decide) rfl _ _ rfl [.int .i64 (k : Int)] HO.out rfl rfl rfl (by simp [Value.oneCell']) (by omega) hsz ?_; intro v' w' ho' hF'))
            obtain ⟨a', c', rfl, _, _⟩ := own_slice ho'
            have hlen : Hid ((dueTo cs day (k + 1)).length = (dueTo cs day k).length + 1) := by rw [hnx.out]; show _ = _; simp
            have H1 : Hid (w'.ownsRow w.heap.size 3 1 (.slice a' (dueTo cs day (k + 1)).length c') (dueTo cs day (k + 1)).length (ints (dueTo cs day (k + 1)))) := by rw [hlen.out, hnx.out, ints_append]; exact ho'
            have H3 := Lib.hid (app_frame HF.out HO.out hF' hsz)
            clear ho' hF'
            go_wp2
            go_roundw
            case rel => exact ⟨k + 1, a', c', by omega, by rw [hlen.out], by go_num, H1.out, H3.out⟩
            case measure => simp [intOf]; omega
          · have hnx : Hid (dueTo cs day (k + 1) = dueTo cs day k) := by rw [hsu.out]; exact if_neg hd
            have hd' : day < xb := by omega
            go_wp2_with (first | (go_at_call 66; refine (specDeck_val HS'.out hm H.out).mono ?_; rintro e w' ⟨rfl, rfl⟩) | (go_at_call 65; refine (l1In_val H2.out _).mono ?_; rintro e w' ⟨rfl, rfl⟩))
            go_roundw
            case rel => exact ⟨k + 1, ao, co, by omega, by rw [hnx.out], by go_num, by rw [hnx.out]; exact HO.out, HF.out⟩
            case measure => simp [intOf]; omega
        · have hkk : k = cs.length := by omega
          have hlt' : (cs.length : Int) ≤ k := by omega
          have HN := Lib.hid (newI_of HO.out (show ints (dueTo cs day k) = ints (dueI cs day) by rw [hkk, hf.out]) HF.out)
          clear hkk
          go_wp2
          go_ret
          exact HN.out
end Go.Proofs.Ytoedenmimcmkoaa
