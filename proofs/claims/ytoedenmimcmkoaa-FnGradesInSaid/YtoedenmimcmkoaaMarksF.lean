/-
  Contracts: GradesIn, of the program and of the reference.
-/
import Derived.Test.YtoedenmimcmkoaaMarksE
namespace Go.Proofs.Ytoedenmimcmkoaa
open Go.RowKit

/-- How many of the first k marks have each grade. -/
def cntI (bs ms : List Int) (k : Nat) : List Int := (List.range (bs.length + 1)).map fun g => ((ms.take k).countP fun n => aboveN bs n == g : Int)
theorem cntI_length (bs ms : List Int) (k : Nat) : (cntI bs ms k).length = bs.length + 1 := by simp [cntI]
theorem cntI_zero (bs ms : List Int) : ints (cntI bs ms 0) = List.replicate (bs.length + 1) (.int .i64 0) := by
  apply List.ext_getElem
  · simp [ints, cntI]
  · intro i h1 h2; simp [ints, cntI]
theorem cntI_getD (bs ms : List Int) (k g : Nat) (hg : g < bs.length + 1) : (cntI bs ms k).getD g 0 = ((ms.take k).countP fun n => aboveN bs n == g : Int) := by
  simp [cntI, List.getD_eq_getElem?_getD, hg]
theorem cntI_le (bs ms : List Int) (k g : Nat) (hg : g < bs.length + 1) : 0 ≤ (cntI bs ms k).getD g 0 ∧ (cntI bs ms k).getD g 0 ≤ k := by
  rw [cntI_getD bs ms k g hg]
  have h1 : ((ms.take k).countP fun n => aboveN bs n == g) ≤ (ms.take k).length := List.countP_le_length
  have h2 : (ms.take k).length ≤ k := List.length_take_le _ _
  omega
theorem cntI_set (bs ms : List Int) (k : Nat) (hk : k < ms.length) :
    (ints (cntI bs ms k)).set (aboveN bs (ms.getD k 0)) (.int .i64 ((cntI bs ms k).getD (aboveN bs (ms.getD k 0)) 0 + 1)) = ints (cntI bs ms (k + 1)) := by
  have hg : aboveN bs (ms.getD k 0) < bs.length + 1 := by have := aboveN_le bs (ms.getD k 0); omega
  rw [cntI_getD bs ms k _ hg]
  apply List.ext_getElem
  · simp [ints, cntI]
  · intro i h1 h2
    have hi : i < bs.length + 1 := by simpa [ints, cntI] using h2
    rw [List.getElem_set]
    simp only [ints, cntI, List.getElem_map, List.getElem_range]
    rw [List.take_succ_eq_append_getElem hk, List.countP_append]
    have hx : ms.getD k 0 = ms[k] := by simp [List.getD_eq_getElem?_getD, hk]
    rw [hx]
    by_cases h : aboveN bs ms[k] = i
    · rw [if_pos h, h]; simp [List.countP_cons, h]
    · rw [if_neg h]; simp [List.countP_cons, h]

def gradesI (bs ms : List Int) : List Int := if boundsOkB bs && marksOkB ms then cntI bs ms ms.length else []
theorem grades_no1 {bs ms : List Int} (h : boundsOkB bs = false) : [] = gradesI bs ms := by simp [gradesI, h]
theorem grades_no2 {bs ms : List Int} (h : marksOkB ms = false) : [] = gradesI bs ms := by simp [gradesI, h]
theorem grades_yes {bs ms : List Int} (h : boundsOkB bs = true) (h2 : marksOkB ms = true) : ints (cntI bs ms ms.length) = ints (gradesI bs ms) := by simp [gradesI, h, h2]

theorem mkIntsS (n : Nat) (hn : n + 1 ≤ 2097152) (w : World) :
    ∃ w1, (Instr.makeSlice 23 (.int .i64 ((n : Int) + 1)) (.int .i64 ((n : Int) + 1))).run Try.prog w = .ok (.slice (some ⟨w.heap.size, 0, none⟩) (n + 1) (n + 1)) w1 ∧
      w1.ownsRow w.heap.size 3 1 (.slice (some ⟨w.heap.size, 0, none⟩) (n + 1) (n + 1)) (n + 1) (List.replicate (n + 1) (.int .i64 0)) ∧ Fr w.heap.size none w w1 := by
  obtain ⟨w1, hr, ho, hF⟩ := mkInts (fun _ => .int .i64 0) (n + 1) hn w
  rw [fillV_zero] at ho
  refine ⟨w1, ?_, ho, hF⟩
  have ec : ((n + 1 : Nat) : Int) = (n : Int) + 1 := by omega
  rw [ec] at hr; exact hr

/-- The cell of a row at a place. -/
theorem own_cellI {w : World} {B : Nat} {g n cap : Nat} {xs : List Int} (ho : w.ownsRow B 3 1 (.slice (some ⟨g, 0, none⟩) n cap) n (ints xs)) (j : Nat) (hj : j < n) : w.cell? ⟨g, j, none⟩ = some (.int .i64 (xs.getD j 0)) := by
  have hl : xs.length = n := by have := ho.1; rw [ints_length] at this; omega
  rw [ho.cellAt j (by omega)]; simp [ints, List.getD_eq_getElem?_getD, show j < xs.length by omega]

theorem implGradesIn_any (a : Option Addr) (cap : Nat) (bs : List Int) (b : Option Addr) (cb : Nat) (ms : List Int) (w : World) (hs : Sl w a (ints bs)) (hm : bs.length ≤ 1048576) (hs2 : Sl w b (ints ms)) (hm2 : ms.length ≤ 1048576) :
    Calls Try.prog 20 #[.slice a bs.length cap, .slice b ms.length cb] w (NewInts (gradesI bs ms) w) := by
  have HS := Lib.hid hs; clear hs
  have HT := Lib.hid hs2; clear hs2
  cases h : boundsOkB bs
  · have hf := Lib.hid (grades_no1 (ms := ms) h); have H := Lib.hid h; clear h
    go_enter Try.func20, Try.ntmps20
    go_wp2_with (go_at_call 54; refine (implBounds_val HS.out hm H.out).mono ?_; rintro e w' ⟨rfl, rfl⟩)
    go_ret
    exact newInts_nil hf.out (Fr.refl _ _ _)
  · cases h2 : marksOkB ms
    · have hf := Lib.hid (grades_no2 (bs := bs) h2); have H := Lib.hid h; have H2 := Lib.hid h2; clear h h2
      go_enter Try.func20, Try.ntmps20
      go_wp2_with (first | (go_at_call 54; refine (implBounds_val HS.out hm H.out).mono ?_; rintro e w' ⟨rfl, rfl⟩) | (go_at_call 18; refine (implMarks_val HT.out hm2 H2.out).mono ?_; rintro e w' ⟨rfl, rfl⟩))
      go_ret
      exact newInts_nil hf.out (Fr.refl _ _ _)
    · have hl := marks_len h2
      have hl2 := bounds_len h
      have hf := Lib.hid (grades_yes h h2); have H := Lib.hid h; have H2 := Lib.hid h2; clear h h2
      obtain ⟨w1, hr, ho, hF⟩ := mkIntsS bs.length (by omega) w
      have HO := Lib.hid ho; have HF := Lib.hid hF; clear ho hF
      go_enter Try.func20, Try.ntmps20
      go_wp2_with (first | (go_at_call 54; refine (implBounds_val HS.out hm H.out).mono ?_; rintro e w' ⟨rfl, rfl⟩) | (go_at_call 18; refine (implMarks_val HT.out hm2 H2.out).mono ?_; rintro e w' ⟨rfl, rfl⟩))
      clear hr
      go_loopw [22] (fun i wr => ∃ k : Nat, k ≤ ms.length ∧ i = .int .i64 k ∧ wr.ownsRow w.heap.size 3 1 (.slice (some ⟨w.heap.size, 0, none⟩) (bs.length + 1) (bs.length + 1)) (bs.length + 1) (ints (cntI bs ms k)) ∧ Fr w.heap.size none w wr) (fun i _ => ms.length - (intOf i).toNat)
      case atStart => exact ⟨0, Nat.zero_le _, rfl, by rw [cntI_zero]; exact HO.out, HF.out⟩
      case round =>
        obtain ⟨k, hk, rfl, ho, hF⟩ := hrel
        by_cases hlt : k < ms.length
        · have HS' := Lib.hid (HS.out.fr hF)
          have HT' := Lib.hid (HT.out.fr hF)
          obtain ⟨b1, off1, rfl, hcell⟩ := HT'.out.int k hlt
          have hset := Lib.hid (cntI_set bs ms k hlt)
          generalize ms.getD k 0 = x at *
          have hle := aboveN_le bs x
          have hc2 := own_cellI ho (aboveN bs x) (by omega)
          obtain ⟨hc0, hc1⟩ := cntI_le bs ms k (aboveN bs x) (by omega)
          have hf2 := ho.frozenAt (aboveN bs x)
          have hst := ho.stored (aboveN bs x) (.int .i64 ((cntI bs ms k).getD (aboveN bs x) 0 + 1))
          rw [hset.out] at hst
          have HST := Lib.hid hst; clear hst ho
          have HF' := Lib.hid (hF.setCell (p := ⟨w.heap.size, aboveN bs x, none⟩) (.inl (Nat.le_refl _)) (.int .i64 ((cntI bs ms k).getD (aboveN bs x) 0 + 1))); clear hF
          generalize (cntI bs ms k).getD (aboveN bs x) 0 = y at *
          have hab := Lib.hid (fun W (hs : Sl W a (ints bs)) => above_any a cap bs x W hs hm)
          generalize aboveN bs x = g at *
          go_wp2_with (go_at_call 47; refine (hab.out _ HS'.out).mono ?_; rintro e w' ⟨rfl, rfl⟩)
          go_roundw
          case rel => exact ⟨k + 1, by omega, by go_num, HST.out.1, HF'.out⟩
          case measure => simp [intOf]; omega
        · have hkk : k = ms.length := by omega
          have HN := Lib.hid (newInts_of ho (show ints (cntI bs ms k) = ints (gradesI bs ms) by rw [hkk]; exact hf.out) hF)
          clear hkk ho
          go_wp2
          go_ret
          exact HN.out

theorem specGrade_val {a : Option Addr} {cap : Nat} {bs : List Int} {w : World} {x : Int} (hs : Sl w a (ints bs)) (hm : bs.length ≤ 1048576) (h : boundsOkB bs = true) (hx : 0 ≤ x ∧ x ≤ 100) :
    Calls Try.prog 56 #[.slice a bs.length cap, .int .i64 x] w fun e w' => e = .returned (.int .i64 (1 + aboveN bs x)) ∧ ∃ m, w' = w.drewN m := by
  have := specGradeOf_any a cap bs x w hs hm
  rw [← gradeOf_yes h (inB_true.2 hx)] at this; exact this

theorem specGradesIn_any (a : Option Addr) (cap : Nat) (bs : List Int) (b : Option Addr) (cb : Nat) (ms : List Int) (w : World) (hs : Sl w a (ints bs)) (hm : bs.length ≤ 1048576) (hs2 : Sl w b (ints ms)) (hm2 : ms.length ≤ 1048576) :
    Calls Try.prog 21 #[.slice a bs.length cap, .slice b ms.length cb] w (NewInts (gradesI bs ms) w) := by
  have HS := Lib.hid hs; clear hs
  have HT := Lib.hid hs2; clear hs2
  cases h : boundsOkB bs
  · have hf := Lib.hid (grades_no1 (ms := ms) h); have H := Lib.hid h; clear h
    go_enter Try.func21, Try.ntmps21
    go_wp2_with (go_at_call 55; refine (specBounds_val HS.out hm H.out).mono ?_; rintro e w' ⟨rfl, m, rfl⟩)
    go_ret
    exact newInts_of (cap := 0) (n := 0) (cs := []) (World.ownsRow_made _ _ _ (Nat.le_refl _) (by simp [maxLen]) (by simp)) (by rw [← hf.out]; rfl) (((Fr.refl _ _ _).alloc (Nat.le_refl _) _).drewN _)
  · cases h2 : marksOkB ms
    · have hf := Lib.hid (grades_no2 (bs := bs) h2); have H := Lib.hid h; have H2 := Lib.hid h2; clear h h2
      go_enter Try.func21, Try.ntmps21
      go_wp2_with (first | (go_at_call 55; refine (specBounds_val HS.out hm H.out).mono ?_; rintro e w' ⟨rfl, m, rfl⟩) | (go_at_call 48; refine (specMarks_val (HT.out.drewN _) hm2 H2.out).mono ?_; rintro e w' ⟨rfl, rfl⟩))
      go_ret
      exact newInts_of (cap := 0) (n := 0) (cs := []) (World.ownsRow_made _ _ _ (Nat.le_refl _) (by simp [maxLen]) (by simp)) (by rw [← hf.out]; rfl) (((Fr.refl _ _ _).alloc (Nat.le_refl _) _).drewN _)
    · have hl := marks_len h2
      have hin := Lib.hid (marks_in h2)
      have hl2 := bounds_len h
      have hf := Lib.hid (grades_yes h h2); have H := Lib.hid h; have H2 := Lib.hid h2; clear h h2
      go_enter Try.func21, Try.ntmps21
      go_wp2_with fail
      refine (specBounds_val HS.out hm H.out).mono ?_; rintro e w' ⟨rfl, m, rfl⟩
      obtain ⟨w1, hr, ho, hF⟩ := mkIntsS bs.length (by omega) (w.drewN m)
      have HO : Hid (w1.ownsRow w.heap.size 3 1 (.slice (some ⟨w.heap.size, 0, none⟩) (bs.length + 1) (bs.length + 1)) (bs.length + 1) (List.replicate (bs.length + 1) (.int .i64 0))) := ho
      have HF : Hid (Fr w.heap.size none w w1) := ((Fr.refl _ _ w).drewN m).trans hF
      clear ho hF
      go_wp2_with (go_at_call 48; refine (specMarks_val (HT.out.drewN m) hm2 H2.out).mono ?_; rintro e w' ⟨rfl, rfl⟩)
      clear hr
      go_loopw [6] (fun i wr => ∃ k : Nat, k ≤ ms.length ∧ i = .int .i64 k ∧ wr.ownsRow w.heap.size 3 1 (.slice (some ⟨w.heap.size, 0, none⟩) (bs.length + 1) (bs.length + 1)) (bs.length + 1) (ints (cntI bs ms k)) ∧ Fr w.heap.size none w wr) (fun i _ => ms.length - (intOf i).toNat)
      case atStart => exact ⟨0, Nat.zero_le _, rfl, by rw [cntI_zero]; exact HO.out, HF.out⟩
      case round =>
        obtain ⟨k, hk, rfl, ho, hF⟩ := hrel
        by_cases hlt : k < ms.length
        · have HS' := Lib.hid (HS.out.fr hF)
          have HT' := Lib.hid (HT.out.fr hF)
          obtain ⟨b1, off1, rfl, hcell⟩ := HT'.out.int k hlt
          have hset := Lib.hid (cntI_set bs ms k hlt)
          have hx := Lib.hid (hin.out (ms.getD k 0) (by simp [List.getD_eq_getElem?_getD, hlt]))
          generalize ms.getD k 0 = x at *
          have hle := aboveN_le bs x
          have hc2 := own_cellI ho (aboveN bs x) (by omega)
          obtain ⟨hc0, hc1⟩ := cntI_le bs ms k (aboveN bs x) (by omega)
          have hf2 := ho.frozenAt (aboveN bs x)
          have hst := ho.stored (aboveN bs x) (.int .i64 ((cntI bs ms k).getD (aboveN bs x) 0 + 1))
          rw [hset.out] at hst
          have HST := Lib.hid hst; clear hst ho
          have HF' := Lib.hid (hF.setCell (p := ⟨w.heap.size, aboveN bs x, none⟩) (.inl (Nat.le_refl _)) (.int .i64 ((cntI bs ms k).getD (aboveN bs x) 0 + 1))); clear hF
          generalize (cntI bs ms k).getD (aboveN bs x) 0 = y at *
          have hab := Lib.hid (fun W (hs : Sl W a (ints bs)) => specGrade_val (cap := cap) hs hm H.out hx.out)
          generalize aboveN bs x = g at *
          go_wp2_with (go_at_call 56; refine (hab.out _ HS'.out).mono ?_; rintro e w' ⟨rfl, m2, rfl⟩)
          go_roundw
          case rel => exact ⟨k + 1, by omega, by go_num, own_drewN HST.out.1 m2, HF'.out.drewN m2⟩
          case measure => simp [intOf]; omega
        · have hkk : k = ms.length := by omega
          have HN := Lib.hid (newInts_of ho (show ints (cntI bs ms k) = ints (gradesI bs ms) by rw [hkk]; exact hf.out) hF)
          clear hkk ho
          go_wp2
          go_ret
          exact HN.out
theorem gradesI_le (bs ms : List Int) : (gradesI bs ms).length ≤ 1048576 := by
  unfold gradesI; split
  · next h => simp only [Bool.and_eq_true] at h; have := bounds_len h.1; rw [cntI_length]; omega
  · simp
end Go.Proofs.Ytoedenmimcmkoaa
