/-
  Contracts: the stable sort for at most 12 numbers, ListOf and MiddleMark, of the program and of the reference.
-/
import Derived.Test.YtoedenmimcmkoaaListA
namespace Go.Proofs.Ytoedenmimcmkoaa
open Go.RowKit

theorem stable_any (G B : Nat) (a : Option Addr) (cap : Nat) (ms : List Int) (w : World) (hp : w.cell? ⟨B, 0, none⟩ = some (.slice a ms.length cap)) (hs : Sl w a (ints ms)) (hB : B < G) (ha : ∀ p, a = some p → 0 < ms.length → p.block < G) (hm : ms.length ≤ 12)
    (hok : marksOkB ms = true) (ho : w.ownsRow G 3 1 (.slice (some ⟨G, 0, none⟩) ms.length ms.length) ms.length (ints (upI 0 ms.length))) :
    Calls Try.prog 85 #[.slice (some ⟨G, 0, none⟩) ms.length ms.length, .int .i64 ms.length, .func (.func 72) #[] #[.pointer (some ⟨B, 0, none⟩)]] w
      fun e w' => (∃ v, e = .returned v) ∧ w'.ownsRow G 3 1 (.slice (some ⟨G, 0, none⟩) ms.length ms.length) ms.length (ints (listI ms)) ∧ Fr w.heap.size (some G) w w' := by
  have IC := Lib.hid (insert_any G B a cap ms w hp hs hB ha hm hok ho)
  clear hp hs ha ho hok
  go_enter Try.func85, Try.ntmps85
  go_wp2
  go_loopw [7, 8] (fun x y wr => x = .int .i64 0 ∧ y = .int .i64 20 ∧ wr = w) (fun _ _ _ => 0)
  case atStart => exact ⟨rfl, rfl, rfl⟩
  case round =>
    obtain ⟨rfl, rfl, rfl⟩ := hrel
    go_wp2_with fail
    refine IC.out.mono ?_
    rintro e w2 ⟨⟨v, rfl⟩, ho, hF⟩
    have HO := Lib.hid ho; have HF := Lib.hid hF; clear ho hF IC
    go_wp2
    go_loopw [6] (fun x wr => x = .int .i64 20 ∧ wr = w2) (fun _ _ => 0)
    case atStart => exact ⟨rfl, rfl⟩
    case round =>
      obtain ⟨rfl, rfl⟩ := hrel
      go_wp2
      go_end0
      exact ⟨⟨_, rfl⟩, HO.out, HF.out⟩
theorem sortStable_any (G B : Nat) (a : Option Addr) (cap : Nat) (ms : List Int) (w : World) (hp : w.cell? ⟨B, 0, none⟩ = some (.slice a ms.length cap)) (hs : Sl w a (ints ms)) (hB : B < G) (ha : ∀ p, a = some p → 0 < ms.length → p.block < G) (hm : ms.length ≤ 12)
    (hok : marksOkB ms = true) (ho : w.ownsRow G 3 1 (.slice (some ⟨G, 0, none⟩) ms.length ms.length) ms.length (ints (upI 0 ms.length))) :
    Calls Try.prog 71 #[.slice (some ⟨G, 0, none⟩) ms.length ms.length, .func (.func 72) #[] #[.pointer (some ⟨B, 0, none⟩)]] w
      fun e w' => (∃ v, e = .returned v) ∧ w'.ownsRow G 3 1 (.slice (some ⟨G, 0, none⟩) ms.length ms.length) ms.length (ints (listI ms)) ∧ Fr w.heap.size (some G) w w' := by
  have IC := Lib.hid (stable_any G B a cap ms w hp hs hB ha hm hok ho)
  clear hp hs ha ho hok
  go_enter Try.func71, Try.ntmps71
  go_wp2_with fail
  refine IC.out.mono ?_
  rintro e w2 ⟨⟨v, rfl⟩, ho, hF⟩
  have HO := Lib.hid ho; have HF := Lib.hid hF; clear ho hF IC
  go_wp2
  go_end0
  exact ⟨⟨_, rfl⟩, HO.out, HF.out⟩

theorem listI_le (ms : List Int) : (listI ms).length ≤ 1048576 := by
  unfold listI
  split
  · rename_i h
    have hd : ∀ t, (downI ms t).length ≤ t * ms.length := by
      intro t
      induction t with
      | zero => simp [downI]
      | succ t ih =>
        have := withI_len ms (100 - (t : Int)) ms.length
        simp only [downI, List.length_append, Nat.succ_mul]; omega
    have h1 := hd 101
    have h2 := marks_len h
    have : 101 * ms.length ≤ 101 * 12 := Nat.mul_le_mul_left _ h2
    omega
  · simp

set_option maxHeartbeats 800000 in
theorem implListOf_any (a : Option Addr) (cap : Nat) (ms : List Int) (w : World) (hs : Sl w a (ints ms)) (hm : ms.length ≤ 1048576) :
    Calls Try.prog 38 #[.slice a ms.length cap] w (NewInts (listI ms) w) := by
  have ha : ∀ p, a = some p → 0 < ms.length → p.block < w.heap.size := by
    intro p hp h0
    obtain ⟨b, off, h1, h2⟩ := hs.int 0 h0
    rw [hp] at h1; cases h1
    exact World.block_lt_of_cell? w _ h2
  have HS := Lib.hid hs; have HA := Lib.hid ha; clear hs ha
  have hmf : ∀ (fn : Fn) (first cap : Array Value) (w : World), (Instr.makeFunc fn first cap).run Try.prog w = .ok (.func fn first cap) w := fun _ _ _ _ => rfl
  cases h : marksOkB ms
  · have hf := Lib.hid (list_no h); have H := Lib.hid h; clear h
    go_enter Try.func38, Try.ntmps38
    go_wp2_with fail
    refine (implMarks_val (HS.out.fr ((Fr.refl _ none w).alloc (Nat.le_refl _) _)) hm H.out).mono ?_; rintro e w' ⟨rfl, rfl⟩
    go_wp2
    go_ret
    exact newInts_nil hf.out ((Fr.refl _ none w).alloc (Nat.le_refl _) _)
  · have hl := marks_len h
    have H := Lib.hid h; clear h
    obtain ⟨w1, hr, ho, hF⟩ := mkInts (fun j => .int .i64 (j : Int)) ms.length (by omega) (w.alloc (.cells #[.slice a ms.length cap] 23))
    rw [World.size_alloc] at hr ho hF
    have HO := Lib.hid ho; have HF := Lib.hid hF; clear ho hF
    go_enter Try.func38, Try.ntmps38
    go_wp2_with fail
    refine (implMarks_val (HS.out.fr ((Fr.refl _ none w).alloc (Nat.le_refl _) _)) hm H.out).mono ?_; rintro e w' ⟨rfl, rfl⟩
    go_wp2
    clear hr
    go_loopw [13] (fun i wr => ∃ k : Nat, k ≤ ms.length ∧ i = .int .i64 k ∧ wr.ownsRow (w.heap.size + 1) 3 1 (.slice (some ⟨w.heap.size + 1, 0, none⟩) ms.length ms.length) ms.length (fillV (fun j => .int .i64 (j : Int)) (.int .i64 0) ms.length k) ∧ Fr (w.heap.size + 1) none (w.alloc (.cells #[.slice a ms.length cap] 23)) wr) (fun i _ => ms.length - (intOf i).toNat)
    case atStart => exact ⟨0, Nat.zero_le _, rfl, HO.out, HF.out⟩
    case round =>
      obtain ⟨k, hk, rfl, ho, hF⟩ := hrel
      have hz := hF.size
      rw [World.size_alloc] at hz
      by_cases hlt : k < ms.length
      · have hlt' : (k : Int) < (ms.length : Int) := by omega
        have hc2 : ∃ v, wr.cell? ⟨w.heap.size + 1, k, none⟩ = some v := by
          rw [ho.cellAt k (by omega), List.getElem?_eq_getElem (by rw [fillV_length]; exact hlt)]; exact ⟨_, rfl⟩
        obtain ⟨v0, hc2⟩ := hc2
        have hf2 := ho.frozenAt k
        have hst := (ho.stored k (.int .i64 (k : Int))).1
        rw [fillV_set (fun j => .int .i64 (j : Int))] at hst
        have HST := Lib.hid hst
        have HF' := Lib.hid (hF.setCell (p := ⟨w.heap.size + 1, k, none⟩) (.inl (Nat.le_refl _)) (.int .i64 (k : Int)))
        clear hst ho hF
        go_wp2
        go_roundw
        case rel => exact ⟨k + 1, by omega, by go_num, HST.out, HF'.out⟩
        case measure => simp [intOf]; omega
      · obtain rfl : k = ms.length := by omega
        have hge : (ms.length : Int) ≤ (ms.length : Int) := Int.le_refl _
        rw [fillV_full] at ho
        have hrow : ((List.range ms.length).map fun j : Nat => Value.int .i64 (j : Int)) = ints (upI 0 ms.length) := by
          simp [ints, upI]
        rw [hrow] at ho
        have hcell : wr.cell? ⟨w.heap.size, 0, none⟩ = some (.slice a ms.length cap) := by
          refine (hF.cell (p := ⟨w.heap.size, 0, none⟩) (by simp) (by simp)).trans ?_
          rw [World.cell?_alloc_at _ _ _ _ rfl]; rfl
        have hsl : Sl wr a (ints ms) := (HS.out.fr ((Fr.refl w.heap.size none w).alloc (Nat.le_refl _) _)).frL hF (fun p hp hl => ⟨by have := HA.out p hp (by simpa [ints] using hl); omega, by simp⟩)
        have SC := Lib.hid (sortStable_any (w.heap.size + 1) w.heap.size a cap ms wr hcell hsl (by omega) (fun p h1 h2 => by have := HA.out p h1 h2; omega) hl H.out ho)
        have G1 := Lib.hid (((Fr.refl w.heap.size none w).alloc (Nat.le_refl _) (.cells #[.slice a ms.length cap] 23)).trans (hF.mono (by omega)))
        clear ho hF hcell hsl hrow
        go_wp2_with fail
        refine SC.out.mono ?_
        rintro e w2 ⟨⟨v, rfl⟩, ho, hF⟩
        have HN := Lib.hid (newInts_of (own_base ho (by omega : w.heap.size ≤ w.heap.size + 1)) rfl (G1.out.trans (hF.up (B' := w.heap.size) (by omega) (by intro g hg; cases hg; omega))))
        clear ho hF
        go_wp2
        go_ret
        exact HN.out

theorem downI_len (ms : List Int) (t : Nat) : (downI ms t).length ≤ t * ms.length := by
  induction t with
  | zero => simp [downI]
  | succ t ih =>
    have := withI_len ms (100 - (t : Int)) ms.length
    simp only [downI, List.length_append, Nat.succ_mul]; omega
theorem newInts_row {ys : List Int} {w w' : World} {v : Value} {n : Nat} (ho : w'.ownsRow w.heap.size 3 1 v n (ints ys)) (hF : Fr w.heap.size none w w') : NewInts ys w (.returned v) w' := by
  obtain ⟨a, c, rfl, _, _⟩ := own_slice ho
  exact newInts_of ho rfl hF

set_option maxHeartbeats 800000 in
theorem specListOf_any (a : Option Addr) (cap : Nat) (ms : List Int) (w : World) (hs : Sl w a (ints ms)) (hm : ms.length ≤ 1048576) :
    Calls Try.prog 37 #[.slice a ms.length cap] w (NewInts (listI ms) w) := by
  have HS := Lib.hid hs; clear hs
  cases h : marksOkB ms
  · have hf := Lib.hid (list_no h); have H := Lib.hid h; clear h
    go_enter Try.func37, Try.ntmps37
    go_wp2
    go_loopw [3, 4] (fun v i wr => v = .slice (some ⟨w.heap.size, 0, none⟩) 0 0 ∧ i = .int .i64 100 ∧ wr = w.alloc (.cells #[] 3)) (fun _ _ _ => 0)
    case atStart => exact ⟨rfl, rfl, rfl⟩
    case round =>
      obtain ⟨rfl, rfl, rfl⟩ := hrel
      go_wp2_with fail
      refine (specMarks_val (HS.out.fr ((Fr.refl _ none w).alloc (Nat.le_refl _) _)) hm H.out).mono ?_; rintro e w' ⟨rfl, rfl⟩
      go_wp2
      go_ret
      rw [← hf.out]
      exact newInts_row (World.ownsRow_made w #[] 0 (Nat.le_refl _) (by simp [maxLen]) (by simp)) ((Fr.refl _ _ w).alloc (Nat.le_refl _) _)
  · have hl := marks_len h
    have hf := Lib.hid (list_yes h); have H := Lib.hid h; clear h
    go_enter Try.func37, Try.ntmps37
    go_wp2
    go_loopw [3, 4] (fun v i wr => ∃ (t : Nat) (z : Int), t ≤ 101 ∧ i = .int .i64 z ∧ Hid (z = 100 - (t : Int)) ∧ wr.ownsRow w.heap.size 3 1 v (downI ms t).length (ints (downI ms t)) ∧ Fr w.heap.size none w wr) (fun _ i _ => (intOf i + 1).toNat)
    case atStart => exact ⟨0, 100, by omega, rfl, rfl, World.ownsRow_made w #[] 0 (Nat.le_refl _) (by simp [maxLen]) (by simp), (Fr.refl _ _ w).alloc (Nat.le_refl _) _⟩
    case round =>
      obtain ⟨t, z, ht, rfl, hzt, ho, hF⟩ := hrel
      have HO := Lib.hid ho; have HF := Lib.hid hF; clear ho hF
      have hdl := downI_len ms t
      have hdm : t * ms.length ≤ 101 * 12 := Nat.mul_le_mul ht hl
      have hd1 : (downI ms t).length ≤ 1212 := by omega
      clear hdl hdm
      by_cases hlt : t < 101
      · have hge : (0 : Int) ≤ z := by have := hzt.out; omega
        have hge1 : z ≤ 100 := by have := hzt.out; omega
        go_wp2_with fail
        refine (specMarks_val (HS.out.fr HF.out) hm H.out).mono ?_; rintro e w' ⟨rfl, rfl⟩
        go_wp2
        go_loopw [3, 5] (fun v i wr => ∃ q : Nat, q ≤ ms.length ∧ i = .int .i64 q ∧ wr.ownsRow w.heap.size 3 1 v (downI ms t ++ withI ms z q).length (ints (downI ms t ++ withI ms z q)) ∧ Fr w.heap.size none w wr) (fun _ i _ => ms.length - (intOf i).toNat)
        case atStart => exact ⟨0, Nat.zero_le _, rfl, by have e : downI ms t ++ withI ms z 0 = downI ms t := by simp [withI]
                                                         rw [e]; exact HO.out, HF.out⟩
        case round =>
          obtain ⟨q, hq, rfl, ho, hF⟩ := hrel
          have HO2 := Lib.hid ho; have HF2 := Lib.hid hF; have hz2 := hF.size; clear ho hF
          by_cases hlq : q < ms.length
          · obtain ⟨b, off, rfl, hcell⟩ := (HS.out.fr HF2.out).int q hlq
            have hlq' : (q : Int) < (ms.length : Int) := by omega
            have hw := Lib.hid (withI_succ ms z q)
            have hwl := withI_len ms z q
            have hbd : (downI ms t ++ withI ms z q).length ≤ 1300 := by rw [List.length_append]; omega
            by_cases hx : ms.getD q 0 = z
            · have hx' : (ms.getD q 0 == z) = true := by simpa using hx
              have hw1 := Lib.hid (show ints (downI ms t ++ withI ms z q) ++ [.int .i64 (q : Int)] = ints (downI ms t ++ withI ms z (q + 1)) by rw [hw.out, if_pos hx]; simp [ints])
              have hw2 := Lib.hid (show (downI ms t ++ withI ms z q).length + 1 = (downI ms t ++ withI ms z (q + 1)).length by rw [hw.out, if_pos hx]; simp; omega)
              clear hx hwl
              obtain ⟨va, vc, rfl, _, _⟩ := own_slice HO2.out
              generalize ms.getD q 0 = x at *
              go_wp2_with (at_builtin; refine app1 23 3 (.int .i64 0) 1 8 Try.underlying23 infoInt rfl (by decide) (by decide) rfl _ _ rfl [.int .i64 (q : Int)] HO2.out rfl rfl rfl (by simp [Value.oneCell']) (by omega) hz2 ?_; intro v' w5 ho' hF')
              rw [hw1.out, hw2.out] at ho'
              have HO5 := Lib.hid ho'
              have H6 := Lib.hid (app_frame HF2.out HO2.out hF' hz2)
              clear ho' hF'
              go_wp2
              go_roundw
              case rel => exact ⟨q + 1, by omega, by go_num, HO5.out, H6.out⟩
              case measure => simp [intOf]; omega
            · have hx' : (ms.getD q 0 == z) = false := by simpa using hx
              have hw1 := Lib.hid (show withI ms z q = withI ms z (q + 1) by rw [hw.out, if_neg hx])
              clear hx hwl
              generalize ms.getD q 0 = x at *
              go_wp2
              go_roundw
              case rel => exact ⟨q + 1, by omega, by go_num, by rw [← hw1.out]; exact HO2.out, HF2.out⟩
              case measure => simp [intOf]; omega
          · obtain rfl : q = ms.length := by omega
            have hge2 : (ms.length : Int) ≤ (ms.length : Int) := Int.le_refl _
            go_wp2
            go_roundw
            case rel => exact ⟨t + 1, z - 1, by omega, rfl, (show z - 1 = 100 - ((t + 1 : Nat) : Int) by have := hzt.out; omega), by have e := hzt.out; have ho := HO2.out; rw [e] at ho; exact ho, HF2.out⟩
            case measure => simp [intOf]; omega
      · have hneg : decide (0 ≤ z) = false := by rw [decide_eq_false_iff_not]; have := hzt.out; omega
        have hte : t = 101 := by omega
        have e := Lib.hid (show downI ms t = listI ms by rw [hte]; exact hf.out)
        have ho := HO.out
        rw [e.out] at ho
        have HN := Lib.hid (newInts_row ho HF.out)
        clear hte ho hlt ht hd1 hzt
        go_wp2
        go_ret
        exact HN.out
end Go.Proofs.Ytoedenmimcmkoaa
