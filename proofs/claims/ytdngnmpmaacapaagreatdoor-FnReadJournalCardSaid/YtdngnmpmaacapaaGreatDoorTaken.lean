/-
  Contracts: what the draws of exercises need: TakenBy of the reference and what it calls: it returns a short text.
-/
import Derived.Test.YtdngnmpmaacapaaGreatDoorOrd
import Derived.Laws.DeepStrings4
namespace Go.Proofs.YtdngnmpmaacapaaGreatDoor
open Go.RowKit

theorem convByteE (z : Int) (h0 : 0 ≤ z) (h1 : z < 256) (T : TypeId) (w : World) :
    ∃ s : ByteArray, s.size = 1 ∧ (convert 22 9 (.slice (some ⟨w.heap.size, 0, none⟩) 1 1)).run Tryz.prog (w.alloc (.cells #[.int .u8 z] T)) = .ok (.string s) (w.alloc (.cells #[.int .u8 z] T)) := by
  obtain ⟨c, rfl⟩ := Int.eq_ofNat_of_zero_le h0
  refine ⟨⟨[UInt8.ofNat c].toArray⟩, rfl, ?_⟩
  exact run_convert_bytes_back _ _ _ 5 ⟨w.heap.size, 0, none⟩ 1 [UInt8.ofNat c] Tryz.underlying22 Tryz.underlying5 Tryz.underlying9 (by
    intro j hj
    have : j = 0 := by simpa using hj
    subst this
    show (w.alloc _).cell? ⟨w.heap.size, 0, none⟩ = _
    rw [World.cell?_alloc_at _ _ _ _ rfl]
    have : (UInt8.ofNat c).toNat = c := by simp [UInt8.toNat_ofNat]; omega
    simp [this])
set_option maxRecDepth 100000 in
theorem l1One_any (d : Int) (w : World) (h0 : 0 ≤ d) (h1 : d ≤ 9) : Calls Tryz.prog 43 #[.int .i64 d] w fun e w' => (∃ s : ByteArray, e = .returned (.string s) ∧ s.size = 1) ∧ Fr w.heap.size none w w' := by
  obtain ⟨s, hs, hc⟩ := convByteE (48 + d) (by omega) (by omega) 5 w
  go_enter Tryz.func43, Tryz.ntmps43
  go_wp2
  go_ret
  exact ⟨⟨s, rfl, hs⟩, (Fr.refl _ _ _).alloc (Nat.le_refl _) _⟩
theorem byte_dig {s : ByteArray} (h : numOk s = true) (i : Nat) (hi : i < s.size) : 48 ≤ (s[i].toNat : Int) ∧ (s[i].toNat : Int) ≤ 57 := by
  simp only [numOk, Bool.and_eq_true, List.all_eq_true] at h
  have := h.1 s[i] (by simp [ByteArray.getElem_eq_getElem_data])
  simpa [isDig] using this
theorem numOk_pos {s : ByteArray} (h : numOk s = true) : 1 ≤ s.size ∧ s.size ≤ 9 := by
  simp only [numOk, Bool.and_eq_true] at h
  have := inB_true.1 h.2.1
  omega
theorem digitAt_any (s : ByteArray) (k : Nat) (w : World) (h : numOk s = true) (hk : k ≤ 100) : Calls Tryz.prog 133 #[.string s, .int .i64 (k : Int)] w fun e w' => (∃ d : Int, e = .returned (.int .i64 d) ∧ 0 ≤ d ∧ d ≤ 9) ∧ w = w' := by
  have hp := numOk_pos h
  have H := Lib.hid h
  by_cases hlt : k < s.size
  · have hb := byte_dig h (s.size - 1 - k) (by omega)
    have hi : ((s.size : Int) - 1 - (k : Int)).toNat = s.size - 1 - k := by omega
    have hi2 : ((s.size : Int) - 1 - (k : Int)) = ((s.size - 1 - k : Nat) : Int) := by omega
    have hlt2 : s.size - 1 - k < s.size := by omega
    generalize hx : s[s.size - 1 - k].toNat = x at *
    clear h
    go_enter Tryz.func133, Tryz.ntmps133
    go_wp2_with (go_at_call 53; refine (numS_val (by omega) H.out _).mono ?_; rintro e w' ⟨rfl, rfl⟩)
    go_ret
    exact ⟨⟨_, rfl, by omega, by omega⟩, rfl⟩
  · have hge : (s.size : Int) ≤ (k : Int) := by omega
    clear h
    go_enter Tryz.func133, Tryz.ntmps133
    go_wp2_with (go_at_call 53; refine (numS_val (by omega) H.out _).mono ?_; rintro e w' ⟨rfl, rfl⟩)
    go_ret
    exact ⟨⟨_, rfl, by omega, by omega⟩, rfl⟩
set_option maxHeartbeats 8000000 in
theorem l6Column_any (a b : Int) (within : Bool) (c way : Int) (w : World) (ha : 0 ≤ a ∧ a ≤ 9) (hb : 0 ≤ b ∧ b ≤ 9) (hc : 0 ≤ c ∧ c ≤ 1) (hw : 0 ≤ way ∧ way ≤ 15) :
    Calls Tryz.prog 138 #[.int .i64 a, .int .i64 b, .bool within, .int .i64 c, .int .i64 way] w fun e w' => (∃ d n : Int, e = .returned (.tuple #[.int .i64 d, .int .i64 n]) ∧ 0 ≤ d ∧ d ≤ 9 ∧ 0 ≤ n ∧ n ≤ 1) ∧ w = w' := by
  obtain ⟨a0, a1⟩ := ha; obtain ⟨b0, b1⟩ := hb; obtain ⟨c0, c1⟩ := hc; obtain ⟨w0, w1⟩ := hw
  cases within
  all_goals
    go_enter Tryz.func138, Tryz.ntmps138
    go_wp2
    all_goals go_ret2
    all_goals exact ⟨⟨_, _, rfl, by omega, by omega, by omega, by omega⟩, rfl⟩
theorem ord_ok {s t : ByteArray} (h : 0 ≤ ordI s t) : numOk s = true ∧ numOk t = true := by
  unfold ordI at h
  split at h
  · next h2 => simpa using h2
  · omega
theorem l6Pair_any (s t : ByteArray) (way : Int) (w : World) (hs : s.size ≤ 1048576) (ht : t.size ≤ 1048576) :
    Calls Tryz.prog 137 #[.string s, .string t, .int .i64 way] w fun e w' => e = .returned (.bool (decide (0 ≤ ordI s t) && inB way 0 15)) ∧ ∃ m, w' = w.drewN m := by
  by_cases h : 0 ≤ ordI s t
  · have hr := Lib.hid (show inB way 0 15 = (decide (0 ≤ ordI s t) && inB way 0 15) by simp [h])
    have CO := Lib.hid (fun W => specOrder_any s t W hs ht)
    generalize ordI s t = o at *
    go_enter Tryz.func137, Tryz.ntmps137
    go_wp2_with fail
    refine (CO.out _).mono ?_; rintro e w' ⟨rfl, m, rfl⟩
    go_wp2_with (go_at_call 86; refine (l1In_any _ _ _ _).mono ?_; rintro e w' ⟨rfl, rfl⟩)
    go_ret
    exact ⟨ret_bool hr.out, m, rfl⟩
  · have hr := Lib.hid (show false = (decide (0 ≤ ordI s t) && inB way 0 15) by simp [h])
    have CO := Lib.hid (fun W => specOrder_any s t W hs ht)
    generalize ordI s t = o at *
    go_enter Tryz.func137, Tryz.ntmps137
    go_wp2_with fail
    refine (CO.out _).mono ?_; rintro e w' ⟨rfl, m, rfl⟩
    go_wp2
    go_ret
    exact ⟨ret_bool hr.out, m, rfl⟩
theorem l2Trim_any (s : ByteArray) (w : World) (hs : s.size ≤ 100) : Calls Tryz.prog 139 #[.string s] w fun e w' => (∃ t : ByteArray, e = .returned (.string t) ∧ t.size ≤ s.size) ∧ w = w' := by
  go_enter Tryz.func139, Tryz.ntmps139
  go_wp2
  go_loop [0] (fun z => ∃ t : ByteArray, z = .string t ∧ t.size ≤ s.size) (fun z => match z with | .string t => t.size | _ => 0)
  case atStart => exact ⟨s, rfl, Nat.le_refl _⟩
  case round =>
    obtain ⟨t, rfl, ht⟩ := hrel
    by_cases h1 : 1 < t.size
    · have h0 : 0 < t.size := by omega
      have hx : (t.extract 1 t.size).size = t.size - 1 := by rw [ByteArray.size_extract]; omega
      have HX := Lib.hid hx
      generalize hb : t[0].toNat = x at *
      by_cases h2 : x = 48
      · have hz : ((x : Int) == 48) = true := by rw [beq_iff_eq]; omega
        clear hx
        go_wp2
        go_round
        case rel => exact ⟨_, rfl, by rw [HX.out]; omega⟩
        case measure => simp only [HX.out]; omega
      · have hz : ((x : Int) == 48) = false := by rw [beq_eq_false_iff_ne]; omega
        clear hx
        go_wp2
        go_ret
        exact ⟨⟨t, rfl, ht⟩, rfl⟩
    · have hle : (t.size : Int) ≤ 1 := by omega
      go_wp2
      go_ret
      exact ⟨⟨t, rfl, ht⟩, rfl⟩
set_option maxHeartbeats 1000000 in
theorem takenBy_any (s t : ByteArray) (way : Int) (w : World) (hs : s.size ≤ 1048576) (ht : t.size ≤ 1048576) :
    Calls Tryz.prog 106 #[.string s, .string t, .int .i64 way] w fun e w' => (∃ (x : ByteArray) (b : Bool), e = .returned (.tuple #[.string x, .bool b]) ∧ x.size ≤ 9) ∧ Fr w.heap.size none w w' := by
  have CP := Lib.hid (fun W => l6Pair_any s t way W hs ht)
  cases hb : (decide (0 ≤ ordI s t) && inB way 0 15)
  · rw [hb] at CP
    clear hb
    go_enter Tryz.func106, Tryz.ntmps106
    go_wp2_with fail
    refine (CP.out _).mono ?_; rintro e w' ⟨rfl, m, rfl⟩
    go_wp2
    go_ret2
    exact ⟨⟨_, _, rfl, by decide⟩, (Fr.refl _ _ _).drewN m⟩
  · rw [hb] at CP
    simp only [Bool.and_eq_true, decide_eq_true_eq] at hb
    obtain ⟨hn1, hn2⟩ := ord_ok hb.1
    have hway := inB_true.1 hb.2
    have hp := numOk_pos hn1
    have H1 := Lib.hid hn1; have H2 := Lib.hid hn2
    clear hb hn1 hn2
    obtain ⟨wy0, wy1⟩ := hway
    go_enter Tryz.func106, Tryz.ntmps106
    go_wp2_with fail
    refine (CP.out _).mono ?_; rintro e w' ⟨rfl, m, rfl⟩
    go_wp2
    go_loopw [8, 9, 10] (fun o c i wr => ∃ (k : Nat) (x : ByteArray) (cc : Int), k ≤ s.size ∧ i = .int .i64 k ∧ o = .string x ∧ x.size ≤ k ∧ c = .int .i64 cc ∧ 0 ≤ cc ∧ cc ≤ 1 ∧ Fr w.heap.size none w wr) (fun _ _ i _ => s.size - (intOf i).toNat)
    case atStart => exact ⟨0, _, 0, Nat.zero_le _, rfl, rfl, by decide, rfl, by omega, by omega, (Fr.refl _ _ _).drewN m⟩
    case round =>
      obtain ⟨k, x, cc, hk, rfl, rfl, hx, rfl, c0, c1, hF⟩ := hrel
      have HF := Lib.hid hF; clear hF
      by_cases hlt : k < s.size
      · go_wp2_with fail
        refine (digitAt_any s k _ H1.out (by omega)).mono ?_; rintro e w2 ⟨⟨d1, rfl, d10, d11⟩, rfl⟩
        go_wp2_with fail
        refine (digitAt_any t k _ H2.out (by omega)).mono ?_; rintro e w2 ⟨⟨d2, rfl, d20, d21⟩, rfl⟩
        go_wp2_with fail
        refine (l6Column_any d1 d2 _ cc way _ ⟨d10, d11⟩ ⟨d20, d21⟩ ⟨c0, c1⟩ ⟨wy0, wy1⟩).mono ?_; rintro e w2 ⟨⟨d3, c3, rfl, d30, d31, c30, c31⟩, rfl⟩
        go_wp2_with fail
        refine (l1One_any d3 _ d30 d31).mono ?_; rintro e w3 ⟨⟨y, rfl, hy⟩, hF3⟩
        have F3 := Lib.hid (HF.out.and hF3); clear hF3
        have a1 := fun W => run_string_add_sum (P := Tryz.prog) W y x (by omega)
        have hsz := Lib.hid (show (y ++ x).size ≤ k + 1 by rw [ByteArray.size_append]; omega)
        go_wp2
        go_roundw
        case rel => exact ⟨k + 1, _, c3, by omega, by go_num, rfl, hsz.out, rfl, by omega, by omega, F3.out⟩
        case measure => simp [intOf]; omega
      · have hge : (s.size : Int) ≤ (k : Int) := by omega
        go_wp2_with fail
        refine (l2Trim_any x _ (by omega)).mono ?_; rintro e w2 ⟨⟨y, rfl, hy⟩, rfl⟩
        go_wp2
        go_ret2
        exact ⟨⟨_, _, rfl, by omega⟩, HF.out⟩
end Go.Proofs.YtdngnmpmaacapaaGreatDoor
