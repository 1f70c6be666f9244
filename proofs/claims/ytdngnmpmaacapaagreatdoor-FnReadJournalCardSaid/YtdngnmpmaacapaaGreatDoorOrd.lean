/-
  Contracts: the order of numerals, of the program and of the reference; TestsOk, BoardOk.
-/
import Derived.Test.YtdngnmpmaacapaaGreatDoorOrdP
import Derived.Test.YtdngnmpmaacapaaGreatDoorNum
namespace Go.Proofs.YtdngnmpmaacapaaGreatDoor
open Go.RowKit

theorem drewN3 (w : World) (a b c : Nat) : ((w.drewN a).drewN b).drewN c = w.drewN (a + b + c) := by rw [World.drewN_drewN, World.drewN_drewN, Nat.add_assoc]
theorem quiet_more {P : Program} {f : FuncId} {args : Array Value} {w : World} {n : Nat} {v : Value} (h : Calls P f args (w.drewN n) fun e w' => e = .returned v ∧ ∃ m, w' = (w.drewN n).drewN m) :
    Calls P f args (w.drewN n) fun e w'' => e = .returned v ∧ ∃ m, w'' = w.drewN m := h.mono fun _ _ ⟨he, m, hm⟩ => ⟨he, n + m, by rw [hm, World.drewN_drewN]⟩
theorem num_val {s : ByteArray} {r : Bool} (hs : s.size ≤ 1048576) (h : numOk s = r) (w : World) :
    Calls Tryz.prog 55 #[.string s] w fun e w' => e = .returned (.bool r) ∧ w = w' := h ▸ implNumeralOk_any s w (by unfold maxLen; omega)
theorem specNumeralOk_any (s : ByteArray) (w : World) (hs : s.size ≤ maxLen) :
    Calls Tryz.prog 53 #[.string s] w fun e w' => e = .returned (.bool (numOk s)) ∧ w = w' := by
  unfold maxLen at hs
  go_enter Tryz.func53, Tryz.ntmps53
  go_wp2
  go_loop [3] (fun i => ∃ k : Nat, k ≤ s.size ∧ i = .int .i64 k ∧ Hid ((s.data.toList.take k).all isDig = true)) (fun i => s.size - (intOf i).toNat)
  case atStart => exact ⟨0, Nat.zero_le _, rfl, rfl⟩
  case round =>
    obtain ⟨k, hk, rfl, hT⟩ := hrel
    by_cases hlt : k < s.size
    · have hdt := Lib.hid (dig_take s k hlt)
      have hdb := Lib.hid (dig_bad s k hlt)
      have hfin := Lib.hid (@numOk_bad s)
      by_cases h1 : (s[k].toNat : Int) < 48
      · have hb := Lib.hid (hfin.out (hdb.out (by unfold isDig; simp; omega)))
        go_wp2
        go_ret
        exact ⟨ret_bool hb.out, rfl⟩
      · have h1' : 48 ≤ (s[k].toNat : Int) := by omega
        by_cases h2 : 57 < (s[k].toNat : Int)
        · have hb := Lib.hid (hfin.out (hdb.out (by unfold isDig; simp; omega)))
          go_wp2
          go_ret
          exact ⟨ret_bool hb.out, rfl⟩
        · have h2' : (s[k].toNat : Int) ≤ 57 := by omega
          have hn := Lib.hid (show (s.data.toList.take (k+1)).all isDig = true by rw [hdt.out, hT.out]; unfold isDig; simp; omega)
          go_wp2
          go_round
          case rel => exact ⟨k + 1, by omega, by go_num, hn⟩
          case measure => simp [intOf]; omega
    · have hkk : k = s.size := by omega
      have hall := Lib.hid (show s.data.toList.all isDig = true by have := hT.out; rw [hkk, List.take_of_length_le (by simp)] at this; exact this)
      clear hkk
      cases hin : inB s.size 1 9
      · have hb := Lib.hid (numOk_len hin); have H := Lib.hid hin; clear hin
        go_wp2_with (go_at_call 86; refine (l1In_val H.out _).mono ?_; rintro e w' ⟨rfl, rfl⟩)
        go_ret
        exact ⟨ret_bool hb.out, rfl⟩
      · have hb := Lib.hid (numOk_end hall.out hin); have H := Lib.hid hin
        obtain ⟨hp, hp9⟩ := inB_true.1 hin
        clear hin
        have hp0 : 0 < s.size := by omega
        have hg : s.data.toList.getD 0 0 = s[0] := by
          have h0 : s.data[0]? = some s[0] := by rw [Array.getElem?_eq_getElem (by simpa using hp0)]; rfl
          simp [List.getD_eq_getElem?_getD, h0]
        have HG := Lib.hid hg; clear hg
        by_cases e1 : s.size = 1
        · have hb2 := Lib.hid (show true = numOk s by rw [← hb.out]; simp [e1])
          have hz : ((s.size : Int) == 1) = true := by rw [beq_iff_eq]; omega
          clear e1
          go_wp2_with (go_at_call 86; refine (l1In_val H.out _).mono ?_; rintro e w' ⟨rfl, rfl⟩)
          go_ret
          exact ⟨ret_bool hb2.out, rfl⟩
        · have hz1 : ((s.size : Int) == 1) = false := by rw [beq_eq_false_iff_ne]; omega
          have hd1 := Lib.hid (show decide (s.size = 1) = false from decide_eq_false e1)
          clear e1
          by_cases h48 : (s[0].toNat : Int) = 48
          · have hz : ((s[0].toNat : Int) != 48) = false := by simp; omega
            have hc : s[0] = 48 := UInt8.toNat_inj.1 (by rw [show (48 : UInt8).toNat = 48 from rfl]; omega)
            have HC := Lib.hid hc; clear hc h48
            have hb2 := Lib.hid (show false = numOk s by rw [← hb.out, HG.out, HC.out, hd1.out]; rfl)
            go_wp2_with (go_at_call 86; refine (l1In_val H.out _).mono ?_; rintro e w' ⟨rfl, rfl⟩)
            go_ret
            exact ⟨ret_bool hb2.out, rfl⟩
          · have hz : ((s[0].toNat : Int) != 48) = true := by rw [bne_iff_ne]; exact h48
            have hb2 := Lib.hid (show true = numOk s by
              rw [← hb.out, HG.out]
              have : (s[0] == 48) = false := by rw [beq_eq_false_iff_ne]; intro e; apply h48; rw [e]; rfl
              rw [this]; rfl)
            clear h48
            go_wp2_with (go_at_call 86; refine (l1In_val H.out _).mono ?_; rintro e w' ⟨rfl, rfl⟩)
            go_ret
            exact ⟨ret_bool hb2.out, rfl⟩
theorem numS_val {s : ByteArray} {r : Bool} (hs : s.size ≤ 1048576) (h : numOk s = r) (w : World) :
    Calls Tryz.prog 53 #[.string s] w fun e w' => e = .returned (.bool r) ∧ w = w' := h ▸ specNumeralOk_any s w (by unfold maxLen; omega)

set_option maxRecDepth 100000 in
theorem compareString_any (a b : ByteArray) (w : World) : Calls Tryz.prog 203 #[.string a, .string b] w fun e w' => e = .returned (.int .i64 (cmpFrom a b 0)) ∧ w = w' := by
  go_enter Tryz.func203, Tryz.ntmps203
  go_wp2
  rw [run_callFunc_extern Tryz.func229 (by kernel_rfl) (by kernel_rfl) (by kernel_rfl) (e := Extern.BytealgCompare.compare) (by kernel_rfl), Lib.run_compareString]
  simp only [Result.andThen]
  rw [Oper.upon_value]
  go_wp2
  go_ret
  exact ⟨rfl, rfl⟩
set_option maxRecDepth 100000 in
theorem compare_any (a b : ByteArray) (w : World) : Calls Tryz.prog 170 #[.string a, .string b] w fun e w' => e = .returned (.int .i64 (cmpFrom a b 0)) ∧ w = w' := by
  go_enter Tryz.func170, Tryz.ntmps170
  go_wp2_with (go_at_call 203; refine (compareString_any _ _ _).mono ?_; rintro e w' ⟨rfl, rfl⟩)
  go_ret
  exact ⟨rfl, rfl⟩

set_option maxRecDepth 100000 in
theorem signN_any (n : Int) (hn : -1048576 ≤ n ∧ n ≤ 1048576) (w : World) : Calls Tryz.prog 169 #[.int .i64 n] w fun e w' => e = .returned (.int .i64 (max (-1) (min 1 n))) ∧ w = w' := by
  go_enter Tryz.func169, Tryz.ntmps169
  go_wp2
  all_goals go_ret
  all_goals exact ⟨ret_int (by omega), rfl⟩
theorem implOrder_any (s t : ByteArray) (w : World) (hs : s.size ≤ 1048576) (ht : t.size ≤ 1048576) :
    Calls Tryz.prog 134 #[.string s, .string t] w fun e w' => e = .returned (.int .i64 (ordI s t)) ∧ w = w' := by
  cases h1 : numOk s
  · have H1 := Lib.hid h1; have hb := Lib.hid (ord_no1 (t := t) h1); clear h1
    go_enter Tryz.func134, Tryz.ntmps134
    go_wp2_with (go_at_call 55; refine (num_val hs H1.out _).mono ?_; rintro e w' ⟨rfl, rfl⟩)
    go_ret
    exact ⟨ret_int hb.out, rfl⟩
  · cases h2 : numOk t
    · have H1 := Lib.hid h1; have H2 := Lib.hid h2; have hb := Lib.hid (ord_no2 (s := s) h2); clear h1 h2
      go_enter Tryz.func134, Tryz.ntmps134
      go_wp2_with fail
      refine (num_val hs H1.out _).mono ?_; rintro e w' ⟨rfl, rfl⟩
      go_wp2_with fail
      refine (num_val ht H2.out _).mono ?_; rintro e w' ⟨rfl, rfl⟩
      go_wp2
      go_ret
      exact ⟨ret_int hb.out, rfl⟩
    · have q1 := Lib.hid (@ord_lt s t h1 h2); have q2 := Lib.hid (@ord_gt s t h1 h2); have q3 := Lib.hid (@ord_eq s t h1 h2)
      have H1 := Lib.hid h1; have H2 := Lib.hid h2; clear h1 h2
      by_cases he : s.size = t.size
      · have hb := Lib.hid (q3.out he)
        have hz : ((s.size : Int) != (t.size : Int)) = false := by rw [bne_eq_false_iff_eq]; omega
        clear he q1 q2 q3
        go_enter Tryz.func134, Tryz.ntmps134
        go_wp2_with fail
        refine (num_val hs H1.out _).mono ?_; rintro e w' ⟨rfl, rfl⟩
        go_wp2_with fail
        refine (num_val ht H2.out _).mono ?_; rintro e w' ⟨rfl, rfl⟩
        go_wp2_with (go_at_call 170; refine (compare_any _ _ _).mono ?_; rintro e w' ⟨rfl, rfl⟩)
        go_ret
        exact ⟨ret_int hb.out, rfl⟩
      · have hz : ((s.size : Int) != (t.size : Int)) = true := by rw [bne_iff_ne]; omega
        have hb : Hid (max (-1) (min 1 ((s.size : Int) - (t.size : Int))) = ordI s t) := by
          by_cases hl : s.size < t.size
          · exact Lib.hid ((show max (-1) (min 1 ((s.size : Int) - (t.size : Int))) = -1 by omega).trans (q1.out hl))
          · exact Lib.hid ((show max (-1) (min 1 ((s.size : Int) - (t.size : Int))) = 1 by omega).trans (q2.out (by omega)))
        clear he q1 q2 q3
        go_enter Tryz.func134, Tryz.ntmps134
        go_wp2_with fail
        refine (num_val hs H1.out _).mono ?_; rintro e w' ⟨rfl, rfl⟩
        go_wp2_with fail
        refine (num_val ht H2.out _).mono ?_; rintro e w' ⟨rfl, rfl⟩
        go_wp2_with (go_at_call 169; refine (signN_any _ (by omega) _).mono ?_; rintro e w' ⟨rfl, rfl⟩)
        go_ret
        exact ⟨ret_int hb.out, rfl⟩
theorem specOrder_any (s t : ByteArray) (w : World) (hs : s.size ≤ 1048576) (ht : t.size ≤ 1048576) :
    Calls Tryz.prog 96 #[.string s, .string t] w fun e w' => e = .returned (.int .i64 (ordI s t)) ∧ ∃ m, w' = w.drewN m := by
  cases h1 : numOk s
  · have H1 := Lib.hid h1; have hb := Lib.hid (ord_no1 (t := t) h1); clear h1
    go_enter Tryz.func96, Tryz.ntmps96
    go_wp2_with (go_at_call 53; refine (numS_val hs H1.out _).mono ?_; rintro e w' ⟨rfl, rfl⟩)
    go_ret
    exact ⟨ret_int hb.out, 0, rfl⟩
  · cases h2 : numOk t
    · have H1 := Lib.hid h1; have H2 := Lib.hid h2; have hb := Lib.hid (ord_no2 (s := s) h2); clear h1 h2
      go_enter Tryz.func96, Tryz.ntmps96
      go_wp2_with fail
      refine (numS_val hs H1.out _).mono ?_; rintro e w' ⟨rfl, rfl⟩
      go_wp2_with fail
      refine (numS_val ht H2.out _).mono ?_; rintro e w' ⟨rfl, rfl⟩
      go_wp2
      go_ret
      exact ⟨ret_int hb.out, 0, rfl⟩
    · have q1 := Lib.hid (@ord_lt s t h1 h2); have q2 := Lib.hid (@ord_gt s t h1 h2); have q3 := Lib.hid (@ord_eq s t h1 h2)
      have H1 := Lib.hid h1; have H2 := Lib.hid h2; clear h1 h2
      by_cases he : s.size = t.size
      · have hb := Lib.hid (q3.out he)
        have hz : ((s.size : Int) != (t.size : Int)) = false := by rw [bne_eq_false_iff_eq]; omega
        have HE := Lib.hid he
        clear he q1 q2 q3
        go_enter Tryz.func96, Tryz.ntmps96
        go_wp2_with fail
        refine (numS_val hs H1.out _).mono ?_; rintro e w' ⟨rfl, rfl⟩
        go_wp2_with fail
        refine (numS_val ht H2.out _).mono ?_; rintro e w' ⟨rfl, rfl⟩
        go_wp2
        go_loopw [5] (fun i wr => ∃ k : Nat, k ≤ s.size ∧ i = .int .i64 k ∧ Hid (cmpFrom s t k = ordI s t) ∧ ∃ m, wr = w.drewN m) (fun i _ => s.size - (intOf i).toNat)
        case atStart => exact ⟨0, Nat.zero_le _, rfl, hb, 0, rfl⟩
        case round =>
          obtain ⟨k, hk, rfl, hT, m, rfl⟩ := hrel
          by_cases hlt : k < s.size
          · have hlt2 : k < t.size := by have := HE.out; omega
            have e1 := Lib.hid (@cmpFrom_same s t k hlt hlt2)
            have e2 := Lib.hid (@cmpFrom_lt s t k hlt hlt2)
            have e3 := Lib.hid (@cmpFrom_gt s t k hlt hlt2)
            by_cases hq : s[k] = t[k]
            · have hn := Lib.hid ((e1.out hq).symm.trans hT.out)
              have hz2 : ((s[k].toNat : Int) != (t[k].toNat : Int)) = false := by rw [hq]; simp
              clear hq e1 e2 e3
              go_wp2
              go_quiet (fail)
              go_wp2
              go_roundw
              case rel => exact ⟨k + 1, by omega, by go_num, hn, _, rfl⟩
              case measure => simp [intOf]; omega
            · have hne : s[k].toNat ≠ t[k].toNat := fun h => hq (UInt8.toNat_inj.1 h)
              have hz2 : ((s[k].toNat : Int) != (t[k].toNat : Int)) = true := by rw [bne_iff_ne]; omega
              by_cases hl : s[k].toNat < t[k].toNat
              · have hn := Lib.hid ((e2.out (UInt8.lt_iff_toNat_lt.2 hl)).symm.trans hT.out)
                have hl' : (s[k].toNat : Int) < (t[k].toNat : Int) := by omega
                clear hq e1 e2 e3 hne
                go_wp2
                go_quiet (fail)
                go_wp2
                go_quiet (fail)
                go_wp2
                go_ret
                exact ⟨ret_int hn.out, _, drewN3 ..⟩
              · have hn := Lib.hid ((e3.out (UInt8.lt_iff_toNat_lt.2 (by omega))).symm.trans hT.out)
                have hl' : (t[k].toNat : Int) ≤ (s[k].toNat : Int) := by omega
                clear hq e1 e2 e3 hne
                go_wp2
                go_quiet (fail)
                go_wp2
                go_quiet (fail)
                go_wp2
                go_ret
                exact ⟨ret_int hn.out, _, drewN3 ..⟩
          · have hkk : k = s.size := by omega
            have hn := Lib.hid (show (0 : Int) = ordI s t by rw [← hT.out, hkk]; exact (cmpFrom_end HE.out).symm)
            clear hkk
            go_wp2
            go_ret
            exact ⟨ret_int hn.out, _, rfl⟩
      · have hz : ((s.size : Int) != (t.size : Int)) = true := by rw [bne_iff_ne]; omega
        by_cases hl : s.size < t.size
        · have hb := Lib.hid (q1.out hl)
          clear he q1 q2 q3
          go_enter Tryz.func96, Tryz.ntmps96
          go_wp2_with fail
          refine (numS_val hs H1.out _).mono ?_; rintro e w' ⟨rfl, rfl⟩
          go_wp2_with fail
          refine (numS_val ht H2.out _).mono ?_; rintro e w' ⟨rfl, rfl⟩
          go_wp2
          go_ret
          exact ⟨ret_int hb.out, 0, rfl⟩
        · have hb := Lib.hid (q2.out (by omega))
          clear he q1 q2 q3
          go_enter Tryz.func96, Tryz.ntmps96
          go_wp2_with fail
          refine (numS_val hs H1.out _).mono ?_; rintro e w' ⟨rfl, rfl⟩
          go_wp2_with fail
          refine (numS_val ht H2.out _).mono ?_; rintro e w' ⟨rfl, rfl⟩
          go_wp2
          go_ret
          exact ⟨ret_int hb.out, 0, rfl⟩
set_option maxRecDepth 100000 in
theorem takes_any (s t : ByteArray) (w : World) (hs : s.size ≤ 1048576) (ht : t.size ≤ 1048576) :
    Calls Tryz.prog 99 #[.string s, .string t] w fun e w' => e = .returned (.bool (decide (0 ≤ ordI s t))) ∧ w = w' := by
  go_enter Tryz.func99, Tryz.ntmps99
  go_wp2_with (go_at_call 134; refine (implOrder_any _ _ _ hs ht).mono ?_; rintro e w' ⟨rfl, rfl⟩)
  go_ret
  exact ⟨rfl, rfl⟩
end Go.Proofs.YtdngnmpmaacapaaGreatDoor
