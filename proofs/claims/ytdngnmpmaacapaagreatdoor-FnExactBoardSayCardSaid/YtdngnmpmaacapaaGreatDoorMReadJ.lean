/-
  Merged: ReadJ.
-/
import Derived.Test.YtdngnmpmaacapaaGreatDoorMReadB
import Derived.Test.YtdngnmpmaacapaaGreatDoorMTestE
set_option linter.unusedVariables false
set_option linter.unusedSimpArgs false
/-
  Contracts: ReadJournal, of the program and of the reference.
-/
namespace Go.Proofs.YtdngnmpmaacapaaGreatDoor
open Go.RowKit

/-- What is read of the lines of a journal: the last of them has no end. -/
def rj : List (List UInt8) → List Dd × Nat
  | [] => ([], 0)
  | p :: r => if r = [] then ([], 0) else if (readD (mkB p)).2 = true then ((readD (mkB p)).1 :: (rj r).1, p.length + 1 + (rj r).2) else ([], 0)
def readJ (s : ByteArray) : List Dd × Nat := rj (cutL 10 s.data.toList)
theorem rj_end {l : List UInt8} (h : (10 : UInt8) ∉ l) : rj (cutL 10 l) = ([], 0) := by rw [cutL_free h]; rfl
theorem rj_yes {a r : List UInt8} (h : (10 : UInt8) ∉ a) (hd : (readD (mkB a)).2 = true) : rj (cutL 10 (a ++ 10 :: r)) = ((readD (mkB a)).1 :: (rj (cutL 10 r)).1, a.length + 1 + (rj (cutL 10 r)).2) := by
  rw [cutL_hit h, rj, if_neg (cutL_ne 10 r), if_pos hd]
theorem rj_no {a r : List UInt8} (h : (10 : UInt8) ∉ a) (hd : (readD (mkB a)).2 = false) : rj (cutL 10 (a ++ 10 :: r)) = ([], 0) := by
  rw [cutL_hit h, rj, if_neg (cutL_ne 10 r), if_neg (by rw [hd]; decide)]
theorem rj_len : ∀ ps : List (List UInt8), (rj ps).1.length ≤ ps.length - 1
  | [] => Nat.le_refl _
  | p :: r => by
    unfold rj
    split
    · simp
    · next h =>
      split
      · have := rj_len r
        have h2 : 0 < r.length := List.length_pos_iff.2 h
        simp only [List.length_cons]; omega
      · simp
theorem readJ_len (s : ByteArray) : (readJ s).1.length ≤ s.size := by
  have h1 := rj_len (cutL 10 s.data.toList)
  have h2 := cutL_len 10 s.data.toList
  have h3 : s.data.toList.count 10 ≤ s.data.toList.length := List.count_le_length
  have h4 : s.data.toList.length = s.size := by simp
  unfold readJ; omega
/-- A new slice of deeds, and a number. -/
def NewDI (ys : List Dd) (n : Int) (w : World) (e : Ending) (w' : World) : Prop :=
  ∃ a cap, e = .returned (.tuple #[.slice a ys.length cap, .int .i64 n]) ∧ Own w' w.heap.size 54 4 (.slice a ys.length cap) ys.length (deeds ys) ∧ Fr w.heap.size none w w'
theorem newDI_of {xs : List Dd} {m : Nat} {T : List Dd × Nat} {w w' : World} {a : Option Addr} {cap : Nat} (h : T = (xs ++ (([] : List Dd), 0).1, m + (([] : List Dd), 0).2)) (ho : Own w' w.heap.size 54 4 (.slice a xs.length cap) xs.length (deeds xs)) (hF : Fr w.heap.size none w w') : NewDI T.1 (T.2 : Int) w (.returned (.tuple #[.slice a xs.length cap, .int .i64 (m : Int)])) w' := by
  have h2 : T = (xs, m) := by rw [h]; simp
  subst h2; exact ⟨a, cap, rfl, ho, hF⟩
/-- What is read so far, and what is left. -/
def JInv (s : ByteArray) (out : List Dd) (fr : Nat) : Prop := readJ s = (out ++ (rj (cutL 10 (s.data.toList.drop fr))).1, fr + (rj (cutL 10 (s.data.toList.drop fr))).2)
theorem jinv_start (s : ByteArray) : JInv s [] 0 := by unfold JInv readJ; simp
theorem jinv_yes {s : ByteArray} {out : List Dd} {fr : Nat} {a r : List UInt8} (h : JInv s out fr) (e : s.data.toList.drop fr = a ++ 10 :: r) (ha : (10 : UInt8) ∉ a) (hd : (readD (mkB a)).2 = true) : JInv s (out ++ [(readD (mkB a)).1]) (fr + (a.length + 1)) := by
  have er : s.data.toList.drop (fr + (a.length + 1)) = r := by
    rw [← List.drop_drop, e, show a ++ 10 :: r = (a ++ [10]) ++ r by simp, List.drop_left' (by simp)]
  unfold JInv at h ⊢
  rw [h, e, rj_yes ha hd, er]
  simp [Nat.add_assoc]
theorem jinv_no {s : ByteArray} {out : List Dd} {fr : Nat} {a r : List UInt8} (h : JInv s out fr) (e : s.data.toList.drop fr = a ++ 10 :: r) (ha : (10 : UInt8) ∉ a) (hd : (readD (mkB a)).2 = false) : readJ s = (out ++ (([] : List Dd), 0).1, fr + (([] : List Dd), 0).2) := by
  unfold JInv at h
  rw [h, e, rj_no ha hd]
theorem jinv_end {s : ByteArray} {out : List Dd} {fr : Nat} (h : JInv s out fr) (e : (10 : UInt8) ∉ s.data.toList.drop fr) : readJ s = (out ++ (([] : List Dd), 0).1, fr + (([] : List Dd), 0).2) := by
  unfold JInv at h
  rw [h, rj_end e]
theorem appJ {w' : World} {base : Nat} {v' : Value} {xs : List Dd} {x0 : Bool} {x1 x2 x3 : ByteArray} (h : w'.ownsRow base 54 4 v' (xs.length + 1) (deeds xs ++ [.bool x0, .string x1, .string x2, .string x3])) :
    ∃ a c, v' = .slice a (xs ++ [(x0, x1, x2, x3)]).length c ∧ w'.ownsRow base 54 4 (.slice a (xs ++ [(x0, x1, x2, x3)]).length c) (xs ++ [(x0, x1, x2, x3)]).length (deeds (xs ++ [(x0, x1, x2, x3)])) := by
  have hl : (xs ++ [(x0, x1, x2, x3)]).length = xs.length + 1 := by simp
  obtain ⟨a, c, rfl, _, _⟩ := own_slice h
  exact ⟨a, c, by rw [hl], by rw [hl, deeds, rows_append, rows_one]; exact h⟩
theorem extract_mk (s : ByteArray) (fr k : Nat) : s.extract fr k = mkB ((s.data.toList.drop fr).take (k - fr)) := by
  rw [← Lib.extract_data, mkB_data]

set_option maxHeartbeats 2000000 in
set_option maxRecDepth 100000 in
theorem specReadJ_any (s : ByteArray) (w : World) (hs : s.size ≤ 1048576) :
    Calls Tryz.prog 31 #[.string s] w (NewDI (readJ s).1 ((readJ s).2 : Int) w) := by
  have hdl : s.data.toList.length = s.size := by simp
  go_enter Tryz.func31, Tryz.ntmps31
  go_wp2
  go_loopw [4, 5, 6] (fun v f i wr => ∃ (k fr : Nat) (a : Option Addr) (c : Nat) (P : List Dd), k ≤ s.size ∧ i = .int .i64 k ∧ f = .int .i64 fr ∧ fr ≤ k ∧ P.length ≤ k ∧ v = .slice a P.length c ∧ wr.ownsRow w.heap.size 54 4 (.slice a P.length c) P.length (deeds P) ∧ Hid (JInv s P fr) ∧ Hid ((10 : UInt8) ∉ (s.data.toList.drop fr).take (k - fr)) ∧ Fr w.heap.size none w wr) (fun _ _ i _ => s.size - (intOf i).toNat)
  case atStart => exact ⟨0, 0, some ⟨w.heap.size, 0, none⟩, 0, [], Nat.zero_le _, rfl, rfl, Nat.le_refl _, Nat.le_refl _, rfl, World.ownsRow_made (e := 54) (size := 4) (base := w.heap.size) w #[] 0 (Nat.le_refl _) (by simp [maxLen]) (by simp), jinv_start s, Lib.hid (by simp), (Fr.refl w.heap.size none w).alloc (Nat.le_refl _) _⟩
  case round =>
    obtain ⟨k, fr, va, vc, P, hk, rfl, rfl, hf, hP, rfl, ho, hJ, hN, hF⟩ := hrel
    have HO := Lib.hid ho; have HF := Lib.hid hF; have hz := hF.size; clear ho hF
    by_cases hlt : k < s.size
    · have hkl : k < s.data.toList.length := by omega
      have hgk : s.data.toList[k] = s[k] := by simp; rfl
      by_cases hb : s[k] = 10
      · have hb2 : (s[k].toNat : Int) = 10 := by rw [hb]; rfl
        have hE := drop_take_c hkl hf
        rw [hgk, hb] at hE
        have hla : ((s.data.toList.drop fr).take (k - fr)).length = k - fr := by rw [List.length_take, List.length_drop]; omega
        have JY := Lib.hid (fun h => jinv_yes hJ.out hE hN.out h)
        have JN := Lib.hid (fun h => jinv_no hJ.out hE hN.out h)
        have CR := Lib.hid (fun W => specReadDeed_any (s.extract fr k) W (by rw [ByteArray.size_extract]; omega))
        rw [hla, ← extract_mk s fr k] at JY
        rw [← extract_mk s fr k] at JN
        unfold ReadPost at CR
        clear hE hb hgk hla
        generalize readD (s.extract fr k) = y at *
        obtain ⟨⟨d0, x1, x2, x3⟩, b⟩ := y
        dsimp only [deedV] at *
        go_wp2_with fail
        refine (CR.out _).mono ?_; rintro e w2 ⟨rfl, hF2⟩
        have F2 := Lib.hid (HF.out.and hF2)
        have O2 := Lib.hid (own_keep HO.out hF2)
        have z2 := F2.out.size
        clear hF2
        cases b
        · have HJ := Lib.hid (JN.out rfl)
          clear JY JN
          go_wp2
          go_ret2
          exact newDI_of HJ.out (Own.of (O2.out.alloc _)) (F2.out.alloc z2 _)
        · have HJ := Lib.hid (JY.out rfl)
          clear JY JN
          go_wp2_with (at_builtin; refine app1g 44 54 (.agg #[.bool false, .string ByteArray.empty, .string ByteArray.empty, .string ByteArray.empty]) 4 56 Tryz.underlying44 infoDeed rfl (by decide) (by decide) rfl _ _ rfl [.bool d0, .string x1, .string x2, .string x3] (O2.out.alloc _) rfl _ (by simp) rfl rfl (by simp [Value.oneCell']) (by omega) (by simp; omega) ?_; intro v' w' ho' hF'; (
            have F3 := Lib.hid (app_frame (F2.out.alloc z2 _) (O2.out.alloc _) hF' (by simp; omega))
            obtain ⟨a', c', rfl, ho3⟩ := appJ ho'
            have O3 := Lib.hid ho3
            have L3 := Lib.hid (show (P ++ [(d0, x1, x2, x3)]).length = P.length + 1 by simp)
            clear ho' hF' ho3))
          go_roundw
          case rel => exact ⟨k + 1, k + 1, a', c', P ++ [(d0, x1, x2, x3)], by omega, by go_num, by go_num, Nat.le_refl _, by rw [L3.out]; omega, by rw [L3.out], O3.out, by have := HJ.out; rw [show fr + (k - fr + 1) = k + 1 by omega] at this; exact this, Lib.hid (by simp), F3.out⟩
          case measure => simp [intOf]; omega
      · have hb2 : ¬ (s[k].toNat : Int) = 10 := fun h => hb (UInt8.toNat_inj.1 (by show s[k].toNat = 10; omega))
        have hz2 : ((s[k].toNat : Int) == 10) = false := by rw [beq_eq_false_iff_ne]; exact hb2
        have hN2 := Lib.hid (show (10 : UInt8) ∉ (s.data.toList.drop fr).take (k + 1 - fr) by
          rw [take_more hkl hf, hgk, List.mem_append]
          rintro (h | h)
          · exact hN.out h
          · simp at h; exact hb h.symm)
        clear hb hb2 hgk
        go_wp2
        go_roundw
        case rel => exact ⟨k + 1, fr, va, vc, P, by omega, by go_num, rfl, by omega, by omega, rfl, HO.out, hJ, hN2, HF.out⟩
        case measure => simp [intOf]; omega
    · have hkk : k = s.size := by omega
      have hfin := Lib.hid (jinv_end hJ.out (by
        have h1 : (s.data.toList.drop fr).take (k - fr) = s.data.toList.drop fr := List.take_of_length_le (by rw [List.length_drop]; omega)
        have h2 := hN.out; rw [h1] at h2; exact h2))
      clear hkk hN
      go_wp2
      go_ret2
      exact newDI_of hfin.out (Own.of HO.out) HF.out

theorem clipD_any (a : Option Addr) (cap n : Nat) (w : World) (hn : n ≤ cap) (hc : cap ≤ 9223372036854775807) :
    Calls Tryz.prog 72 #[.slice a n cap] w fun e w' => e = .returned (.slice a n n) ∧ w = w' := by
  go_enter Tryz.func72, Tryz.ntmps72
  go_wp2
  go_ret
  exact ⟨rfl, rfl⟩
theorem cut_yes {x : ByteArray} {a r : List UInt8} {m : Int} {w : World} (h : x.data.toList = a ++ 10 :: r) (ha : (10 : UInt8) ∉ a) (hs : x.size ≤ 1048576) (hm : w.cell? ⟨0, 0, none⟩ = some (.int .i64 m)) :
    Calls Tryz.prog 70 #[.string x, .string ⟨#[10]⟩] w fun e w' => e = .returned (.tuple #[.string (mkB a), .string (mkB r), .bool true]) ∧ ∃ n, w' = w.drewN n := by
  have e : Lib.cut x.data.toList (⟨#[10]⟩ : ByteArray).data.toList = (a, r, true) := by
    show Lib.cut x.data.toList [10] = _
    rw [h, Lib.cut, index_hit ha, if_pos (by omega)]
    have h1 : ((a.length : Int)).toNat = a.length := by omega
    rw [h1, List.take_left', show a ++ 10 :: r = (a ++ [10]) ++ r by simp, List.drop_left' (by simp)]
    rfl
  have := cut_any x ⟨#[10]⟩ m w (by omega) hm
  rw [e] at this; exact this
theorem cut_no {x : ByteArray} {m : Int} {w : World} (h : (10 : UInt8) ∉ x.data.toList) (hs : x.size ≤ 1048576) (hm : w.cell? ⟨0, 0, none⟩ = some (.int .i64 m)) :
    Calls Tryz.prog 70 #[.string x, .string ⟨#[10]⟩] w fun e w' => e = .returned (.tuple #[.string x, .string ⟨#[]⟩, .bool false]) ∧ ∃ n, w' = w.drewN n := by
  have e : Lib.cut x.data.toList (⟨#[10]⟩ : ByteArray).data.toList = (x.data.toList, [], false) := by
    show Lib.cut x.data.toList [10] = _
    rw [Lib.cut, index_miss h, if_neg (by omega)]
  have := cut_any x ⟨#[10]⟩ m w (by omega) hm
  rw [e] at this
  have e2 : (⟨x.data.toList.toArray⟩ : ByteArray) = x := mkB_data x
  dsimp only at this
  rw [e2] at this; exact this

set_option maxHeartbeats 2000000 in
set_option maxRecDepth 100000 in
theorem implReadJ_any (s : ByteArray) (m : Int) (w : World) (hs : s.size ≤ 1048576) (hm : w.cell? ⟨0, 0, none⟩ = some (.int .i64 m)) :
    Calls Tryz.prog 30 #[.string s] w (NewDI (readJ s).1 ((readJ s).2 : Int) w) := by
  have hb0 := World.block_lt_of_cell? w _ hm
  have HM := Lib.hid hm; clear hm
  have hdl : s.data.toList.length = s.size := by simp
  go_enter Tryz.func30, Tryz.ntmps30
  go_wp2
  go_loopw [4, 5] (fun v f wr => ∃ (fr : Nat) (a : Option Addr) (c : Nat) (P : List Dd), fr ≤ s.size ∧ f = .int .i64 fr ∧ P.length ≤ fr ∧ v = .slice a P.length c ∧ wr.ownsRow w.heap.size 54 4 (.slice a P.length c) P.length (deeds P) ∧ Hid (JInv s P fr) ∧ Fr w.heap.size none w wr) (fun _ i _ => s.size - (intOf i).toNat)
  case atStart => exact ⟨0, none, 0, [], Nat.zero_le _, rfl, Nat.le_refl _, rfl, World.ownsRow_nil w _ _ _, jinv_start s, Fr.refl w.heap.size none w⟩
  case round =>
    obtain ⟨fr, va, vc, P, hf, rfl, hP, rfl, ho, hJ, hF⟩ := hrel
    have HO := Lib.hid ho; have HF := Lib.hid hF; have hz := hF.size; clear ho hF
    obtain ⟨_, _, hv, hcap, hc2⟩ := own_slice HO.out
    cases hv
    have hcl : vc ≤ 9223372036854775807 := by unfold maxLen at hc2; omega
    have hmr := (HF.out.cell (p := ⟨0, 0, none⟩) hb0 (by simp)).trans HM.out
    have f0 : (0 : Int) ≤ (fr : Int) := by omega
    have f1 : (fr : Int) ≤ (s.size : Int) := by omega
    have hxd : (s.extract fr s.size).data.toList = s.data.toList.drop fr := by
      rw [Lib.extract_data, List.take_of_length_le (by rw [List.length_drop]; omega)]
    have hxs : (s.extract fr s.size).size ≤ 1048576 := by rw [ByteArray.size_extract]; omega
    rcases first_c 10 (s.data.toList.drop fr) with hno | ⟨a, r, hE, ha⟩
    · have CUT := Lib.hid (fun W hW => cut_no (x := s.extract fr s.size) (m := m) (w := W) (by rw [hxd]; exact hno) hxs hW)
      have hfin := Lib.hid (jinv_end hJ.out hno)
      have CR := Lib.hid (fun W hW => implReadDeed_any (s.extract fr s.size) m W hxs hW)
      unfold ReadPost at CR
      clear hno hxd hxs
      generalize readD (s.extract fr s.size) = y at *
      obtain ⟨⟨d0, x1, x2, x3⟩, b⟩ := y
      dsimp only [deedV] at *
      go_wp2_with fail
      refine (CUT.out _ hmr).mono ?_; rintro e w2 ⟨rfl, n, rfl⟩
      go_wp2_with fail
      refine (CR.out (wr.drewN n) hmr).mono ?_; rintro e w3 ⟨rfl, hF3⟩
      have F3 := Lib.hid ((HF.out.drewN n).and hF3)
      have O3 := Lib.hid (own_keep (own_drewN HO.out n) hF3)
      have z3 := F3.out.size
      clear hF3
      go_wp2_with fail
      refine (clipD_any _ _ _ _ hcap hcl).mono ?_; rintro e w' ⟨rfl, rfl⟩
      go_wp2
      go_ret2
      exact newDI_of hfin.out (Own.of (O3.out.alloc _)).clip (F3.out.alloc z3 _)
    · have hla : fr + a.length < s.size := by
        have := congrArg List.length hE
        rw [List.length_drop, List.length_append, List.length_cons] at this; omega
      have CUT := Lib.hid (fun W hW => cut_yes (x := s.extract fr s.size) (m := m) (w := W) (by rw [hxd]; exact hE) ha hxs hW)
      have JY := Lib.hid (fun h => jinv_yes hJ.out hE ha h)
      have JN := Lib.hid (fun h => jinv_no hJ.out hE ha h)
      have las : (mkB a).size = a.length := by show a.toArray.size = _; simp
      have CR := Lib.hid (fun W hW => implReadDeed_any (mkB a) m W (by rw [las]; omega) hW)
      unfold ReadPost at CR
      rw [← las] at hla JY
      clear hE hxd hxs ha las
      generalize mkB r = r2 at *
      generalize mkB a = p at *
      generalize readD p = y at *
      obtain ⟨⟨d0, x1, x2, x3⟩, b⟩ := y
      dsimp only [deedV] at *
      go_wp2_with fail
      refine (CUT.out _ hmr).mono ?_; rintro e w2 ⟨rfl, n, rfl⟩
      go_wp2_with fail
      refine (CR.out (wr.drewN n) hmr).mono ?_; rintro e w3 ⟨rfl, hF3⟩
      have F3 := Lib.hid ((HF.out.drewN n).and hF3)
      have O3 := Lib.hid (own_keep (own_drewN HO.out n) hF3)
      have z3 := F3.out.size
      clear hF3
      cases b
      · have HJ := Lib.hid (JN.out rfl)
        clear JY JN
        go_wp2_with fail
        refine (clipD_any _ _ _ _ hcap hcl).mono ?_; rintro e w' ⟨rfl, rfl⟩
        go_wp2
        go_ret2
        exact newDI_of HJ.out (Own.of (O3.out.alloc _)).clip (F3.out.alloc z3 _)
      · have HJ := Lib.hid (JY.out rfl)
        clear JY JN
        go_wp2_with (at_builtin; refine app1g 44 54 (.agg #[.bool false, .string ByteArray.empty, .string ByteArray.empty, .string ByteArray.empty]) 4 56 Tryz.underlying44 infoDeed rfl (by decide) (by decide) rfl _ _ rfl [.bool d0, .string x1, .string x2, .string x3] (O3.out.alloc _) rfl _ (by simp) rfl rfl (by simp [Value.oneCell']) (by omega) (by simp; omega) ?_; intro v' w' ho' hF'; (
          have F4 := Lib.hid (app_frame (F3.out.alloc z3 _) (O3.out.alloc _) hF' (by simp; omega))
          obtain ⟨a', c', rfl, ho3⟩ := appJ ho'
          have O4 := Lib.hid ho3
          have L4 := Lib.hid (show (P ++ [(d0, x1, x2, x3)]).length = P.length + 1 by simp)
          clear ho' hF' ho3))
        go_roundw
        case rel => exact ⟨fr + (p.size + 1), a', c', P ++ [(d0, x1, x2, x3)], by omega, by go_num, by rw [L4.out]; omega, by rw [L4.out], O4.out, HJ, F4.out⟩
        case measure => simp [intOf]; omega
end Go.Proofs.YtdngnmpmaacapaaGreatDoor
