/-
  Contracts: plain (digits as a numeral) and takenBy, of the program, as functions.
-/
import Derived.Test.YtjcjkdhfmdgjhaaDoorWaysB
namespace Go.Proofs.YtjcjkdhfmdgjhaaDoor
open Go.RowKit

theorem bld_fr {T e : TypeId} {B b : Nat} {bs : List Value} {w w' : World} (h : Lib.IsBuilder T e B b bs w) (hF : Fr w.heap.size none w w') : Lib.IsBuilder T e B b bs w' := by
  rcases h with h | h
  · have hl := h.lt
    obtain ⟨hB, v, hbk, hown, hne⟩ := h
    exact .inl ⟨hB, v, (hF.block b hl (by simp)).trans hbk, own_keep hown hF, hne⟩
  · have hl := h.lt
    obtain ⟨hB, v, hbk, hown, hne⟩ := h
    exact .inr ⟨hB, v, (hF.block b hl (by simp)).trans hbk, own_keep hown hF, hne⟩
theorem bld_as {T e : TypeId} {B b : Nat} {bs cs : List Value} {w : World} (h : Lib.IsBuilder T e B b bs w) (he : bs = cs) : Lib.IsBuilder T e B b cs w := he ▸ h
theorem ret_sb {a b : ByteArray} {x y : Bool} (h1 : a = b) (h2 : x = y) : Ending.returned (.tuple #[.string a, .bool x]) = .returned (.tuple #[.string b, .bool y]) := by rw [h1, h2]
theorem ne_of_len {ds : List Int} (h : ¬ ds.length = 0) : decide (ds ≠ []) = true := by cases ds <;> simp at h ⊢
theorem mkL_list (l : List UInt8) : (mkL l).data.toList = l := by show l.toArray.toList = l; simp
theorem dig_snoc (ds : List Int) (k : Nat) (hk : k < ds.length) : Lib.byteCells ((ds.take k).map digC) ++ Lib.strCells (mkL [digC (ds.getD k 0)]) = Lib.byteCells ((ds.take (k + 1)).map digC) := by
  have e : ds.getD k 0 = ds[k] := by simp [List.getD_eq_getElem?_getD, hk]
  rw [Lib.strCells_eq, mkL_list, ← Lib.byteCells_append, List.take_succ_eq_append_getElem hk, List.map_append, e]; rfl
theorem plain_no {ds : List Int} (h : plainOk ds = false) : (⟨#[]⟩ : ByteArray) = plainT ds := by simp [plainT, h]
theorem plain_yes {ds : List Int} (h : plainOk ds = true) : plainS ds = plainT ds := by simp [plainT, h]
theorem plainS_size (ds : List Int) : (plainS ds).size ≤ ds.length + 1 := by
  unfold plainS
  split
  · show 1 ≤ _; omega
  · rw [mkL_size]
    have : (trimZ (ds.map digC)).length ≤ (ds.map digC).length := (List.dropWhile_sublist _).length_le
    rw [List.length_map] at this; omega

set_option maxHeartbeats 2000000 in
set_option maxRecDepth 100000 in
theorem plain_any (a : Option Addr) (cap : Nat) (ds : List Int) (w : World) (hs : Sl w a (ints ds)) (hd : ∀ d ∈ ds, 0 ≤ d ∧ d ≤ 9) (hn : ds.length ≤ 100) :
    Calls Tryd.prog 57 #[.slice a ds.length cap] w fun e w' => e = .returned (.tuple #[.string (plainT ds), .bool (plainOk ds)]) ∧ Fr w.heap.size none w w' := by
  have HS := Lib.hid hs; clear hs
  have HD := Lib.hid hd; clear hd
  have B0 := Lib.hid (Lib.fresh_isBuilder 75 5 w)
  go_enter Tryd.func57, Tryd.ntmps57
  go_wp2
  go_loopw [10] (fun i wr => ∃ k : Nat, k ≤ ds.length ∧ i = .int .i64 k ∧ Hid (Lib.IsBuilder 75 5 w.heap.size w.heap.size (Lib.byteCells ((ds.take k).map digC)) wr) ∧ Fr w.heap.size none w wr) (fun i _ => ds.length - (intOf i).toNat)
  case atStart => exact ⟨0, Nat.zero_le _, rfl, B0, (Fr.refl w.heap.size none w).alloc (Nat.le_refl _) _⟩
  case round =>
    obtain ⟨k, hk, rfl, hB, hF⟩ := hrel
    have HF := Lib.hid hF; clear hF
    by_cases hlt : k < ds.length
    · obtain ⟨b, off, rfl, hc⟩ := (HS.out.fr HF.out).int k hlt
      have hdk : 0 ≤ ds.getD k 0 ∧ ds.getD k 0 ≤ 9 := by
        have e : ds.getD k 0 = ds[k] := by simp [List.getD_eq_getElem?_getD, hlt]
        rw [e]; exact HD.out _ (List.getElem_mem hlt)
      have hcat := Lib.hid (dig_snoc ds k hlt)
      have hl : Hid ((Lib.byteCells ((ds.take k).map digC)).length + (mkL [digC (ds.getD k 0)]).size ≤ 140737488355328) := Lib.hid (by
        rw [Lib.byteCells_length, List.length_map, List.length_take, mkL_size, List.length_singleton]; omega)
      have k0 : (0 : Int) ≤ (k : Int) := by omega
      have CI := Lib.hid (fun W => itoa_any (ds.getD k 0) W hdk.1 hdk.2)
      generalize ds.getD k 0 = d at *
      generalize mkL [digC d] = u at *
      generalize (ds.take k).map digC = J at *
      go_wp2_with fail
      refine (CI.out _).mono ?_; rintro e w' ⟨rfl, rfl⟩
      go_wp2_with fail
      refine (writeString_any w.heap.size w.heap.size (Lib.byteCells J) u wr hB.out hl.out HF.out.size).mono ?_; rintro e w3 ⟨rfl, hB3, hF3⟩
      have F3 := Lib.hid (HF.out.trans hF3)
      have B3 := Lib.hid (bld_as hB3 hcat.out)
      clear hF3 hB3
      go_wp2
      go_roundw
      case rel => exact ⟨k + 1, by omega, by go_num, B3, F3.out⟩
      case measure => simp [intOf]; omega
    · have hkk : k = ds.length := by omega
      have hB2 := hB.out
      rw [hkk, List.take_length] at hB2
      have HB2 := Lib.hid hB2
      have CT := Lib.hid (fun W => trimLeft_any (mkL (ds.map digC)) W (by rw [mkL_size, List.length_map]; omega))
      rw [mkL_list] at CT
      have hge : (ds.length : Int) ≤ (k : Int) := by omega
      have pn := Lib.hid (@plain_no ds); have py := Lib.hid (@plain_yes ds)
      have psz := plainS_size ds
      have pS : Hid ((trimZ (ds.map digC) = [] → plainS ds = ⟨#[48]⟩) ∧ (trimZ (ds.map digC) ≠ [] → plainS ds = mkL (trimZ (ds.map digC)))) := Lib.hid (by unfold plainS; constructor <;> intro h <;> simp [h])
      have pO : Hid (plainOk ds = (decide (ds ≠ []) && numOk (plainS ds))) := Lib.hid rfl
      have CS := Lib.hid (fun W hB hle => builderString_any w.heap.size w.heap.size (ds.map digC) W hB hle)
      have CS2 : Hid (∀ W, Lib.IsBuilder 75 5 w.heap.size w.heap.size (Lib.byteCells (ds.map digC)) W → w.heap.size ≤ W.heap.size → Calls Tryd.prog 62 #[.pointer (some ⟨w.heap.size, 0, none⟩)] W fun e w' => e = .returned (.string (mkL (ds.map digC))) ∧ Fr w.heap.size none W w') := Lib.hid CS.out
      clear hkk hB hB2 CS
      generalize trimZ (ds.map digC) = T at *
      generalize mkL (ds.map digC) = M at *
      generalize plainS ds = PS at *
      go_wp2_with fail
      refine (CS2.out _ HB2.out HF.out.size).mono ?_; rintro e w2 ⟨rfl, hF2⟩
      have F2 := Lib.hid (HF.out.trans hF2); clear hF2
      go_wp2_with fail
      refine (CT.out _).mono ?_; rintro e w' ⟨rfl, rfl⟩
      by_cases hT : T = []
      · have hp := pS.out.1 hT
        subst hT
        subst hp
        have hm : mkL [] = (⟨#[]⟩ : ByteArray) := rfl
        rw [hm]
        by_cases h0 : ds.length = 0
        · have hz : ((ds.length : Int) == 0) = true := by rw [h0]; rfl
          have hPO := Lib.hid (show plainOk ds = false by rw [pO.out, List.eq_nil_of_length_eq_zero h0]; rfl)
          clear h0
          have HN := Lib.hid (pn.out hPO.out)
          go_wp2
          go_ret2
          exact ⟨ret_sb HN.out hPO.out.symm, F2.out⟩
        · have hz : ((ds.length : Int) == 0) = false := by rw [beq_eq_false_iff_ne]; omega
          have hPO := Lib.hid (show plainOk ds = true by rw [pO.out, ne_of_len h0]; decide)
          have HN := Lib.hid (py.out hPO.out)
          clear h0
          go_wp2_with (go_at_call 19; refine (num_val (s := ⟨#[48]⟩) (r := true) (by decide) (by decide) _).mono ?_; rintro e w' ⟨rfl, rfl⟩)
          go_ret2
          exact ⟨ret_sb HN.out hPO.out.symm, F2.out⟩
      · have hp := pS.out.2 hT
        have hne : (mkL T).toList.isEmpty = false := by
          cases h : (mkL T).toList.isEmpty
          · rfl
          · rw [List.isEmpty_iff] at h
            have h2 := (toList_nil_iff_emptyBytes (mkL T)).1 h
            exact absurd (by rw [← mkL_list T, h2]; rfl) hT
        rw [← hp] at hne ⊢
        clear hT hp
        by_cases h0 : ds.length = 0
        · have hz : ((ds.length : Int) == 0) = true := by rw [h0]; rfl
          have hPO := Lib.hid (show plainOk ds = false by rw [pO.out, List.eq_nil_of_length_eq_zero h0]; rfl)
          clear h0
          have HN := Lib.hid (pn.out hPO.out)
          go_wp2
          go_ret2
          exact ⟨ret_sb HN.out hPO.out.symm, F2.out⟩
        · have hz : ((ds.length : Int) == 0) = false := by rw [beq_eq_false_iff_ne]; omega
          have hPO := Lib.hid (show plainOk ds = numOk PS by rw [pO.out, ne_of_len h0]; rfl)
          clear h0
          cases hn : numOk PS
          · have HNO := Lib.hid hn
            have HN := Lib.hid (pn.out (hPO.out.trans hn))
            have HP := Lib.hid (hPO.out.trans hn)
            clear hn
            go_wp2_with (go_at_call 19; refine (num_val (by omega) HNO.out _).mono ?_; rintro e w' ⟨rfl, rfl⟩)
            go_ret2
            exact ⟨ret_sb HN.out HP.out.symm, F2.out⟩
          · have HNO := Lib.hid hn
            have HN := Lib.hid (py.out (hPO.out.trans hn))
            have HP := Lib.hid (hPO.out.trans hn)
            clear hn
            go_wp2_with (go_at_call 19; refine (num_val (by omega) HNO.out _).mono ?_; rintro e w' ⟨rfl, rfl⟩)
            go_ret2
            exact ⟨ret_sb HN.out HP.out.symm, F2.out⟩
end Go.Proofs.YtjcjkdhfmdgjhaaDoor
