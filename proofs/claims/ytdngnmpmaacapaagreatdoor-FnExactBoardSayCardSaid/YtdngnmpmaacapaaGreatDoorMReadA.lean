/-
  Merged: ReadA.
-/
import Derived.Test.YtdngnmpmaacapaaGreatDoorMReadP
import Derived.Test.YtdngnmpmaacapaaGreatDoorMShelfD
import Derived.Test.YtdngnmpmaacapaaGreatDoorMCore
import Derived.Laws.DeepStrings4
set_option linter.unusedVariables false
set_option linter.unusedSimpArgs false
/-
  Contracts: what stands between spaces: strings.Split of the program's library, l1Cut of the reference.
-/
namespace Go.Proofs.YtdngnmpmaacapaaGreatDoor
open Go.RowKit

def mkB (l : List UInt8) : ByteArray := ⟨l.toArray⟩
theorem mkB_data (x : ByteArray) : mkB x.data.toList = x := by cases x; simp [mkB]
/-- The words of a text: what stands between spaces. -/
def wordsB (s : ByteArray) : List ByteArray := (cutL 32 s.data.toList).map mkB
theorem words_of {s : ByteArray} {ws : List ByteArray} (h : ws.map (·.data.toList) = cutL 32 s.data.toList) : ws = wordsB s := by
  unfold wordsB
  rw [← h, List.map_map]
  have : (mkB ∘ fun x : ByteArray => x.data.toList) = id := by funext x; exact mkB_data x
  rw [this, List.map_id]
theorem cutL_le (c : UInt8) (l : List UInt8) : ∀ p ∈ cutL c l, p.length ≤ l.length := by
  induction l with
  | nil => intro p hp; simp [cutL] at hp; subst hp; simp
  | cons b l ih =>
    intro p hp
    unfold cutL at hp
    split at hp
    · rcases List.mem_cons.1 hp with rfl | h
      · simp
      · have := ih p h; simp; omega
    · split at hp
      · simp at hp; subst hp; simp
      · next q r e =>
        rcases List.mem_cons.1 hp with rfl | h
        · have := ih q (by rw [e]; simp); simp; exact this
        · have := ih p (by rw [e]; simp [h]); simp; omega
theorem words_le {s x : ByteArray} (h : x ∈ wordsB s) : x.size ≤ s.size := by
  obtain ⟨p, hp, rfl⟩ := List.mem_map.1 h
  have := cutL_le _ _ p hp
  have e1 : (mkB p).size = p.length := by show p.toArray.size = _; simp
  have e2 : s.data.toList.length = s.size := by simp
  omega
theorem split_val {s : ByteArray} {m : Int} {w : World} {ws : List ByteArray} (h : wordsB s = ws) (hs : s.size ≤ 1048576) (hm : w.cell? ⟨0, 0, none⟩ = some (.int .i64 m)) :
    Calls Tryz.prog 84 #[.string s, .string ⟨#[32]⟩] w fun e w' => e = .returned (.slice (some ⟨w.heap.size, 0, none⟩) ws.length ws.length) ∧ w' = w.alloc (.cells (ws.map Value.string).toArray 9) := by
  have e : Lib.splitB ⟨#[32]⟩ 0 (Lib.countB s ⟨#[32]⟩) s = ws := by rw [← h]; exact words_of (splitB_eq s 32)
  have hl := Lib.splitB_all ⟨#[32]⟩ (by decide) 0 (Lib.countB s ⟨#[32]⟩) s rfl
  rw [e] at hl
  refine (split_any s ⟨#[32]⟩ m w (by omega) hm (by decide)).mono ?_
  rintro e' w' ⟨rfl, rfl⟩
  rw [← hl, e]
  exact ⟨rfl, rfl⟩

theorem own_frame1 {w w1 w' : World} {g : Nat} (h : Fr w.heap.size none w w1) (k : Fr w1.heap.size (some g) w1 w') (hg : w.heap.size ≤ g) : Fr w.heap.size none w w' := h.trans (k.up h.size (by intro q hq; cases hq; exact hg))
theorem drop_take_c {l : List UInt8} {a k : Nat} (hk : k < l.length) (ha : a ≤ k) : l.drop a = (l.drop a).take (k - a) ++ l[k] :: l.drop (k + 1) := by
  have h1 : (l.drop a).drop (k - a) = l[k] :: l.drop (k + 1) := by
    rw [List.drop_drop, show a + (k - a) = k by omega, List.drop_eq_getElem_cons hk]
  rw [← h1, List.take_append_drop]
theorem take_more {l : List UInt8} {a k : Nat} (hk : k < l.length) (ha : a ≤ k) : (l.drop a).take (k + 1 - a) = (l.drop a).take (k - a) ++ [l[k]] := by
  have h2 : k - a < (l.drop a).length := by rw [List.length_drop]; omega
  rw [show k + 1 - a = (k - a) + 1 by omega, List.take_succ_eq_append_getElem h2]
  simp [show a + (k - a) = k by omega]

set_option maxHeartbeats 1000000 in
theorem l1Cut_any (s : ByteArray) (w : World) (hs : s.size ≤ 1048576) :
    Calls Tryz.prog 52 #[.string s, .int .u8 32] w fun e w' => ∃ a cap, e = .returned (.slice a (wordsB s).length cap) ∧ w'.ownsRow w.heap.size 9 1 (.slice a (wordsB s).length cap) (wordsB s).length (strs (wordsB s)) ∧ Fr w.heap.size none w w' := by
  have hdl : s.data.toList.length = s.size := by simp
  go_enter Tryz.func52, Tryz.ntmps52
  go_wp2
  go_loopw [5, 6, 7] (fun v f i wr => ∃ (k fr : Nat) (P : List ByteArray), k ≤ s.size ∧ i = .int .i64 k ∧ f = .int .i64 fr ∧ fr ≤ k ∧ P.length ≤ k ∧ wr.ownsRow w.heap.size 9 1 v P.length (strs P) ∧ Hid (cutL 32 s.data.toList = P.map (·.data.toList) ++ cutL 32 (s.data.toList.drop fr)) ∧ Hid ((32 : UInt8) ∉ (s.data.toList.drop fr).take (k - fr)) ∧ Fr w.heap.size none w wr) (fun _ _ i _ => s.size - (intOf i).toNat)
  case atStart => exact ⟨0, 0, [], Nat.zero_le _, rfl, rfl, Nat.le_refl _, Nat.le_refl _, World.ownsRow_made (base := w.heap.size) w #[] 0 (Nat.le_refl _) (by simp [maxLen]) (by simp), Lib.hid rfl, Lib.hid (by simp), (Fr.refl w.heap.size none w).alloc (Nat.le_refl _) _⟩
  case round =>
    obtain ⟨k, fr, P, hk, rfl, rfl, hf, hP, ho, hC, hN, hF⟩ := hrel
    have HO := Lib.hid ho; have HF := Lib.hid hF; have hz := hF.size; clear ho hF
    obtain ⟨va, vc, rfl, _, _⟩ := own_slice HO.out
    by_cases hlt : k < s.size
    · have hkl : k < s.data.toList.length := by omega
      have hgk : s.data.toList[k] = s[k] := by simp; rfl
      by_cases hb : s[k] = 32
      · have hb2 : (s[k].toNat : Int) = 32 := by rw [hb]; rfl
        have hC2 := Lib.hid (show cutL 32 s.data.toList = (P ++ [s.extract fr k]).map (·.data.toList) ++ cutL 32 (s.data.toList.drop (k + 1)) by
          rw [hC.out, drop_take_c hkl hf, hgk, hb, cutL_hit hN.out, List.map_append, List.append_assoc]
          congr 1
          show _ = [(s.extract fr k).data.toList] ++ _
          rw [Lib.extract_data]; rfl)
        have hN2 : Hid ((32 : UInt8) ∉ (s.data.toList.drop (k + 1)).take (k + 1 - (k + 1))) := Lib.hid (by simp)
        clear hb hgk
        obtain ⟨y, hy⟩ : ∃ y, y = s.extract fr k := ⟨_, rfl⟩
        rw [← hy] at hC2
        go_wp2_with (at_builtin; refine app1 32 9 (.string ByteArray.empty) 1 16 Tryz.underlying32 infoStr rfl (by decide) (by decide) rfl _ _ rfl [.string (s.extract fr k)] HO.out rfl rfl rfl (by simp [Value.oneCell']) (by omega) hz ?_; intro v' w' ho' hF'; (
          have H1 := Lib.hid (show w'.ownsRow w.heap.size 9 1 v' (P ++ [y]).length (strs (P ++ [y])) by rw [hy, List.length_append, strs, List.map_append]; exact ho')
          have F1 := Lib.hid (app_frame HF.out HO.out hF' hz)
          clear ho' hF'))
        go_roundw
        case rel => exact ⟨k + 1, k + 1, P ++ [y], by omega, by go_num, by go_num, Nat.le_refl _, by rw [List.length_append]; simp; omega, H1.out, hC2, hN2, F1.out⟩
        case measure => simp [intOf]; omega
      · have hb2 : ¬ (s[k].toNat : Int) = 32 := fun h => hb (UInt8.toNat_inj.1 (by show s[k].toNat = 32; omega))
        have hz2 : ((s[k].toNat : Int) == 32) = false := by rw [beq_eq_false_iff_ne]; exact hb2
        have hN2 := Lib.hid (show (32 : UInt8) ∉ (s.data.toList.drop fr).take (k + 1 - fr) by
          rw [take_more hkl hf, hgk, List.mem_append]
          rintro (h | h)
          · exact hN.out h
          · simp at h; exact hb h.symm)
        clear hb hb2 hgk
        go_wp2
        go_roundw
        case rel => exact ⟨k + 1, fr, P, by omega, by go_num, rfl, by omega, by omega, HO.out, hC, hN2, HF.out⟩
        case measure => simp [intOf]; omega
    · have hkk : k = s.size := by omega
      have hC2 := Lib.hid (words_of (s := s) (ws := P ++ [s.extract fr s.size]) (by
        have h1 : (s.data.toList.drop fr).take (k - fr) = s.data.toList.drop fr := List.take_of_length_le (by rw [List.length_drop]; omega)
        have h2 := hN.out; rw [h1] at h2
        rw [hC.out, cutL_free h2, List.map_append]
        congr 1
        show [(s.extract fr s.size).data.toList] = _
        rw [Lib.extract_data, List.take_of_length_le (by rw [List.length_drop]; omega)]))
      clear hN hC
      subst hkk
      obtain ⟨y, hy⟩ : ∃ y, y = s.extract fr s.size := ⟨_, rfl⟩
      rw [← hy] at hC2
      go_wp2_with (at_builtin; refine app1 32 9 (.string ByteArray.empty) 1 16 Tryz.underlying32 infoStr rfl (by decide) (by decide) rfl _ _ rfl [.string (s.extract fr s.size)] HO.out rfl rfl rfl (by simp [Value.oneCell']) (by omega) hz ?_; intro v' w' ho' hF'; (
        have H1 := Lib.hid (show w'.ownsRow w.heap.size 9 1 v' (P ++ [y]).length (strs (P ++ [y])) by rw [hy, List.length_append, strs, List.map_append]; exact ho')
        have F1 := Lib.hid (app_frame HF.out HO.out hF' hz)
        clear ho' hF'))
      have H2 := H1.out
      rw [hC2.out] at H2
      obtain ⟨a', c', rfl, _, _⟩ := own_slice H2
      go_ret
      exact ⟨a', c', rfl, H2, F1.out⟩
end Go.Proofs.YtdngnmpmaacapaaGreatDoor
