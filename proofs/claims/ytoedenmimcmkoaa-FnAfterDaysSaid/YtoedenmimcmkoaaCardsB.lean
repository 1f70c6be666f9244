/-
  Cards: contracts of the statements' own helpers: szCardS, toCardS, eqCardS, markCardS, heldCardS.
-/
import Derived.Test.YtoedenmimcmkoaaCardsA
import Derived.Test.YtoedenmimcmkoaaApp
import Derived.StillTailTactics
namespace Go.Proofs.Ytoedenmimcmkoaa
open Go.RowKit

theorem infoCard : (Try.prog.info? 63).map (fun i => (i.zero, i.size, i.bytes)) = some (some (.agg #[.int .i64 0, .int .i64 0]), 2, 16) := by kernel_rfl

theorem szCardS_yes (a : Option Addr) (cap n : Nat) (l : Int) (w : World) (h : (n : Int) ≤ l) (hl : l ≤ 1048576) :
    Calls Try.prog 27 #[.slice a n cap, .int .i64 l] w fun e w' => e = .returned (.int .i64 (l - n)) ∧ w = w' := by
  go_enter Try.func27, Try.ntmps27
  go_wp2
  go_ret
  exact ⟨rfl, rfl⟩
theorem szCardS_no (a : Option Addr) (cap n : Nat) (l : Int) (w : World) (h : l < (n : Int)) (h0 : 0 ≤ l) (hn : (n : Int) ≤ 9223372036854775807) :
    Calls Try.prog 27 #[.slice a n cap, .int .i64 l] w fun e w' => e = .returned (.int .i64 (-1)) ∧ w = w' := by
  go_enter Try.func27, Try.ntmps27
  go_wp2
  go_ret
  exact ⟨rfl, rfl⟩

theorem toCard_any (x : Int × Int) (w : World) : Calls Try.prog 69 #[.agg #[.int .i64 x.1, .int .i64 x.2]] w fun e w' => e = .returned (.agg #[.int .i64 x.1, .int .i64 x.2]) ∧ Fr w.heap.size none w w' := by
  obtain ⟨x1, x2⟩ := x
  go_enter Try.func69, Try.ntmps69
  go_wp2
  exact bodyPost_ret (v := .agg #[.int .i64 x1, .int .i64 x2]) (by simp [results, Try.results69, go_sem]) rfl ⟨rfl, (((Fr.refl _ _ w).alloc (Nat.le_refl _) _).alloc (by simp) _).alloc (by simp; omega) _⟩

theorem mkCards (n : Nat) (hn : n ≤ 2097152) (w : World) :
    ∃ w1, (Instr.makeSlice 35 (.int .i64 (n : Int)) (.int .i64 (n : Int))).run Try.prog w = .ok (.slice (some ⟨w.heap.size, 0, none⟩) n n) w1 ∧
      w1.ownsRow w.heap.size 63 2 (.slice (some ⟨w.heap.size, 0, none⟩) n n) n (zrows [.int .i64 0, .int .i64 0] n) ∧ Fr w.heap.size none w w1 := by
  obtain ⟨i0, hi, hz0, hz1, hz2⟩ := info_parts infoCard
  obtain ⟨w1, hr, ho, hg⟩ := run_make_full (P := Try.prog) w w.heap.size 35 63 i0 (.agg #[.int .i64 0, .int .i64 0]) 2 Try.underlying35 hi hz0 hz1 .i64 .i64 n (by rw [hz2]; omega) (by simp [maxLen]; omega) (Nat.le_refl _)
  refine ⟨w1, hr, ?_, (Fr.refl _ _ w).grown hg (Nat.le_refl _) (by simp)⟩
  have e := made_zrows [.int .i64 0, .int .i64 0] n (by simp)
  rw [← e]; exact ho

theorem getD_snoc {α : Type} (xs : List α) (d : α) (k : Nat) (h : k < xs.length) : xs.take (k + 1) = xs.take k ++ [xs.getD k d] := by
  rw [List.take_succ_eq_append_getElem h]; simp [List.getD_eq_getElem?_getD, h]

/-- Two fields of an own row are written. -/
theorem own_set2 {w : World} {B : Nat} {T g n cap : Nat} {A C : List Value} {x y : Value} (k : Nat) (a b : Value) (hA : A.length = k * 2)
    (ho : w.ownsRow B T 2 (.slice (some ⟨g, 0, none⟩) n cap) n (A ++ ([x, y] ++ C))) :
    ((w.setCell ⟨g, k * 2, none⟩ a).setCell ⟨g, k * 2 + 1, none⟩ b).ownsRow B T 2 (.slice (some ⟨g, 0, none⟩) n cap) n (A ++ ([a, b] ++ C)) := by
  have h1 := (ho.stored (k * 2) a).1
  have h2 := (h1.stored (k * 2 + 1) b).1
  rw [set2 A C x y a b (k * 2) (k * 2 + 1) hA.symm rfl] at h2
  exact h2
theorem own_get2 {w : World} {B : Nat} {T g n cap : Nat} {A C : List Value} {x y : Value} (k : Nat) (hA : A.length = k * 2)
    (ho : w.ownsRow B T 2 (.slice (some ⟨g, 0, none⟩) n cap) n (A ++ ([x, y] ++ C))) :
    w.cell? ⟨g, k * 2, none⟩ = some x ∧ w.cell? ⟨g, k * 2 + 1, none⟩ = some y ∧ w.frozen? ⟨g, k * 2, none⟩ = false ∧ w.frozen? ⟨g, k * 2 + 1, none⟩ = false := by
  have hl := ho.1
  simp only [List.length_append, List.length_cons, List.length_nil] at hl
  refine ⟨?_, ?_, ho.frozenAt _, ho.frozenAt _⟩
  · rw [ho.cellAt (k * 2) (by omega), List.getElem?_append_right (by omega)]; simp [hA]
  · rw [ho.cellAt (k * 2 + 1) (by omega), List.getElem?_append_right (by omega)]; simp [hA]

/-- Two fields of an own row are written. -/
theorem ownO_set2 {w : World} {B : Nat} {T g n cap : Nat} {A C : List Value} {x y : Value} (k : Nat) (a b : Value) (hA : A.length = k * 2)
    (ho : Own w B T 2 (.slice (some ⟨g, 0, none⟩) n cap) n (A ++ ([x, y] ++ C))) :
    Own ((w.setCell ⟨g, k * 2, none⟩ a).setCell ⟨g, k * 2 + 1, none⟩ b) B T 2 (.slice (some ⟨g, 0, none⟩) n cap) n (A ++ ([a, b] ++ C)) := by
  have h1 := ho.stored (k * 2) a
  have h2 := h1.stored (k * 2 + 1) b
  rw [set2 A C x y a b (k * 2) (k * 2 + 1) hA.symm rfl] at h2
  exact h2
theorem ownO_get2 {w : World} {B : Nat} {T g n cap : Nat} {A C : List Value} {x y : Value} (k : Nat) (hA : A.length = k * 2)
    (ho : Own w B T 2 (.slice (some ⟨g, 0, none⟩) n cap) n (A ++ ([x, y] ++ C))) :
    w.cell? ⟨g, k * 2, none⟩ = some x ∧ w.cell? ⟨g, k * 2 + 1, none⟩ = some y ∧ w.frozen? ⟨g, k * 2, none⟩ = false ∧ w.frozen? ⟨g, k * 2 + 1, none⟩ = false := by
  have hl := ho.1
  simp only [List.length_append, List.length_cons, List.length_nil] at hl
  refine ⟨?_, ?_, ho.frozenAt _, ho.frozenAt _⟩
  · rw [ho.cellAt (k * 2) (by omega), List.getElem?_append_right (by omega)]; simp [hA]
  · rw [ho.cellAt (k * 2 + 1) (by omega), List.getElem?_append_right (by omega)]; simp [hA]

set_option maxHeartbeats 400000 in
theorem toCardS_any (a : Option Addr) (cap : Nat) (xs : List (Int × Int)) (w : World) (hs : Sl w a (cards xs)) (hn : xs.length ≤ 1048576) :
    Calls Try.prog 28 #[.slice a xs.length cap] w fun e w' => ∃ g, e = .returned (.slice (some ⟨g, 0, none⟩) xs.length xs.length) ∧ w'.ownsRow w.heap.size 63 2 (.slice (some ⟨g, 0, none⟩) xs.length xs.length) xs.length (cards xs) ∧ Fr w.heap.size none w w' := by
  obtain ⟨w1, hr, ho1, HF⟩ := mkCards xs.length (by omega) w
  have HO := Lib.hid ho1; clear ho1
  have z1 := HF.size
  have zl : w.heap.size < w1.heap.size := (own_lt HO.out _ rfl).2
  have HS := Lib.hid hs; clear hs
  go_enter Try.func28, Try.ntmps28
  go_wp2
  clear hr
  go_loopw [4] (fun i wr => ∃ k : Nat, k ≤ xs.length ∧ i = .int .i64 k ∧ wr.ownsRow w.heap.size 63 2 (.slice (some ⟨w.heap.size, 0, none⟩) xs.length xs.length) xs.length (cards (xs.take k) ++ zrows [.int .i64 0, .int .i64 0] (xs.length - k)) ∧ Fr w.heap.size none w wr ∧ w.heap.size < wr.heap.size) (fun i _ => xs.length - (intOf i).toNat)
  case atStart => exact ⟨0, Nat.zero_le _, rfl, HO.out, HF, zl⟩
  case round =>
    obtain ⟨k, hk, rfl, ho, hF, hz⟩ := hrel
    have HF' := Lib.hid hF; clear hF
    by_cases hlt : k < xs.length
    · obtain ⟨b, off, rfl, hc0, hc1, hc2⟩ := (HS.out.fr HF'.out).card k hlt
      have e : xs.length - k = (xs.length - (k + 1)) + 1 := by omega
      rw [e, zrows_succ] at ho
      have HO' := Lib.hid ho
      have hA : Hid ((cards (xs.take k)).length = k * 2) := by rw [cards_length, List.length_take]; show _ = _; rw [Nat.min_eq_left hk]
      have hst := Lib.hid (getD_snoc xs (0, 0) k hlt)
      clear ho e
      generalize xs.getD k (0, 0) = x at *
      go_wp2_with fail
      refine (toCard_any x _).mono ?_; rintro e w2 ⟨rfl, hF2⟩
      have O2 := Lib.hid (own_keep HO'.out hF2)
      have F2 := Lib.hid (HF'.out.and hF2)
      have z2 := hF2.size
      obtain ⟨g1, g2, g3, g4⟩ := own_get2 k hA.out O2.out
      have O3 := Lib.hid (own_set2 k (.int .i64 x.1) (.int .i64 x.2) hA.out O2.out)
      have F3 := Lib.hid ((F2.out.setCell (p := ⟨w.heap.size, k * 2, none⟩) (.inl (Nat.le_refl _)) (.int .i64 x.1)).setCell (p := ⟨w.heap.size, k * 2 + 1, none⟩) (.inl (Nat.le_refl _)) (.int .i64 x.2))
      clear hF2
      go_wp2
      go_roundw
      case rel => exact ⟨k + 1, by omega, by go_num, by rw [hst.out, cards, rows_append, rows_one, List.append_assoc]; exact O3.out, F3.out, by simp [World.setCell]; omega⟩
      case measure => simp [intOf]; omega
    · have hkk : k = xs.length := by omega
      have HN : Hid (wr.ownsRow w.heap.size 63 2 (.slice (some ⟨w.heap.size, 0, none⟩) xs.length xs.length) xs.length (cards xs)) := by
        rw [hkk, Nat.sub_self, zrows_zero, List.append_nil, List.take_length] at ho; exact ho
      clear hkk ho
      go_wp2
      go_ret
      exact ⟨_, rfl, HN.out, HF'.out⟩

theorem eqCard_any (x : Int × Int) (w : World) : Calls Try.prog 70 #[.agg #[.int .i64 x.1, .int .i64 x.2], .agg #[.int .i64 x.1, .int .i64 x.2]] w fun e w' => e = .returned (.bool true) ∧ Fr w.heap.size none w w' := by
  obtain ⟨x1, x2⟩ := x
  go_enter Try.func70, Try.ntmps70
  go_wp2
  go_ret
  exact ⟨rfl, ((Fr.refl _ _ w).alloc (Nat.le_refl _) _).alloc (by simp) _⟩

theorem eqCardS_any (a b : Option Addr) (ca cb : Nat) (xs : List (Int × Int)) (w : World) (ha : Sl w a (cards xs)) (hb : Sl w b (cards xs)) (hn : xs.length ≤ 1048576) :
    Calls Try.prog 30 #[.slice a xs.length ca, .slice b xs.length cb] w fun e w' => e = .returned (.bool true) ∧ Fr w.heap.size none w w' := by
  have HA := Lib.hid ha; have HB := Lib.hid hb; clear ha hb
  go_enter Try.func30, Try.ntmps30
  go_wp2
  go_loopw [5] (fun i wr => ∃ k : Nat, k ≤ xs.length ∧ i = .int .i64 k ∧ Fr w.heap.size none w wr) (fun i _ => xs.length - (intOf i).toNat)
  case atStart => exact ⟨0, Nat.zero_le _, rfl, Fr.refl _ _ _⟩
  case round =>
    obtain ⟨k, hk, rfl, hF⟩ := hrel
    have HF := Lib.hid hF; clear hF
    by_cases hlt : k < xs.length
    · obtain ⟨b1, off1, rfl, hc1, hc1', hc1''⟩ := (HA.out.fr HF.out).card k hlt
      obtain ⟨b2, off2, rfl, hc2, hc2', hc2''⟩ := (HB.out.fr HF.out).card k hlt
      generalize xs.getD k (0, 0) = x at *
      have hlt' : (k : Int) < (xs.length : Int) := by omega
      go_wp2
      go_still_tail 8, (by kernel_rfl)
      change wpList _ _ _ _ _ wr.drew
      go_wp2_with fail
      refine (eqCard_any x _).mono ?_; rintro e w2 ⟨rfl, hF2⟩
      have HF2 := Lib.hid (HF.out.drew.trans (hF2.mono HF.out.size)); clear hF2
      go_wp2
      go_roundw
      case rel => exact ⟨k + 1, by omega, by go_num, HF2.out⟩
      case measure => simp [intOf]; omega
    · go_wp2
      go_ret
      exact ⟨rfl, HF.out⟩
/-- What marking writes. -/
def markedC (n : Nat) (q : Int) : List (Int × Int) := (List.range n).map fun j : Nat => (q + 2 * (j : Int), q + 2 * (j : Int) + 1)
theorem markedC_length (n : Nat) (q : Int) : (markedC n q).length = n := by simp [markedC]
theorem markedC_succ (n : Nat) (q : Int) : markedC (n + 1) q = markedC n q ++ [(q + 2 * (n : Int), q + 2 * (n : Int) + 1)] := by simp [markedC, List.range_succ]
theorem markedC_getD (n : Nat) (q : Int) (j : Nat) (h : j < n) : (markedC n q).getD j (0, 0) = (q + 2 * (j : Int), q + 2 * (j : Int) + 1) := by simp [markedC, List.getD_eq_getElem?_getD, h]
theorem drop_getD {α : Type} (xs : List α) (d : α) (k : Nat) (h : k < xs.length) : xs.drop k = xs.getD k d :: xs.drop (k + 1) := by
  rw [List.drop_eq_getElem_cons h]; simp [List.getD_eq_getElem?_getD, h]

set_option maxHeartbeats 400000 in
theorem markCardS_any (a : Option Addr) (cap : Nat) (xs : List (Int × Int)) (q : Int) (w : World) (base : Nat) (ho : Own w base 63 2 (.slice a xs.length cap) xs.length (cards xs)) (hn : xs.length ≤ 1048576) (hq : 0 ≤ q) (hq2 : q ≤ 1099511627776) :
    Calls Try.prog 32 #[.slice a xs.length cap, .int .i64 q] w fun e w' => e = .returned (.int .i64 (q + 2 * (xs.length : Int))) ∧ Own w' base 63 2 (.slice a xs.length cap) xs.length (cards (markedC xs.length q)) ∧ Fr w.heap.size (Value.slice a xs.length cap).ownBlock w w' := by
  have HO := Lib.hid ho; clear ho
  go_enter Try.func32, Try.ntmps32
  go_wp2
  go_loopw [1, 5] (fun c i wr => ∃ k : Nat, k ≤ xs.length ∧ i = .int .i64 k ∧ c = .int .i64 (q + 2 * (k : Int)) ∧ Own wr base 63 2 (.slice a xs.length cap) xs.length (cards (markedC k q ++ xs.drop k)) ∧ Fr w.heap.size (Value.slice a xs.length cap).ownBlock w wr) (fun _ i _ => xs.length - (intOf i).toNat)
  case atStart => exact ⟨0, Nat.zero_le _, rfl, by go_num, by simpa [markedC] using HO.out, Fr.refl _ _ _⟩
  case round =>
    obtain ⟨k, hk, rfl, rfl, ho, hF⟩ := hrel
    have HF := Lib.hid hF; clear hF
    by_cases hlt : k < xs.length
    · obtain ⟨g, rfl⟩ : ∃ g, a = some ⟨g, 0, none⟩ := by
        rcases ho.2 with ⟨h', h0⟩ | ⟨g, cap', cur, h', _⟩
        · omega
        · simp only [Value.slice.injEq] at h'; exact ⟨g, h'.1⟩
      have hA : Hid ((cards (markedC k q)).length = k * 2) := by rw [cards_length, markedC_length]; rfl
      have ho2 : Hid (Own wr base 63 2 (.slice (some ⟨g, 0, none⟩) xs.length cap) xs.length (cards (markedC k q) ++ ([.int .i64 (xs.getD k (0, 0)).1, .int .i64 (xs.getD k (0, 0)).2] ++ cards (xs.drop (k + 1))))) := by
        rw [drop_getD xs (0, 0) k hlt, cards, rows_append] at ho; exact ho
      obtain ⟨g1, g2, g3, g4⟩ := ownO_get2 k hA.out ho2.out
      have O3 : Hid (Own ((wr.setCell ⟨g, k * 2, none⟩ (.int .i64 (q + 2 * (k : Int)))).setCell ⟨g, k * 2 + 1, none⟩ (.int .i64 (q + 2 * (k : Int) + 1))) base 63 2 (.slice (some ⟨g, 0, none⟩) xs.length cap) xs.length (cards (markedC (k + 1) q ++ xs.drop (k + 1)))) := by
        have := ownO_set2 k (.int .i64 (q + 2 * (k : Int))) (.int .i64 (q + 2 * (k : Int) + 1)) hA.out ho2.out
        rw [markedC_succ, cards, rows_append, rows_append, rows_one, List.append_assoc]; exact this
      have F3 := Lib.hid ((HF.out.setCell (p := ⟨g, k * 2, none⟩) (.inr rfl) (.int .i64 (q + 2 * (k : Int)))).setCell (p := ⟨g, k * 2 + 1, none⟩) (.inr rfl) (.int .i64 (q + 2 * (k : Int) + 1)))
      clear ho
      generalize (xs.getD k (0, 0)).1 = x1 at *
      generalize (xs.getD k (0, 0)).2 = x2 at *
      go_wp2
      go_roundw
      case rel => exact ⟨k + 1, by omega, by go_num, by go_num, O3.out, F3.out⟩
      case measure => simp [intOf]; omega
    · have hkk : k = xs.length := by omega
      have HO' : Hid (Own wr base 63 2 (.slice a xs.length cap) xs.length (cards (markedC xs.length q))) := by
        rw [hkk, List.drop_length, List.append_nil] at ho; exact ho
      have hq' := Lib.hid (show q + 2 * (k : Int) = q + 2 * (xs.length : Int) by omega)
      clear hkk ho
      go_wp2
      go_ret
      exact ⟨ret_int hq'.out, HO'.out, HF.out⟩

theorem heldCardS_any (a : Option Addr) (cap n : Nat) (q : Int) (w : World) (hs : Sl w a (cards (markedC n q))) (hn : n ≤ 1048576) (hq : 0 ≤ q) (hq2 : q ≤ 1099511627776) :
    Calls Try.prog 34 #[.slice a n cap, .int .i64 q] w fun e w' => e = .returned (.int .i64 (q + 2 * (n : Int))) ∧ Fr w.heap.size none w w' := by
  have HS := Lib.hid hs; clear hs
  go_enter Try.func34, Try.ntmps34
  go_wp2
  go_loop [1, 5] (fun c i => ∃ k : Nat, k ≤ n ∧ i = .int .i64 k ∧ c = .int .i64 (q + 2 * (k : Int))) (fun _ i => n - (intOf i).toNat)
  case atStart => exact ⟨0, Nat.zero_le _, rfl, by go_num⟩
  case round =>
    obtain ⟨k, hk, rfl, rfl⟩ := hrel
    by_cases hlt : k < n
    · obtain ⟨b, off, rfl, hc0, hc1, hc2⟩ := HS.out.card k (by rw [markedC_length]; exact hlt)
      rw [markedC_getD n q k hlt] at hc0 hc1 hc2
      go_wp2
      go_round
      case rel => exact ⟨k + 1, by omega, by go_num, by go_num⟩
      case measure => simp [intOf]; omega
    · have hq' := Lib.hid (show q + 2 * (k : Int) = q + 2 * (n : Int) by omega)
      go_wp2
      go_ret
      exact ⟨ret_int hq'.out, Fr.refl _ _ _⟩
end Go.Proofs.Ytoedenmimcmkoaa
