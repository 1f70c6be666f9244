/-
  Merged: DrawDeeds.
-/
import Derived.Test.YtdngnmpmaacapaaGreatDoorMJournal
import Derived.Test.YtdngnmpmaacapaaGreatDoorMTestE
import Derived.Test.YtdngnmpmaacapaaGreatDoorMCore
set_option linter.unusedVariables false
set_option linter.unusedSimpArgs false
/-
  Contracts: the draws of deeds: a short new slice of short deeds.
-/
namespace Go.Proofs.YtdngnmpmaacapaaGreatDoor
open Go.RowKit

def TinyD (xs : List Dd) : Prop := ∀ x ∈ xs, tiny x.2
theorem tinyD_nil : TinyD [] := by intro x hx; simp at hx
theorem tinyD_snoc {xs : List Dd} {x : Dd} (h : TinyD xs) (hx : tiny x.2) : TinyD (xs ++ [x]) := by
  intro y hy; rcases List.mem_append.1 hy with h1 | h1
  · exact h y h1
  · simp at h1; subst h1; exact hx
theorem TinyD.small {xs : List Dd} (h : TinyD xs) : SmallD xs := fun x hx => tiny_small (h x hx)
theorem TinyD.at {xs : List Dd} (h : TinyD xs) (k : Nat) : tiny (xs.getD k noDeed).2 := by
  by_cases hk : k < xs.length
  · have : xs.getD k noDeed = xs[k] := by simp [List.getD_eq_getElem?_getD, hk]
    rw [this]; exact h _ (List.getElem_mem hk)
  · have : xs.getD k noDeed = noDeed := by simp [List.getD_eq_getElem?_getD, Nat.le_of_not_lt hk]
    rw [this]; exact ⟨Nat.zero_le _, Nat.zero_le _, Nat.zero_le _⟩
theorem rowD_past {w w' : World} {base : Nat} {e : TypeId} {k n B : Nat} {v : Value} {cs : List Value} (h : w.ownsRow base e k v n cs) (hF : Fr w.heap.size (some B) w w') (hB : B < base) : w'.ownsRow base e k v n cs :=
  own_frB h hF fun g hg => by have := h.lt g hg; exact ⟨this.2, by simp; omega⟩
/-- A new slice of short deeds. -/
def NewTinyD (m : Nat) (w : World) (base : Nat) (v : Value) : Prop := ∃ g cap, ∃ ys : List Dd, v = .slice (some ⟨g, 0, none⟩) ys.length cap ∧ w.ownsRow base 54 4 (.slice (some ⟨g, 0, none⟩) ys.length cap) ys.length (deeds ys) ∧ ys.length ≤ m ∧ TinyD ys
def RdDeeds (B N m : Nat) (w : World) (e : Ending) (w' : World) : Prop := ∃ v, e = .returned v ∧ NewTinyD m w' w.heap.size v ∧ Rdr w' B N ∧ Fr w.heap.size (some B) w w'
theorem app_deeds {w' : World} {base : Nat} {v' : Value} {xs : List Dd} {x0 : Bool} {x1 x2 x3 : ByteArray} (h : w'.ownsRow base 54 4 v' (xs.length + 1) (deeds xs ++ [.bool x0, .string x1, .string x2, .string x3])) :
    ∃ a c, v' = .slice (some ⟨a, 0, none⟩) (xs ++ [(x0, x1, x2, x3)]).length c ∧ w'.ownsRow base 54 4 (.slice (some ⟨a, 0, none⟩) (xs ++ [(x0, x1, x2, x3)]).length c) (xs ++ [(x0, x1, x2, x3)]).length (deeds (xs ++ [(x0, x1, x2, x3)])) := by
  have hl : (xs ++ [(x0, x1, x2, x3)]).length = xs.length + 1 := by simp
  obtain ⟨a, c, rfl, _, _⟩ := own_slice h
  obtain ⟨g, rfl⟩ := (Own.of h).addr (Nat.succ_pos _)
  exact ⟨g, c, by rw [hl], by rw [hl, deeds, rows_append, rows_one]; exact h⟩

set_option maxHeartbeats 4000000 in
set_option maxRecDepth 100000 in
theorem l20Deeds_any (B N : Nat) (w : World) (h : Rdr w B N) (hN : N ≤ 700000) :
    Calls Tryz.prog 73 #[.pointer (some ⟨B, 0, none⟩)] w (RdDeeds B (N + 2500) 5 w) := by
  have hBl := h.lt
  have R0 := Lib.hid (rdr_alloc h (.cells #[] 54))
  have O0 := Lib.hid (World.ownsRow_made (e := 54) (size := 4) (base := w.heap.size) w #[] 0 (Nat.le_refl _) (by simp [maxLen]) (by simp))
  have F0 := Lib.hid ((Fr.refl w.heap.size (some B) w).alloc (Nat.le_refl _) (.cells #[] 54))
  clear h
  go_enter Tryz.func73, Tryz.ntmps73
  go_wp2_with fail
  refine (pick_any B N _ _ R0.out (by omega)).mono ?_; rintro e w1 ⟨p, rfl, ⟨p0, p1, _⟩, hR1, hF1⟩
  have R1 := Lib.hid hR1; have O1 := Lib.hid (rowD_past O0.out hF1 hBl); have F1 := Lib.hid (fr_rd F0.out hF1); have p2 := p1 (by omega)
  clear hR1 hF1 p1
  obtain ⟨pn, rfl⟩ := Int.eq_ofNat_of_zero_le p0
  go_wp2
  go_loopw [3, 4] (fun v i wr => ∃ (k : Nat) (a : Nat) (c : Nat) (xs : List Dd), v = .slice (some ⟨a, 0, none⟩) xs.length c ∧ i = .int .i64 k ∧ k ≤ 5 ∧ xs.length + k ≤ 5 ∧ wr.ownsRow w.heap.size 54 4 (.slice (some ⟨a, 0, none⟩) xs.length c) xs.length (deeds xs) ∧ Hid (TinyD xs) ∧ Hid (Rdr wr B (N + 1 + 410 * xs.length)) ∧ Fr w.heap.size (some B) w wr) (fun _ i _ => (intOf i).toNat)
  case atStart => exact ⟨pn, w.heap.size, 0, [], rfl, rfl, by omega, by simp; omega, O1.out, tinyD_nil, R1.out, F1.out⟩
  case round =>
    obtain ⟨k, ao, co, xs, rfl, rfl, hk, hl, ho, hT, hR, hF⟩ := hrel
    have HO := Lib.hid ho; have HF := Lib.hid hF; have hz := hF.size; clear ho hF
    by_cases hk0 : 0 < k
    · have hk0' : (0 : Int) < (k : Int) := by omega
      go_wp2_with fail
      refine (l20Deed_any B _ _ hR.out (by omega)).mono ?_; rintro e w4 ⟨⟨d0, x1, x2, x3⟩, rfl, ht, hR2, hF2⟩
      have R4 := Lib.hid hR2; have O4 := Lib.hid (rowD_past HO.out hF2 hBl); have F4 := Lib.hid (fr_rd HF.out hF2); clear hR2 hF2
      have z4 := F4.out.size
      have HTY := Lib.hid ht
      clear ht
      dsimp only
      go_wp2_with (at_builtin; refine app1 44 54 (.agg #[.bool false, .string ByteArray.empty, .string ByteArray.empty, .string ByteArray.empty]) 4 56 Tryz.underlying44 infoDeed rfl (by decide) (by decide) rfl _ _ rfl [.bool d0, .string x1, .string x2, .string x3] O4.out rfl rfl rfl (by simp [Value.oneCell']) (by omega) z4 ?_; intro v' w' ho' hF')
      obtain ⟨a', c', rfl, ho3⟩ := app_deeds ho'
      have hl2 := Lib.hid (show (xs ++ [(d0, x1, x2, x3)]).length = xs.length + 1 by simp)
      have O5 := Lib.hid ho3
      have T5 := Lib.hid (tinyD_snoc hT.out HTY.out)
      have R5 := Lib.hid (show Rdr w' B (N + 1 + 410 * (xs ++ [(d0, x1, x2, x3)]).length) from (R4.out.fr hF' (by have := R4.out.lt; omega) (by intro g hg; have := own_lt O4.out g hg; omega)).mono (by rw [hl2.out]; omega))
      have F5 := Lib.hid (F4.out.trans ((hF'.up (B' := w.heap.size) z4 (by intro g hg; exact (own_lt O4.out g hg).1)).weak _))
      clear ho' hF' ho3
      go_wp2
      go_roundw
      case rel => exact ⟨k - 1, a', c', _, rfl, by go_num, by omega, by rw [hl2.out]; omega, O5.out, T5, R5, F5.out⟩
      case measure => simp [intOf]; omega
    · have hk1 : k = 0 := by omega
      subst hk1
      go_wp2
      go_ret
      exact ⟨_, rfl, ⟨ao, co, xs, rfl, HO.out, by omega, hT.out⟩, hR.out.mono (by omega), HF.out⟩
end Go.Proofs.YtdngnmpmaacapaaGreatDoor
