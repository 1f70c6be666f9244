/-
  Merged: LiftStr.
-/
import Derived.Test.YtdngnmpmaacapaaGreatDoorMLiftTest
import Derived.Test.YtdngnmpmaacapaaGreatDoorMSay
set_option linter.unusedVariables false
set_option linter.unusedSimpArgs false
/-
  Opening a slice of texts.
-/
namespace Go.Proofs.YtdngnmpmaacapaaGreatDoor
open Go.ChangeShapes Go.WideShapes Go.ChangeAt Go.RowKit Go.Deep
theorem cellsStr : Tryz.prog.cellsOf 9 = 1 := by kernel_rfl
section OpenS
variable {H : Type} {enc : TypeId × Value → H} {W : World} {base fuel : Nat} {spare : Nat → Bool} {held : Bool} {x : DataW H × List MemPlace}
theorem strs_rows (xs : List ByteArray) : rows (fun s => [Value.string s]) xs = strs xs := by
  induction xs with
  | nil => rfl
  | cons y ys ih => simp [rows, strs] at ih ⊢; exact ih
theorem openStrs {a : Option Addr} {len cap : Nat}
    (h : DataW.trod enc Tryz.prog W base spare held fuel 32 [.slice a len cap] = some x) : ∃ cs : List ByteArray, cs.length = len ∧ Sl W a (strs cs) ∧ (cs.length ≤ 9223372036854775807 ∧ BigT cs) := by
  rcases open_slice Tryz.underlying32 h with ⟨h0, _⟩ | ⟨b, l, c, m, n, D, Pl, hcs, _, hl, hmax, hm, _, hi⟩
  · simp at h0
    obtain ⟨rfl, rfl, rfl⟩ := h0
    exact ⟨[], rfl, Sl.nil _ _, by simp, fun k => by simp only [List.getD_nil]; exact Nat.zero_le _⟩
  · simp at hcs
    obtain ⟨rfl, rfl, rfl⟩ := hcs
    have hlm : len ≤ m := by rw [hm]; split <;> omega
    have one : ∀ i, i < len → ∃ z : ByteArray, (∀ j, j < 1 → W.cell? (b.add (i * 1 + j)) = [Value.string z][j]?) ∧ z.size ≤ 9223372036854775807 := by
      intro i hil
      obtain ⟨cs', hc, ht'⟩ := hi i (by omega)
      obtain ⟨z, e0, _, hz⟩ := DataW.trod_string Tryz.underlying9 ht'
      subst e0
      obtain ⟨_, _, hat⟩ := World.cells?_some hc
      rw [cellsStr] at hat
      refine ⟨z, fun j hj => ?_, by unfold maxLen at hz; exact hz⟩
      have := hat j hj
      rw [Go.Deep.add_add] at this
      exact this
    obtain ⟨cs, hlen, hcs⟩ := pick_list _ len one
    have hS := Sl_rows (f := fun s => [Value.string s]) 1 (fun _ => rfl) (by omega) (fun k hk i hi3 => (hcs k hk).1 i hi3)
    rw [strs_rows] at hS
    refine ⟨cs, hlen, hS, by unfold maxLen at hmax; omega, ?_⟩
    intro k
    by_cases hk : k < cs.length
    · have := (hcs k hk).2
      simpa [List.getD_eq_getElem?_getD, hk] using this
    · rw [List.getD_eq_getElem?_getD, List.getElem?_eq_none (by omega)]; exact Nat.zero_le _
end OpenS
end Go.Proofs.YtdngnmpmaacapaaGreatDoor
