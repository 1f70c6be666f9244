/-
  Merged: Lift.
-/
import Derived.Test.YtdngnmpmaacapaaGreatDoorMBase
import Derived.Test.YtdngnmpmaacapaaGreatDoorRows
import Derived.ProofKit
import Derived.OpenShut
import Derived.ShutString
import Derived.ChangeOld
set_option linter.unusedVariables false
set_option linter.unusedSimpArgs false
/-
  What the step from a walk to a given statement shares: opening a slice of integers that came in.
-/
namespace Go.Proofs.YtdngnmpmaacapaaGreatDoor
open Go.ChangeShapes Go.WideShapes Go.ChangeAt Go.RowKit
theorem own : ownKnob Tryz.prog.godebug = none := by kernel_rfl
theorem laidOut : laidOutB Tryz.prog = true := by kernel_rfl
theorem rowNil (k : IntKind) (W : World) : ∃ xs : List Int, xs.length = 0 ∧ Sl W none (xs.map (Value.int k)) ∧ (∀ n ∈ xs, (Lit.int k n).wf = true) :=
  ⟨[], rfl, fun j hj => by simp at hj, by simp⟩
theorem rowOf {k : IntKind} {W : World} {x : Addr} {len cap : Nat} {zs : List Int} (hz : zs.length = cap) (hl : len ≤ cap)
    (hcell : ∀ i, i < zs.length → W.cell? (x.add i) = some (.int k (zs.getD i 0))) (hwz : ∀ n ∈ zs, (Lit.int k n).wf = true) :
    ∃ xs : List Int, xs.length = len ∧ Sl W (some x) (xs.map (Value.int k)) ∧ (∀ n ∈ xs, (Lit.int k n).wf = true) := by
  refine ⟨zs.take len, by rw [List.length_take]; omega, ?_, fun n hn => hwz n (List.mem_of_mem_take hn)⟩
  intro j hj
  have hj' : j < len ∧ j < zs.length := by simp at hj; omega
  have hc := hcell j hj'.2
  obtain ⟨b, off, spot⟩ := x
  have hspot : spot = none := by
    have h0 := hcell 0 (by omega)
    simpa [Addr.add] using World.cell?_spot h0
  subst hspot
  have ha : (⟨b, off, none⟩ : Addr).add j = ⟨b, off + j, none⟩ := by simp [Addr.add]
  rw [ha] at hc
  exact ⟨b, off, rfl, by rw [hc]; simp [List.getD_eq_getElem?_getD, hj'.2]⟩
theorem rowNilB (k : IntKind) (W : World) : ∃ xs : List Int, xs.length = 0 ∧ Sl W none (xs.map (Value.int k)) ∧ (∀ n ∈ xs, (Lit.int k n).wf = true) ∧ 0 ≤ 0 :=
  ⟨[], rfl, fun j hj => by simp at hj, by simp, Nat.le_refl _⟩
theorem rowOfB {k : IntKind} {W : World} {x : Addr} {len cap : Nat} {zs : List Int} (hz : zs.length = cap) (hl : len ≤ cap)
    (hcell : ∀ i, i < zs.length → W.cell? (x.add i) = some (.int k (zs.getD i 0))) (hwz : ∀ n ∈ zs, (Lit.int k n).wf = true) :
    ∃ xs : List Int, xs.length = len ∧ Sl W (some x) (xs.map (Value.int k)) ∧ (∀ n ∈ xs, (Lit.int k n).wf = true) ∧ len ≤ cap := by
  obtain ⟨xs, h1, h2, h3⟩ := rowOf hz hl hcell hwz
  exact ⟨xs, h1, h2, h3, hl⟩
theorem byteBd {xs : List Int} (h : ∀ n ∈ xs, (Lit.int .u8 n).wf = true) : ∀ n ∈ xs, 0 ≤ n ∧ n ≤ 255 := by
  intro n hn
  have := h n hn
  simp [Lit.wf, IntKind.min, IntKind.max, IntKind.signed, IntKind.bits] at this
  omega
end Go.Proofs.YtdngnmpmaacapaaGreatDoor
