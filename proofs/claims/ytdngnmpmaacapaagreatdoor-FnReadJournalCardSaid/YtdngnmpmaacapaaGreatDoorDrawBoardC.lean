/-
  Contracts: the draws of the laws of boards.
-/
import Derived.Test.YtdngnmpmaacapaaGreatDoorDrawBoardB
import Derived.Test.YtdngnmpmaacapaaGreatDoorDrawDeeds
namespace Go.Proofs.YtdngnmpmaacapaaGreatDoor
open Go.RowKit

def DrawnTests (w : World) (e : Ending) (w' : World) : Prop := ∃ v, e = .returned v ∧ NewTiny 4 w' w.heap.size v ∧ Fr w.heap.size none w w'
def longDeeds : List Dd := List.replicate 41 noDeed
theorem long_cells : zrows zDeed 41 = deeds longDeeds := by rfl
theorem long_tiny : TinyD longDeeds := by
  intro x hx
  have : x = noDeed := List.eq_of_mem_replicate hx
  subst this; exact ⟨Nat.zero_le _, Nat.zero_le _, Nat.zero_le _⟩
def DrawnRun (w : World) (e : Ending) (w' : World) : Prop := ∃ v u, e = .returned (.tuple #[v, u]) ∧ NewTiny 4 w' w.heap.size v ∧ NewTinyD 41 w' w.heap.size u ∧ Fr w.heap.size none w w'
theorem newTiny_keep {m : Nat} {w w' : World} {b : Nat} {v : Value} (h : NewTiny m w b v) (hF : Fr w.heap.size none w w') : NewTiny m w' b v := by
  obtain ⟨a, c, ys, e, ho, hl, ht⟩ := h
  exact ⟨a, c, ys, e, row_keep ho hF, hl, ht⟩
theorem newTiny_past {m : Nat} {w w' : World} {b B : Nat} {v : Value} (h : NewTiny m w b v) (hF : Fr w.heap.size (some B) w w') (hB : B < b) : NewTiny m w' b v := by
  obtain ⟨a, c, ys, e, ho, hl, ht⟩ := h
  exact ⟨a, c, ys, e, row_past ho hF hB, hl, ht⟩
set_option maxHeartbeats 1000000 in
set_option maxRecDepth 100000 in
theorem drawBoardRun_any (a : Option Addr) (cap : Nat) (bs : List Int) (w : World) (hs : Sl w a (u8s bs)) (hb : ∀ x ∈ bs, 0 ≤ x ∧ x ≤ 255) (hn : bs.length ≤ 1048576) (hcap : bs.length ≤ cap) :
    Calls Tryz.prog 33 #[.slice a bs.length cap] w (DrawnRun w) := by
  have HS := Lib.hid hs; have HB := Lib.hid hb; clear hs hb
  go_enter Tryz.func33, Tryz.ntmps33
  go_wp2_with fail
  refine (l20Open_any a cap bs _ HS.out HB.out hn hcap).mono ?_; rintro e w1 ⟨B, rfl, hB, hR, hF⟩
  have hBl := hR.lt
  have z1 := hF.size
  go_wp2_with fail
  refine (l20Board_any B 0 12 _ hR (by omega) (by omega)).mono ?_; rintro e w2 ⟨v, rfl, hN, hR2, hF2⟩
  have G2 := Lib.hid (hF.trans (hF2.up (B' := w.heap.size) hF.size (by intro g hg; cases hg; exact hB)))
  have N2 := Lib.hid hN
  have R2 := Lib.hid hR2
  have z2 := hF2.size
  clear hF hF2 hR hR2 hN
  go_wp2_with fail
  refine (odd_any B _ 30 _ R2.out (by omega) (by omega)).mono ?_; rintro e w3 ⟨bo, rfl, _, hR3, hF3⟩
  have G3 := Lib.hid (G2.out.trans (hF3.up (B' := w.heap.size) (by omega) (by intro g hg; cases hg; exact hB)))
  have N3 := Lib.hid (newTiny_past N2.out hF3 hBl)
  have R3 := Lib.hid hR3
  have z3 := hF3.size
  clear hF3 hR3
  cases bo
  · go_wp2_with fail
    refine (l20Deeds_any B _ _ R3.out (by omega)).mono ?_; rintro e w4 ⟨u, rfl, ⟨au, cu, ds, rfl, hod, hld, htd⟩, hR4, hF4⟩
    have G4 := Lib.hid (G3.out.trans (hF4.up (B' := w.heap.size) (by omega) (by intro g hg; cases hg; exact hB)))
    have N4 := Lib.hid (newTiny_base (newTiny_past N3.out hF4 hBl) z1)
    have D4 := Lib.hid (own_base hod (by omega : w.heap.size ≤ w3.heap.size))
    have TD := Lib.hid htd
    clear hF4 hR4 hod htd
    go_wp2
    go_ret2
    exact ⟨_, _, rfl, N4.out, ⟨au, cu, ds, rfl, D4.out, by omega, TD.out⟩, G4.out⟩
  · obtain ⟨w4, hr, ho, hF4⟩ := mkDeeds 41 (by omega) w3.drew
    rw [long_cells] at ho
    have hr2 : (Instr.makeSlice 44 (.int .i64 41) (.int .i64 41)).run Tryz.prog w3.drew = .ok (.slice (some ⟨w3.drew.heap.size, 0, none⟩) 41 41) w4 := hr
    clear hr
    have D4 := Lib.hid (own_base ho (show w.heap.size ≤ w3.drew.heap.size by show w.heap.size ≤ w3.heap.size; omega))
    have G4 := Lib.hid (G3.out.drew.and hF4)
    have N4 := Lib.hid (newTiny_base (newTiny_keep N3.out ((Fr.refl w3.heap.size none w3).drew.and hF4)) z1)
    clear ho hF4
    go_wp2
    go_region
    go_wp2
    go_ret2
    exact ⟨_, _, rfl, N4.out, ⟨_, 41, longDeeds, rfl, D4.out, by decide, long_tiny⟩, G4.out⟩
end Go.Proofs.YtdngnmpmaacapaaGreatDoor
