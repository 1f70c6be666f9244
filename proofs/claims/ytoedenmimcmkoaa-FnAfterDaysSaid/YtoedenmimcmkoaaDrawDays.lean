/-
  Contracts: the draws DrawAfterDays and DrawQuestionsUpTo.
-/
import Derived.Test.YtoedenmimcmkoaaDrawDeckB
namespace Go.Proofs.Ytoedenmimcmkoaa
open Go.RowKit

/-- A deck, two days and answers are drawn. -/
def DrawnDays (w : World) (e : Ending) (w' : World) : Prop :=
  ∃ a cap, ∃ xs : List (Int × Int), ∃ d1 d2 : Int, ∃ b cb, ∃ ks : List Int, e = .returned (.tuple #[.slice a xs.length cap, .int .i64 d1, .int .i64 d2, .slice b ks.length cb]) ∧ w'.ownsRow w.heap.size 63 2 (.slice a xs.length cap) xs.length (cards xs) ∧ xs.length ≤ 9 ∧ -1000 ≤ d1 ∧ d1 ≤ 1000 ∧ -1000 ≤ d2 ∧ d2 ≤ 1000 ∧
    w'.ownsRow w.heap.size 3 1 (.slice b ks.length cb) ks.length (ints ks) ∧ ks.length ≤ 13 ∧ Fr w.heap.size none w w'
theorem drawAfterDays_any (a : Option Addr) (cap : Nat) (bs : List Int) (w : World) (hs : Sl w a (u8s bs)) (hb : ∀ x ∈ bs, 0 ≤ x ∧ x ≤ 255) (hn : bs.length ≤ 1048576) (hcap : bs.length ≤ cap) :
    Calls Try.prog 23 #[.slice a bs.length cap] w (DrawnDays w) := by
  have HS := Lib.hid hs; have HB := Lib.hid hb; clear hs hb
  go_enter Try.func23, Try.ntmps23
  go_wp2_with fail
  refine (l20Open_any a cap bs _ HS.out HB.out hn hcap).mono ?_; rintro e w1 ⟨B, rfl, hB, hR, hF⟩
  have z1 := hF.size
  go_wp2_with fail
  refine (l20Deck_any B 0 _ _ hR (by omega) (by omega)).mono ?_; rintro e w2 ⟨va, vc, xs, rfl, ho, hl, hR2, hF2⟩
  have HF := Lib.hid (hF.trans (hF2.up (B' := w.heap.size) hF.size (by intro g hg; cases hg; exact hB)))
  have z2 := hF2.size
  have hBl := hR.lt
  have HO := Lib.hid ho
  clear hF hF2 hR ho
  go_wp2_with fail
  refine (pick_any B _ _ _ hR2 (by omega)).mono ?_; rintro e w3 ⟨p3, rfl, hp3, hR3, hF3⟩
  have HF3 := Lib.hid (HF.out.trans (hF3.up (B' := w.heap.size) (by omega) (by intro g hg; cases hg; exact hB)))
  have HO3 := Lib.hid (own_past HO.out hF3 hBl)
  have z3 := hF3.size
  obtain ⟨a3, b3, _⟩ := hp3
  have c3 := b3 (by omega)
  clear hF3 hR2 b3
  go_wp2_with fail
  refine (pick_any B _ _ _ hR3 (by omega)).mono ?_; rintro e w4 ⟨p4, rfl, hp4, hR4, hF4⟩
  have HF4 := Lib.hid (HF3.out.trans (hF4.up (B' := w.heap.size) (by omega) (by intro g hg; cases hg; exact hB)))
  have HO4 := Lib.hid (own_past HO3.out hF4 hBl)
  have z4 := hF4.size
  obtain ⟨a4, b4, _⟩ := hp4
  have c4 := b4 (by omega)
  clear hF4 hR3 b4
  go_wp2_with fail
  refine (pick_any B _ _ _ hR4 (by omega)).mono ?_; rintro e w5 ⟨p5, rfl, hp5, hR5, hF5⟩
  have HF5 := Lib.hid (HF4.out.trans (hF5.up (B' := w.heap.size) (by omega) (by intro g hg; cases hg; exact hB)))
  have HO5 := Lib.hid (own_past HO4.out hF5 hBl)
  have z5 := hF5.size
  obtain ⟨a5, b5, _⟩ := hp5
  have c5 := b5 (by omega)
  clear hF5 hR4 b5
  have d5 := one_of' a5 c5
  go_wp2_with fail
  refine (l20Answers_any B _ _ _ _ _ hR5 (by omega) (by omega)).mono ?_; rintro e w6 ⟨ka, kc, ks, rfl, ko, kl, hR6, hF6⟩
  have HF6 := Lib.hid (HF5.out.trans (hF6.up (B' := w.heap.size) (by omega) (by intro g hg; cases hg; exact hB)))
  have HO6 := Lib.hid (own_base (own_past HO5.out hF6 hBl) z1)
  have KO := Lib.hid (own_base ko (by omega : w.heap.size ≤ w5.heap.size))
  clear hF6 hR5 hR6 ko
  go_wp2
  refine bodyPost_ret (v := .tuple #[.slice va xs.length vc, .int .i64 p3, .int .i64 (p3 + p4 - p5 / 19 * 30), .slice ka ks.length kc]) (by simp [results, Try.results23, go_sem]) rfl ?_
  exact ⟨_, _, xs, _, _, _, _, ks, rfl, HO6.out, hl, by omega, by omega, by omega, by omega, KO.out, kl, HF6.out⟩

/-- A day and a number are drawn. -/
def DrawnTwo (w : World) (e : Ending) (w' : World) : Prop :=
  ∃ d k : Int, e = .returned (.tuple #[.int .i64 d, .int .i64 k]) ∧ -1000 ≤ d ∧ d ≤ 1000 ∧ -1000 ≤ k ∧ k ≤ 1000 ∧ Fr w.heap.size none w w'
theorem drawQuestionsUpTo_any (a : Option Addr) (cap : Nat) (bs : List Int) (w : World) (hs : Sl w a (u8s bs)) (hb : ∀ x ∈ bs, 0 ≤ x ∧ x ≤ 255) (hn : bs.length ≤ 1048576) (hcap : bs.length ≤ cap) :
    Calls Try.prog 40 #[.slice a bs.length cap] w (DrawnTwo w) := by
  have HS := Lib.hid hs; have HB := Lib.hid hb; clear hs hb
  go_enter Try.func40, Try.ntmps40
  go_wp2_with fail
  refine (l20Open_any a cap bs _ HS.out HB.out hn hcap).mono ?_; rintro e w1 ⟨B, rfl, hB, hR2, hF⟩
  have z2 := hF.size
  have hBl := hR2.lt
  have HF := Lib.hid hF
  clear hF
  go_wp2_with fail
  refine (pick_any B _ _ _ hR2 (by omega)).mono ?_; rintro e w3 ⟨p3, rfl, hp3, hR3, hF3⟩
  have HF3 := Lib.hid (HF.out.trans (hF3.up (B' := w.heap.size) (by omega) (by intro g hg; cases hg; exact hB)))
  have z3 := hF3.size
  obtain ⟨a3, b3, _⟩ := hp3
  have c3 := b3 (by omega)
  clear hF3 hR2 b3
  go_wp2_with fail
  refine (pick_any B _ _ _ hR3 (by omega)).mono ?_; rintro e w4 ⟨p4, rfl, hp4, hR4, hF4⟩
  have HF4 := Lib.hid (HF3.out.trans (hF4.up (B' := w.heap.size) (by omega) (by intro g hg; cases hg; exact hB)))
  have z4 := hF4.size
  obtain ⟨a4, b4, _⟩ := hp4
  have c4 := b4 (by omega)
  clear hF4 hR3 b4
  have d4 := one_of' a4 c4
  go_wp2_with fail
  refine (pick_any B _ _ _ hR4 (by omega)).mono ?_; rintro e w5 ⟨p5, rfl, hp5, hR5, hF5⟩
  have HF5 := Lib.hid (HF4.out.trans (hF5.up (B' := w.heap.size) (by omega) (by intro g hg; cases hg; exact hB)))
  have z5 := hF5.size
  obtain ⟨a5, b5, _⟩ := hp5
  have c5 := b5 (by omega)
  clear hF5 hR4 b5
  go_wp2_with fail
  refine (pick_any B _ _ _ hR5 (by omega)).mono ?_; rintro e w6 ⟨p6, rfl, hp6, hR6, hF6⟩
  have HF6 := Lib.hid (HF5.out.trans (hF6.up (B' := w.heap.size) (by omega) (by intro g hg; cases hg; exact hB)))
  have z6 := hF6.size
  obtain ⟨a6, b6, _⟩ := hp6
  have c6 := b6 (by omega)
  clear hF6 hR5 b6
  have d6 := one_of' a6 c6
  go_wp2
  go_ret2
  exact ⟨_, _, rfl, by omega, by omega, by omega, by omega, HF6.out⟩
end Go.Proofs.Ytoedenmimcmkoaa
