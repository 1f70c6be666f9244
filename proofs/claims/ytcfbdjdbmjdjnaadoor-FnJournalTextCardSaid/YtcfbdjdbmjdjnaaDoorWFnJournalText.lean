/-
  Whatever the code, the law FnJournalText of the given program returns true, if the library's MaxLen holds a number.
-/
import Derived.Test.YtcfbdjdbmjdjnaaDoorDrawJ
import Derived.Test.YtcfbdjdbmjdjnaaDoorNum
namespace Go.Proofs.YtcfbdjdbmjdjnaaDoor.fnJournalText
open Go.RowKit
set_option maxHeartbeats 1000000 in
set_option maxRecDepth 100000 in
theorem drawJ_any (a : Option Addr) (cap : Nat) (bs : List Int) (w : World) (hs : Sl w a (u8s bs)) (hb : ∀ x ∈ bs, 0 ≤ x ∧ x ≤ 255) (hn : bs.length ≤ 1048576) (hcap : bs.length ≤ cap) :
    Calls Tryd.prog 21 #[.slice a bs.length cap] w fun e w' => ∃ v, e = .returned v ∧ NewTinyD 6 w' w.heap.size v ∧ Fr w.heap.size none w w' := by
  have HS := Lib.hid hs; have HB := Lib.hid hb; clear hs hb
  go_enter Tryd.func21, Tryd.ntmps21
  go_wp2_with fail
  refine (l20Open_any a cap bs _ HS.out HB.out hn hcap).mono ?_; rintro e w1 ⟨B, rfl, hB, hR, hF⟩
  have hBl := hR.lt
  have z1 := hF.size
  have G1 := Lib.hid hF
  have R1 := Lib.hid hR
  clear hF hR
  go_wp2_with fail
  refine (l20Written_any B 0 _ R1.out (by omega)).mono ?_; rintro e w2 ⟨v, rfl, ⟨g, c, ds, rfl, hd, hld, hTD⟩, hR2, hF2⟩
  have G2 := Lib.hid (G1.out.trans (hF2.up (B' := w.heap.size) G1.out.size (by intro g hg; cases hg; exact hB)))
  have R2 := Lib.hid hR2
  have D2 := Lib.hid hd
  have TD := Lib.hid hTD
  have z2 := hF2.size
  clear hF2 hR2 hd hTD
  go_wp2_with fail
  refine (odd_any B _ 12 _ R2.out (by omega) (by omega)).mono ?_; rintro e w3 ⟨bo, rfl, _, hR3, hF3⟩
  have G3 := Lib.hid (G2.out.trans (hF3.up (B' := w.heap.size) G2.out.size (by intro g hg; cases hg; exact hB)))
  have D3 := Lib.hid (own_base (rowD_past D2.out hF3 hBl) z1)
  have z3 := G3.out.size
  clear hF3 hR3
  cases bo
  · go_wp2
    go_ret
    exact ⟨_, rfl, ⟨g, c, ds, rfl, D3.out, by omega, TD.out⟩, G3.out⟩
  · go_wp2_with (at_builtin; refine app1 30 25 (.agg #[.bool false, .string ByteArray.empty, .string ByteArray.empty, .string ByteArray.empty]) 4 56 Tryd.underlying30 infoDeed rfl (by decide) (by decide) rfl _ _ rfl [.bool false, .string ⟨#[]⟩, .string ⟨#[]⟩, .string ⟨#[]⟩] D3.out rfl rfl rfl (by simp [Value.oneCell']) (by omega) z3 ?_; intro v' w' ho' hF'; (
      have F4 := Lib.hid (app_frame G3.out D3.out hF' z3)
      obtain ⟨a', c', rfl, ho3⟩ := app_deeds ho'
      have O4 := Lib.hid ho3
      have T4 := Lib.hid (tinyD_snoc TD.out (x := (false, ⟨#[]⟩, ⟨#[]⟩, ⟨#[]⟩)) ⟨Nat.zero_le _, Nat.zero_le _, Nat.zero_le _⟩)
      have L4 := Lib.hid (show (ds ++ [((false, ⟨#[]⟩, ⟨#[]⟩, ⟨#[]⟩) : Dd)]).length = ds.length + 1 by simp)
      clear ho' hF' ho3))
    go_ret
    exact ⟨_, rfl, ⟨a', c', _, by rw [L4.out]; rfl, O4.out, by rw [L4.out]; omega, T4.out⟩, F4.out⟩

set_option maxHeartbeats 2000000 in
theorem walk {w : World} (m : Int) (hm : w.cell? ⟨0, 0, none⟩ = some (.int .i64 m)) (a : Option Addr) (cap : Nat) (bs : List Int) (hs : Sl w a (bs.map (Value.int .u8))) (hb : ∀ x ∈ bs, 0 ≤ x ∧ x ≤ 255) (hcap : bs.length ≤ cap) :
    Calls Tryd.prog 7 #[.slice a bs.length cap] w fun e w' => e = .returned (.bool true) ∧ Fr w.heap.size none w w' := by
  have hb0 := World.block_lt_of_cell? w _ hm
  have HS : Hid (Sl w a (u8s bs)) := hs
  have HB := Lib.hid hb; clear hs hb
  by_cases hn : bs.length ≤ 1048576
  · go_enter Tryd.func7, Tryd.ntmps7
    go_wp2_with fail
    refine (drawJ_any a cap bs _ HS.out HB.out hn hcap).mono ?_; rintro e w1 ⟨v, rfl, ⟨g, c, ds, rfl, hd, hld, hTD⟩, hF⟩
    have G1 := Lib.hid hF
    have D1 := Lib.hid hd
    have TD := Lib.hid hTD.small
    have js := journal_size ds
    have RT := Lib.hid (fun h => readJ_text (ds := ds) h)
    have CI := Lib.hid (fun W hW => implJournal_any (some ⟨g, 0, none⟩) c ds W hW (by omega) TD.out)
    have CS := Lib.hid (fun W hW => specJournal_any (some ⟨g, 0, none⟩) c ds W hW (by omega) TD.out)
    generalize journalI ds = s at *
    clear hF hd hTD
    go_wp2_with fail
    refine (CI.out _ (own_sl D1.out)).mono ?_; rintro e w2 ⟨rfl, hF2⟩
    have G2 := Lib.hid (G1.out.and hF2)
    have D2 := Lib.hid (own_keep D1.out hF2)
    clear hF2
    go_wp2_with fail
    refine (CS.out _ (own_sl D2.out)).mono ?_; rintro e w3 ⟨rfl, hF3⟩
    have G3 := Lib.hid (G2.out.and hF3)
    have D3 := Lib.hid (own_keep D2.out hF3)
    clear hF3
    by_cases h0 : s = ⟨#[]⟩
    · subst h0
      go_wp2_with (go_at_call 19; refine (alive_any _).mono ?_; rintro e w' ⟨rfl, rfl⟩)
      go_ret
      exact ⟨rfl, G3.out⟩
    · have hne : s.toList.isEmpty = false := by
        cases h : s.toList.isEmpty
        · rfl
        · rw [List.isEmpty_iff] at h
          exact absurd ((toList_nil_iff_emptyBytes s).1 h) h0
      have hrd := RT.out h0
      have hm3 := (G3.out.cell (p := ⟨0, 0, none⟩) hb0 (by simp)).trans hm
      have CR := implReadJ_any s m w3 (by omega) hm3
      rw [hrd] at CR
      dsimp only at CR
      have CR := Lib.hid CR
      clear RT hrd
      go_wp2_with fail
      refine CR.out.mono ?_; rintro e w4 ⟨ra, rc, rfl, ro, hF4⟩
      have G4 := Lib.hid (G3.out.and hF4)
      have D4 := Lib.hid (own_keep D3.out hF4)
      have R4 := Lib.hid ro
      clear hF4 ro CR
      go_wp2_with fail
      refine (sameDeeds_any _ _ _ _ ds _ R4.out.sl (own_sl D4.out) (by omega)).mono ?_; rintro e w5 ⟨rfl, hF5⟩
      have G5 := Lib.hid (G4.out.and hF5)
      clear hF5
      go_wp2
      go_ret
      exact ⟨rfl, G5.out⟩
  · go_enter Tryd.func7, Tryd.ntmps7
    go_wp2
    go_ret
    exact ⟨rfl, Fr.refl _ _ _⟩
end Go.Proofs.YtcfbdjdbmjdjnaaDoor.fnJournalText
