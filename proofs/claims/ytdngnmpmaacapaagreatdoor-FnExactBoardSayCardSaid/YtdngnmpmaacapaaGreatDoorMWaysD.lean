/-
  Merged: WaysD.
-/
import Derived.Test.YtdngnmpmaacapaaGreatDoorMWaysA
import Derived.Test.YtdngnmpmaacapaaGreatDoorMCore
import Derived.Deep.Cut
import Derived.Deep.CutRange
import Derived.Deep.CutBlock
set_option linter.unusedVariables false
set_option linter.unusedSimpArgs false
/-
  Contracts: takenBy of the program, as a function.
-/
namespace Go.Proofs.YtdngnmpmaacapaaGreatDoor
open Go.RowKit

theorem tk_step {s t : ByteArray} {m1 m2 m4 m8 : Int} {k : Nat} {l : List Int} {a c b x y : Int} {q : Bool} (ha : digI s k = a) (hc : digI t k = c) (hq : decide (k < t.size) = q) (hl : tkI s t m1 m2 m4 m8 k = (l, b)) (h : wrD a c b m1 m2 m4 m8 q = (x, y)) :
    tkI s t m1 m2 m4 m8 (k + 1) = (l ++ [x], y) := by
  subst ha; subst hc; subst hq
  simp only [tkI, hl, h]
theorem app_ints {w : World} {B : Nat} {v : Value} {xs : List Int} {x : Int} (h : w.ownsRow B 3 1 v (xs.length + 1) (ints xs ++ [.int .i64 x])) :
    ∃ a c, v = .slice a (xs ++ [x]).length c ∧ w.ownsRow B 3 1 (.slice a (xs ++ [x]).length c) (xs ++ [x]).length (ints (xs ++ [x])) := by
  obtain ⟨a, c, rfl, _, _⟩ := own_slice h
  have e : (xs ++ [x]).length = xs.length + 1 := by simp
  have e2 : ints (xs ++ [x]) = ints xs ++ [.int .i64 x] := ints_append xs [x]
  exact ⟨a, c, by rw [e], by rw [e, e2]; exact h⟩
theorem tb_end {s t : ByteArray} {way m1 m2 m4 m8 b : Int} {k : Nat} {xs : List Int} (h1 : bits .and .i64 way 1 = m1) (h2 : bits .and .i64 way 2 = m2) (h4 : bits .and .i64 way 4 = m4) (h8 : bits .and .i64 way 8 = m8) (hk : k = s.size) (h : tkI s t m1 m2 m4 m8 k = (xs, b)) : plainT xs.reverse = tbI s t way := by
  subst h1; subst h2; subst h4; subst h8; subst hk
  unfold tbI; rw [h]

theorem wrD_1 {a c b m1 m2 m4 m8 : Int} {q : Bool} (h : (m4 != 0 && a == 0 && c != 0) = true) : wrD a c b m1 m2 m4 m8 q = (c, 0) := by
  simp [and_assoc] at h
  unfold wrD; rw [if_pos h]
theorem wrD_2 {a c b m1 m2 m4 m8 : Int} {q : Bool} (h : (m4 != 0 && a == 0 && c != 0) = false) (h2 : (m8 != 0 && c == 0 && q) = true) : wrD a c b m1 m2 m4 m8 q = (0, 0) := by
  have h1 : ¬ (m4 ≠ 0 ∧ a = 0 ∧ c ≠ 0) := by intro e; simp [e.1, e.2.1, e.2.2] at h
  simp [and_assoc] at h2
  unfold wrD; rw [if_neg h1, if_pos h2]
theorem wrD_3 {a c b m1 m2 m4 m8 : Int} {q : Bool} (h : (m4 != 0 && a == 0 && c != 0) = false) (h2 : (m8 != 0 && c == 0 && q) = false) : wrD a c b m1 m2 m4 m8 q = if m1 ≠ 0 then (max (a - c) (c - a), 0) else if (if m2 = 0 then a - c - b else a - c) < 0 then ((if m2 = 0 then a - c - b else a - c) + 10, 1) else ((if m2 = 0 then a - c - b else a - c), 0) := by
  have h1 : ¬ (m4 ≠ 0 ∧ a = 0 ∧ c ≠ 0) := by intro e; simp [e.1, e.2.1, e.2.2] at h
  have h3 : ¬ (m8 ≠ 0 ∧ c = 0 ∧ q = true) := by intro e; simp [e.1, e.2.1, e.2.2] at h2
  unfold wrD; rw [if_neg h1, if_neg h3]

set_option maxHeartbeats 8000000 in
set_option maxRecDepth 100000 in
theorem takenBy_fn (s t : ByteArray) (way : Int) (w : World) (hs : numOk s = true) (ht : numOk t = true) (hw : 0 ≤ way ∧ way ≤ 15) :
    Calls Tryz.prog 140 #[.string s, .string t, .int .i64 way] w fun e w' => e = .returned (.string (tbI s t way)) ∧ Fr w.heap.size none w w' := by
  obtain ⟨hw0, hw1⟩ := hw
  obtain ⟨m1, g1⟩ : ∃ m, bits .and .i64 way 1 = m := ⟨_, rfl⟩
  obtain ⟨m2, g2⟩ : ∃ m, bits .and .i64 way 2 = m := ⟨_, rfl⟩
  obtain ⟨m4, g4⟩ : ∃ m, bits .and .i64 way 4 = m := ⟨_, rfl⟩
  obtain ⟨m8, g8⟩ : ∃ m, bits .and .i64 way 8 = m := ⟨_, rfl⟩
  have hps := num_len hs
  have BD := Lib.hid (fun k => tkI_bd hs ht m1 m2 m4 m8 k)
  have DS := Lib.hid (fun (k : Nat) W (hk : k ≤ 100) => digit_any s k W hs hk)
  have DT := Lib.hid (fun (k : Nat) W (hk : k ≤ 100) => digit_any t k W ht hk)
  have BS := Lib.hid (fun k => digI_bd hs k)
  have BT := Lib.hid (fun k => digI_bd ht k)
  have TE := Lib.hid (fun (k : Nat) xs b hk h => tb_end (s := s) (t := t) (k := k) (xs := xs) (b := b) g1 g2 g4 g8 hk h)
  have htl := num_len ht
  clear hs ht
  go_enter Tryz.func140, Tryz.ntmps140
  go_wp2
  go_loopw [7, 8, 18] (fun v bo i wr => ∃ (k : Nat) (xs : List Int) (b : Int) (a : Option Addr) (c : Nat), k ≤ s.size ∧ i = .int .i64 k ∧ bo = .int .i64 b ∧ v = .slice a xs.length c ∧ Hid (tkI s t m1 m2 m4 m8 k = (xs, b)) ∧ wr.ownsRow w.heap.size 3 1 (.slice a xs.length c) xs.length (ints xs) ∧ Fr w.heap.size none w wr) (fun _ _ i _ => s.size - (intOf i).toNat)
  case atStart => exact ⟨0, [], 0, none, 0, Nat.zero_le _, rfl, rfl, rfl, rfl, World.ownsRow_nil _ _ _ _, Fr.refl _ _ _⟩
  case round =>
    obtain ⟨k, xs, b, a, c, hk, rfl, rfl, rfl, hT, ho, hF⟩ := hrel
    have HO := Lib.hid ho; have HF := Lib.hid hF; have hz := hF.size; clear ho hF
    have hbd := BD.out k
    rw [hT.out] at hbd
    obtain ⟨hx, hb, hl⟩ := hbd
    dsimp only at hx hb hl
    have HX := Lib.hid hx; have HL := Lib.hid hl
    have hl9 : xs.length ≤ 9 := by omega
    clear hx hl
    by_cases hlt : k < s.size
    · have hlt' : (k : Int) < (s.size : Int) := by omega
      have k0 : (0 : Int) ≤ (k : Int) := by omega
      have ds := Lib.hid (fun W => DS.out k W (by omega))
      have dt := Lib.hid (fun W => DT.out k W (by omega))
      have bs := BS.out k
      have bt := BT.out k
      obtain ⟨q, hq⟩ : ∃ q, decide (k < t.size) = q := ⟨_, rfl⟩
      have ts := Lib.hid (fun x y h => tk_step (x := x) (y := y) rfl rfl hq hT.out h)
      have hin : q = true ∧ (k : Int) < (t.size : Int) ∨ q = false ∧ (t.size : Int) ≤ (k : Int) := by
        by_cases h : k < t.size
        · left; exact ⟨by rw [← hq]; simp [h], by omega⟩
        · right; exact ⟨by rw [← hq]; simp [h], by omega⟩
      clear hq
      generalize digI s k = d1 at *
      generalize digI t k = d2 at *
      go_wp2_with fail
      refine (ds.out _).mono ?_; rintro e w' ⟨rfl, rfl⟩
      go_wp2_with fail
      refine (dt.out _).mono ?_; rintro e w' ⟨rfl, rfl⟩
      clear TE BD ds dt DS DT BS BT
      go_upto_block 2 with fail
      obtain ⟨n4, hn4⟩ : ∃ n, (m4 != 0) = n := ⟨_, rfl⟩
      obtain ⟨e1, he1⟩ : ∃ n, (d1 == 0) = n := ⟨_, rfl⟩
      obtain ⟨f2, hf2⟩ : ∃ n, (d2 != 0) = n := ⟨_, rfl⟩
      obtain ⟨n8, hn8⟩ : ∃ n, (m8 != 0) = n := ⟨_, rfl⟩
      obtain ⟨e2, he2⟩ : ∃ n, (d2 == 0) = n := ⟨_, rfl⟩
      have W1 := Lib.hid (fun h => wrD_1 (a := d1) (c := d2) (b := b) (m1 := m1) (m2 := m2) (m4 := m4) (m8 := m8) (q := q) h)
      have W2 := Lib.hid (fun h h2 => wrD_2 (a := d1) (c := d2) (b := b) (m1 := m1) (m2 := m2) (m4 := m4) (m8 := m8) (q := q) h h2)
      have W3 := Lib.hid (fun h h2 => wrD_3 (a := d1) (c := d2) (b := b) (m1 := m1) (m2 := m2) (m4 := m4) (m8 := m8) (q := q) h h2)
      rw [hn4, he1, hf2] at W1 W2 W3
      rw [hn8, he2] at W2 W3
      generalize wrD d1 d2 b m1 m2 m4 m8 q = r at *
      obtain ⟨y1, y2⟩ := r
      have T1 := Lib.hid (ts.out y1 y2 rfl); clear ts
      go_cut [8, 13, 18] from 18 to 83 (fun s8 s13 s18 wx => s8 = .int .i64 y2 ∧ s13 = .int .i64 y1 ∧ s18 = .int .i64 (k : Int) ∧ wx = wr)
      case first =>
        go_upto_region 16 with fail
        go_cut [18, 41] from 18 to 83 (fun s18 s41 wx => s18 = .int .i64 (k : Int) ∧ s41 = .bool (n4 && e1 && f2) ∧ wx = wr)
        case first =>
          clear W1 W2 W3 T1 hn8 he2
          cases n4 <;> cases e1 <;> cases f2 <;> (go_wp2; go_meet; exact ⟨rfl, rfl, rfl⟩)
        case rest =>
          obtain ⟨rfl, rfl, rfl⟩ := hcut
          obtain ⟨p, hp⟩ : ∃ n, (n4 && e1 && f2) = n := ⟨_, rfl⟩
          rw [hp] at W1 W2 W3
          rw [hp]
          clear hp
          cases p
          · go_upto_region 18 with fail
            go_cut [18, 54] from 18 to 83 (fun s18 s54 wx => s18 = .int .i64 (k : Int) ∧ s54 = .bool (n8 && e2 && q) ∧ wx = wc)
            case first =>
              clear W1 W2 W3 T1
              rcases hin with ⟨rfl, hin⟩ | ⟨rfl, hin⟩ <;> cases n8 <;> cases e2 <;> (go_wp2; go_meet; exact ⟨rfl, by first | rfl | (simp; omega), rfl⟩)
            case rest =>
              obtain ⟨rfl, rfl, rfl⟩ := hcut
              obtain ⟨p2, hp2⟩ : ∃ n, (n8 && e2 && q) = n := ⟨_, rfl⟩
              rw [hp2] at W2 W3
              rw [hp2]
              clear hp2 hin T1 W1 he1 he2 hf2 hn4 hn8
              cases p2
              · have W4 := Lib.hid (W3.out rfl rfl)
                clear W2 W3
                by_cases c1 : m1 = 0
                · have b1 : (m1 != 0) = false := by simp [c1]
                  have W5 := W4.out
                  rw [if_neg (by simp [c1])] at W5
                  clear c1 W4
                  by_cases c2 : m2 = 0
                  · have b2 : (m2 == 0) = true := by simp [c2]
                    rw [if_pos c2] at W5
                    clear c2
                    by_cases c3 : d1 - d2 - b < 0
                    · rw [if_pos c3] at W5
                      have W6 := Lib.hid (Prod.mk.inj W5); clear W5
                      go_wp2
                      go_meet
                      exact ⟨by rw [W6.out.2], by rw [W6.out.1], rfl, rfl⟩
                    · rw [if_neg c3] at W5
                      have W6 := Lib.hid (Prod.mk.inj W5); clear W5
                      go_wp2
                      go_meet
                      exact ⟨by rw [W6.out.2], by rw [W6.out.1], rfl, rfl⟩
                  · have b2 : (m2 == 0) = false := by simp [c2]
                    rw [if_neg c2] at W5
                    clear c2
                    by_cases c3 : d1 - d2 < 0
                    · rw [if_pos c3] at W5
                      have W6 := Lib.hid (Prod.mk.inj W5); clear W5
                      go_wp2
                      go_meet
                      exact ⟨by rw [W6.out.2], by rw [W6.out.1], rfl, rfl⟩
                    · rw [if_neg c3] at W5
                      have W6 := Lib.hid (Prod.mk.inj W5); clear W5
                      go_wp2
                      go_meet
                      exact ⟨by rw [W6.out.2], by rw [W6.out.1], rfl, rfl⟩
                · have b1 : (m1 != 0) = true := by simp [c1]
                  have W5 := W4.out
                  rw [if_pos c1] at W5
                  have W6 := Lib.hid (Prod.mk.inj W5)
                  clear c1 W4 W5
                  go_wp2
                  go_meet
                  exact ⟨by rw [W6.out.2], by rw [W6.out.1], rfl, rfl⟩
              · have W6 := Lib.hid (Prod.mk.inj (W2.out rfl rfl))
                clear W2 W3
                go_wp2
                go_meet
                exact ⟨by rw [W6.out.2], by rw [W6.out.1], rfl, rfl⟩
          · have W6 := Lib.hid (Prod.mk.inj (W1.out rfl))
            clear W1 W2 W3
            go_wp2
            go_meet
            exact ⟨by rw [W6.out.2], by rw [W6.out.1], rfl, rfl⟩
      case rest =>
        obtain ⟨rfl, rfl, rfl, rfl⟩ := hcut
        clear W1 W2 W3 he1 he2 hf2 hn4 hn8
        go_upto_region 22 with fail
        go_wp2_with (at_builtin; refine app1 73 3 (.int .i64 0) 1 8 Tryz.underlying73 infoInt rfl (by decide) (by decide) rfl _ _ rfl [.int .i64 y1] HO.out rfl rfl rfl (by simp [Value.oneCell']) (by omega) hz ?_; intro v' w' ho' hF'; (
          have F2 := Lib.hid (app_frame HF.out HO.out hF' hz)
          obtain ⟨a', c', rfl, ho3⟩ := app_ints ho'
          have O3 := Lib.hid ho3
          clear ho' hF' ho3))
        go_roundw
        case rel => exact ⟨k + 1, xs ++ [y1], y2, a', c', by omega, by go_num, rfl, by first | rfl | simp, T1, O3.out, F2.out⟩
        case measure => simp [intOf]; omega
    · have hke : k = s.size := by omega
      have HTE := Lib.hid (TE.out k xs b hke hT.out)
      have hx1 : 0 < xs.length := by rw [HL.out]; omega
      obtain ⟨g, rfl⟩ := (Own.of HO.out).addr hx1
      have hg := (own_lt HO.out g rfl).1
      have CP : ∀ W, Sl W (some ⟨g, 0, none⟩) (ints xs.reverse) → Calls Tryz.prog 176 #[.slice (some ⟨g, 0, none⟩) xs.length c] W fun e w' => e = .returned (.tuple #[.string (plainT xs.reverse), .bool (plainOk xs.reverse)]) ∧ Fr W.heap.size none W w' := fun W h => by
        have := plain_any (some ⟨g, 0, none⟩) c xs.reverse W h (fun d hd => HX.out d (List.mem_reverse.1 hd)) (by rw [List.length_reverse]; omega)
        rwa [List.length_reverse] at this
      have CP := Lib.hid CP
      rw [HTE.out] at CP
      clear hke DS DT BS BT TE BD
      go_wp2_with fail
      refine (reverse_any g c xs _ _ (Own.of HO.out) (by omega)).mono ?_; rintro e w2 ⟨rfl, ho2, hF2⟩
      have F2 := Lib.hid (HF.out.trans (hF2.up (B' := w.heap.size) hz (by intro q hq; cases hq; exact hg)))
      have S2 := Lib.hid (Own.sl ho2)
      clear ho2 hF2
      go_wp2_with fail
      refine (CP.out _ S2.out).mono ?_; rintro e w3 ⟨rfl, hF3⟩
      have F3 := Lib.hid (F2.out.trans (hF3.mono F2.out.size))
      clear hF3
      go_wp2
      go_ret
      exact ⟨rfl, F3.out⟩
end Go.Proofs.YtdngnmpmaacapaaGreatDoor
