/-
  Merged: DivI DivS DivW QuoI QuoS.
-/
import Derived.Test.YtdngnmpmaacapaaGreatDoorMValC
import Derived.Test.YtdngnmpmaacapaaGreatDoorMRowsC
import Derived.Deep.RegionLawGrows
import Derived.Deep.Cut
import Derived.Deep.AppendLies
import Derived.Test.YtdngnmpmaacapaaGreatDoorMCore
import Derived.Test.YtdngnmpmaacapaaGreatDoorMWaysA
import Derived.Test.YtdngnmpmaacapaaGreatDoorMWaysE
import Derived.Test.YtdngnmpmaacapaaGreatDoorMTrim
set_option linter.unusedVariables false
set_option linter.unusedSimpArgs false
/-
  Contracts: DividedOf of the program.
-/
namespace Go.Proofs.YtdngnmpmaacapaaGreatDoor
open Go.RowKit

theorem infoStp : (Tryz.prog.info? 154).map (fun i => (i.zero, i.size, i.bytes)) = some (some (.agg #[.int .i64 0, .int .i64 0, .int .i64 0, .int .i64 0]), 4, 32) := by kernel_rfl
theorem app_stps' {w : World} {B : Nat} {v : Value} {xs ys : List Stp} {c1 c2 c3 c4 : Int} (h : w.ownsRow B 154 4 v (xs.length + 1) (stps xs ++ [.int .i64 c1, .int .i64 c2, .int .i64 c3, .int .i64 c4])) (e : xs ++ [(c1, c2, c3, c4)] = ys) :
    ∃ a cap, v = .slice a ys.length cap ∧ w.ownsRow B 154 4 (.slice a ys.length cap) ys.length (stps ys) := by
  subst e
  have hl : (xs ++ [(c1, c2, c3, c4)]).length = xs.length + 1 := by simp
  obtain ⟨a, c, rfl, _, _⟩ := own_slice h
  exact ⟨a, c, by rw [hl], by rw [hl, stps, rows_append, rows_one]; exact h⟩
theorem clipP_any (a : Option Addr) (cap n : Nat) (w : World) (hn : n ≤ cap) (hc : cap ≤ 9223372036854775807) :
    Calls Tryz.prog 195 #[.slice a n cap] w fun e w' => e = .returned (.slice a n n) ∧ w = w' := by
  go_enter Tryz.func195, Tryz.ntmps195
  go_wp2
  go_ret
  exact ⟨rfl, rfl⟩
/-- A step appended to a row of the call's own, as a step of a region that draws. -/
theorem stepOwnP {ops : Array Oper} {o : Oper} {a : Act} {w : World} {K : Act → World → Prop} {Q : Exit → Act → World → Prop} {E : Prop} {B : Nat}
    (hg : o.guard = none) (s x : Operand) (hop : o.op = Op.call { callee := Callee.builtin Builtin.append, args := #[s, x], argTypes := #[132, 132] })
    (v : Value) (n : Nat) (xs : List Stp) (c1 c2 c3 c4 : Int) (g : Nat) (hs : a.eval s = v) (ho : w.ownsRow B 154 4 v n (stps xs)) (hx : a.eval x = .slice (some ⟨g, 0, none⟩) 1 1)
    (hb : w.heap[g]? = some (.cells #[.int .i64 c1, .int .i64 c2, .int .i64 c3, .int .i64 c4] 154 (0, 0))) (hn : n ≤ 1048575) (hB : B ≤ w.heap.size)
    (hK : ∀ v' w', w'.ownsRow B 154 4 v' (n + 1) (stps xs ++ [.int .i64 c1, .int .i64 c2, .int .i64 c3, .int .i64 c4]) → Fr w.heap.size v.ownBlock w w' → K (a.put o.dst v') w') :
    if Region.wanted o (yielded ops a.tmps) = true then Oper.wp Tryz.prog o a w K Q else E := by
  have hw : Region.wanted o (yielded ops a.tmps) = true := by simp [Region.wanted, hg]
  rw [if_pos hw]
  obtain ⟨i0, hi, hz0, hz1, hz2⟩ := info_parts infoStp
  refine wp_append_own w s x 132 hop B 154 i0 (.agg #[.int .i64 0, .int .i64 0, .int .i64 0, .int .i64 0]) 4 32 Tryz.underlying132 hi hz0 hz1 hz2 rfl (by decide) v n (stps xs) hs ho ⟨g, 0, none⟩ 1 1 [.int .i64 c1, .int .i64 c2, .int .i64 c3, .int .i64 c4] hx rfl (World.news_of_block (cs := #[.int .i64 c1, .int .i64 c2, .int .i64 c3, .int .i64 c4]) (t := 154) (fr := (0, 0)) hb) (by simp [Value.oneCell']) (by simp [maxLen]; omega) (by omega) hB ?_
  intro v' w' hown hgrow _
  exact hK v' w' hown ((Fr.refl _ _ w).grown hgrow (Nat.le_refl _) (fun k hk => .inr hk.symm))
def NewP (cs : List Stp) (w : World) (e : Ending) (w' : World) : Prop := ∃ a cap, e = .returned (.slice a cs.length cap) ∧ Sl w' a (stps cs) ∧ Fr w.heap.size none w w'
theorem newP_of {xs cs : List Stp} {w w' : World} {a : Option Addr} {cap : Nat} (h : xs = cs) (hs : Sl w' a (stps xs)) (hF : Fr w.heap.size none w w') : NewP cs w (.returned (.slice a xs.length cap)) w' := by
  subst h; exact ⟨a, cap, rfl, hs, hF⟩

theorem implDivided_no (s : ByteArray) (d : Int) (w : World) (hs : s.size ≤ 1048576) (h : (numOk s && inB d 1 99) = false) : Calls Tryz.prog 156 #[.string s, .int .i64 d] w fun e w' => (∃ a cap, e = .returned (.slice a 0 cap)) ∧ Fr w.heap.size none w w' := by
  cases h1 : numOk s
  · have H1 := Lib.hid h1; clear h1 h
    go_enter Tryz.func156, Tryz.ntmps156
    go_wp2_with fail
    refine (num_val hs H1.out _).mono ?_; rintro e w' ⟨rfl, rfl⟩
    go_wp2
    go_ret
    exact ⟨⟨_, _, rfl⟩, Fr.refl _ _ _⟩
  · rw [h1] at h
    have H1 := Lib.hid h1; have H2 := Lib.hid (show inB d 1 99 = false by simpa using h); clear h1 h
    go_enter Tryz.func156, Tryz.ntmps156
    go_wp2_with fail
    refine (num_val hs H1.out _).mono ?_; rintro e w' ⟨rfl, rfl⟩
    go_wp2_with fail
    refine (in_val H2.out _).mono ?_; rintro e w' ⟨rfl, rfl⟩
    go_wp2
    go_ret
    exact ⟨⟨_, _, rfl⟩, Fr.refl _ _ _⟩
theorem divC_next {s : ByteArray} {d : Int} {k : Nat} {l : List Stp} {c n y q r : Int} (h : divC s d k = (l, c)) (hy : digF s k = y) (hn : 10 * c + y = n) (hq : n / d = q) (hr : n % d = r) : divC s d (k + 1) = (l ++ [(c, y, q, r)], r) := by
  subst hy; subst hq; subst hr; subst hn; exact divC_step h rfl

set_option maxHeartbeats 4000000 in
set_option maxRecDepth 100000 in
theorem implDivided_any (s : ByteArray) (d : Int) (w : World) (hs : numOk s = true) (hd : inB d 1 99 = true) :
    Calls Tryz.prog 156 #[.string s, .int .i64 d] w (NewP (divC s d s.size).1 w) := by
  have l1 := num_len hs
  have hd' := inB_true.1 hd
  have N1 := Lib.hid hs
  have ND := Lib.hid hd
  have DB := Lib.hid (fun k hk => dig_byte hs k hk)
  have DF := Lib.hid (fun k (hk : k < s.size) => digF_in hk)
  have BC := Lib.hid (fun k => divC_bd (s := s) (d := d) hd'.1 k)
  clear hs hd
  have d1 : 1 ≤ d := hd'.1
  have d2 : d ≤ 99 := hd'.2
  have hd0 : (d == 0) = false := by rw [beq_eq_false_iff_ne]; omega
  have hdn : ¬ d = 0 := by omega
  clear hd'
  go_enter Tryz.func156, Tryz.ntmps156
  go_wp2_with fail
  refine (num_val (by omega) N1.out _).mono ?_; rintro e w' ⟨rfl, rfl⟩
  go_wp2_with fail
  refine (in_val ND.out _).mono ?_; rintro e w' ⟨rfl, rfl⟩
  go_wp2
  go_loopw [5, 6, 20] (fun v le i wr => ∃ (k : Nat) (l : List Stp) (c : Int) (a : Option Addr) (cc : Nat), k ≤ s.size ∧ i = .int .i64 k ∧ le = .int .i64 c ∧ v = .slice a l.length cc ∧ Hid (divC s d k = (l, c)) ∧ wr.ownsRow w.heap.size 154 4 (.slice a l.length cc) l.length (stps l) ∧ Fr w.heap.size none w wr) (fun _ _ i _ => s.size - (intOf i).toNat)
  case atStart => exact ⟨0, [], 0, none, 0, Nat.zero_le _, rfl, rfl, rfl, rfl, World.ownsRow_nil _ _ _ _, Fr.refl _ _ _⟩
  case round =>
    obtain ⟨k, l, c, a, cc, hk, rfl, rfl, rfl, hC, ho, hF⟩ := hrel
    have HO := Lib.hid ho; have HF := Lib.hid hF; have hz := hF.size; clear ho hF
    have bc := BC.out k
    have hl := divC_len s d k
    rw [hC.out] at bc hl
    dsimp only at bc hl
    have hl9 : l.length ≤ 9 := by omega
    have HL := Lib.hid hl
    clear hl
    by_cases hlt : k < s.size
    · have k0 : (0 : Int) ≤ (k : Int) := by omega
      have hlt' : (k : Int) < (s.size : Int) := by omega
      have db := DB.out k hlt
      have df := DF.out k hlt
      generalize hx : s[k].toNat = x at *
      obtain ⟨y, hy⟩ : ∃ y, (x : Int) - 48 = y := ⟨_, rfl⟩
      have y9 : 0 ≤ y ∧ y ≤ 9 := by omega
      have df2 := Lib.hid (show digF s k = y by rw [← df, hy])
      clear df
      obtain ⟨n, hn⟩ : ∃ z, 10 * c + y = z := ⟨_, rfl⟩
      have nb : 0 ≤ n ∧ n ≤ 1000 := by omega
      obtain ⟨q, hq⟩ : ∃ z, n / d = z := ⟨_, rfl⟩
      obtain ⟨r, hr⟩ : ∃ z, n % d = z := ⟨_, rfl⟩
      have e0 := Lib.hid (divC_next hC.out df2.out hn hq hr)
      have hq1 : n.tdiv d = q := by rw [Int.tdiv_eq_ediv_of_nonneg nb.1, hq]
      have hr1 : n.tmod d = r := by rw [Int.tmod_eq_emod_of_nonneg nb.1, hr]
      have qb : 0 ≤ q ∧ q ≤ 9 := by rw [← hq, ← hn]; exact quo_dig d1 bc (by omega)
      have rb : 0 ≤ r ∧ r < 99 := by
        rw [← hr]
        have h1 := Int.emod_nonneg n hdn
        have h2 := Int.emod_lt_of_pos n (show 0 < d by omega)
        omega
      have wq : IntKind.i64.wrap q = q := IntWalk.i64_in _ (by omega)
      have wr1 : IntKind.i64.wrap r = r := IntWalk.i64_in _ (by omega)
      obtain ⟨l2, hl2⟩ : ∃ z, l ++ [(c, y, q, r)] = z := ⟨_, rfl⟩
      have HL2 := Lib.hid hl2
      have e1 := e0.out
      rw [hl2] at e1
      have E1 := Lib.hid e1
      clear e0 e1 hl2 hq hr
      go_upto_region 10 with fail
      clear hn
      go_region_law (refine stepOwnP rfl (.tmp 32) (.tmp 42) rfl _ l.length l c y q r wr.heap.size rfl ((own_drewN HO.out 1).alloc _) rfl (World.alloc_heap_new _ _) (by omega) (by simp; omega) ?_; intro v' w' ho' hF')
      have F2 := Lib.hid (app_frame (HF.out.drew.alloc hz _) ((own_drewN HO.out 1).alloc _) hF' (by simp; omega))
      obtain ⟨a', c', rfl, ho3⟩ := app_stps' ho' HL2.out
      have O3 := Lib.hid ho3
      clear ho' hF' ho3
      go_wp2
      go_roundw
      case rel => exact ⟨k + 1, l2, r, a', c', by omega, by go_num, by first | rfl | simp, rfl, E1, O3.out, F2.out⟩
      case measure => simp [intOf]; omega
    · have hke : k = s.size := by omega
      have hE := Lib.hid (show l = (divC s d s.size).1 by rw [← hke, hC.out])
      have hge : (s.size : Int) ≤ (k : Int) := by omega
      have CC := Lib.hid (fun W => clipP_any a cc l.length W (own_caps HO.out).1 (own_caps HO.out).2)
      clear hke hC
      go_wp2_with fail
      refine (CC.out _).mono ?_; rintro e w' ⟨rfl, rfl⟩
      go_wp2
      go_ret
      exact newP_of hE.out (own_sl HO.out) HF.out
end Go.Proofs.YtdngnmpmaacapaaGreatDoor
/-
  Contracts: DividedOf of the reference.
-/
namespace Go.Proofs.YtdngnmpmaacapaaGreatDoor
open Go.RowKit

set_option maxRecDepth 100000 in
theorem specDivided_no (s : ByteArray) (d : Int) (w : World) (hs : s.size ≤ 1048576) (h : (numOk s && inB d 1 99) = false) : Calls Tryz.prog 131 #[.string s, .int .i64 d] w fun e w' => (∃ a cap, e = .returned (.slice a 0 cap)) ∧ Fr w.heap.size none w w' := by
  have F0 := Lib.hid ((Fr.refl w.heap.size none w).alloc (Nat.le_refl _) (.cells #[] 154))
  by_cases h0 : 0 < s.size
  · have h0' : (0 : Int) < (s.size : Int) := by omega
    cases h1 : numOk s
    · have H1 := Lib.hid h1; clear h1 h
      go_enter Tryz.func131, Tryz.ntmps131
      go_wp2
      go_loopw [5, 6, 7] (fun v le i wr => v = .slice (some ⟨w.heap.size, 0, none⟩) 0 0 ∧ le = .int .i64 0 ∧ i = .int .i64 0 ∧ Fr w.heap.size none w wr) (fun _ _ _ _ => 0)
      case atStart => exact ⟨rfl, rfl, rfl, F0.out⟩
      case round =>
        obtain ⟨rfl, rfl, rfl, hF⟩ := hrel
        go_wp2_with fail
        refine (numS_val hs H1.out _).mono ?_; rintro e w' ⟨rfl, rfl⟩
        go_wp2
        go_ret
        exact ⟨⟨_, _, rfl⟩, hF⟩
    · rw [h1] at h
      have H1 := Lib.hid h1; have H2 := Lib.hid (show inB d 1 99 = false by simpa using h); clear h1 h
      go_enter Tryz.func131, Tryz.ntmps131
      go_wp2
      go_loopw [5, 6, 7] (fun v le i wr => v = .slice (some ⟨w.heap.size, 0, none⟩) 0 0 ∧ le = .int .i64 0 ∧ i = .int .i64 0 ∧ Fr w.heap.size none w wr) (fun _ _ _ _ => 0)
      case atStart => exact ⟨rfl, rfl, rfl, F0.out⟩
      case round =>
        obtain ⟨rfl, rfl, rfl, hF⟩ := hrel
        go_wp2_with fail
        refine (numS_val hs H1.out _).mono ?_; rintro e w' ⟨rfl, rfl⟩
        go_wp2_with fail
        refine (l1In_val H2.out _).mono ?_; rintro e w' ⟨rfl, rfl⟩
        go_wp2
        go_ret
        exact ⟨⟨_, _, rfl⟩, hF⟩
  · have h0' : (s.size : Int) ≤ 0 := by omega
    clear h
    go_enter Tryz.func131, Tryz.ntmps131
    go_wp2
    go_loopw [5, 6, 7] (fun v le i wr => v = .slice (some ⟨w.heap.size, 0, none⟩) 0 0 ∧ le = .int .i64 0 ∧ i = .int .i64 0 ∧ Fr w.heap.size none w wr) (fun _ _ _ _ => 0)
    case atStart => exact ⟨rfl, rfl, rfl, F0.out⟩
    case round =>
      obtain ⟨rfl, rfl, rfl, hF⟩ := hrel
      go_wp2
      go_ret
      exact ⟨⟨_, _, rfl⟩, hF⟩

set_option maxHeartbeats 4000000 in
set_option maxRecDepth 100000 in
theorem specDivided_any (s : ByteArray) (d : Int) (w : World) (hs : numOk s = true) (hd : inB d 1 99 = true) :
    Calls Tryz.prog 131 #[.string s, .int .i64 d] w (NewP (divC s d s.size).1 w) := by
  have F0 := Lib.hid ((Fr.refl w.heap.size none w).alloc (Nat.le_refl _) (.cells #[] 154))
  have O0 := Lib.hid (World.ownsRow_made (e := 154) (size := 4) (base := w.heap.size) w #[] 0 (Nat.le_refl _) (by simp [maxLen]) (by simp))
  have l1 := num_len hs
  have hd' := inB_true.1 hd
  have N1 := Lib.hid hs
  have ND := Lib.hid hd
  have DB := Lib.hid (fun k hk => dig_byte hs k hk)
  have DF := Lib.hid (fun k (hk : k < s.size) => digF_in hk)
  have BC := Lib.hid (fun k => divC_bd (s := s) (d := d) hd'.1 k)
  clear hs hd
  have d1 : 1 ≤ d := hd'.1
  have d2 : d ≤ 99 := hd'.2
  have hd0 : (d == 0) = false := by rw [beq_eq_false_iff_ne]; omega
  have hdn : ¬ d = 0 := by omega
  clear hd'
  go_enter Tryz.func131, Tryz.ntmps131
  go_wp2
  go_loopw [5, 6, 7] (fun v le i wr => ∃ (k : Nat) (l : List Stp) (c : Int) (a : Option Addr) (cc : Nat), k ≤ s.size ∧ i = .int .i64 k ∧ le = .int .i64 c ∧ v = .slice a l.length cc ∧ Hid (divC s d k = (l, c)) ∧ wr.ownsRow w.heap.size 154 4 (.slice a l.length cc) l.length (stps l) ∧ Fr w.heap.size none w wr) (fun _ _ i _ => s.size - (intOf i).toNat)
  case atStart => exact ⟨0, [], 0, some ⟨w.heap.size, 0, none⟩, 0, Nat.zero_le _, rfl, rfl, rfl, rfl, O0.out, F0.out⟩
  case round =>
    obtain ⟨k, l, c, a, cc, hk, rfl, rfl, rfl, hC, ho, hF⟩ := hrel
    have HO := Lib.hid ho; have HF := Lib.hid hF; have hz := hF.size; clear ho hF
    have bc := BC.out k
    have hl := divC_len s d k
    rw [hC.out] at bc hl
    dsimp only at bc hl
    have hl9 : l.length ≤ 9 := by omega
    have HL := Lib.hid hl
    clear hl
    by_cases hlt : k < s.size
    · have k0 : (0 : Int) ≤ (k : Int) := by omega
      have hlt' : (k : Int) < (s.size : Int) := by omega
      have db := DB.out k hlt
      have df := DF.out k hlt
      generalize hx : s[k].toNat = x at *
      obtain ⟨y, hy⟩ : ∃ y, (x : Int) - 48 = y := ⟨_, rfl⟩
      have y9 : 0 ≤ y ∧ y ≤ 9 := by omega
      have df2 := Lib.hid (show digF s k = y by rw [← df, hy])
      clear df
      obtain ⟨n, hn⟩ : ∃ z, 10 * c + y = z := ⟨_, rfl⟩
      have nb : 0 ≤ n ∧ n ≤ 1000 := by omega
      obtain ⟨q, hq⟩ : ∃ z, n / d = z := ⟨_, rfl⟩
      obtain ⟨r, hr⟩ : ∃ z, n % d = z := ⟨_, rfl⟩
      have e0 := Lib.hid (divC_next hC.out df2.out hn hq hr)
      have hq1 : n.tdiv d = q := by rw [Int.tdiv_eq_ediv_of_nonneg nb.1, hq]
      have hr1 : n.tmod d = r := by rw [Int.tmod_eq_emod_of_nonneg nb.1, hr]
      have qb : 0 ≤ q ∧ q ≤ 9 := by rw [← hq, ← hn]; exact quo_dig d1 bc (by omega)
      have rb : 0 ≤ r ∧ r < 99 := by
        rw [← hr]
        have h1 := Int.emod_nonneg n hdn
        have h2 := Int.emod_lt_of_pos n (show 0 < d by omega)
        omega
      have wq : IntKind.i64.wrap q = q := IntWalk.i64_in _ (by omega)
      have wr1 : IntKind.i64.wrap r = r := IntWalk.i64_in _ (by omega)
      have wy : IntKind.u8.wrap y = y := by simp [IntKind.wrap, IntKind.bits, IntKind.signed]; omega
      have wy2 : IntKind.i64.wrap y = y := IntWalk.i64_in _ (by omega)
      obtain ⟨l2, hl2⟩ : ∃ z, l ++ [(c, y, q, r)] = z := ⟨_, rfl⟩
      have HL2 := Lib.hid hl2
      have e1 := e0.out
      rw [hl2] at e1
      have E1 := Lib.hid e1
      clear e0 e1 hl2 hq hr
      go_wp2_with fail
      refine (numS_val (by omega) N1.out _).mono ?_; rintro e w' ⟨rfl, rfl⟩
      go_wp2_with fail
      refine (l1In_val ND.out _).mono ?_; rintro e w' ⟨rfl, rfl⟩
      go_upto_region 7 with fail
      clear hn
      go_region_law (refine stepOwnP rfl (.tmp 32) (.tmp 46) rfl _ l.length l c y q r wr.heap.size rfl ((own_drewN HO.out 1).alloc _) rfl (World.alloc_heap_new _ _) (by omega) (by simp; omega) ?_; intro v' w' ho' hF')
      have F2 := Lib.hid (app_frame (HF.out.drew.alloc hz _) ((own_drewN HO.out 1).alloc _) hF' (by simp; omega))
      obtain ⟨a', c', rfl, ho3⟩ := app_stps' ho' HL2.out
      have O3 := Lib.hid ho3
      clear ho' hF' ho3
      go_wp2
      go_roundw
      case rel => exact ⟨k + 1, l2, r, a', c', by omega, by go_num, by first | rfl | simp, rfl, E1, O3.out, F2.out⟩
      case measure => simp [intOf]; omega
    · have hke : k = s.size := by omega
      have hE := Lib.hid (show l = (divC s d s.size).1 by rw [← hke, hC.out])
      have hge : (s.size : Int) ≤ (k : Int) := by omega
      clear hke hC
      go_wp2
      go_ret
      exact newP_of hE.out (own_sl HO.out) HF.out
end Go.Proofs.YtdngnmpmaacapaaGreatDoor
/-
  Contracts: WrongStep of both, at steps that are right.
-/
namespace Go.Proofs.YtdngnmpmaacapaaGreatDoor
open Go.RowKit

theorem goodS_parts {d : Int} {c : Stp} (h : goodS d c = true) : isD c.2.1 = true ∧ isD c.2.2.1 = true ∧ inB c.2.2.2 0 (d - 1) = true ∧ c.2.2.1 * d + c.2.2.2 = 10 * c.1 + c.2.1 := by
  simp only [goodS, Bool.and_eq_true, decide_eq_true_eq] at h
  exact ⟨h.1.1.1, h.1.1.2, h.1.2, h.2⟩
theorem prod_bd {x d : Int} (hx : 0 ≤ x ∧ x ≤ 9) (hd : 1 ≤ d ∧ d ≤ 99) : 0 ≤ x * d ∧ x * d ≤ 891 := by
  refine ⟨Int.mul_nonneg hx.1 (by omega), ?_⟩
  have := Int.mul_le_mul hx.2 hd.2 (by omega) (by omega : (0 : Int) ≤ 9)
  omega

set_option maxHeartbeats 2000000 in
set_option maxRecDepth 100000 in
theorem implWrongStep_none (a : Option Addr) (cap : Nat) (cs : List Stp) (d : Int) (w : World) (hs : Sl w a (stps cs)) (hn : cs.length ≤ 9) (hd : inB d 1 99 = true) (hl : LinkedS cs) (hg : ∀ k, k < cs.length → goodS d (cs.getD k noStp) = true) (hb : ∀ k, k < cs.length → 0 ≤ (cs.getD k noStp).1 ∧ (cs.getD k noStp).1 ≤ 99) :
    Calls Tryz.prog 192 #[.slice a cs.length cap, .int .i64 d] w fun e w' => e = .returned (.int .i64 (-1)) ∧ Fr w.heap.size none w w' := by
  have HS := Lib.hid hs; have HL := Lib.hid hl; have HG := Lib.hid hg; have HBD := Lib.hid hb
  have ND := Lib.hid hd
  have hd' := inB_true.1 hd
  clear hs hl hg hb hd
  have d1 : 1 ≤ d := hd'.1
  have d2 : d ≤ 99 := hd'.2
  clear hd'
  have hn9 : ¬ (9 : Int) < (cs.length : Int) := by omega
  go_enter Tryz.func192, Tryz.ntmps192
  go_wp2_with fail
  refine (in_val ND.out _).mono ?_; rintro e w' ⟨rfl, rfl⟩
  go_wp2
  go_loopw [5, 18] (fun v i wr => ∃ (k : Nat) (z : Int), k ≤ cs.length ∧ i = .int .i64 k ∧ v = .int .i64 z ∧ Hid (z = if k = 0 then 0 else (cs.getD (k - 1) noStp).2.2.2) ∧ Fr w.heap.size none w wr) (fun _ i _ => cs.length - (intOf i).toNat)
  case atStart => exact ⟨0, 0, Nat.zero_le _, rfl, rfl, rfl, Fr.refl _ _ _⟩
  case round =>
    obtain ⟨k, z, hk, rfl, rfl, hZ, hF⟩ := hrel
    have HF := Lib.hid hF; have hz1 := hF.size; clear hF
    by_cases hlt : k < cs.length
    · obtain ⟨b, off, rfl, c0, c1, c2, c3⟩ := (HS.out.fr HF.out).stp k hlt
      obtain ⟨g1, g2, g3, g4⟩ := goodS_parts (HG.out k hlt)
      have hb0 := HBD.out k hlt
      have e1 := HL.out k hlt
      rw [← hZ.out] at e1
      have e2 := Lib.hid (show (cs.getD k noStp).2.2.2 = if k + 1 = 0 then 0 else (cs.getD (k + 1 - 1) noStp).2.2.2 by rw [if_neg (by omega), show k + 1 - 1 = k by omega])
      obtain ⟨c, hc⟩ : ∃ c, cs.getD k noStp = c := ⟨_, rfl⟩
      rw [hc] at e1 c0 c1 c2 c3 g1 g2 g3 g4 hb0
      have e3 := Lib.hid (show c.2.2.2 = if k + 1 = 0 then 0 else (cs.getD (k + 1 - 1) noStp).2.2.2 by rw [← hc]; exact e2.out)
      clear e2 hc
      obtain ⟨x1, x2, x3, x4⟩ := c
      dsimp only at *
      subst e1
      have b2 := inB_true.1 g1
      have b3 := inB_true.1 g2
      have b4 := inB_true.1 g3
      have hp9 := prod_bd b3 ⟨d1, d2⟩
      obtain ⟨p, hp⟩ : ∃ z, x3 * d = z := ⟨_, rfl⟩
      rw [hp] at g4 hp9
      have G1 := Lib.hid g1; have G2 := Lib.hid g2; have G3 := Lib.hid g3
      have hzz : (p + x4 != 10 * x1 + x2) = false := by rw [g4]; simp
      have hzy : (x1 != x1) = false := by simp
      clear g1 g2 g3 g4 hZ
      have k0 : (0 : Int) ≤ (k : Int) := by omega
      have k1 : (k : Int) < (cs.length : Int) := by omega
      go_wp2_with fail
      refine (isDigit_val G1.out _).mono ?_; rintro e w' ⟨rfl, rfl⟩
      go_wp2_with fail
      refine (isDigit_val G2.out _).mono ?_; rintro e w' ⟨rfl, rfl⟩
      go_wp2_with fail
      refine (in_val G3.out _).mono ?_; rintro e w' ⟨rfl, rfl⟩
      go_wp2
      go_roundw
      case rel => exact ⟨k + 1, x4, by omega, by go_num, rfl, e3, HF.out.alloc hz1 _⟩
      case measure => simp [intOf]; omega
    · have hge : (cs.length : Int) ≤ (k : Int) := by omega
      go_wp2
      go_ret
      exact ⟨rfl, HF.out⟩
set_option maxHeartbeats 2000000 in
set_option maxRecDepth 100000 in
theorem specWrongStep_none (a : Option Addr) (cap : Nat) (cs : List Stp) (d : Int) (w : World) (hs : Sl w a (stps cs)) (hn : cs.length ≤ 9) (hd : inB d 1 99 = true) (hl : LinkedS cs) (hg : ∀ k, k < cs.length → goodS d (cs.getD k noStp) = true) (hb : ∀ k, k < cs.length → 0 ≤ (cs.getD k noStp).1 ∧ (cs.getD k noStp).1 ≤ 99) :
    Calls Tryz.prog 168 #[.slice a cs.length cap, .int .i64 d] w fun e w' => e = .returned (.int .i64 (-1)) ∧ Fr w.heap.size none w w' := by
  have HS := Lib.hid hs; have HL := Lib.hid hl; have HG := Lib.hid hg; have HBD := Lib.hid hb
  have ND := Lib.hid hd
  have hd' := inB_true.1 hd
  clear hs hl hg hb hd
  have d1 : 1 ≤ d := hd'.1
  have d2 : d ≤ 99 := hd'.2
  clear hd'
  have hn9 : ¬ (9 : Int) < (cs.length : Int) := by omega
  go_enter Tryz.func168, Tryz.ntmps168
  go_wp2_with fail
  refine (l1In_val ND.out _).mono ?_; rintro e w' ⟨rfl, rfl⟩
  go_wp2
  go_loopw [5, 6] (fun v i wr => ∃ (k : Nat) (z : Int), k ≤ cs.length ∧ i = .int .i64 k ∧ v = .int .i64 z ∧ Hid (z = if k = 0 then 0 else (cs.getD (k - 1) noStp).2.2.2) ∧ Fr w.heap.size none w wr) (fun _ i _ => cs.length - (intOf i).toNat)
  case atStart => exact ⟨0, 0, Nat.zero_le _, rfl, rfl, rfl, Fr.refl _ _ _⟩
  case round =>
    obtain ⟨k, z, hk, rfl, rfl, hZ, hF⟩ := hrel
    have HF := Lib.hid hF; have hz1 := hF.size; clear hF
    by_cases hlt : k < cs.length
    · obtain ⟨b, off, rfl, c0, c1, c2, c3⟩ := (HS.out.fr HF.out).stp k hlt
      obtain ⟨g1, g2, g3, g4⟩ := goodS_parts (HG.out k hlt)
      have hb0 := HBD.out k hlt
      have e1 := HL.out k hlt
      rw [← hZ.out] at e1
      have e2 := Lib.hid (show (cs.getD k noStp).2.2.2 = if k + 1 = 0 then 0 else (cs.getD (k + 1 - 1) noStp).2.2.2 by rw [if_neg (by omega), show k + 1 - 1 = k by omega])
      obtain ⟨c, hc⟩ : ∃ c, cs.getD k noStp = c := ⟨_, rfl⟩
      rw [hc] at e1 c0 c1 c2 c3 g1 g2 g3 g4 hb0
      have e3 := Lib.hid (show c.2.2.2 = if k + 1 = 0 then 0 else (cs.getD (k + 1 - 1) noStp).2.2.2 by rw [← hc]; exact e2.out)
      clear e2 hc
      obtain ⟨x1, x2, x3, x4⟩ := c
      dsimp only at *
      subst e1
      have b2 := inB_true.1 g1
      have b3 := inB_true.1 g2
      have b4 := inB_true.1 g3
      have hp9 := prod_bd b3 ⟨d1, d2⟩
      obtain ⟨p, hp⟩ : ∃ z, x3 * d = z := ⟨_, rfl⟩
      rw [hp] at g4 hp9
      have G1 := Lib.hid (show inB x2 0 9 = true from g1); have G2 := Lib.hid (show inB x3 0 9 = true from g2); have G3 := Lib.hid g3
      have hzz : (p + x4 != 10 * x1 + x2) = false := by rw [g4]; simp
      have hzy : (x1 != x1) = false := by simp
      clear g1 g2 g3 g4 hZ
      have k0 : (0 : Int) ≤ (k : Int) := by omega
      have k1 : (k : Int) < (cs.length : Int) := by omega
      go_wp2_with fail
      refine (l1In_val G1.out _).mono ?_; rintro e w' ⟨rfl, rfl⟩
      go_wp2_with fail
      refine (l1In_val G2.out _).mono ?_; rintro e w' ⟨rfl, rfl⟩
      go_wp2_with fail
      refine (l1In_val G3.out _).mono ?_; rintro e w' ⟨rfl, rfl⟩
      go_wp2
      go_roundw
      case rel => exact ⟨k + 1, x4, by omega, by go_num, rfl, e3, HF.out.alloc hz1 _⟩
      case measure => simp [intOf]; omega
    · have hge : (cs.length : Int) ≤ (k : Int) := by omega
      go_wp2
      go_ret
      exact ⟨rfl, HF.out⟩
end Go.Proofs.YtdngnmpmaacapaaGreatDoor
/-
  Contracts: ResultOf, QuotientOf of the program.
-/
namespace Go.Proofs.YtdngnmpmaacapaaGreatDoor
open Go.RowKit

theorem quoD_at {cs : List Stp} {k : Nat} (hk : k < cs.length) : (quoD cs)[k]? = some (cs.getD k noStp).2.2.1 := by
  simp [quoD, List.getD_eq_getElem?_getD, hk]
theorem quoD_take {cs : List Stp} {k : Nat} (hk : k < cs.length) : (quoD cs).take k ++ [(cs.getD k noStp).2.2.1] = (quoD cs).take (k + 1) := by
  have hk2 : k < (quoD cs).length := by rw [quoD_len]; exact hk
  have e := quoD_at hk
  rw [List.getElem?_eq_getElem hk2] at e
  rw [List.take_succ_eq_append_getElem hk2, Option.some.inj e]
theorem quo1_any (c : Stp) (w : World) : Calls Tryz.prog 194 #[.agg #[.int .i64 c.1, .int .i64 c.2.1, .int .i64 c.2.2.1, .int .i64 c.2.2.2]] w fun e w' => e = .returned (.int .i64 c.2.2.1) ∧ Fr w.heap.size none w w' := by
  obtain ⟨x1, x2, x3, x4⟩ := c
  dsimp only
  go_enter Tryz.func194, Tryz.ntmps194
  go_wp2
  go_ret
  exact ⟨rfl, (Fr.refl _ _ _).alloc (Nat.le_refl _) _⟩
set_option maxHeartbeats 2000000 in
set_option maxRecDepth 100000 in
theorem stepsText_any (a : Option Addr) (cap : Nat) (cs : List Stp) (w : World) (hs : Sl w a (stps cs)) (hn : cs.length ≤ 9) (hd : ∀ q ∈ quoD cs, 0 ≤ q ∧ q ≤ 9) :
    Calls Tryz.prog 193 #[.slice a cs.length cap, .func (.func 194) #[] #[]] w fun e w' => e = .returned (.tuple #[.string (plainT (quoD cs)), .bool (plainOk (quoD cs))]) ∧ Fr w.heap.size none w w' := by
  have HS := Lib.hid hs; clear hs
  have hql := quoD_len cs
  have CP := Lib.hid (fun a c W h => plain_any a c (quoD cs) W h hd (by omega))
  have TK := Lib.hid (fun k (hk : k < cs.length) => quoD_take hk)
  have TE := Lib.hid (show (quoD cs).take cs.length = quoD cs by rw [← hql, List.take_length])
  have TL := Lib.hid (fun k (hk : k ≤ cs.length) => show ((quoD cs).take k).length = k by rw [List.length_take, hql]; omega)
  rw [hql] at CP
  clear hql hd
  generalize plainT (quoD cs) = T at *
  generalize plainOk (quoD cs) = O at *
  go_enter Tryz.func193, Tryz.ntmps193
  go_wp2
  go_loopw [6, 11] (fun v i wr => ∃ (k : Nat) (ys : List Int) (a' : Option Addr) (c' : Nat), k ≤ cs.length ∧ i = .int .i64 k ∧ v = .slice a' ys.length c' ∧ Hid ((quoD cs).take k = ys) ∧ ys.length ≤ 9 ∧ wr.ownsRow w.heap.size 3 1 (.slice a' ys.length c') ys.length (ints ys) ∧ Fr w.heap.size none w wr) (fun _ i _ => cs.length - (intOf i).toNat)
  case atStart => exact ⟨0, [], none, 0, Nat.zero_le _, rfl, rfl, rfl, by simp, World.ownsRow_nil _ _ _ _, Fr.refl _ _ _⟩
  case round =>
    obtain ⟨k, ys, a', c', hk, rfl, rfl, hY, hyl, ho, hF⟩ := hrel
    have HO := Lib.hid ho; have HF := Lib.hid hF; have hz1 := hF.size; clear ho hF
    by_cases hlt : k < cs.length
    · obtain ⟨b, off, rfl, c0, c1, c2, c3⟩ := (HS.out.fr HF.out).stp k hlt
      have e0 := Lib.hid (show ys ++ [(cs.getD k noStp).2.2.1] = (quoD cs).take (k + 1) by rw [← hY.out]; exact TK.out k hlt)
      have tl := TL.out (k + 1) (by omega)
      obtain ⟨c, hc⟩ : ∃ c, cs.getD k noStp = c := ⟨_, rfl⟩
      rw [hc] at e0 c0 c1 c2 c3
      have CQ := Lib.hid (fun W => quo1_any c W)
      clear hc
      obtain ⟨x1, x2, x3, x4⟩ := c
      dsimp only at *
      obtain ⟨zs, hzs⟩ : ∃ zs, (quoD cs).take (k + 1) = zs := ⟨_, rfl⟩
      rw [hzs] at e0 tl
      have HZ := Lib.hid hzs
      have hzl : zs.length ≤ 9 := by omega
      clear hzs tl
      have k0 : (0 : Int) ≤ (k : Int) := by omega
      have k1 : (k : Int) < (cs.length : Int) := by omega
      have G0 := Lib.hid (HF.out.alloc hz1 (.cells #[.int .i64 x1, .int .i64 x2, .int .i64 x3, .int .i64 x4] 154))
      have O0 := Lib.hid (own_keep HO.out ((Fr.refl wr.heap.size none wr).alloc (Nat.le_refl _) (.cells #[.int .i64 x1, .int .i64 x2, .int .i64 x3, .int .i64 x4] 154)))
      go_wp2_with fail
      refine (CQ.out _).mono ?_; rintro e w1 ⟨rfl, hF1⟩
      have F1 := Lib.hid (G0.out.and hF1)
      have O1 := Lib.hid (own_keep O0.out hF1)
      have z1 := F1.out.size
      clear hF1
      go_wp2_with (at_builtin; refine app1 73 3 (.int .i64 0) 1 8 Tryz.underlying73 infoInt rfl (by decide) (by decide) rfl _ _ rfl [.int .i64 x3] O1.out rfl rfl rfl (by simp [Value.oneCell']) (by omega) z1 ?_; intro v' w' ho' hF'; (
        have F2 := Lib.hid (app_frame F1.out O1.out hF' z1)
        obtain ⟨a2, c2', rfl, ho3⟩ := app_ints' ho' e0.out
        have O3 := Lib.hid ho3
        clear ho' hF' ho3))
      go_roundw
      case rel => exact ⟨k + 1, zs, a2, c2', by omega, by go_num, rfl, HZ, hzl, O3.out, F2.out⟩
      case measure => simp [intOf]; omega
    · have hke : k = cs.length := by omega
      have hge : (cs.length : Int) ≤ (k : Int) := by omega
      have e1 : ys = quoD cs := by rw [← hY.out, hke, TE.out]
      have el : ys.length = cs.length := by rw [← hY.out, TL.out k hk, hke]
      have S1 := Lib.hid (show Sl wr a' (ints (quoD cs)) by rw [← e1]; exact own_sl HO.out)
      rw [el]
      clear el e1 hke hY HO hyl
      go_wp2_with fail
      refine (CP.out _ _ _ S1.out).mono ?_; rintro e w2 ⟨rfl, hF2⟩
      have F2 := Lib.hid (HF.out.and hF2); clear hF2
      go_wp2
      go_ret2
      exact ⟨rfl, F2.out⟩

/-- The quotient of steps, and what is left at last. -/
theorem ret_three {x y : ByteArray} {a b : Int} {p q : Bool} (h : (x, a, p) = (y, b, q)) : Ending.returned (.tuple #[.string x, .int .i64 a, .bool p]) = .returned (.tuple #[.string y, .int .i64 b, .bool q]) := by
  cases h; rfl
theorem lastS_at {cs : List Stp} (h1 : 1 ≤ cs.length) : (cs.getD (cs.length - 1) noStp).2.2.2 = lastS cs := by unfold lastS; rw [if_neg (by omega)]
set_option maxHeartbeats 2000000 in
set_option maxRecDepth 100000 in
theorem implResult_any (a : Option Addr) (cap : Nat) (cs : List Stp) (d : Int) (w : World) (hs : Sl w a (stps cs)) (hn : cs.length ≤ 9) (h1 : 1 ≤ cs.length) (hd : inB d 1 99 = true) (hl : LinkedS cs) (hg : ∀ k, k < cs.length → goodS d (cs.getD k noStp) = true) (hb : ∀ k, k < cs.length → 0 ≤ (cs.getD k noStp).1 ∧ (cs.getD k noStp).1 ≤ 99) :
    Calls Tryz.prog 155 #[.slice a cs.length cap, .int .i64 d] w fun e w' => e = .returned (.tuple #[.string (plainT (quoD cs)), .int .i64 (lastS cs), .bool true]) ∧ Fr w.heap.size none w w' := by
  have CW := Lib.hid (fun W hS => implWrongStep_none a cap cs d W hS hn hd hl hg hb)
  have CT := Lib.hid (fun W hS => stepsText_any a cap cs W hS hn (quoD_bd hg))
  have HS := Lib.hid hs
  have LS := Lib.hid (lastS_at h1)
  clear hs hg hl hb hd
  have hlt : cs.length - 1 < cs.length := by omega
  have hi : ((cs.length : Int) - 1) = ((cs.length - 1 : Nat) : Int) := by omega
  have hz0 : ((cs.length : Int) == 0) = false := by rw [beq_eq_false_iff_ne]; omega
  generalize plainT (quoD cs) = T at *
  generalize plainOk (quoD cs) = O at *
  generalize lastS cs = L at *
  go_enter Tryz.func155, Tryz.ntmps155
  go_wp2_with fail
  refine (CW.out _ HS.out).mono ?_; rintro e w1 ⟨rfl, hF1⟩
  have F1 := Lib.hid hF1
  have S1 := Lib.hid (HS.out.fr hF1)
  clear hF1
  go_wp2_with fail
  refine (CT.out _ S1.out).mono ?_; rintro e w2 ⟨rfl, hF2⟩
  have F2 := Lib.hid (F1.out.and hF2)
  obtain ⟨b, off, rfl, _, _, _, c3⟩ := (S1.out.fr hF2).stp (cs.length - 1) hlt
  rw [LS.out] at c3
  clear hF2
  generalize hq : cs.length - 1 = q at *
  have q0 : (0 : Int) ≤ (q : Int) := by omega
  have q1 : (q : Int) < (cs.length : Int) := by omega
  have hwq : IntKind.i64.wrap (q : Int) = (q : Int) := IntWalk.i64_in _ (by omega)
  have qt : ((q : Int)).toNat = q := by omega
  clear hq LS
  go_upto_region 4 with fail
  go_quiet (fail)
  go_wp2
  go_ret3
  exact ⟨rfl, F2.out.drewN _⟩
theorem divC_before {s : ByteArray} {d : Int} (hd : 1 ≤ d ∧ d ≤ 99) (n k : Nat) (hk : k < (divC s d n).1.length) : 0 ≤ ((divC s d n).1.getD k noStp).1 ∧ ((divC s d n).1.getD k noStp).1 ≤ 99 := by
  rw [divC_len] at hk
  rw [divC_get s d n k hk]
  have := divC_bd (s := s) (d := d) hd.1 k
  dsimp only; omega
theorem quo_no {s : ByteArray} {d : Int} (h : (numOk s && inB d 1 99) = false) : ((⟨#[]⟩ : ByteArray), (-1 : Int), false) = quoI s d := by unfold quoI; rw [h]; rfl
theorem quo_yes {s : ByteArray} {d : Int} (h : numOk s = true) (h2 : inB d 1 99 = true) : (plainT (quoD (divC s d s.size).1), lastS (divC s d s.size).1, true) = quoI s d := by
  unfold quoI; rw [h, h2, divC_last]; rfl
theorem implResult_nil (a : Option Addr) (cap : Nat) (d : Int) (w : World) : Calls Tryz.prog 155 #[.slice a 0 cap, .int .i64 d] w fun e w' => e = .returned (.tuple #[.string ⟨#[]⟩, .int .i64 (-1), .bool false]) ∧ w = w' := by
  go_enter Tryz.func155, Tryz.ntmps155
  go_wp2
  go_ret3
  exact ⟨rfl, rfl⟩
set_option maxRecDepth 100000 in
theorem implQuotient_any (s : ByteArray) (d : Int) (w : World) (hs : s.size ≤ 1048576) : Calls Tryz.prog 119 #[.string s, .int .i64 d] w fun e w' => e = .returned (.tuple #[.string (quoI s d).1, .int .i64 (quoI s d).2.1, .bool (quoI s d).2.2]) ∧ Fr w.heap.size none w w' := by
  cases h : (numOk s && inB d 1 99)
  · have hr := Lib.hid (quo_no h)
    have CA := Lib.hid (fun W => implDivided_no s d W hs h)
    clear h
    generalize quoI s d = r at *
    obtain ⟨r1, r2, r3⟩ := r
    go_enter Tryz.func119, Tryz.ntmps119
    go_wp2_with fail
    refine (CA.out _).mono ?_; rintro e w1 ⟨⟨a, c, rfl⟩, hF1⟩
    have F1 := Lib.hid hF1; clear hF1
    go_wp2_with fail
    refine (implResult_nil a c d _).mono ?_; rintro e w' ⟨rfl, rfl⟩
    go_wp2
    go_ret3
    exact ⟨ret_three hr.out, F1.out⟩
  · simp only [Bool.and_eq_true] at h
    obtain ⟨h1, h2⟩ := h
    have hr := Lib.hid (quo_yes h1 h2)
    have l1 := num_len h1
    have hd := inB_true.1 h2
    have CA := Lib.hid (fun W => implDivided_any s d W h1 h2)
    have hcl := divC_len s d s.size
    have CW := Lib.hid (fun a c W hS => implResult_any a c (divC s d s.size).1 d W hS (by omega) (by omega) h2 (divC_linked s d s.size) (fun k hk => divC_good h1 hd.1 s.size (Nat.le_refl _) k hk) (fun k hk => divC_before hd s.size k hk))
    clear hcl
    generalize plainT (quoD (divC s d s.size).1) = x at *
    generalize lastS (divC s d s.size).1 = y at *
    generalize (divC s d s.size).1 = cs at *
    generalize quoI s d = r at *
    obtain ⟨r1, r2, r3⟩ := r
    go_enter Tryz.func119, Tryz.ntmps119
    go_wp2_with fail
    refine (CA.out _).mono ?_; rintro e w1 ⟨a, c, rfl, hs1, hF1⟩
    have F1 := Lib.hid hF1; have S1 := Lib.hid hs1; clear hF1 hs1
    go_wp2_with fail
    refine (CW.out _ _ _ S1.out).mono ?_; rintro e w2 ⟨rfl, hF2⟩
    have F2 := Lib.hid (F1.out.and hF2); clear hF2
    go_wp2
    go_ret3
    exact ⟨ret_three hr.out, F2.out⟩
end Go.Proofs.YtdngnmpmaacapaaGreatDoor
/-
  Contracts: ResultOf, QuotientOf of the reference.
-/
namespace Go.Proofs.YtdngnmpmaacapaaGreatDoor
open Go.RowKit

/-- The text of the first j digits of a quotient. -/
def qText (cs : List Stp) (j : Nat) : ByteArray := mkL (((quoD cs).take j).map digC)
theorem qText_step {cs : List Stp} {j : Nat} (h : j < cs.length) : qText cs j ++ mkL [digC (cs.getD j noStp).2.2.1] = qText cs (j + 1) := by
  unfold qText
  rw [mkL_app, ← quoD_take h]
  simp
theorem qText_size (cs : List Stp) (j : Nat) : (qText cs j).size ≤ cs.length := by
  unfold qText; rw [mkL_size, List.length_map, List.length_take, quoD_len]; omega
theorem qText_end {cs : List Stp} (h : 1 ≤ cs.length) (hn : cs.length ≤ 9) (hd : ∀ q ∈ quoD cs, 0 ≤ q ∧ q ≤ 9) : trimB (qText cs cs.length) = plainT (quoD cs) := by
  have e : (quoD cs).take cs.length = quoD cs := by rw [← quoD_len cs, List.take_length]
  unfold qText
  rw [e, trimB_plain, plain_yes]
  exact plainOk_nine hd (by rw [quoD_len]; exact hn) (by rw [quoD_len]; exact h)

set_option maxHeartbeats 4000000 in
set_option maxRecDepth 100000 in
theorem specResult_any (a : Option Addr) (cap : Nat) (cs : List Stp) (d : Int) (w : World) (hs : Sl w a (stps cs)) (hn : cs.length ≤ 9) (h1 : 1 ≤ cs.length) (hd : inB d 1 99 = true) (hl : LinkedS cs) (hg : ∀ k, k < cs.length → goodS d (cs.getD k noStp) = true) (hb : ∀ k, k < cs.length → 0 ≤ (cs.getD k noStp).1 ∧ (cs.getD k noStp).1 ≤ 99) :
    Calls Tryz.prog 130 #[.slice a cs.length cap, .int .i64 d] w fun e w' => e = .returned (.tuple #[.string (plainT (quoD cs)), .int .i64 (lastS cs), .bool true]) ∧ Fr w.heap.size none w w' := by
  have CW := Lib.hid (fun W hS => specWrongStep_none a cap cs d W hS hn hd hl hg hb)
  have BD := Lib.hid (fun k (hk : k < cs.length) => quoD_bd hg _ (show (cs.getD k noStp).2.2.1 ∈ quoD cs by
    have e : cs.getD k noStp = cs[k] := by simp [List.getD_eq_getElem?_getD, hk]
    rw [e]; exact List.mem_map_of_mem (List.getElem_mem hk)))
  have QS := Lib.hid (fun j (hj : j < cs.length) => qText_step hj)
  have QZ := Lib.hid (fun j => qText_size cs j)
  have QE := Lib.hid (qText_end h1 hn (quoD_bd hg))
  have Q0 := Lib.hid (show qText cs 0 = ⟨#[]⟩ by simp [qText, mkL])
  have HS := Lib.hid hs
  have LS := Lib.hid (lastS_at h1)
  clear hs hg hl hb hd
  have hlt : cs.length - 1 < cs.length := by omega
  have hi : ((cs.length : Int) - 1) = ((cs.length - 1 : Nat) : Int) := by omega
  have hz0 : ((cs.length : Int) == 0) = false := by rw [beq_eq_false_iff_ne]; omega
  generalize plainT (quoD cs) = T at *
  generalize lastS cs = L at *
  have CT := Lib.hid (fun W => l2TrimX (qText cs cs.length) W (by have := QZ.out cs.length; omega) (by
    show 0 < (qText cs cs.length).size
    unfold qText; rw [mkL_size, List.length_map, List.length_take, quoD_len]; omega))
  rw [QE.out] at CT
  go_enter Tryz.func130, Tryz.ntmps130
  go_wp2_with fail
  refine (CW.out _ HS.out).mono ?_; rintro e w1 ⟨rfl, hF1⟩
  have F1 := Lib.hid hF1
  clear hF1
  go_wp2
  go_loopw [7, 8] (fun v i wr => ∃ (j : Nat), j ≤ cs.length ∧ i = .int .i64 j ∧ v = .string (qText cs j) ∧ Fr w.heap.size none w wr) (fun _ i _ => cs.length - (intOf i).toNat)
  case atStart => exact ⟨0, Nat.zero_le _, rfl, by rw [Q0.out], F1.out⟩
  case round =>
    obtain ⟨j, hj, rfl, rfl, hF⟩ := hrel
    have HF := Lib.hid hF; clear hF
    by_cases hlt2 : j < cs.length
    · obtain ⟨b2, off2, rfl, _, _, c2, _⟩ := (HS.out.fr HF.out).stp j hlt2
      have bd := BD.out j hlt2
      have st := Lib.hid (QS.out j hlt2)
      have sz1 := QZ.out j
      generalize (cs.getD j noStp).2.2.1 = dd at *
      have CD := Lib.hid (fun W => l1Digit_any dd W bd.1 bd.2)
      have ad := fun W => run_string_add_sum (P := Tryz.prog) W (qText cs j) (mkL [digC dd]) (by rw [mkL_size]; simp; omega)
      rw [st.out] at ad
      have i0 : (0 : Int) ≤ (j : Int) := by omega
      have i1 : (j : Int) < (cs.length : Int) := by omega
      clear CT
      generalize qText cs j = A at *
      generalize hA2 : qText cs (j + 1) = A2 at *
      have HA2 := Lib.hid hA2; clear hA2
      generalize mkL [digC dd] = u at *
      clear st
      go_wp2_with fail
      refine (CD.out _).mono ?_; rintro e w4 ⟨rfl, hF4⟩
      have F4 := Lib.hid (HF.out.and hF4); clear hF4
      go_wp2
      go_roundw
      case rel => exact ⟨j + 1, by omega, by go_num, by rw [HA2.out], F4.out⟩
      case measure => simp [intOf] <;> omega
    · have hje : j = cs.length := by omega
      have hge : (cs.length : Int) ≤ (j : Int) := by omega
      obtain ⟨b, off, rfl, _, _, _, c3⟩ := (HS.out.fr HF.out).stp (cs.length - 1) hlt
      rw [LS.out] at c3
      have HQ := Lib.hid (show qText cs j = qText cs cs.length by rw [hje])
      rw [HQ.out]
      generalize hq : cs.length - 1 = q at *
      have q0 : (0 : Int) ≤ (q : Int) := by omega
      have q1 : (q : Int) < (cs.length : Int) := by omega
      have hwq : IntKind.i64.wrap (q : Int) = (q : Int) := IntWalk.i64_in _ (by omega)
      have qt : ((q : Int)).toNat = q := by omega
      clear hq LS hje HQ
      generalize qText cs cs.length = M at *
      go_upto_region 8 with fail
      go_quiet ((go_at_call 139; exact quiet_left (CT.out _)))
      go_wp2
      go_ret3
      exact ⟨rfl, HF.out.drewN _⟩
theorem specResult_nil (a : Option Addr) (cap : Nat) (d : Int) (w : World) : Calls Tryz.prog 130 #[.slice a 0 cap, .int .i64 d] w fun e w' => e = .returned (.tuple #[.string ⟨#[]⟩, .int .i64 (-1), .bool false]) ∧ w = w' := by
  go_enter Tryz.func130, Tryz.ntmps130
  go_wp2
  go_ret3
  exact ⟨rfl, rfl⟩
set_option maxRecDepth 100000 in
theorem specQuotient_any (s : ByteArray) (d : Int) (w : World) (hs : s.size ≤ 1048576) : Calls Tryz.prog 92 #[.string s, .int .i64 d] w fun e w' => e = .returned (.tuple #[.string (quoI s d).1, .int .i64 (quoI s d).2.1, .bool (quoI s d).2.2]) ∧ Fr w.heap.size none w w' := by
  cases h : (numOk s && inB d 1 99)
  · have hr := Lib.hid (quo_no h)
    have CA := Lib.hid (fun W => specDivided_no s d W hs h)
    clear h
    generalize quoI s d = r at *
    obtain ⟨r1, r2, r3⟩ := r
    go_enter Tryz.func92, Tryz.ntmps92
    go_wp2_with fail
    refine (CA.out _).mono ?_; rintro e w1 ⟨⟨a, c, rfl⟩, hF1⟩
    have F1 := Lib.hid hF1; clear hF1
    go_wp2_with fail
    refine (specResult_nil a c d _).mono ?_; rintro e w' ⟨rfl, rfl⟩
    go_wp2
    go_ret3
    exact ⟨ret_three hr.out, F1.out⟩
  · simp only [Bool.and_eq_true] at h
    obtain ⟨h1, h2⟩ := h
    have hr := Lib.hid (quo_yes h1 h2)
    have l1 := num_len h1
    have hd := inB_true.1 h2
    have CA := Lib.hid (fun W => specDivided_any s d W h1 h2)
    have hcl := divC_len s d s.size
    have CW := Lib.hid (fun a c W hS => specResult_any a c (divC s d s.size).1 d W hS (by omega) (by omega) h2 (divC_linked s d s.size) (fun k hk => divC_good h1 hd.1 s.size (Nat.le_refl _) k hk) (fun k hk => divC_before hd s.size k hk))
    clear hcl
    generalize plainT (quoD (divC s d s.size).1) = x at *
    generalize lastS (divC s d s.size).1 = y at *
    generalize (divC s d s.size).1 = cs at *
    generalize quoI s d = r at *
    obtain ⟨r1, r2, r3⟩ := r
    go_enter Tryz.func92, Tryz.ntmps92
    go_wp2_with fail
    refine (CA.out _).mono ?_; rintro e w1 ⟨a, c, rfl, hs1, hF1⟩
    have F1 := Lib.hid hF1; have S1 := Lib.hid hs1; clear hF1 hs1
    go_wp2_with fail
    refine (CW.out _ _ _ S1.out).mono ?_; rintro e w2 ⟨rfl, hF2⟩
    have F2 := Lib.hid (F1.out.and hF2); clear hF2
    go_wp2
    go_ret3
    exact ⟨ret_three hr.out, F2.out⟩
end Go.Proofs.YtdngnmpmaacapaaGreatDoor
