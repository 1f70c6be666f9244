/-
  Deeds: contracts of the statements' own helpers: szDeed, szDeedS, toDeed, toDeedS, eqDeed, eqDeedS.
-/
import Derived.Test.YtcfbdjdbmjdjnaaTestE
namespace Go.Proofs.Ytcfbdjdbmjdjnaa
open Go.RowKit

theorem infoDeed : (Try.prog.info? 30).map (fun i => (i.zero, i.size, i.bytes)) = some (some (.agg #[.bool false, .string ByteArray.empty, .string ByteArray.empty, .string ByteArray.empty]), 4, 56) := by kernel_rfl

theorem szDeed_any (x : Dd) (l : Int) (w : World) (h0 : 0 ≤ l) (h1 : l ≤ 1048576) (hx : big x.2) :
    Calls Try.prog 10 #[.agg #[.bool x.1, .string x.2.1, .string x.2.2.1, .string x.2.2.2], .int .i64 l] w fun e w' => (∃ z : Int, e = .returned (.int .i64 z) ∧ Left l z (small x.2)) ∧ Fr w.heap.size none w w' := by
  obtain ⟨x0, x1, x2, x3⟩ := x
  have HX := Lib.hid hx; clear hx
  go_enter Try.func10, Try.ntmps10
  go_wp2_with fail
  refine (szTest_any (x1, x2, x3) l _ h0 h1 HX.out).mono ?_; rintro e w2 ⟨⟨z, rfl, hz⟩, hF2⟩
  have HF2 := Lib.hid (((Fr.refl w.heap.size none w).alloc (Nat.le_refl _) _).and hF2); clear hF2
  rcases hz with rfl | ⟨z0, z1, hsm⟩
  · go_wp2
    go_ret
    exact ⟨⟨_, rfl, .inl rfl⟩, HF2.out⟩
  · have HS := Lib.hid hsm; clear hsm
    go_wp2
    go_ret
    exact ⟨⟨_, rfl, .inr ⟨z0, z1, HS.out⟩⟩, HF2.out⟩

theorem szDeedS_any (a : Option Addr) (cap : Nat) (xs : List Dd) (l : Int) (w : World) (hs : Sl w a (deeds xs)) (hn : xs.length ≤ 9223372036854775807) (hb : BigD xs) (h0 : 0 ≤ l) (h1 : l ≤ 1048576) :
    Calls Try.prog 19 #[.slice a xs.length cap, .int .i64 l] w fun e w' => (∃ z : Int, e = .returned (.int .i64 z) ∧ Left l z (xs.length ≤ 1048576 ∧ SmallD xs)) ∧ Fr w.heap.size none w w' := by
  have HS := Lib.hid hs; have HB := Lib.hid hb; clear hs hb
  by_cases hl : (xs.length : Int) ≤ l
  · go_enter Try.func19, Try.ntmps19
    go_wp2
    go_loopw [1, 5] (fun z i wr => ∃ k : Nat, k ≤ xs.length ∧ i = .int .i64 k ∧ (∃ q : Int, z = .int .i64 q ∧ 0 ≤ q ∧ q ≤ l) ∧ Hid (∀ j, j < k → small (xs.getD j noDeed).2) ∧ Fr w.heap.size none w wr) (fun _ i _ => xs.length - (intOf i).toNat)
    case atStart => exact ⟨0, Nat.zero_le _, rfl, ⟨_, rfl, by omega, by omega⟩, Lib.hid (by intro j hj; omega), Fr.refl _ _ _⟩
    case round =>
      obtain ⟨k, hk, rfl, ⟨q, rfl, q0, q1⟩, hT, hF⟩ := hrel
      have HF := Lib.hid hF; clear hF
      by_cases hlt : k < xs.length
      · obtain ⟨b, off, rfl, hc0, ⟨hc1, hc2, hc3⟩, hc1', hc2', hc3'⟩ := (HS.out.fr HF.out).deed k hlt
        have hbig := Lib.hid (HB.out.at k)
        have step : small (xs.getD k noDeed).2 → ∀ j, j < k + 1 → small (xs.getD j noDeed).2 := by
          intro hsm j hj
          by_cases e : j = k
          · subst e; exact hsm
          · exact hT.out j (by omega)
        have ST := Lib.hid step; clear step
        generalize xs.getD k noDeed = x at *
        obtain ⟨x0, x1, x2, x3⟩ := x
        go_wp2_with fail
        refine (szDeed_any (x0, x1, x2, x3) q _ q0 (by omega) hbig.out).mono ?_; rintro e w2 ⟨⟨z, rfl, hz⟩, hF2⟩
        have HF2 := Lib.hid (HF.out.and hF2); clear hF2
        rcases hz with rfl | ⟨z0, z1, hsm⟩
        · go_wp2
          go_ret
          exact ⟨⟨_, rfl, .inl rfl⟩, HF2.out⟩
        · have HN := Lib.hid (ST.out hsm); clear hsm
          go_wp2
          go_roundw
          case rel => exact ⟨k + 1, by omega, by go_num, ⟨_, rfl, by omega, by omega⟩, HN, HF2.out⟩
          case measure => simp [intOf]; omega
      · have hkk : k = xs.length := by omega
        have hfin : Hid (xs.length ≤ 1048576 ∧ SmallD xs) := by
          refine ⟨by omega, ?_⟩
          intro x hx
          obtain ⟨i, hi, rfl⟩ := List.getElem_of_mem hx
          have := hT.out i (by omega)
          simpa [List.getD_eq_getElem?_getD, hi] using this
        clear hkk
        go_wp2
        go_ret
        exact ⟨⟨_, rfl, .inr ⟨by omega, by omega, hfin.out⟩⟩, HF.out⟩
  · go_enter Try.func19, Try.ntmps19
    go_wp2
    go_ret
    exact ⟨⟨_, rfl, .inl rfl⟩, Fr.refl _ _ _⟩

theorem toDeed_any (x : Dd) (w : World) : Calls Try.prog 12 #[.agg #[.bool x.1, .string x.2.1, .string x.2.2.1, .string x.2.2.2]] w fun e w' => e = .returned (.agg #[.bool x.1, .string x.2.1, .string x.2.2.1, .string x.2.2.2]) ∧ Fr w.heap.size none w w' := by
  obtain ⟨x0, x1, x2, x3⟩ := x
  go_enter Try.func12, Try.ntmps12
  go_wp2_with fail
  refine (toTest_any (x1, x2, x3) _).mono ?_; rintro e w2 ⟨rfl, hF2⟩
  have c0 : w2.cell? ⟨w.heap.size + 1 + 1, 0, none⟩ = some (.bool x0) := (hF2.cell (by simp [World.setCell]) (by simp)).trans (by go_simp)
  have f0 : w2.frozen? ⟨w.heap.size + 1 + 1, 0, none⟩ = false := (hF2.frozen (by simp [World.setCell]) (by simp)).trans (by go_simp)
  have c1 : w2.cell? ⟨w.heap.size + 1 + 1, 1, none⟩ = some (.string ⟨#[]⟩) := (hF2.cell (by simp [World.setCell]) (by simp)).trans (by go_simp)
  have f1 : w2.frozen? ⟨w.heap.size + 1 + 1, 1, none⟩ = false := (hF2.frozen (by simp [World.setCell]) (by simp)).trans (by go_simp)
  have c2 : w2.cell? ⟨w.heap.size + 1 + 1, 2, none⟩ = some (.string ⟨#[]⟩) := (hF2.cell (by simp [World.setCell]) (by simp)).trans (by go_simp)
  have f2 : w2.frozen? ⟨w.heap.size + 1 + 1, 2, none⟩ = false := (hF2.frozen (by simp [World.setCell]) (by simp)).trans (by go_simp)
  have c3 : w2.cell? ⟨w.heap.size + 1 + 1, 3, none⟩ = some (.string ⟨#[]⟩) := (hF2.cell (by simp [World.setCell]) (by simp)).trans (by go_simp)
  have f3 : w2.frozen? ⟨w.heap.size + 1 + 1, 3, none⟩ = false := (hF2.frozen (by simp [World.setCell]) (by simp)).trans (by go_simp)
  have d0 : w2.cell? ⟨w.heap.size + 1, 0, none⟩ = some (.bool false) := (hF2.cell (by simp [World.setCell]) (by simp)).trans (by go_simp)
  have e0 : w2.frozen? ⟨w.heap.size + 1, 0, none⟩ = false := (hF2.frozen (by simp [World.setCell]) (by simp)).trans (by go_simp)
  have d1 : w2.cell? ⟨w.heap.size + 1, 1, none⟩ = some (.string ⟨#[]⟩) := (hF2.cell (by simp [World.setCell]) (by simp)).trans (by go_simp)
  have e1 : w2.frozen? ⟨w.heap.size + 1, 1, none⟩ = false := (hF2.frozen (by simp [World.setCell]) (by simp)).trans (by go_simp)
  have d2 : w2.cell? ⟨w.heap.size + 1, 2, none⟩ = some (.string ⟨#[]⟩) := (hF2.cell (by simp [World.setCell]) (by simp)).trans (by go_simp)
  have e2 : w2.frozen? ⟨w.heap.size + 1, 2, none⟩ = false := (hF2.frozen (by simp [World.setCell]) (by simp)).trans (by go_simp)
  have d3 : w2.cell? ⟨w.heap.size + 1, 3, none⟩ = some (.string ⟨#[]⟩) := (hF2.cell (by simp [World.setCell]) (by simp)).trans (by go_simp)
  have e3 : w2.frozen? ⟨w.heap.size + 1, 3, none⟩ = false := (hF2.frozen (by simp [World.setCell]) (by simp)).trans (by go_simp)
  have G : Fr w.heap.size none w w2 := ((((Fr.refl w.heap.size none w).alloc (Nat.le_refl _) _).alloc (by simp) _).alloc (by simp; omega) _).and hF2
  clear hF2
  have b1 : w.heap.size ≤ w.heap.size + 1 := by omega
  have b2 : w.heap.size ≤ w.heap.size + 1 + 1 := by omega
  go_wp2
  exact bodyPost_ret (v := .agg #[.bool x0, .string x1, .string x2, .string x3]) (by simp [results, Try.results12, go_sem, *]) rfl ⟨rfl, ((((((G.setCell (.inl b2) _).setCell (.inl b2) _).setCell (.inl b2) _).setCell (.inl b1) _).setCell (.inl b1) _).setCell (.inl b1) _).setCell (.inl b1) _⟩

def zDeed : List Value := [.bool false, .string ByteArray.empty, .string ByteArray.empty, .string ByteArray.empty]
theorem mkDeeds (n : Nat) (hn : n ≤ 2097152) (w : World) :
    ∃ w1, (Instr.makeSlice 43 (.int .i64 (n : Int)) (.int .i64 (n : Int))).run Try.prog w = .ok (.slice (some ⟨w.heap.size, 0, none⟩) n n) w1 ∧
      w1.ownsRow w.heap.size 30 4 (.slice (some ⟨w.heap.size, 0, none⟩) n n) n (zrows zDeed n) ∧ Fr w.heap.size none w w1 := by
  obtain ⟨i0, hi, hz0, hz1, hz2⟩ := info_parts infoDeed
  obtain ⟨w1, hr, ho, hg⟩ := run_make_full (P := Try.prog) w w.heap.size 43 30 i0 (.agg zDeed.toArray) 4 Try.underlying43 hi hz0 hz1 .i64 .i64 n (by rw [hz2]; omega) (by simp [maxLen]; omega) (Nat.le_refl _)
  refine ⟨w1, hr, ?_, (Fr.refl _ _ w).grown hg (Nat.le_refl _) (by simp)⟩
  have e := made_zrows zDeed n (by simp [zDeed])
  rw [← e]; exact ho

/-- Four fields of an own row are written. -/
theorem own_set4 {w : World} {B : Nat} {T g n cap : Nat} {A C : List Value} {x y z u : Value} (k : Nat) (a b c d : Value) (hA : A.length = k * 4)
    (ho : w.ownsRow B T 4 (.slice (some ⟨g, 0, none⟩) n cap) n (A ++ ([x, y, z, u] ++ C))) :
    ((((w.setCell ⟨g, k * 4, none⟩ a).setCell ⟨g, k * 4 + 1, none⟩ b).setCell ⟨g, k * 4 + 2, none⟩ c).setCell ⟨g, k * 4 + 3, none⟩ d).ownsRow B T 4 (.slice (some ⟨g, 0, none⟩) n cap) n (A ++ ([a, b, c, d] ++ C)) := by
  have h1 := (ho.stored (k * 4) a).1
  have h2 := (h1.stored (k * 4 + 1) b).1
  have h3 := (h2.stored (k * 4 + 2) c).1
  have h4 := (h3.stored (k * 4 + 3) d).1
  rw [set4 A C x y z u a b c d (k * 4) (k * 4 + 1) (k * 4 + 2) (k * 4 + 3) hA.symm rfl rfl rfl] at h4
  exact h4
theorem own_get4 {w : World} {B : Nat} {T g n cap : Nat} {A C : List Value} {x y z u : Value} (k : Nat) (hA : A.length = k * 4)
    (ho : w.ownsRow B T 4 (.slice (some ⟨g, 0, none⟩) n cap) n (A ++ ([x, y, z, u] ++ C))) :
    (w.cell? ⟨g, k * 4, none⟩ = some x ∧ w.cell? ⟨g, k * 4 + 1, none⟩ = some y ∧ w.cell? ⟨g, k * 4 + 2, none⟩ = some z ∧ w.cell? ⟨g, k * 4 + 3, none⟩ = some u) ∧ w.frozen? ⟨g, k * 4, none⟩ = false ∧ w.frozen? ⟨g, k * 4 + 1, none⟩ = false ∧ w.frozen? ⟨g, k * 4 + 2, none⟩ = false ∧ w.frozen? ⟨g, k * 4 + 3, none⟩ = false := by
  have hl := ho.1
  simp only [List.length_append, List.length_cons, List.length_nil] at hl
  refine ⟨⟨?_, ?_, ?_, ?_⟩, ho.frozenAt _, ho.frozenAt _, ho.frozenAt _, ho.frozenAt _⟩
  · rw [ho.cellAt (k * 4) (by omega), List.getElem?_append_right (by omega)]; simp [hA]
  · rw [ho.cellAt (k * 4 + 1) (by omega), List.getElem?_append_right (by omega)]; simp [hA]
  · rw [ho.cellAt (k * 4 + 2) (by omega), List.getElem?_append_right (by omega)]; simp [hA]
  · rw [ho.cellAt (k * 4 + 3) (by omega), List.getElem?_append_right (by omega)]; simp [hA]
theorem ownO_get4 {w : World} {B : Nat} {T g n cap : Nat} {A C : List Value} {x y z u : Value} (k : Nat) (hA : A.length = k * 4)
    (ho : Own w B T 4 (.slice (some ⟨g, 0, none⟩) n cap) n (A ++ ([x, y, z, u] ++ C))) :
    (w.cell? ⟨g, k * 4, none⟩ = some x ∧ w.cell? ⟨g, k * 4 + 1, none⟩ = some y ∧ w.cell? ⟨g, k * 4 + 2, none⟩ = some z ∧ w.cell? ⟨g, k * 4 + 3, none⟩ = some u) ∧ w.frozen? ⟨g, k * 4, none⟩ = false ∧ w.frozen? ⟨g, k * 4 + 1, none⟩ = false ∧ w.frozen? ⟨g, k * 4 + 2, none⟩ = false ∧ w.frozen? ⟨g, k * 4 + 3, none⟩ = false := by
  have hl := ho.1
  simp only [List.length_append, List.length_cons, List.length_nil] at hl
  refine ⟨⟨?_, ?_, ?_, ?_⟩, ho.frozenAt _, ho.frozenAt _, ho.frozenAt _, ho.frozenAt _⟩
  · rw [ho.cellAt (k * 4) (by omega), List.getElem?_append_right (by omega)]; simp [hA]
  · rw [ho.cellAt (k * 4 + 1) (by omega), List.getElem?_append_right (by omega)]; simp [hA]
  · rw [ho.cellAt (k * 4 + 2) (by omega), List.getElem?_append_right (by omega)]; simp [hA]
  · rw [ho.cellAt (k * 4 + 3) (by omega), List.getElem?_append_right (by omega)]; simp [hA]

set_option maxHeartbeats 400000 in
theorem toDeedS_any (a : Option Addr) (cap : Nat) (xs : List Dd) (w : World) (hs : Sl w a (deeds xs)) (hn : xs.length ≤ 1048576) :
    Calls Try.prog 21 #[.slice a xs.length cap] w fun e w' => ∃ g, e = .returned (.slice (some ⟨g, 0, none⟩) xs.length xs.length) ∧ w'.ownsRow w.heap.size 30 4 (.slice (some ⟨g, 0, none⟩) xs.length xs.length) xs.length (deeds xs) ∧ Fr w.heap.size none w w' := by
  obtain ⟨w1, hr, ho1, HF⟩ := mkDeeds xs.length (by omega) w
  have HO := Lib.hid ho1; clear ho1
  have z1 := HF.size
  have zl : w.heap.size < w1.heap.size := (own_lt HO.out _ rfl).2
  have HS := Lib.hid hs; clear hs
  go_enter Try.func21, Try.ntmps21
  go_wp2
  clear hr
  go_loopw [4] (fun i wr => ∃ k : Nat, k ≤ xs.length ∧ i = .int .i64 k ∧ wr.ownsRow w.heap.size 30 4 (.slice (some ⟨w.heap.size, 0, none⟩) xs.length xs.length) xs.length (deeds (xs.take k) ++ zrows zDeed (xs.length - k)) ∧ Fr w.heap.size none w wr ∧ w.heap.size < wr.heap.size) (fun i _ => xs.length - (intOf i).toNat)
  case atStart => exact ⟨0, Nat.zero_le _, rfl, HO.out, HF, zl⟩
  case round =>
    obtain ⟨k, hk, rfl, ho, hF, hz⟩ := hrel
    have HF' := Lib.hid hF; clear hF
    by_cases hlt : k < xs.length
    · obtain ⟨b, off, rfl, hc0, ⟨hc1, hc2, hc3⟩, hc1', hc2', hc3'⟩ := (HS.out.fr HF'.out).deed k hlt
      have e : xs.length - k = (xs.length - (k + 1)) + 1 := by omega
      rw [e, zrows_succ] at ho
      have HO' := Lib.hid ho
      have hA : Hid ((deeds (xs.take k)).length = k * 4) := by rw [deeds_length, List.length_take]; show _ = _; rw [Nat.min_eq_left hk]
      have hst := Lib.hid (getD_snoc xs noDeed k hlt)
      clear ho e
      generalize xs.getD k noDeed = x at *
      go_wp2_with fail
      refine (toDeed_any x _).mono ?_; rintro e w2 ⟨rfl, hF2⟩
      have O2 := Lib.hid (own_keep HO'.out hF2)
      have F2 := Lib.hid (HF'.out.and hF2)
      have z2 := hF2.size
      obtain ⟨⟨g1, g2, g3, g4⟩, f1, f2, f3, f4⟩ := own_get4 k hA.out O2.out
      have O3 := Lib.hid (own_set4 k (.bool x.1) (.string x.2.1) (.string x.2.2.1) (.string x.2.2.2) hA.out O2.out)
      have F3 := Lib.hid ((((F2.out.setCell (p := ⟨w.heap.size, k * 4, none⟩) (.inl (Nat.le_refl _)) (.bool x.1)).setCell (p := ⟨w.heap.size, k * 4 + 1, none⟩) (.inl (Nat.le_refl _)) (.string x.2.1)).setCell (p := ⟨w.heap.size, k * 4 + 2, none⟩) (.inl (Nat.le_refl _)) (.string x.2.2.1)).setCell (p := ⟨w.heap.size, k * 4 + 3, none⟩) (.inl (Nat.le_refl _)) (.string x.2.2.2))
      clear hF2
      go_wp2
      go_roundw
      case rel => exact ⟨k + 1, by omega, by go_num, by rw [hst.out, deeds, rows_append, rows_one, List.append_assoc]; exact O3.out, F3.out, by simp [World.setCell]; omega⟩
      case measure => simp [intOf]; omega
    · have hkk : k = xs.length := by omega
      have HN : Hid (wr.ownsRow w.heap.size 30 4 (.slice (some ⟨w.heap.size, 0, none⟩) xs.length xs.length) xs.length (deeds xs)) := by
        rw [hkk, Nat.sub_self, zrows_zero, List.append_nil, List.take_length] at ho; exact ho
      clear hkk ho
      go_wp2
      go_ret
      exact ⟨_, rfl, HN.out, HF'.out⟩

theorem eqDeed_any (x : Dd) (w : World) : Calls Try.prog 46 #[.agg #[.bool x.1, .string x.2.1, .string x.2.2.1, .string x.2.2.2], .agg #[.bool x.1, .string x.2.1, .string x.2.2.1, .string x.2.2.2]] w fun e w' => e = .returned (.bool true) ∧ Fr w.heap.size none w w' := by
  obtain ⟨x0, x1, x2, x3⟩ := x
  go_enter Try.func46, Try.ntmps46
  go_wp2_with fail
  refine (eqTest_any (x1, x2, x3) _).mono ?_; rintro e w2 ⟨rfl, hF2⟩
  have HF2 := Lib.hid ((((Fr.refl w.heap.size none w).alloc (Nat.le_refl _) _).alloc (by simp) _).and hF2); clear hF2
  go_wp2
  go_ret
  exact ⟨rfl, HF2.out⟩

set_option maxRecDepth 100000 in
theorem eqDeedS_any (a b : Option Addr) (ca cb : Nat) (xs : List Dd) (w : World) (ha : Sl w a (deeds xs)) (hb : Sl w b (deeds xs)) (hn : xs.length ≤ 1048576) :
    Calls Try.prog 23 #[.slice a xs.length ca, .slice b xs.length cb] w fun e w' => e = .returned (.bool true) ∧ Fr w.heap.size none w w' := by
  have HA := Lib.hid ha; have HB := Lib.hid hb; clear ha hb
  go_enter Try.func23, Try.ntmps23
  go_wp2
  go_loopw [5] (fun i wr => ∃ k : Nat, k ≤ xs.length ∧ i = .int .i64 k ∧ Fr w.heap.size none w wr) (fun i _ => xs.length - (intOf i).toNat)
  case atStart => exact ⟨0, Nat.zero_le _, rfl, Fr.refl _ _ _⟩
  case round =>
    obtain ⟨k, hk, rfl, hF⟩ := hrel
    have HF := Lib.hid hF; clear hF
    by_cases hlt : k < xs.length
    · obtain ⟨b1, off1, rfl, hc1, ⟨hc1', hc1'', hc1'''⟩, hd1, hd1', hd1''⟩ := (HA.out.fr HF.out).deed k hlt
      obtain ⟨b2, off2, rfl, hc2, ⟨hc2', hc2'', hc2'''⟩, hd2, hd2', hd2''⟩ := (HB.out.fr HF.out).deed k hlt
      generalize xs.getD k noDeed = x at *
      have hlt' : (k : Int) < (xs.length : Int) := by omega
      go_wp2
      go_still_tail 8, (by kernel_rfl)
      change wpList _ _ _ _ _ wr.drew
      go_wp2_with fail
      refine (eqDeed_any x _).mono ?_; rintro e w2 ⟨rfl, hF2⟩
      have HF2 := Lib.hid (HF.out.drew.trans (hF2.mono HF.out.size)); clear hF2
      go_wp2
      go_roundw
      case rel => exact ⟨k + 1, by omega, by go_num, HF2.out⟩
      case measure => simp [intOf]; omega
    · go_wp2
      go_ret
      exact ⟨rfl, HF.out⟩

end Go.Proofs.Ytcfbdjdbmjdjnaa
