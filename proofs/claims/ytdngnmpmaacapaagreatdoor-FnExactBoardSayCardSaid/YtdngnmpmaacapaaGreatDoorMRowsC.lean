/-
  Merged: RowsC Join ApartI RowT RowsS DrawSay.
-/
import Derived.Test.YtdngnmpmaacapaaGreatDoorMMovI
import Derived.Test.YtdngnmpmaacapaaGreatDoorMAskP
import Derived.Test.YtdngnmpmaacapaaGreatDoorMShelfJ
import Derived.Test.YtdngnmpmaacapaaGreatDoorMApartP
import Derived.Test.YtdngnmpmaacapaaGreatDoorMWaysE
import Derived.Maps.Own
import Derived.Maps.OwnOps
import Derived.Maps.OwnSet
import Derived.Maps.Views
import Derived.Test.YtdngnmpmaacapaaGreatDoorMScoreC
import Derived.Test.YtdngnmpmaacapaaGreatDoorMTell
import Derived.Test.YtdngnmpmaacapaaGreatDoorMWaysA
import Derived.Test.YtdngnmpmaacapaaGreatDoorMLineD
import Derived.Test.YtdngnmpmaacapaaGreatDoorMDrawBoard
set_option linter.unusedVariables false
set_option linter.unusedSimpArgs false
/-
  Contracts: RowsOf, ProductOf of both.
-/
namespace Go.Proofs.YtdngnmpmaacapaaGreatDoor
open Go.RowKit

theorem rowC_facts {s : ByteArray} {d : Int} (hs : numOk s = true) (hd : 0 ≤ d ∧ d ≤ 9) : (rowC s d).1.length ≤ 9 ∧ 1 ≤ (rowC s d).1.length ∧ Linked (rowC s d).1 ∧ (∀ k, k < (rowC s d).1.length → goodR ((rowC s d).1.getD 0 noCol).2.1 ((rowC s d).1.getD k noCol) = true) ∧
    (plainT (lastOut (rowC s d).1 :: wrote (rowC s d).1), plainOk (lastOut (rowC s d).1 :: wrote (rowC s d).1)) = rowI s d := by
  have l1 := num_len hs
  have e : (rowC s d).1.length = s.size := chain_len _ _
  have e0 : ((rowC s d).1.getD 0 noCol).2.1 = d := by unfold rowC; rw [chain_get _ _ _ (by omega)]; rfl
  refine ⟨by omega, by omega, chain_linked _ (fun _ _ => rfl) _, ?_, ?_⟩
  · intro k hk
    rw [e] at hk
    rw [e0]
    unfold rowC
    rw [chain_get _ _ _ hk]
    exact row_good hs hd k
  · have el : lastOut (rowC s d).1 = (rowC s d).2 := chain_last _ _
    rw [el]; rfl
theorem app_strs {w : World} {B : Nat} {v : Value} {xs ys : List ByteArray} {x : ByteArray} (h : w.ownsRow B 9 1 v (xs.length + 1) (strs xs ++ [.string x])) (e0 : xs ++ [x] = ys) :
    ∃ a c, v = .slice a ys.length c ∧ w.ownsRow B 9 1 (.slice a ys.length c) ys.length (strs ys) := by
  subst e0
  obtain ⟨a, c, rfl, _, _⟩ := own_slice h
  have e : (xs ++ [x]).length = xs.length + 1 := by simp
  have e2 : strs (xs ++ [x]) = strs xs ++ [.string x] := by simp [strs]
  exact ⟨a, c, by rw [e], by rw [e, e2]; exact h⟩
theorem clipS_any (a : Option Addr) (cap n : Nat) (w : World) (hn : n ≤ cap) (hc : cap ≤ 9223372036854775807) :
    Calls Tryz.prog 62 #[.slice a n cap] w fun e w' => e = .returned (.slice a n n) ∧ w = w' := by
  go_enter Tryz.func62, Tryz.ntmps62
  go_wp2
  go_ret
  exact ⟨rfl, rfl⟩
theorem own_caps {w : World} {B : Nat} {e : TypeId} {k n cap : Nat} {a : Option Addr} {cs : List Value} (h : w.ownsRow B e k (.slice a n cap) n cs) : n ≤ cap ∧ cap ≤ 9223372036854775807 := by
  obtain ⟨a', c', hv, h1, h2⟩ := own_slice h
  cases hv
  exact ⟨h1, by unfold maxLen at h2; omega⟩
/-- Rows of texts, if there are any, and whether. -/
def RowsPost (r : Option (List ByteArray)) (w : World) (e : Ending) (w' : World) : Prop :=
  (match r with
    | some l => ∃ a c, e = .returned (.tuple #[.slice a l.length c, .bool true]) ∧ Sl w' a (strs l)
    | none => ∃ a n c, e = .returned (.tuple #[.slice a n c, .bool false])) ∧ Fr w.heap.size none w w'
theorem rowsPost_no {r : Option (List ByteArray)} {w w' : World} {a : Option Addr} {n c : Nat} (h : r = none) (hF : Fr w.heap.size none w w') : RowsPost r w (.returned (.tuple #[.slice a n c, .bool false])) w' := by
  subst h; exact ⟨⟨a, n, c, rfl⟩, hF⟩
theorem rowsPost_yes {r : Option (List ByteArray)} {l : List ByteArray} {w w' : World} {a : Option Addr} {c : Nat} (h : r = some l) (hs : Sl w' a (strs l)) (hF : Fr w.heap.size none w w') : RowsPost r w (.returned (.tuple #[.slice a l.length c, .bool true])) w' := by
  subst h; exact ⟨⟨a, c, rfl, hs⟩, hF⟩

set_option maxHeartbeats 4000000 in
set_option maxRecDepth 100000 in
theorem implRows_any (s t : ByteArray) (w : World) (hs : s.size ≤ 1048576) (ht : t.size ≤ 1048576) : Calls Tryz.prog 153 #[.string s, .string t] w (RowsPost (rowsI s t) w) := by
  cases h1 : numOk s
  · have hr := Lib.hid (show rowsI s t = none by simp [rowsI, h1])
    have H1 := Lib.hid h1; clear h1
    go_enter Tryz.func153, Tryz.ntmps153
    go_wp2_with fail
    refine (num_val hs H1.out _).mono ?_; rintro e w' ⟨rfl, rfl⟩
    go_wp2
    go_ret2
    exact rowsPost_no hr.out (Fr.refl _ _ _)
  cases h2 : numOk t
  · have hr := Lib.hid (show rowsI s t = none by simp [rowsI, h1, h2])
    have H1 := Lib.hid h1; clear h1
    have H2 := Lib.hid h2; clear h2
    go_enter Tryz.func153, Tryz.ntmps153
    go_wp2_with fail
    refine (num_val hs H1.out _).mono ?_; rintro e w' ⟨rfl, rfl⟩
    go_wp2_with fail
    refine (num_val ht H2.out _).mono ?_; rintro e w' ⟨rfl, rfl⟩
    go_wp2
    go_ret2
    exact rowsPost_no hr.out (Fr.refl _ _ _)
  have hr := Lib.hid (show rowsI s t = rowsTo s t t.size by simp [rowsI, h1, h2])
  have l2 := num_len h2
  have DT := Lib.hid (fun (k : Nat) W (hk : k ≤ 100) => digit_any t k W h2 hk)
  have BT := Lib.hid (fun k => digI_bd h2 k)
  have CR := Lib.hid (fun d W hd => implRow_any s d W h1 hd)
  have FR := Lib.hid (fun d hd => rowC_facts (d := d) h1 hd)
  have RS := Lib.hid (fun k l (h : rowsTo s t k = some l) hb => rowsTo_stop h hb t.size)
  have RP := Lib.hid (fun k l (h : rowsTo s t k = some l) hb => rowsTo_step h hb)
  have RL := Lib.hid (fun k l (h : rowsTo s t k = some l) => rowsTo_len h)
  have ZS := Lib.hid (fun d => rowI_size s d)
  have H1 := Lib.hid h1; clear h1
  have H2 := Lib.hid h2; clear h2
  go_enter Tryz.func153, Tryz.ntmps153
  go_wp2_with fail
  refine (num_val hs H1.out _).mono ?_; rintro e w' ⟨rfl, rfl⟩
  go_wp2_with fail
  refine (num_val ht H2.out _).mono ?_; rintro e w' ⟨rfl, rfl⟩
  go_wp2
  go_loopw [6, 22] (fun v i wr => ∃ (k : Nat) (l : List ByteArray) (a : Option Addr) (c : Nat), k ≤ t.size ∧ i = .int .i64 k ∧ v = .slice a l.length c ∧ Hid (rowsTo s t k = some l) ∧ wr.ownsRow w.heap.size 9 1 (.slice a l.length c) l.length (strs l) ∧ Fr w.heap.size none w wr) (fun _ i _ => t.size - (intOf i).toNat)
  case atStart => exact ⟨0, [], none, 0, Nat.zero_le _, rfl, rfl, rfl, World.ownsRow_nil _ _ _ _, Fr.refl _ _ _⟩
  case round =>
    obtain ⟨k, l, a, c, hk, rfl, rfl, hT, ho, hF⟩ := hrel
    have HO := Lib.hid ho; have HF := Lib.hid hF; have hz := hF.size; clear ho hF
    have hl := RL.out k l hT.out
    by_cases hlt : k < t.size
    · have dt := Lib.hid (fun W => DT.out k W (by omega))
      have bt := BT.out k
      have CR1 := Lib.hid (fun W => CR.out (digI t k) W bt)
      obtain ⟨f1, f2, f3, f4, f5⟩ := FR.out (digI t k) bt
      have CW := Lib.hid (fun a c W hS => implRowWritten_any a c (rowC s (digI t k)).1 W hS f1 f2 f3 f4)
      have hz9 := ZS.out (digI t k)
      have P1 := Lib.hid (RS.out k l hT.out)
      have P2 := Lib.hid (RP.out k l hT.out)
      have e1 := congrArg Prod.fst f5
      have e2 := congrArg Prod.snd f5
      dsimp only at e1 e2
      rw [e1, e2] at CW
      clear f3 f4 f5 e1 e2 DT BT CR FR RS RP RL ZS hT
      generalize rowI s (digI t k) = r at *
      obtain ⟨r1, r2⟩ := r
      dsimp only at *
      have CM := Lib.hid (fun W => implMoved_any r1 k W (by omega) (by omega))
      generalize movI r1 k = m at *
      obtain ⟨m1, m2⟩ := m
      dsimp only at *
      generalize (rowC s (digI t k)).1 = cs at *
      generalize digI t k = d at *
      have k0 : (0 : Int) ≤ (k : Int) := by omega
      have hlt' : (k : Int) < (t.size : Int) := by omega
      have HL := Lib.hid hl
      have hl9 : l.length ≤ 9 := by omega
      clear hl hz9 f1 f2
      go_wp2_with fail
      refine (dt.out _).mono ?_; rintro e w' ⟨rfl, rfl⟩
      go_wp2_with fail
      refine (CR1.out _).mono ?_; rintro e w1 ⟨a1, c1, rfl, hs1, hF1⟩
      have S1 := Lib.hid hs1
      have F1 := Lib.hid (HF.out.and hF1)
      have O1 := Lib.hid (own_keep HO.out hF1)
      clear hs1 hF1
      go_wp2_with fail
      refine (CW.out _ _ _ S1.out).mono ?_; rintro e w2 ⟨rfl, hF2⟩
      have F2 := Lib.hid (F1.out.and hF2)
      have O2 := Lib.hid (own_keep O1.out hF2)
      clear hF2
      go_wp2_with fail
      refine (CM.out _).mono ?_; rintro e w3 ⟨rfl, hF3⟩
      have F3 := Lib.hid (F2.out.and hF3)
      have O3 := Lib.hid (own_keep O2.out hF3)
      have z3 := F3.out.size
      clear hF3
      cases r2
      · have hn := Lib.hid (hr.out.trans (P1.out rfl hlt))
        go_wp2
        go_ret2
        exact rowsPost_no hn.out F3.out
      · cases m2
        · have hn := Lib.hid (hr.out.trans (P1.out rfl hlt))
          go_wp2
          go_ret2
          exact rowsPost_no hn.out F3.out
        · have hy := Lib.hid (P2.out rfl)
          obtain ⟨l2, hl2⟩ : ∃ z, l ++ [m1] = z := ⟨_, rfl⟩
          have HL2 := Lib.hid hl2
          have e1 := hy.out
          rw [hl2] at e1
          have E1 := Lib.hid e1
          clear e1 hl2 hy P1 P2
          go_wp2_with (at_builtin; refine app1 32 9 (.string ByteArray.empty) 1 16 Tryz.underlying32 infoStr rfl (by decide) (by decide) rfl _ _ rfl [.string m1] O3.out rfl rfl rfl (by simp [Value.oneCell']) (by omega) z3 ?_; intro v' w' ho' hF'; (
            have F4 := Lib.hid (app_frame F3.out O3.out hF' z3)
            obtain ⟨a', c', rfl, ho3⟩ := app_strs ho' HL2.out
            have O4 := Lib.hid ho3
            clear ho' hF' ho3))
          go_roundw
          case rel => exact ⟨k + 1, l2, a', c', by omega, by go_num, rfl, E1, O4.out, F4.out⟩
          case measure => simp [intOf]; omega
    · have hke : k = t.size := by omega
      have hge : (t.size : Int) ≤ (k : Int) := by omega
      have hy := Lib.hid (show rowsI s t = some l by rw [hr.out, ← hke]; exact hT.out)
      have CC := Lib.hid (fun W => clipS_any a c l.length W (own_caps HO.out).1 (own_caps HO.out).2)
      clear hl hke hT DT BT CR FR RS RP RL ZS
      go_wp2_with fail
      refine (CC.out _).mono ?_; rintro e w' ⟨rfl, rfl⟩
      go_wp2
      go_ret2
      exact rowsPost_yes hy.out (own_sl HO.out) HF.out
theorem implProd_any (s t : ByteArray) (w : World) (hs : s.size ≤ 1048576) (ht : t.size ≤ 1048576) : Calls Tryz.prog 118 #[.string s, .string t] w fun e w' => e = .returned (.tuple #[.string (prodI s t).1, .bool (prodI s t).2]) ∧ Fr w.heap.size none w w' := by
  have CR := Lib.hid (fun W => implRows_any s t W hs ht)
  cases h : rowsI s t with
  | none =>
    have hr := Lib.hid (show ((⟨#[]⟩ : ByteArray), false) = prodI s t by simp [prodI, h])
    rw [h] at CR
    clear h
    go_enter Tryz.func118, Tryz.ntmps118
    go_wp2_with fail
    refine (CR.out _).mono ?_; rintro e w1 ⟨⟨a, n, c, rfl⟩, hF1⟩
    go_wp2
    go_ret2
    exact ⟨ret_pair hr.out, hF1⟩
  | some l =>
    have hr := Lib.hid (show totI l = prodI s t by simp [prodI, h])
    have hok : numOk s = true ∧ numOk t = true := by
      unfold rowsI at h
      split at h
      · next hb => simpa using hb
      · cases h
    have ht2 : rowsTo s t t.size = some l := by simpa [rowsI, hok.1, hok.2] using h
    have hl := rowsTo_len ht2
    have l9 := num_len hok.2
    have hz := rowsTo_size ht2
    have CT := Lib.hid (fun a c W hS => implTotal_any a c l W hS (by omega) (fun k hk => by
      have := hz _ (show l.getD k noS ∈ l by rw [List.getD_eq_getElem?_getD, List.getElem?_eq_getElem hk]; exact List.getElem_mem hk)
      omega))
    rw [hr.out] at CT
    rw [h] at CR
    clear h ht2 hz hl hok
    go_enter Tryz.func118, Tryz.ntmps118
    go_wp2_with fail
    refine (CR.out _).mono ?_; rintro e w1 ⟨⟨a, c, rfl, hs1⟩, hF1⟩
    have F1 := Lib.hid hF1; have S1 := Lib.hid hs1; clear hF1 hs1
    go_wp2_with fail
    refine (CT.out _ _ _ S1.out).mono ?_; rintro e w2 ⟨rfl, hF2⟩
    have F2 := Lib.hid (F1.out.and hF2); clear hF2
    go_wp2
    go_ret2
    exact ⟨rfl, F2.out⟩
end Go.Proofs.YtdngnmpmaacapaaGreatDoor
/-
  Contracts: strings.Join; all ways (which of the program, at a function that holds always).
-/
namespace Go.Proofs.YtdngnmpmaacapaaGreatDoor
open Go.RowKit

theorem join_bd (M : Nat) : ∀ (xs : List (List UInt8)) (c : UInt8), (∀ x ∈ xs, x.length ≤ M) → (Lib.join xs [c]).length ≤ xs.length * (M + 1)
  | [], c, _ => by simp [Lib.join_nil]
  | x :: r, c, h => by
    have hx := h x (by simp)
    rw [Lib.join_cons, List.length_append, Lib.joinTail_length]
    have hl : Lib.lens r ≤ r.length * M := by
      clear hx
      have h2 : ∀ y ∈ r, y.length ≤ M := fun y hy => h y (List.mem_cons_of_mem _ hy)
      clear h
      induction r with
      | nil => simp [Lib.lens]
      | cons y q ih =>
        have h3 := h2 y (by simp)
        have ih2 := ih (fun z hz => h2 z (List.mem_cons_of_mem _ hz))
        simp only [Lib.lens, List.map_cons, List.sum_cons, List.length_cons, Nat.succ_mul] at ih2 ⊢
        omega
    simp only [List.length_cons, List.length_nil, Nat.succ_mul, Nat.mul_succ]
    omega
theorem joinS_bd {xs : List ByteArray} {c : UInt8} {M : Nat} (h : ∀ x ∈ xs, x.size ≤ M) : (joinS xs [c]).size ≤ xs.length * (M + 1) := by
  unfold joinS
  rw [mkL_size]
  have := join_bd M (xs.map (·.data.toList)) c (by
    intro l hl
    rw [List.mem_map] at hl
    obtain ⟨x, hx, rfl⟩ := hl
    have e : x.data.toList.length = x.size := by simp
    rw [e]; exact h x hx)
  rwa [List.length_map] at this
theorem join_any (a : Option Addr) (c : Nat) (xs : List ByteArray) (s : UInt8) (M : Nat) (w : World) (hs : Sl w a (strs xs)) (hc : xs.length ≤ c) (hn : xs.length ≤ 1000) (hM : M ≤ 1000) (hx : ∀ x ∈ xs, x.size ≤ M) :
    Calls Tryz.prog 113 #[.slice a xs.length c, .string ⟨#[s]⟩] w fun e w' => e = .returned (.string (joinS xs [s])) ∧ Fr w.heap.size none w w' := by
  by_cases h0 : xs.length = 0
  · have e : xs = [] := List.eq_nil_of_length_eq_zero h0
    subst e
    refine (joinLib_none a c ⟨#[s]⟩ w).mono ?_
    rintro e w' ⟨rfl, rfl⟩
    exact ⟨rfl, Fr.refl _ _ _⟩
  · obtain ⟨b, off, rfl, h1⟩ := hs 0 (by rw [strs_length]; omega)
    have hb := World.block_lt_of_cell? w _ h1
    have hbd := joinS_bd (c := s) hx
    unfold joinS at hbd
    rw [mkL_size] at hbd
    have hmul : xs.length * (M + 1) ≤ 1000 * 1001 := Nat.mul_le_mul hn (by omega)
    refine (joinLib b off c xs ⟨#[s]⟩ w ?_ hb (by omega) hc (by
      show (Lib.join (xs.map (·.data.toList)) [s]).length ≤ _
      omega)).mono ?_
    · intro j x hj
      have hj2 : j < (strs xs).length := by rw [strs_length]; exact (List.getElem?_eq_some_iff.1 hj).1
      obtain ⟨b', off', e', h2⟩ := hs j hj2
      cases e'
      rw [h2]
      congr 1
      have : (strs xs)[j]? = some (.string x) := by simp [strs, hj]
      rw [List.getElem?_eq_getElem hj2] at this
      exact Option.some.inj this
    · rintro e w' ⟨rfl, hB⟩
      exact ⟨rfl, Fr.of_below hB⟩

/-- All ways below k. -/
def allI (k : Nat) : List Int := (List.range k).map fun n : Nat => (n : Int)
theorem allI_len (k : Nat) : (allI k).length = k := by simp [allI]
theorem allI_succ (k : Nat) : allI k ++ [(k : Int)] = allI (k + 1) := by simp [allI, List.range_succ]
theorem allI_at {k j : Nat} (h : j < k) : (allI k).getD j 0 = (j : Int) := by simp [allI, List.getD_eq_getElem?_getD, h]
theorem always_any (n : Int) (w : World) : Calls Tryz.prog 148 #[.int .i64 n] w fun e w' => e = .returned (.bool true) ∧ w = w' := by
  go_enter Tryz.func148, Tryz.ntmps148
  go_wp2
  go_ret
  exact ⟨rfl, rfl⟩
set_option maxHeartbeats 2000000 in
set_option maxRecDepth 100000 in
theorem whichAll_any (w : World) :
    Calls Tryz.prog 141 #[.func (.func 148) #[] #[]] w fun e w' => (∃ a c, e = .returned (.slice a 16 c) ∧ Sl w' a (ints (allI 16))) ∧ Fr w.heap.size none w w' := by
  go_enter Tryz.func141, Tryz.ntmps141
  go_wp2
  go_loopw [3, 5] (fun v i wr => ∃ (k : Nat) (ys : List Int) (a' : Option Addr) (c' : Nat), k ≤ 16 ∧ i = .int .i64 k ∧ v = .slice a' ys.length c' ∧ Hid (allI k = ys) ∧ ys.length ≤ 16 ∧ wr.ownsRow w.heap.size 3 1 (.slice a' ys.length c') ys.length (ints ys) ∧ Fr w.heap.size none w wr) (fun _ i _ => 16 - (intOf i).toNat)
  case atStart => exact ⟨0, [], none, 0, by omega, rfl, rfl, rfl, by simp, World.ownsRow_nil _ _ _ _, Fr.refl _ _ _⟩
  case round =>
    obtain ⟨k, ys, a', c', hk, rfl, rfl, hY, hl, ho, hF⟩ := hrel
    have HO := Lib.hid ho; have HF := Lib.hid hF; have hz1 := hF.size; clear ho hF
    by_cases hlt : k < 16
    · have hlt' : (k : Int) < 16 := by omega
      have k0 : (0 : Int) ≤ (k : Int) := by omega
      have e0 := Lib.hid (show ys ++ [(k : Int)] = allI (k + 1) by rw [← hY.out]; exact allI_succ k)
      have WL := allI_len (k + 1)
      obtain ⟨zs, hzs⟩ : ∃ zs, allI (k + 1) = zs := ⟨_, rfl⟩
      rw [hzs] at e0 WL
      have HZ := Lib.hid hzs
      have hzl : zs.length ≤ 16 := by omega
      clear hzs WL
      go_wp2_with (first
        | (go_at_call 148; refine (always_any _ _).mono ?_; rintro e w' ⟨rfl, rfl⟩)
        | (at_builtin; refine app1 73 3 (.int .i64 0) 1 8 Tryz.underlying73 infoInt rfl (by decide) (by decide) rfl _ _ rfl [.int .i64 (k : Int)] HO.out rfl rfl rfl (by simp [Value.oneCell']) (by omega) hz1 ?_; intro v' w' ho' hF'; (
          have F2 := Lib.hid (app_frame HF.out HO.out hF' hz1)
          obtain ⟨a2, c2, rfl, ho3⟩ := app_ints' ho' e0.out
          have O3 := Lib.hid ho3
          clear ho' hF' ho3)))
      go_roundw
      case rel => exact ⟨k + 1, zs, a2, c2, by omega, by go_num, rfl, HZ, hzl, O3.out, F2.out⟩
      case measure => simp [intOf]; omega
    · have hke : k = 16 := by omega
      subst hke
      have e1 : ys = allI 16 := hY.out.symm
      have e2 : ys.length = 16 := by rw [e1]; rfl
      have CC := Lib.hid (fun W => clipW_any a' c' ys.length W (own_caps HO.out).1 (own_caps HO.out).2)
      have S1 := Lib.hid (show Sl wr a' (ints (allI 16)) by rw [← e1]; exact own_sl HO.out)
      rw [e2] at CC ⊢
      clear e1 e2 hY HO hl
      go_wp2_with fail
      refine (CC.out _).mono ?_; rintro e w' ⟨rfl, rfl⟩
      go_wp2
      go_ret
      exact ⟨⟨a', _, rfl, S1.out⟩, HF.out⟩
end Go.Proofs.YtdngnmpmaacapaaGreatDoor
/-
  Contracts: lots, ApartBy of the program.
-/
namespace Go.Proofs.YtdngnmpmaacapaaGreatDoor
open Go.RowKit

theorem mapLaw : Go.Maps.Keyed Tryz.prog 9 := Go.Maps.string_keyed Tryz.underlying9
theorem zeroInt (w : World) : (zeroValue 3).run Tryz.prog w = .ok (.int .i64 0) w := by kernel_rfl
/-- The map at a block has just these keys. -/
def KeysAt (w : World) (B n : Nat) (ks : List ByteArray) : Prop :=
  ∃ D : DataW Unit, w.ownsMap Tryz.prog 9 (plainElem Tryz.prog 3) B n D ∧ Go.Maps.size D = ks.length ∧ ∀ x : ByteArray, Go.Maps.has D (.string x.data.toList) = true ↔ x ∈ ks
theorem keysAt_made (w : World) : KeysAt (w.alloc (.map #[] 0)) w.heap.size 0 [] :=
  ⟨.map [], World.ownsMap_made _ _ _ _, rfl, fun x => by simp [Go.Maps.has]⟩
theorem KeysAt.fr {w w' : World} {B n : Nat} {ks : List ByteArray} (h : KeysAt w B n ks) (hF : Fr w.heap.size none w w') : KeysAt w' B n ks := by
  obtain ⟨D, ⟨es, clock, hb, rest⟩, h2, h3⟩ := h
  exact ⟨D, ⟨es, clock, (hF.block B (Array.getElem?_eq_some_iff.1 hb).1 (by simp)).trans hb, rest⟩, h2, h3⟩
theorem lit_inj {x y : ByteArray} (h : (Lit.string y.data.toList) = .string x.data.toList) : y = x := by
  have h2 : y.data.toList = x.data.toList := by simpa using h
  rw [← mkL_data y, ← mkL_data x, h2]
theorem keysAt_put {w w1 : World} {B n : Nat} {f : Nat → ByteArray} {k : Nat} {D d : DataW Unit} (hown : w.ownsMap Tryz.prog 9 (plainElem Tryz.prog 3) B n D) (hs : Go.Maps.size D = (keysTo f k).length)
    (hh : ∀ x : ByteArray, Go.Maps.has D (.string x.data.toList) = true ↔ x ∈ keysTo f k) (h1 : w1.ownsMap Tryz.prog 9 (plainElem Tryz.prog 3) B (n + 1) (D.put (.string (f k).data.toList) d)) : KeysAt w1 B (n + 1) (keysTo f (k + 1)) := by
  refine ⟨_, h1, ?_, ?_⟩
  · rw [Go.Maps.size_put (hown.tidy mapLaw), hs]
    simp only [keysTo]
    by_cases h : f k ∈ keysTo f k
    · rw [if_pos ((hh _).2 h), if_pos h]
    · rw [if_neg (fun e => h ((hh _).1 e)), if_neg h, List.length_append]; rfl
  · intro x
    by_cases hx : x = f k
    · subst hx
      rw [Go.Maps.has_put_same hown.isMap (by simp [WideAt.IsKeyLit])]
      simp only [true_iff]
      rw [keysTo_mem]
      exact ⟨k, by omega, rfl⟩
    · rw [Go.Maps.has_put_other (fun e => hx (lit_inj e)), hh]
      simp only [keysTo]
      by_cases h : f k ∈ keysTo f k
      · rw [if_pos h]
      · rw [if_neg h, List.mem_append, List.mem_singleton]
        constructor
        · exact .inl
        · rintro (h2 | h2)
          · exact h2
          · exact absurd h2 hx
theorem ansI_len (xs : List Tst) (way : Nat) : (ansI xs way).length = xs.length := by simp [ansI]
theorem ansI_take {xs : List Tst} {way j : Nat} (hk : j < xs.length) : (ansI xs way).take j ++ [tbI (xs.getD j noTest).1 (xs.getD j noTest).2.1 (way : Int)] = (ansI xs way).take (j + 1) := by
  have hk2 : j < (ansI xs way).length := by rw [ansI_len]; exact hk
  have e : xs.getD j noTest = xs[j] := by simp [List.getD_eq_getElem?_getD, hk]
  rw [List.take_succ_eq_append_getElem hk2, e]
  simp [ansI]
theorem tbI_size (s t : ByteArray) (way : Int) : (tbI s t way).size ≤ 9 := by
  unfold tbI plainT
  split
  · next h =>
    simp only [plainOk, Bool.and_eq_true] at h
    exact (num_len h.2).2
  · show (0 : Nat) ≤ 9; omega
theorem ansI_size {xs : List Tst} {way : Nat} : ∀ x ∈ ansI xs way, x.size ≤ 9 := by
  intro x hx
  unfold ansI at hx
  rw [List.mem_map] at hx
  obtain ⟨y, _, rfl⟩ := hx
  exact tbI_size _ _ _

set_option maxHeartbeats 4000000 in
set_option maxRecDepth 100000 in
theorem lots_any (a : Option Addr) (cap : Nat) (xs : List Tst) (b : Option Addr) (cb : Nat) (w : World) (hs : Sl w a (tests xs)) (hok : testsOkB xs = true) (hw : Sl w b (ints (allI 16))) :
    Calls Tryz.prog 147 #[.slice a xs.length cap, .slice b 16 cb] w fun e w' => (∃ B n, e = .returned (.map (some B)) ∧ KeysAt w' B n (keysTo (lotI xs) 16)) ∧ Fr w.heap.size none w w' := by
  have hl6 := tests_le hok
  have HA := Lib.hid (fun k hk => tests_at hok k hk)
  have HS := Lib.hid hs; have HW := Lib.hid hw
  clear hs hw hok
  have F0 := Lib.hid ((Fr.refl w.heap.size none w).alloc (Nat.le_refl _) (.map #[] 0))
  have TK := Lib.hid (fun (way j : Nat) (hj : j < xs.length) => ansI_take (way := way) hj)
  have TE := Lib.hid (fun (way : Nat) => show (ansI xs way).take xs.length = ansI xs way by rw [← ansI_len xs way, List.take_length])
  have TL := Lib.hid (fun (way j : Nat) => show ((ansI xs way).take j).length ≤ 6 by rw [List.length_take, ansI_len]; omega)
  have hmm := @run_makeMap Tryz.prog
  go_enter Tryz.func147, Tryz.ntmps147
  go_wp2
  go_loopw [14] (fun i wr => ∃ (k : Nat), k ≤ 16 ∧ i = .int .i64 k ∧ KeysAt wr w.heap.size k (keysTo (lotI xs) k) ∧ Fr w.heap.size none w wr) (fun i _ => 16 - (intOf i).toNat)
  case atStart => exact ⟨0, by omega, rfl, keysAt_made w, F0.out⟩
  case round =>
    obtain ⟨k, hk, rfl, hM, hF⟩ := hrel
    have HF := Lib.hid hF; have HM := Lib.hid hM; have hzz := hF.size; clear hF hM
    by_cases hlt : k < 16
    · have hlt' : (k : Int) < 16 := by omega
      have k0 : (0 : Int) ≤ (k : Int) := by omega
      obtain ⟨bb, boff, rfl, hcb⟩ := (HW.out.fr HF.out).int k (by rw [allI_len]; exact hlt)
      rw [allI_at hlt] at hcb
      obtain ⟨W1, rfl⟩ : ∃ z, z = wr := ⟨_, rfl⟩
      go_wp2
      go_loopw [8, 20] (fun v i wi => ∃ (j : Nat) (ys : List ByteArray) (a' : Option Addr) (c' : Nat), j ≤ xs.length ∧ i = .int .i64 j ∧ v = .slice a' ys.length c' ∧ Hid ((ansI xs k).take j = ys) ∧ wi.ownsRow W1.heap.size 9 1 (.slice a' ys.length c') ys.length (strs ys) ∧ Fr W1.heap.size none W1 wi) (fun _ i _ => xs.length - (intOf i).toNat)
      case atStart => exact ⟨0, [], none, 0, Nat.zero_le _, rfl, rfl, rfl, World.ownsRow_nil _ _ _ _, Fr.refl _ _ _⟩
      case round =>
        obtain ⟨j, ys, a', c', hj, rfl, rfl, hY, ho, hF2⟩ := hrel
        have HF2 := Lib.hid hF2; have HO := Lib.hid ho; have hz2 := hF2.size; clear hF2 ho
        have hyl := TL.out k j
        rw [hY.out] at hyl
        by_cases hlt2 : j < xs.length
        · obtain ⟨b2, off2, rfl, hc0, _, _, hc1, hc2⟩ := (HS.out.fr (HF.out.and HF2.out)).test j hlt2
          have ho := HA.out j hlt2
          have e0 := Lib.hid (show ys ++ [tbI (xs.getD j noTest).1 (xs.getD j noTest).2.1 (k : Int)] = (ansI xs k).take (j + 1) by rw [← hY.out]; exact TK.out k j hlt2)
          generalize xs.getD j noTest = x at *
          obtain ⟨x1, x2, x3⟩ := x
          dsimp only at *
          obtain ⟨o1, o2⟩ := ord_ok ho
          have CT := Lib.hid (fun W => takenBy_fn x1 x2 (k : Int) W o1 o2 (by omega))
          obtain ⟨y, hy⟩ : ∃ y, tbI x1 x2 (k : Int) = y := ⟨_, rfl⟩
          rw [hy] at CT e0
          obtain ⟨zs, hzs⟩ : ∃ z, (ansI xs k).take (j + 1) = z := ⟨_, rfl⟩
          have HZS := Lib.hid hzs
          rw [hzs] at e0
          clear hy ho o1 o2 hzs HA
          have j0 : (0 : Int) ≤ (j : Int) := by omega
          have j1 : (j : Int) < (xs.length : Int) := by omega
          have G0 := Lib.hid (HF2.out.alloc hz2 (.cells #[.string x1, .string x2, .string x3] 52))
          have O0 := Lib.hid (own_keep HO.out ((Fr.refl wr.heap.size none wr).alloc (Nat.le_refl _) (.cells #[.string x1, .string x2, .string x3] 52)))
          go_wp2_with fail
          refine (CT.out _).mono ?_; rintro e w1 ⟨rfl, hF3⟩
          have F1 := Lib.hid (G0.out.and hF3)
          have O1 := Lib.hid (own_keep O0.out hF3)
          have z1 := F1.out.size
          clear hF3 CT
          go_wp2_with (at_builtin; refine app1 32 9 (.string ByteArray.empty) 1 16 Tryz.underlying32 infoStr rfl (by decide) (by decide) rfl _ _ rfl [.string y] O1.out rfl rfl rfl (by simp [Value.oneCell']) (by omega) z1 ?_; intro v' w' ho' hF'; (
            have F2 := Lib.hid (app_frame F1.out O1.out hF' z1)
            obtain ⟨a2, c2, rfl, ho3⟩ := app_strs ho' e0.out
            have O2 := Lib.hid ho3
            clear ho' hF' ho3))
          go_roundw
          case rel => exact ⟨j + 1, zs, a2, c2, by omega, by go_num, rfl, HZS, O2.out, F2.out⟩
          case measure => simp [intOf]; omega
        · have hje : j = xs.length := by omega
          have hge : (xs.length : Int) ≤ (j : Int) := by omega
          have e1 := Lib.hid (show ys = ansI xs k by rw [← hY.out, hje, TE.out])
          have CJ := Lib.hid (fun W hS => join_any a' c' ys 32 9 W hS (own_caps HO.out).1 (by omega) (by omega) (fun x hx => by rw [e1.out] at hx; exact ansI_size x hx))
          have eL := Lib.hid (show joinS ys [32] = lotI xs k by rw [e1.out]; rfl)
          rw [eL.out] at CJ
          have hkz : (lotI xs k).size ≤ maxLen := by
            rw [← eL.out]
            have := joinS_bd (c := 32) (M := 9) (xs := ys) (fun x hx => by rw [e1.out] at hx; exact ansI_size x hx)
            unfold maxLen; omega
          clear hje hY e1 eL TK TE TL HA
          obtain ⟨key, hkey0⟩ : ∃ z, lotI xs k = z := ⟨_, rfl⟩
          rw [hkey0] at CJ hkz
          have HK0 := Lib.hid hkey0; clear hkey0
          have hkey := WideMaps.keyOf_string_mk Tryz.underlying9 hkz
          go_wp2_with fail
          refine (CJ.out _ (own_sl HO.out)).mono ?_; rintro e w2 ⟨rfl, hF3⟩
          have F3 := Lib.hid (HF2.out.and hF3)
          obtain ⟨D, hown, hsz, hhas⟩ := HM.out.fr F3.out
          have HSZ := Lib.hid hsz; have HHS := Lib.hid hhas
          have FW := Lib.hid (HF.out.and F3.out)
          have zw := FW.out.size
          clear hF3 CJ hsz hhas
          go_wp2_with (first
            | (at_lookup; refine wpList_lookup_own_int _ rfl _ _ 144 rfl 9 3 .i64 mapLaw Tryz.underlying144 Tryz.underlying3 (zeroInt _) w.heap.size k D rfl hown _ _ rfl hkey ?_; intro cnt hat hwc; clear hat)
            | (at_mapUpdate; refine wpList_mapUpdate_own _ rfl _ _ _ 144 rfl 9 3 mapLaw Tryz.underlying144 _ w.heap.size k _ rfl hown (by unfold maxLen; omega) _ _ _ rfl rfl hkey _ [] (plainElem_int Tryz.underlying3 (wrap64_wf _)) ?_; intro w3 hown3 hgrow3))
          have FE := Lib.hid (FW.out.grown hgrow3 zw (fun q e => by cases e; exact .inl (Nat.le_refl _)))
          have ME := Lib.hid (keysAt_put (f := lotI xs) (k := k) hown HSZ.out HHS.out (by rw [HK0.out]; exact hown3))
          clear hown hown3 hgrow3
          go_wp2
          go_roundw
          case rel => exact ⟨k + 1, by omega, by go_num, ME.out, FE.out⟩
          case measure => simp [intOf]; omega
    · have hke : k = 16 := by omega
      subst hke
      go_wp2
      go_ret
      exact ⟨⟨_, _, rfl, HM.out⟩, HF.out⟩
end Go.Proofs.YtdngnmpmaacapaaGreatDoor
/-
  Contracts: l10Row of the reference: numbers with commas between them.
-/
namespace Go.Proofs.YtdngnmpmaacapaaGreatDoor
open Go.RowKit

/-- The text of the first k numbers, with commas between them. -/
def rowTo (ys : List Int) (k : Nat) : ByteArray := joinS ((ys.take k).map fun y => decS y.toNat) [44]
theorem mkL_inj' {A B : List UInt8} (h : A = B) : mkL A = mkL B := by rw [h]
theorem joinS_one (x : ByteArray) : joinS [x] [44] = x := by unfold joinS; simp [Lib.join_one, mkL_data]
theorem mkL_data3 (x y : ByteArray) (l : List UInt8) : mkL (l ++ [44] ++ y.data.toList) = mkL l ++ ⟨#[44]⟩ ++ y := by
  have h1 : (⟨#[44]⟩ : ByteArray) = mkL [44] := rfl
  rw [h1, mkL_app]
  have h2 : mkL (l ++ [44]) ++ y = mkL (l ++ [44]) ++ mkL y.data.toList := by rw [mkL_data]
  rw [h2, mkL_app]
theorem joinS_snoc (x : ByteArray) (r : List ByteArray) (y : ByteArray) : joinS (x :: r ++ [y]) [44] = joinS (x :: r) [44] ++ ⟨#[44]⟩ ++ y := by
  unfold joinS
  rw [← mkL_data3 x y]
  apply mkL_inj'
  simp only [List.map_append, List.map_cons, List.map_nil, List.cons_append]
  rw [Lib.join_cons, Lib.join_cons]
  simp [Lib.joinTail, List.append_assoc]
theorem take_int {ys : List Int} {k : Nat} (hk : k < ys.length) : ys.take (k + 1) = ys.take k ++ [ys.getD k 0] := by
  rw [List.take_succ_eq_append_getElem hk]; simp [List.getD_eq_getElem?_getD, hk]
theorem rowTo_zero (ys : List Int) : rowTo ys 0 = ⟨#[]⟩ := by simp [rowTo, joinS, Lib.join_nil, mkL]
theorem rowTo_one {ys : List Int} (hk : 0 < ys.length) : rowTo ys 1 = decS (ys.getD 0 0).toNat := by
  unfold rowTo
  rw [show (1 : Nat) = 0 + 1 from rfl, take_int hk]
  simp [joinS_one]
theorem rowTo_more {ys : List Int} {k : Nat} (hk : k < ys.length) (h0 : 0 < k) : rowTo ys (k + 1) = rowTo ys k ++ ⟨#[44]⟩ ++ decS (ys.getD k 0).toNat := by
  unfold rowTo
  rw [take_int hk, List.map_append]
  have hl : ((ys.take k).map (fun y => decS y.toNat)).length = k := by rw [List.length_map, List.length_take]; omega
  generalize (ys.take k).map (fun y => decS y.toNat) = l at hl ⊢
  match l, hl with
  | [], hl => simp at hl; omega
  | x :: r, _ => exact joinS_snoc x r _
theorem rowTo_end {ys : List Int} (h : ys ≠ []) : rowTo ys ys.length = rowTextI ys := by unfold rowTo rowTextI; rw [List.take_length, if_neg h]
theorem rowTo_size {ys : List Int} {k : Nat} (hb : ∀ y ∈ ys, 0 ≤ y ∧ y < 16) (hl : ys.length ≤ 16) : (rowTo ys k).size ≤ 48 := by
  unfold rowTo
  have := joinS_bd (c := 44) (M := 2) (xs := (ys.take k).map fun y => decS y.toNat) (by
    intro x hx
    rw [List.mem_map] at hx
    obtain ⟨y, hy, rfl⟩ := hx
    have := hb y (List.mem_of_mem_take hy)
    exact decS_size2 (by omega))
  rw [List.length_map, List.length_take] at this
  omega

set_option maxHeartbeats 2000000 in
set_option maxRecDepth 100000 in
theorem specRow10_any (a : Option Addr) (cap : Nat) (ys : List Int) (w : World) (hs : Sl w a (ints ys)) (hb : ∀ y ∈ ys, 0 ≤ y ∧ y < 16) (hl : ys.length ≤ 16) :
    Calls Tryz.prog 47 #[.slice a ys.length cap] w fun e w' => e = .returned (.string (rowTextI ys)) ∧ Fr w.heap.size none w w' := by
  have HS := Lib.hid hs; have HB := Lib.hid hb; clear hs hb
  have R0 := Lib.hid (rowTo_zero ys)
  have R1 := Lib.hid (fun h => rowTo_one (ys := ys) h)
  have RM := Lib.hid (fun k hk h0 => rowTo_more (ys := ys) (k := k) hk h0)
  have RE := Lib.hid (fun h => rowTo_end (ys := ys) h)
  have RZ := Lib.hid (fun k => rowTo_size (k := k) HB.out hl)
  have RN := Lib.hid (show ys = [] → noneS = rowTextI ys by intro h; unfold rowTextI; rw [if_pos h])
  go_enter Tryz.func47, Tryz.ntmps47
  go_wp2
  go_loopw [3, 4] (fun v i wr => ∃ (k : Nat), k ≤ ys.length ∧ i = .int .i64 k ∧ v = .string (rowTo ys k) ∧ Fr w.heap.size none w wr) (fun _ i _ => ys.length - (intOf i).toNat)
  case atStart => exact ⟨0, Nat.zero_le _, rfl, by rw [R0.out], Fr.refl _ _ _⟩
  case round =>
    obtain ⟨k, hk, rfl, rfl, hF⟩ := hrel
    have HF := Lib.hid hF; clear hF
    by_cases hlt : k < ys.length
    · obtain ⟨b, off, rfl, hc⟩ := (HS.out.fr HF.out).int k hlt
      have bd := HB.out _ (getD_mem hlt)
      have r1 := Lib.hid (fun h0 => RM.out k hlt h0)
      have rz := RZ.out k
      have r0 := Lib.hid (fun (h0 : k = 0) => show rowTo ys (k + 1) = decS (ys.getD k 0).toNat by subst h0; exact R1.out hlt)
      have rk := Lib.hid (fun (h0 : k = 0) => show rowTo ys k = ⟨#[]⟩ by subst h0; exact R0.out)
      obtain ⟨y, hy⟩ : ∃ y : Nat, ys.getD k 0 = (y : Int) := ⟨(ys.getD k 0).toNat, by omega⟩
      rw [hy] at hc r1 r0 bd
      rw [show ((y : Int)).toNat = y by omega] at r1 r0
      have CL := Lib.hid (fun W => l1Number_any y W (by omega))
      have ds := decS_size2 (n := y) (by omega)
      obtain ⟨ds0, hds⟩ : ∃ z, decS y = z := ⟨_, rfl⟩
      rw [hds] at CL r1 r0 ds
      clear hy hds bd
      have k0 : (0 : Int) ≤ (k : Int) := by omega
      have k1 : (k : Int) < (ys.length : Int) := by omega
      obtain ⟨A, hA⟩ : ∃ z, rowTo ys k = z := ⟨_, rfl⟩
      obtain ⟨A2, hA2⟩ : ∃ z, rowTo ys (k + 1) = z := ⟨_, rfl⟩
      rw [hA] at r1 rz rk ⊢
      rw [hA2] at r1 r0
      have HA2 := Lib.hid hA2
      clear hA hA2
      by_cases h0 : k = 0
      · have e1 := Lib.hid (r0.out h0)
        have e2 : A = ⟨#[]⟩ := rk.out h0
        subst e2
        have hk0 : ¬ (0 : Int) < (k : Int) := by omega
        clear r0 r1 rk h0
        go_wp2_with fail
        refine (CL.out _).mono ?_; rintro e w2 ⟨rfl, hF2⟩
        have F2 := Lib.hid (HF.out.and hF2); clear hF2
        go_wp2
        go_roundw
        case rel => exact ⟨k + 1, by omega, by go_num, by rw [HA2.out, e1.out]; simp; exact (show ByteArray.empty ++ ds0 = ds0 from ByteArray.empty_append), F2.out⟩
        case measure => simp [intOf]; omega
      · have e1 := Lib.hid (r1.out (by omega))
        have hk0 : (0 : Int) < (k : Int) := by omega
        have hno : ¬ 9223372036854775807 < A.size + 1 := by omega
        have hno2 : ¬ 9223372036854775807 < A.size + 1 + ds0.size := by omega
        clear r0 r1 rk h0
        go_wp2_with fail
        refine (CL.out _).mono ?_; rintro e w2 ⟨rfl, hF2⟩
        have F2 := Lib.hid (HF.out.and hF2); clear hF2
        go_wp2
        go_roundw
        case rel => exact ⟨k + 1, by omega, by go_num, by rw [HA2.out, e1.out], F2.out⟩
        case measure => simp [intOf]; omega
    · have hke : k = ys.length := by omega
      have hge : (ys.length : Int) ≤ (k : Int) := by omega
      by_cases he : ys = []
      · have hr := Lib.hid (RN.out he)
        have hz0 : ((ys.length : Int) == 0) = true := by rw [he]; rfl
        clear he hke
        go_wp2
        go_ret
        exact ⟨by rw [← hr.out]; rfl, HF.out⟩
      · have hr := Lib.hid (show rowTo ys k = rowTextI ys by rw [hke]; exact RE.out he)
        have hpos : 0 < ys.length := List.length_pos_iff.2 he
        have hz0 : ((ys.length : Int) == 0) = false := by rw [beq_eq_false_iff_ne]; omega
        clear he hke
        go_wp2
        go_ret
        exact ⟨by rw [← hr.out]; rfl, HF.out⟩
end Go.Proofs.YtdngnmpmaacapaaGreatDoor
/-
  Contracts: RowsOf, ProductOf of the reference.
-/
namespace Go.Proofs.YtdngnmpmaacapaaGreatDoor
open Go.RowKit

set_option maxHeartbeats 4000000 in
set_option maxRecDepth 100000 in
theorem specRows_any (s t : ByteArray) (w : World) (hs : s.size ≤ 1048576) (ht : t.size ≤ 1048576) : Calls Tryz.prog 128 #[.string s, .string t] w (RowsPost (rowsI s t) w) := by
  have F0 := Lib.hid ((Fr.refl w.heap.size none w).alloc (Nat.le_refl _) (.cells #[] 9))
  have O0 := Lib.hid (World.ownsRow_made (e := 9) (size := 1) (base := w.heap.size) w #[] 0 (Nat.le_refl _) (by simp [maxLen]) (by simp))
  cases h1 : numOk s
  · have hr := Lib.hid (show rowsI s t = none by simp [rowsI, h1])
    have H1 := Lib.hid h1; clear h1
    go_enter Tryz.func128, Tryz.ntmps128
    go_wp2_with fail
    refine (numS_val hs H1.out _).mono ?_; rintro e w' ⟨rfl, rfl⟩
    go_wp2
    go_ret2
    exact rowsPost_no hr.out F0.out
  cases h2 : numOk t
  · have hr := Lib.hid (show rowsI s t = none by simp [rowsI, h1, h2])
    have H1 := Lib.hid h1; clear h1
    have H2 := Lib.hid h2; clear h2
    go_enter Tryz.func128, Tryz.ntmps128
    go_wp2_with fail
    refine (numS_val hs H1.out _).mono ?_; rintro e w' ⟨rfl, rfl⟩
    go_wp2_with fail
    refine (numS_val ht H2.out _).mono ?_; rintro e w' ⟨rfl, rfl⟩
    go_wp2
    go_ret2
    exact rowsPost_no hr.out F0.out
  have hr := Lib.hid (show rowsI s t = rowsTo s t t.size by simp [rowsI, h1, h2])
  have l2 := num_len h2
  have DT := Lib.hid (fun (k : Nat) W (hk : k ≤ 100) => digitAtX t k W h2 hk)
  have BT := Lib.hid (fun k => digI_bd h2 k)
  have CR := Lib.hid (fun d W hd => specRow_any s d W h1 hd)
  have FR := Lib.hid (fun d hd => rowC_facts (d := d) h1 hd)
  have RS := Lib.hid (fun k l (h : rowsTo s t k = some l) hb => rowsTo_stop h hb t.size)
  have RP := Lib.hid (fun k l (h : rowsTo s t k = some l) hb => rowsTo_step h hb)
  have RL := Lib.hid (fun k l (h : rowsTo s t k = some l) => rowsTo_len h)
  have ZS := Lib.hid (fun d => rowI_size s d)
  have H1 := Lib.hid h1; clear h1
  have H2 := Lib.hid h2; clear h2
  go_enter Tryz.func128, Tryz.ntmps128
  go_wp2_with fail
  refine (numS_val hs H1.out _).mono ?_; rintro e w' ⟨rfl, rfl⟩
  go_wp2_with fail
  refine (numS_val ht H2.out _).mono ?_; rintro e w' ⟨rfl, rfl⟩
  go_wp2
  go_loopw [6, 7] (fun v i wr => ∃ (k : Nat) (l : List ByteArray) (a : Option Addr) (c : Nat), k ≤ t.size ∧ i = .int .i64 k ∧ v = .slice a l.length c ∧ Hid (rowsTo s t k = some l) ∧ wr.ownsRow w.heap.size 9 1 (.slice a l.length c) l.length (strs l) ∧ Fr w.heap.size none w wr) (fun _ i _ => t.size - (intOf i).toNat)
  case atStart => exact ⟨0, [], some ⟨w.heap.size, 0, none⟩, 0, Nat.zero_le _, rfl, rfl, rfl, O0.out, F0.out⟩
  case round =>
    obtain ⟨k, l, a, c, hk, rfl, rfl, hT, ho, hF⟩ := hrel
    have HO := Lib.hid ho; have HF := Lib.hid hF; have hz := hF.size; clear ho hF
    have hl := RL.out k l hT.out
    by_cases hlt : k < t.size
    · have dt := Lib.hid (fun W => DT.out k W (by omega))
      have bt := BT.out k
      have CR1 := Lib.hid (fun W => CR.out (digI t k) W bt)
      obtain ⟨f1, f2, f3, f4, f5⟩ := FR.out (digI t k) bt
      have CW := Lib.hid (fun a c W hS => specRowWritten_any a c (rowC s (digI t k)).1 W hS f1 f2 f3 f4)
      have hz9 := ZS.out (digI t k)
      have P1 := Lib.hid (RS.out k l hT.out)
      have P2 := Lib.hid (RP.out k l hT.out)
      have e1 := congrArg Prod.fst f5
      have e2 := congrArg Prod.snd f5
      dsimp only at e1 e2
      rw [e1, e2] at CW
      clear f3 f4 f5 e1 e2 DT BT CR FR RS RP RL ZS hT
      generalize rowI s (digI t k) = r at *
      obtain ⟨r1, r2⟩ := r
      dsimp only at *
      have CM := Lib.hid (fun W => specMoved_any r1 k W (by omega) (by omega))
      generalize movI r1 k = m at *
      obtain ⟨m1, m2⟩ := m
      dsimp only at *
      generalize (rowC s (digI t k)).1 = cs at *
      generalize digI t k = d at *
      have k0 : (0 : Int) ≤ (k : Int) := by omega
      have hlt' : (k : Int) < (t.size : Int) := by omega
      have HL := Lib.hid hl
      have hl9 : l.length ≤ 9 := by omega
      clear hl hz9 f1 f2
      go_wp2_with fail
      refine (dt.out _).mono ?_; rintro e w' ⟨rfl, rfl⟩
      go_wp2_with fail
      refine (CR1.out _).mono ?_; rintro e w1 ⟨a1, c1, rfl, hs1, hF1⟩
      have S1 := Lib.hid hs1
      have F1 := Lib.hid (HF.out.and hF1)
      have O1 := Lib.hid (own_keep HO.out hF1)
      clear hs1 hF1
      go_wp2_with fail
      refine (CW.out _ _ _ S1.out).mono ?_; rintro e w2 ⟨rfl, hF2⟩
      have F2 := Lib.hid (F1.out.and hF2)
      have O2 := Lib.hid (own_keep O1.out hF2)
      clear hF2
      go_wp2_with fail
      refine (CM.out _).mono ?_; rintro e w3 ⟨rfl, rfl⟩
      have F3 := F2
      have O3 := O2
      have z3 := F3.out.size
      cases r2
      · have hn := Lib.hid (hr.out.trans (P1.out rfl hlt))
        go_wp2
        go_ret2
        exact rowsPost_no hn.out (F3.out.alloc z3 _)
      · cases m2
        · have hn := Lib.hid (hr.out.trans (P1.out rfl hlt))
          go_wp2
          go_ret2
          exact rowsPost_no hn.out (F3.out.alloc z3 _)
        · have hy := Lib.hid (P2.out rfl)
          obtain ⟨l2, hl2⟩ : ∃ z, l ++ [m1] = z := ⟨_, rfl⟩
          have HL2 := Lib.hid hl2
          have e1 := hy.out
          rw [hl2] at e1
          have E1 := Lib.hid e1
          clear e1 hl2 hy P1 P2
          go_wp2_with (at_builtin; refine app1 32 9 (.string ByteArray.empty) 1 16 Tryz.underlying32 infoStr rfl (by decide) (by decide) rfl _ _ rfl [.string m1] O3.out rfl rfl rfl (by simp [Value.oneCell']) (by omega) z3 ?_; intro v' w' ho' hF'; (
            have F4 := Lib.hid (app_frame F3.out O3.out hF' z3)
            obtain ⟨a', c', rfl, ho3⟩ := app_strs ho' HL2.out
            have O4 := Lib.hid ho3
            clear ho' hF' ho3))
          go_roundw
          case rel => exact ⟨k + 1, l2, a', c', by omega, by go_num, rfl, E1, O4.out, F4.out⟩
          case measure => simp [intOf]; omega
    · have hke : k = t.size := by omega
      have hge : (t.size : Int) ≤ (k : Int) := by omega
      have hy := Lib.hid (show rowsI s t = some l by rw [hr.out, ← hke]; exact hT.out)
      clear hl hke hT DT BT CR FR RS RP RL ZS
      go_wp2
      go_ret2
      exact rowsPost_yes hy.out (own_sl HO.out) HF.out
theorem specProd_any (s t : ByteArray) (w : World) (hs : s.size ≤ 1048576) (ht : t.size ≤ 1048576) : Calls Tryz.prog 91 #[.string s, .string t] w fun e w' => e = .returned (.tuple #[.string (prodI s t).1, .bool (prodI s t).2]) ∧ Fr w.heap.size none w w' := by
  have CR := Lib.hid (fun W => specRows_any s t W hs ht)
  cases h : rowsI s t with
  | none =>
    have hr := Lib.hid (show ((⟨#[]⟩ : ByteArray), false) = prodI s t by simp [prodI, h])
    rw [h] at CR
    clear h
    go_enter Tryz.func91, Tryz.ntmps91
    go_wp2_with fail
    refine (CR.out _).mono ?_; rintro e w1 ⟨⟨a, n, c, rfl⟩, hF1⟩
    go_wp2
    go_ret2
    exact ⟨ret_pair hr.out, hF1⟩
  | some l =>
    have hr := Lib.hid (show totI l = prodI s t by simp [prodI, h])
    have hok : numOk s = true ∧ numOk t = true := by
      unfold rowsI at h
      split at h
      · next hb => simpa using hb
      · cases h
    have ht2 : rowsTo s t t.size = some l := by simpa [rowsI, hok.1, hok.2] using h
    have hl := rowsTo_len ht2
    have l9 := num_len hok.2
    have hz := rowsTo_size ht2
    have CT := Lib.hid (fun a c W hS => specTotal_any a c l W hS (by omega) (fun k hk => by
      have := hz _ (show l.getD k noS ∈ l by rw [List.getD_eq_getElem?_getD, List.getElem?_eq_getElem hk]; exact List.getElem_mem hk)
      omega))
    rw [hr.out] at CT
    rw [h] at CR
    clear h ht2 hz hl hok
    go_enter Tryz.func91, Tryz.ntmps91
    go_wp2_with fail
    refine (CR.out _).mono ?_; rintro e w1 ⟨⟨a, c, rfl, hs1⟩, hF1⟩
    have F1 := Lib.hid hF1; have S1 := Lib.hid hs1; clear hF1 hs1
    go_wp2_with fail
    refine (CT.out _ _ _ S1.out).mono ?_; rintro e w2 ⟨rfl, hF2⟩
    have F2 := Lib.hid (F1.out.and hF2); clear hF2
    go_wp2
    go_ret2
    exact ⟨rfl, F2.out⟩
end Go.Proofs.YtdngnmpmaacapaaGreatDoor
/-
  Contracts: the draws of the laws of lines.
-/
namespace Go.Proofs.YtdngnmpmaacapaaGreatDoor
open Go.RowKit

def DrawnLine (w : World) (e : Ending) (w' : World) : Prop := ∃ v, ∃ s : ByteArray, e = .returned (.tuple #[v, .string s]) ∧ NewTiny 4 w' w.heap.size v ∧ s.size ≤ 60 ∧ Fr w.heap.size none w w'
set_option maxHeartbeats 1000000 in
set_option maxRecDepth 100000 in
theorem drawBoardLine_any (a : Option Addr) (cap : Nat) (bs : List Int) (w : World) (hs : Sl w a (u8s bs)) (hb : ∀ x ∈ bs, 0 ≤ x ∧ x ≤ 255) (hn : bs.length ≤ 1048576) (hcap : bs.length ≤ cap) :
    Calls Tryz.prog 8 #[.slice a bs.length cap] w (DrawnLine w) := by
  have HS := Lib.hid hs; have HB := Lib.hid hb; clear hs hb
  go_enter Tryz.func8, Tryz.ntmps8
  go_wp2_with fail
  refine (l20Open_any a cap bs _ HS.out HB.out hn hcap).mono ?_; rintro e w1 ⟨B, rfl, hB, hR, hF⟩
  have hBl := hR.lt
  have z1 := hF.size
  go_wp2_with fail
  refine (l20Board_any B 0 12 _ hR (by omega) (by omega)).mono ?_; rintro e w2 ⟨v, rfl, hN, hR2, hF2⟩
  have G2 := Lib.hid (hF.trans (hF2.up (B' := w.heap.size) hF.size (by intro g hg; cases hg; exact hB)))
  have N2 := Lib.hid hN
  have R2 := Lib.hid hR2
  have z2 := hF2.size
  clear hF hF2 hR hR2 hN
  go_wp2_with fail
  refine (l20Line_any B _ _ R2.out (by omega)).mono ?_; rintro e w3 ⟨s, rfl, hs, hR3, hF3⟩
  have G3 := Lib.hid (G2.out.trans (hF3.up (B' := w.heap.size) (by omega) (by intro g hg; cases hg; exact hB)))
  have N3 := Lib.hid (newTiny_base (newTiny_past N2.out hF3 hBl) z1)
  clear hF3 hR3
  go_wp2
  go_ret2
  exact ⟨_, s, rfl, N3.out, hs, G3.out⟩

theorem mkStrs (n : Nat) (hn : n ≤ 2097152) (w : World) :
    ∃ w1, (Instr.makeSlice 32 (.int .i64 (n : Int)) (.int .i64 (n : Int))).run Tryz.prog w = .ok (.slice (some ⟨w.heap.size, 0, none⟩) n n) w1 ∧
      w1.ownsRow w.heap.size 9 1 (.slice (some ⟨w.heap.size, 0, none⟩) n n) n (strs (List.replicate n noS)) ∧ Fr w.heap.size none w w1 := by
  obtain ⟨i0, hi, hz0, hz1, hz2⟩ := info_parts infoStr
  obtain ⟨w1, hr, ho, hg⟩ := run_make_full (P := Tryz.prog) w w.heap.size 32 9 i0 (.string ByteArray.empty) 1 Tryz.underlying32 hi hz0 hz1 .i64 .i64 n (by rw [hz2]; omega) (by simp [maxLen]; omega) (Nat.le_refl _)
  refine ⟨w1, hr, ?_, (Fr.refl _ _ w).grown hg (Nat.le_refl _) (by simp)⟩
  have e : strs (List.replicate n noS) = List.replicate n (.string ByteArray.empty) := by unfold strs noS; rw [List.map_replicate]; rfl
  rw [e]; have := ho; simp only [Nat.mul_one, Value.cells, toList_madeCells_one] at this; exact this
/-- A new slice of short texts. -/
def NewStrs (m : Nat) (w : World) (b : Nat) (v : Value) : Prop := ∃ a c ls, v = .slice a (ls : List ByteArray).length c ∧ w.ownsRow b 9 1 (.slice a ls.length c) ls.length (strs ls) ∧ ls.length ≤ m ∧ ∀ k, (ls.getD k noS).size ≤ 60
def DrawnSay (w : World) (e : Ending) (w' : World) : Prop := ∃ v u, e = .returned (.tuple #[v, u]) ∧ NewTiny 4 w' w.heap.size v ∧ NewStrs 41 w' w.heap.size u ∧ Fr w.heap.size none w w'
theorem short_snoc {ls : List ByteArray} {s : ByteArray} (h : ∀ k, (ls.getD k noS).size ≤ 60) (hs : s.size ≤ 60) : ∀ k, ((ls ++ [s]).getD k noS).size ≤ 60 := by
  intro k
  rw [List.getD_eq_getElem?_getD]
  by_cases hk : k < ls.length
  · rw [List.getElem?_append_left hk, ← List.getD_eq_getElem?_getD]; exact h k
  · by_cases hk2 : k = ls.length
    · subst hk2; simpa using hs
    · rw [List.getElem?_eq_none (by simp; omega)]; exact Nat.zero_le _
set_option maxHeartbeats 2000000 in
set_option maxRecDepth 100000 in
theorem drawBoardSay_any (a : Option Addr) (cap : Nat) (bs : List Int) (w : World) (hs : Sl w a (u8s bs)) (hb : ∀ x ∈ bs, 0 ≤ x ∧ x ≤ 255) (hn : bs.length ≤ 1048576) (hcap : bs.length ≤ cap) :
    Calls Tryz.prog 27 #[.slice a bs.length cap] w (DrawnSay w) := by
  have HS := Lib.hid hs; have HB := Lib.hid hb; clear hs hb
  go_enter Tryz.func27, Tryz.ntmps27
  go_wp2_with fail
  refine (l20Open_any a cap bs _ HS.out HB.out hn hcap).mono ?_; rintro e w1 ⟨B, rfl, hB, hR, hF⟩
  have hBl := hR.lt
  have z1 := hF.size
  go_wp2_with fail
  refine (l20Board_any B 0 12 _ hR (by omega) (by omega)).mono ?_; rintro e w2 ⟨v, rfl, hN, hR2, hF2⟩
  have G2 := Lib.hid (hF.trans (hF2.up (B' := w.heap.size) hF.size (by intro g hg; cases hg; exact hB)))
  have N2 := Lib.hid hN
  have z2 := hF2.size
  have RA := Lib.hid (rdr_alloc hR2 (.cells #[] 9))
  have F2 := Lib.hid ((Fr.refl w2.heap.size (some B) w2).alloc (Nat.le_refl _) (.cells #[] 9))
  have O2 := Lib.hid (World.ownsRow_made (e := 9) (size := 1) (base := w2.heap.size) w2 #[] 0 (Nat.le_refl _) (by simp [maxLen]) (by simp))
  have hB2 : B < w2.heap.size := by omega
  clear hF hF2 hR hR2 hN
  go_wp2_with fail
  refine (pick_any B _ 7 _ RA.out (by omega)).mono ?_; rintro e w3 ⟨p, rfl, ⟨p0, p1, _⟩, hR3, hF3⟩
  have R3 := Lib.hid hR3; have F3 := Lib.hid (fr_rd F2.out hF3); have p2 := p1 (by omega)
  have O3 := Lib.hid (row_past O2.out hF3 hB2)
  obtain ⟨pn, rfl⟩ := Int.eq_ofNat_of_zero_le p0
  clear hR3 hF3 p1
  go_wp2
  go_loopw [6, 7] (fun v i wr => ∃ (k : Nat) (ls : List ByteArray) (a : Option Addr) (c : Nat), k ≤ 6 ∧ ls.length + k ≤ 6 ∧ i = .int .i64 k ∧ v = .slice a ls.length c ∧ Hid (∀ k, (ls.getD k noS).size ≤ 60) ∧ wr.ownsRow w2.heap.size 9 1 (.slice a ls.length c) ls.length (strs ls) ∧ Hid (Rdr wr B (3000 + 600 * ls.length)) ∧ Fr w2.heap.size (some B) w2 wr) (fun _ i _ => (intOf i).toNat)
  case atStart => exact ⟨pn, [], some ⟨w2.heap.size, 0, none⟩, 0, by omega, by simp; omega, rfl, rfl, fun k => by simp only [List.getD_nil]; exact Nat.zero_le _, O3.out, R3.out.mono (by simp), F3.out⟩
  case round =>
    obtain ⟨k, ls, ao, co, hk, hl, rfl, rfl, hT, ho, hR, hF⟩ := hrel
    have HO := Lib.hid ho; have HF := Lib.hid hF; have z4 := hF.size; clear ho hF
    by_cases hk0 : 0 < k
    · have hk0' : (0 : Int) < (k : Int) := by omega
      go_wp2_with fail
      refine (l20Line_any B _ _ hR.out (by omega)).mono ?_; rintro e w5 ⟨s, rfl, hs, hR5, hF5⟩
      have R5 := Lib.hid hR5; have F5 := Lib.hid (fr_rd HF.out hF5); have O5 := Lib.hid (row_past HO.out hF5 hB2)
      have z5 := F5.out.size
      clear hR5 hF5
      obtain ⟨l2, hl2⟩ : ∃ z, ls ++ [s] = z := ⟨_, rfl⟩
      have HL2 := Lib.hid hl2
      have T2 := Lib.hid (hl2 ▸ short_snoc hT.out hs)
      have n2 : l2.length = ls.length + 1 := by rw [← hl2]; simp
      clear hl2
      have NN := Lib.hid n2
      clear n2
      go_wp2_with (at_builtin; refine app1 32 9 (.string ByteArray.empty) 1 16 Tryz.underlying32 infoStr rfl (by decide) (by decide) rfl _ _ rfl [.string s] O5.out rfl rfl rfl (by simp [Value.oneCell']) (by omega) z5 ?_; intro v' w' ho' hF'; (
        have R6 := Lib.hid (R5.out.fr hF' R5.out.lt (by intro g hg; have := (O5.out.lt g hg).1; omega))
        have F6 := Lib.hid (F5.out.trans ((hF'.up (B' := w2.heap.size) z5 (by intro g hg; exact (O5.out.lt g hg).1)).weak _))
        obtain ⟨a', c', rfl, ho3⟩ := app_strs ho' HL2.out
        have O6 := Lib.hid ho3
        clear ho' ho3 hF'))
      have n3 : l2.length + (k - 1) ≤ 6 := by have := NN.out; omega
      have R7 := Lib.hid (R6.out.mono (show 3000 + 600 * ls.length + 500 ≤ 3000 + 600 * l2.length by have := NN.out; omega))
      go_roundw
      case rel => exact ⟨k - 1, l2, a', c', by omega, n3, by go_num, rfl, T2, O6.out, R7, F6.out⟩
      case measure => simp [intOf]; omega
    · have hk1 : k = 0 := by omega
      subst hk1
      have l6 : ls.length ≤ 6 := by omega
      go_wp2_with fail
      refine (odd_any B _ 30 _ hR.out (by omega) (by omega)).mono ?_; rintro e w5 ⟨bo, rfl, _, hR5, hF5⟩
      have F5 := Lib.hid (fr_rd HF.out hF5)
      have O5 := Lib.hid (own_base (row_past HO.out hF5 hB2) (by omega : w.heap.size ≤ w2.heap.size))
      have G5 := Lib.hid (G2.out.trans (F5.out.up (B' := w.heap.size) (by omega) (by intro g hg; cases hg; exact hB)))
      have N5 := Lib.hid (newTiny_base (newTiny_past N2.out F5.out hBl) z1)
      clear hF5 hR5
      cases bo
      · go_wp2
        go_ret2
        exact ⟨_, _, rfl, N5.out, ⟨ao, co, ls, rfl, O5.out, by omega, hT.out⟩, G5.out⟩
      · obtain ⟨w6, hr, ho, hF6⟩ := mkStrs 41 (by omega) w5
        have hr2 : (Instr.makeSlice 32 (.int .i64 41) (.int .i64 41)).run Tryz.prog w5 = .ok (.slice (some ⟨w5.heap.size, 0, none⟩) 41 41) w6 := hr
        clear hr
        have D6 := Lib.hid (own_base ho (show w.heap.size ≤ w5.heap.size from G5.out.size))
        have G6 := Lib.hid (G5.out.and hF6)
        have N6 := Lib.hid (newTiny_keep N5.out hF6)
        clear ho hF6
        go_wp2
        go_ret2
        exact ⟨_, _, rfl, N6.out, ⟨_, 41, List.replicate 41 noS, rfl, D6.out, by decide, fun k => by rw [List.getD_eq_getElem?_getD, List.getElem?_replicate]; split <;> exact Nat.zero_le _⟩, G6.out⟩
end Go.Proofs.YtdngnmpmaacapaaGreatDoor
