/-
  Merged: Core Num App Ints Strs Draw.
-/
import Derived.Test.YtdngnmpmaacapaaGreatDoorMBase
import Derived.Test.YtdngnmpmaacapaaGreatDoorProg
import Derived.KernelRfl
set_option linter.unusedVariables false
set_option linter.unusedSimpArgs false
/-
  Contracts of in and l1In.
-/
namespace Go.Proofs.YtdngnmpmaacapaaGreatDoor
open Go.RowKit
theorem in_any (n lo hi : Int) (w : World) : Calls Tryz.prog 97 #[.int .i64 n, .int .i64 lo, .int .i64 hi] w fun e w' => e = .returned (.bool (inB n lo hi)) ∧ w = w' := by
  go_enter Tryz.func97, Tryz.ntmps97
  go_wp2
  all_goals go_ret
  all_goals exact ⟨by unfold inB; simp [*]; try omega, rfl⟩
theorem l1In_any (n lo hi : Int) (w : World) : Calls Tryz.prog 86 #[.int .i64 n, .int .i64 lo, .int .i64 hi] w fun e w' => e = .returned (.bool (inB n lo hi)) ∧ w = w' := by
  go_enter Tryz.func86, Tryz.ntmps86
  go_wp2
  all_goals go_ret
  all_goals exact ⟨by unfold inB; simp [*]; try omega, rfl⟩
theorem in_val {n lo hi : Int} {b : Bool} (h : inB n lo hi = b) (w : World) : Calls Tryz.prog 97 #[.int .i64 n, .int .i64 lo, .int .i64 hi] w fun e w' => e = .returned (.bool b) ∧ w = w' := h ▸ in_any n lo hi w
theorem l1In_val {n lo hi : Int} {b : Bool} (h : inB n lo hi = b) (w : World) : Calls Tryz.prog 86 #[.int .i64 n, .int .i64 lo, .int .i64 hi] w fun e w' => e = .returned (.bool b) ∧ w = w' := h ▸ l1In_any n lo hi w
end Go.Proofs.YtdngnmpmaacapaaGreatDoor
/-
  Contract of NumeralOk of the program, for every text; and of the statements' own alive.
-/
namespace Go.Proofs.YtdngnmpmaacapaaGreatDoor
open Go.RowKit

def isDig (c : UInt8) : Bool := decide (48 ≤ (c.toNat : Int)) && decide ((c.toNat : Int) ≤ 57)
def numOk (s : ByteArray) : Bool := s.data.toList.all isDig && (inB s.size 1 9 && (!(s.data.toList.getD 0 0 == 48) || decide (s.size = 1)))
theorem dig_take (s : ByteArray) (k : Nat) (h : k < s.size) : (s.data.toList.take (k + 1)).all isDig = ((s.data.toList.take k).all isDig && isDig s[k]) := by
  rw [List.take_succ_eq_append_getElem (by simpa using h), List.all_append]; simp; rfl
theorem dig_bad (s : ByteArray) (k : Nat) (h : k < s.size) (hd : isDig s[k] = false) : s.data.toList.all isDig = false := by
  rw [List.all_eq_false]; exact ⟨s[k], by simp [ByteArray.getElem_eq_getElem_data], by simp [hd]⟩

theorem numOk_bad {s : ByteArray} (h : s.data.toList.all isDig = false) : false = numOk s := by simp only [numOk, h, Bool.false_and]
theorem numOk_len {s : ByteArray} (h : inB s.size 1 9 = false) : false = numOk s := by simp only [numOk, h, Bool.false_and, Bool.and_false]
theorem numOk_end {s : ByteArray} (h : s.data.toList.all isDig = true) (h2 : inB s.size 1 9 = true) : (!(s.data.toList.getD 0 0 == 48) || decide (s.size = 1)) = numOk s := by simp only [numOk, h, h2, Bool.true_and]

theorem implNumeralOk_any (s : ByteArray) (w : World) (hs : s.size ≤ maxLen) :
    Calls Tryz.prog 55 #[.string s] w fun e w' => e = .returned (.bool (numOk s)) ∧ w = w' := by
  unfold maxLen at hs
  go_enter Tryz.func55, Tryz.ntmps55
  go_wp2
  go_loop [3] (fun i => ∃ k : Nat, k ≤ s.size ∧ i = .int .i64 k ∧ Hid ((s.data.toList.take k).all isDig = true)) (fun i => s.size - (intOf i).toNat)
  case atStart => exact ⟨0, Nat.zero_le _, rfl, rfl⟩
  case round =>
    obtain ⟨k, hk, rfl, hT⟩ := hrel
    by_cases hlt : k < s.size
    · have hdt := Lib.hid (dig_take s k hlt)
      have hdb := Lib.hid (dig_bad s k hlt)
      have hfin := Lib.hid (@numOk_bad s)
      by_cases h1 : (s[k].toNat : Int) < 48
      · have hb := Lib.hid (hfin.out (hdb.out (by unfold isDig; simp; omega)))
        go_wp2
        go_ret
        exact ⟨ret_bool hb.out, rfl⟩
      · have h1' : 48 ≤ (s[k].toNat : Int) := by omega
        by_cases h2 : 57 < (s[k].toNat : Int)
        · have hb := Lib.hid (hfin.out (hdb.out (by unfold isDig; simp; omega)))
          go_wp2
          go_ret
          exact ⟨ret_bool hb.out, rfl⟩
        · have h2' : (s[k].toNat : Int) ≤ 57 := by omega
          have hn := Lib.hid (show (s.data.toList.take (k+1)).all isDig = true by rw [hdt.out, hT.out]; unfold isDig; simp; omega)
          go_wp2
          go_round
          case rel => exact ⟨k + 1, by omega, by go_num, hn⟩
          case measure => simp [intOf]; omega
    · have hkk : k = s.size := by omega
      have hall := Lib.hid (show s.data.toList.all isDig = true by have := hT.out; rw [hkk, List.take_of_length_le (by simp)] at this; exact this)
      clear hkk
      cases hin : inB s.size 1 9
      · have hb := Lib.hid (numOk_len hin); have H := Lib.hid hin; clear hin
        go_wp2_with (go_at_call 97; refine (in_val H.out _).mono ?_; rintro e w' ⟨rfl, rfl⟩)
        go_ret
        exact ⟨ret_bool hb.out, rfl⟩
      · have hb := Lib.hid (numOk_end hall.out hin); have H := Lib.hid hin
        obtain ⟨hp, hp9⟩ := inB_true.1 hin
        clear hin
        have hp0 : 0 < s.size := by omega
        have hg : s.data.toList.getD 0 0 = s[0] := by
          have h0 : s.data[0]? = some s[0] := by rw [Array.getElem?_eq_getElem (by simpa using hp0)]; rfl
          simp [List.getD_eq_getElem?_getD, h0]
        have HG := Lib.hid hg; clear hg
        by_cases h48 : (s[0].toNat : Int) = 48
        · have hz : ((s[0].toNat : Int) != 48) = false := by simp; omega
          have hc : s[0] = 48 := UInt8.toNat_inj.1 (by rw [show (48 : UInt8).toNat = 48 from rfl]; omega)
          have HC := Lib.hid hc; clear hc h48
          have hb2 := Lib.hid (show decide (s.size = 1) = numOk s by rw [← hb.out, HG.out, HC.out]; rfl)
          go_wp2_with (go_at_call 97; refine (in_val H.out _).mono ?_; rintro e w' ⟨rfl, rfl⟩)
          go_ret
          exact ⟨ret_bool (by rw [← hb2.out]; show ((s.size : Int) == 1) = _; rw [Bool.eq_iff_iff, beq_iff_eq, decide_eq_true_iff]; omega), rfl⟩
        · have hz : ((s[0].toNat : Int) != 48) = true := by rw [bne_iff_ne]; exact h48
          have hb2 := Lib.hid (show true = numOk s by
            rw [← hb.out, HG.out]
            have : (s[0] == 48) = false := by rw [beq_eq_false_iff_ne]; intro e; apply h48; rw [e]; rfl
            rw [this]; rfl)
          clear h48
          go_wp2_with (go_at_call 97; refine (in_val H.out _).mono ?_; rintro e w' ⟨rfl, rfl⟩)
          go_ret
          exact ⟨ret_bool hb2.out, rfl⟩

theorem alive_any (w : World) : Calls Tryz.prog 13 #[] w fun e w' => e = .returned (.bool true) ∧ w = w' := by
  have h1 := implNumeralOk_any ⟨#[48]⟩ w (by simp [maxLen]; decide)
  have h2 := implNumeralOk_any ⟨#[48, 49]⟩ w (by simp [maxLen]; decide)
  rw [show numOk ⟨#[48]⟩ = true by decide] at h1
  rw [show numOk ⟨#[48, 49]⟩ = false by decide] at h2
  have H1 := Lib.hid h1; have H2 := Lib.hid h2; clear h1 h2
  go_enter Tryz.func13, Tryz.ntmps13
  go_wp2_with fail
  refine H1.out.mono ?_; rintro e w' ⟨rfl, rfl⟩
  go_wp2_with fail
  refine H2.out.mono ?_; rintro e w' ⟨rfl, rfl⟩
  go_wp2
  go_ret
  exact ⟨rfl, rfl⟩
end Go.Proofs.YtdngnmpmaacapaaGreatDoor
/-
  One law on 'append(out, x)' of one element to a slice that the call itself made, in the form in which the walks of this seat use it.
-/
namespace Go.Proofs.YtdngnmpmaacapaaGreatDoor
open Go.RowKit

theorem appMg {ops : Array Oper} {rest : List Oper} {o : Oper} {a : Act} {Q : Exit → Act → World → Prop} {wr : World} (T E : TypeId) (z : Value) (size bytes : Nat)
    (ht : Tryz.prog.underlying T = some (.slice E)) (hinfo : (Tryz.prog.info? E).map (fun i => (i.zero, i.size, i.bytes)) = some (some z, size, bytes)) (hzs : z.cells.size = size) (hsz : 0 < size) (hby : bytes ≤ 64)
    (hgd : o.guard = none) (s x : Operand) (ho : o.op = .call { callee := .builtin .append, args := #[s, x], argTypes := #[T, T] })
    {B : Nat} {v : Value} {n : Nat} {cs : List Value} (m : Nat) (news : List Value) (hown : wr.ownsRow B E size v n cs) (hs : a.eval s = v) (g : Nat) (hg : g = wr.heap.size) (hx : a.eval x = .slice (some ⟨g, 0, none⟩) m m)
    (hl : news.length = m * size) (h1 : ∀ u ∈ news, u.oneCell' = true) (hn : n + m ≤ 1099511627776) (hB : B ≤ wr.heap.size)
    (h : ∀ v' w', w'.ownsRow B E size v' (n + m) (cs ++ news) → Fr wr.heap.size v.ownBlock wr w' → wpList Tryz.prog ops Q rest (a.put o.dst v') w') :
    wpList Tryz.prog ops Q (o :: rest) a (wr.alloc (.cells news.toArray E)) := by
  subst hg
  obtain ⟨i0, hi, hz0, hz1, hz2⟩ := info_parts hinfo
  refine wpList_append_own _ hgd s x T ho B E i0 z size bytes ht hi hz0 hz1 hz2 hzs hsz v n cs hs (hown.alloc _) ⟨wr.heap.size, 0, none⟩ m m news hx hl ?_ h1 (by simp [maxLen]; omega) ?_ (by simp; omega) ?_
  · intro j u hu
    have ha : (⟨wr.heap.size, 0, none⟩ : Addr).add j = ⟨wr.heap.size, j, none⟩ := by unfold Addr.add; split <;> simp_all
    rw [ha, World.cell?_alloc_at _ _ _ _ rfl]; simpa using hu
  · have : (n + m) * bytes ≤ (n + m) * 64 := Nat.mul_le_mul_left _ hby
    omega
  · intro v' w' ho' hg _
    refine h v' w' ho' (((Fr.refl _ _ wr).alloc (Nat.le_refl _) _).grown hg (by simp) ?_)
    intro k hk; exact .inr hk.symm
theorem app1g {ops : Array Oper} {rest : List Oper} {o : Oper} {a : Act} {Q : Exit → Act → World → Prop} {wr : World} (T E : TypeId) (z : Value) (size bytes : Nat)
    (ht : Tryz.prog.underlying T = some (.slice E)) (hinfo : (Tryz.prog.info? E).map (fun i => (i.zero, i.size, i.bytes)) = some (some z, size, bytes)) (hzs : z.cells.size = size) (hsz : 0 < size) (hby : bytes ≤ 64)
    (hgd : o.guard = none) (s x : Operand) (ho : o.op = .call { callee := .builtin .append, args := #[s, x], argTypes := #[T, T] })
    {B : Nat} {v : Value} {n : Nat} {cs : List Value} (news : List Value) (hown : wr.ownsRow B E size v n cs) (hs : a.eval s = v) (g : Nat) (hg : g = wr.heap.size) (hx : a.eval x = .slice (some ⟨g, 0, none⟩) 1 1)
    (hl : news.length = size) (h1 : ∀ u ∈ news, u.oneCell' = true) (hn : n ≤ 1099511627776) (hB : B ≤ wr.heap.size)
    (h : ∀ v' w', w'.ownsRow B E size v' (n + 1) (cs ++ news) → Fr wr.heap.size v.ownBlock wr w' → wpList Tryz.prog ops Q rest (a.put o.dst v') w') :
    wpList Tryz.prog ops Q (o :: rest) a (wr.alloc (.cells news.toArray E)) := by
  subst hg
  obtain ⟨i0, hi, hz0, hz1, hz2⟩ := info_parts hinfo
  refine wpList_append_own _ hgd s x T ho B E i0 z size bytes ht hi hz0 hz1 hz2 hzs hsz v n cs hs (hown.alloc _) ⟨wr.heap.size, 0, none⟩ 1 1 news hx (by omega) ?_ h1 (by simp [maxLen]; omega) ?_ (by simp; omega) ?_
  · intro j u hu
    have ha : (⟨wr.heap.size, 0, none⟩ : Addr).add j = ⟨wr.heap.size, j, none⟩ := by unfold Addr.add; split <;> simp_all
    rw [ha, World.cell?_alloc_at _ _ _ _ rfl]; simpa using hu
  · have : (n + 1) * bytes ≤ (n + 1) * 64 := Nat.mul_le_mul_left _ hby
    omega
  · intro v' w' ho' hg _
    refine h v' w' ho' (((Fr.refl _ _ wr).alloc (Nat.le_refl _) _).grown hg (by simp) ?_)
    intro k hk; exact .inr hk.symm
theorem app1 {ops : Array Oper} {rest : List Oper} {o : Oper} {a : Act} {Q : Exit → Act → World → Prop} {wr : World} (T E : TypeId) (z : Value) (size bytes : Nat)
    (ht : Tryz.prog.underlying T = some (.slice E)) (hinfo : (Tryz.prog.info? E).map (fun i => (i.zero, i.size, i.bytes)) = some (some z, size, bytes)) (hzs : z.cells.size = size) (hsz : 0 < size) (hby : bytes ≤ 64)
    (hgd : o.guard = none) (s x : Operand) (ho : o.op = .call { callee := .builtin .append, args := #[s, x], argTypes := #[T, T] })
    {B : Nat} {v : Value} {n : Nat} {cs : List Value} (news : List Value) (hown : wr.ownsRow B E size v n cs) (hs : a.eval s = v) (hx : a.eval x = .slice (some ⟨wr.heap.size, 0, none⟩) 1 1)
    (hl : news.length = size) (h1 : ∀ u ∈ news, u.oneCell' = true) (hn : n ≤ 1099511627776) (hB : B ≤ wr.heap.size)
    (h : ∀ v' w', w'.ownsRow B E size v' (n + 1) (cs ++ news) → Fr wr.heap.size v.ownBlock wr w' → wpList Tryz.prog ops Q rest (a.put o.dst v') w') :
    wpList Tryz.prog ops Q (o :: rest) a (wr.alloc (.cells news.toArray E)) :=
  app1g T E z size bytes ht hinfo hzs hsz hby hgd s x ho news hown hs wr.heap.size rfl hx hl h1 hn hB h
/-- The frame of such a step, seen from where the call began. -/
theorem app_frame {B : Nat} {w0 wr w' : World} {E : TypeId} {size n : Nat} {v : Value} {cs : List Value} (h0 : Fr B none w0 wr) (hown : wr.ownsRow B E size v n cs) (h : Fr wr.heap.size v.ownBlock wr w') (hB : B ≤ wr.heap.size) : Fr B none w0 w' :=
  h0.trans (h.up hB fun g hg => (hown.lt g hg).1)
end Go.Proofs.YtdngnmpmaacapaaGreatDoor
/-
  Contracts of the statements' own helpers on lists of numbers: toIntS, eqIntS, markIntS, heldIntS.
-/
namespace Go.Proofs.YtdngnmpmaacapaaGreatDoor
open Go.RowKit

theorem infoInt : (Tryz.prog.info? 3).map (fun i => (i.zero, i.size, i.bytes)) = some (some (.int .i64 0), 1, 8) := by kernel_rfl

theorem mkInts (f : Nat → Value) (n : Nat) (hn : n ≤ 2097152) (w : World) :
    ∃ w1, (Instr.makeSlice 73 (.int .i64 (n : Int)) (.int .i64 (n : Int))).run Tryz.prog w = .ok (.slice (some ⟨w.heap.size, 0, none⟩) n n) w1 ∧
      w1.ownsRow w.heap.size 3 1 (.slice (some ⟨w.heap.size, 0, none⟩) n n) n (fillV f (.int .i64 0) n 0) ∧ Fr w.heap.size none w w1 := by
  obtain ⟨i0, hi, hz0, hz1, hz2⟩ := info_parts infoInt
  obtain ⟨w1, hr, ho, hg⟩ := run_make_full (P := Tryz.prog) w w.heap.size 73 3 i0 (.int .i64 0) 1 Tryz.underlying73 hi hz0 hz1 .i64 .i64 n (by rw [hz2]; omega) (by simp [maxLen]; omega) (Nat.le_refl _)
  refine ⟨w1, hr, ?_, (Fr.refl _ _ w).grown hg (Nat.le_refl _) (by simp)⟩
  rw [fillV_zero]; have := ho; simp only [Nat.mul_one, Value.cells, toList_madeCells_one] at this; exact this

/-- What marking writes. -/
def markedI (n : Nat) (k : Int) : List Int := (List.range n).map fun j : Nat => k + (j : Int)
theorem markedI_length (n : Nat) (k : Int) : (markedI n k).length = n := by simp [markedI]
theorem markedI_getD (n : Nat) (k : Int) (j : Nat) (h : j < n) : (markedI n k).getD j 0 = k + j := by simp [markedI, List.getD_eq_getElem?_getD, h]

end Go.Proofs.YtdngnmpmaacapaaGreatDoor
/-
  Texts as cells.
-/
namespace Go.Proofs.YtdngnmpmaacapaaGreatDoor
open Go.RowKit

def noS : ByteArray := ⟨#[]⟩
def strs (xs : List ByteArray) : List Value := xs.map Value.string
theorem strs_length (xs : List ByteArray) : (strs xs).length = xs.length := by simp [strs]
theorem Sl.str {w : World} {a : Option Addr} {xs : List ByteArray} (h : Sl w a (strs xs)) (k : Nat) (hk : k < xs.length) :
    ∃ b off, a = some ⟨b, off, none⟩ ∧ w.cell? ⟨b, off + k, none⟩ = some (.string (xs.getD k noS)) := by
  obtain ⟨b, off, ha, hc⟩ := h k (by rw [strs_length]; exact hk)
  exact ⟨b, off, ha, by rw [hc]; simp [strs, List.getD_eq_getElem?_getD, hk]⟩
theorem drop_str {xs : List ByteArray} {k : Nat} (hk : k < xs.length) : xs.drop k = xs.getD k noS :: xs.drop (k + 1) := by
  rw [List.drop_eq_getElem_cons hk]; simp [List.getD_eq_getElem?_getD, hk]
theorem infoStr : (Tryz.prog.info? 9).map (fun i => (i.zero, i.size, i.bytes)) = some (some (.string ByteArray.empty), 1, 16) := by kernel_rfl
end Go.Proofs.YtdngnmpmaacapaaGreatDoor
/-
  Contracts of the reader of codes: l20Open, pick, odd.
-/
namespace Go.Proofs.YtdngnmpmaacapaaGreatDoor
open Go.RowKit

def u8s (xs : List Int) : List Value := xs.map (Value.int .u8)
theorem Sl.u8 {w : World} {a : Option Addr} {xs : List Int} (h : Sl w a (u8s xs)) (k : Nat) (hk : k < xs.length) :
    ∃ b off, a = some ⟨b, off, none⟩ ∧ w.cell? ⟨b, off + k, none⟩ = some (.int .u8 (xs.getD k 0)) := by
  obtain ⟨b, off, ha, hc⟩ := h k (by simpa [u8s] using hk)
  exact ⟨b, off, ha, by rw [hc]; simp [u8s, List.getD_eq_getElem?_getD, hk]⟩

/-- Block B is a reader of a code that lies below it; at most N numbers were picked. -/
def Rdr (w : World) (B N : Nat) : Prop :=
  ∃ (a : Option Addr) (cap : Nat) (bs : List Int) (p : Nat), w.heap[B]? = some (.cells #[.slice a bs.length cap, .int .i64 p] 103) ∧ Sl w a (u8s bs) ∧ (∀ q, a = some q → 0 < bs.length → q.block < B) ∧ (∀ x ∈ bs, 0 ≤ x ∧ x ≤ 255) ∧ p ≤ N ∧ bs.length ≤ 2000
theorem Rdr.lt {w : World} {B N : Nat} (h : Rdr w B N) : B < w.heap.size := by
  obtain ⟨a, cap, bs, p, hb, _⟩ := h
  exact (Array.getElem?_eq_some_iff.1 hb).1
theorem Rdr.fr {w w' : World} {B N C : Nat} {r : Option Nat} (h : Rdr w B N) (hF : Fr C r w w') (hC : B < C) (hr : ∀ g, r = some g → B < g) : Rdr w' B N := by
  obtain ⟨a, cap, bs, p, hb, hs, hlt, hbs, hp, hn⟩ := h
  refine ⟨a, cap, bs, p, ?_, hs.frL hF fun q hq hl => ?_, hlt, hbs, hp, hn⟩
  · rw [hF.block B hC (fun e => by have := hr B e.symm; omega)]; exact hb
  · have := hlt q hq (by simpa [u8s] using hl)
    exact ⟨by omega, fun e => by have := hr _ e.symm; omega⟩
theorem Rdr.drewN {w : World} {B N : Nat} (h : Rdr w B N) (m : Nat) : Rdr (w.drewN m) B N := h
theorem Rdr.mono {w : World} {B N N' : Nat} (h : Rdr w B N) (hN : N ≤ N') : Rdr w B N' := by
  obtain ⟨a, cap, bs, p, hb, hs, hlt, hbs, hp, hn⟩ := h
  exact ⟨a, cap, bs, p, hb, hs, hlt, hbs, by omega, hn⟩

/-- What pick returns for n. -/
def Picked (r n : Int) : Prop := 0 ≤ r ∧ (1 ≤ n → r < n) ∧ (n < 1 → r = 0)
def PickPost (B N : Nat) (n : Int) (w : World) (e : Ending) (w' : World) : Prop :=
  ∃ r : Int, e = .returned (.int .i64 r) ∧ Picked r n ∧ Rdr w' B (N + 1) ∧ Fr w.heap.size (some B) w w'

theorem xor_i64_nat (a b : Nat) (ha : a < 9223372036854775808) (hb : b < 9223372036854775808) : bits .xor .i64 (a : Int) (b : Int) = ((a ^^^ b : Nat) : Int) := by
  have hx : a ^^^ b < 2 ^ 63 := Nat.xor_lt_two_pow (by omega) (by omega)
  have h1 : (BitVec.ofInt 64 (a : Int)).toNat = a := by
    rw [BitVec.ofInt_natCast, BitVec.toNat_ofNat]; exact Nat.mod_eq_of_lt (by omega)
  have h2 : (BitVec.ofInt 64 (b : Int)).toNat = b := by
    rw [BitVec.ofInt_natCast, BitVec.toNat_ofNat]; exact Nat.mod_eq_of_lt (by omega)
  show IntKind.i64.wrap ((BitVec.ofInt 64 (a : Int) ^^^ BitVec.ofInt 64 (b : Int)).toNat : Int) = _
  rw [BitVec.toNat_xor, h1, h2]
  simp [IntKind.wrap, IntKind.bits, IntKind.signed]
  omega
theorem xor_bd (X : Int) (h0 : 0 ≤ X) (h1 : X < 9223372036854775808) : 0 ≤ bits .xor .i64 X (X / 64) ∧ bits .xor .i64 X (X / 64) ≤ 9223372036854775807 := by
  obtain ⟨a, rfl⟩ := Int.eq_ofNat_of_zero_le h0
  have d : ((a : Int) / 64) = ((a / 64 : Nat) : Int) := by simp
  have hx : a ^^^ (a / 64) < 2 ^ 63 := Nat.xor_lt_two_pow (by omega) (by omega)
  rw [d, xor_i64_nat a (a / 64) (by omega) (by omega)]
  omega

theorem pick_any (B N : Nat) (n : Int) (w : World) (h : Rdr w B N) (hN : N ≤ 1099511627776) :
    Calls Tryz.prog 65 #[.pointer (some ⟨B, 0, none⟩), .int .i64 n] w (PickPost B N n w) := by
  have hBl := h.lt
  obtain ⟨a, cap, bs, p, hb, hs, hlt, hbs, hp, hn⟩ := h
  have c0 : w.cell? ⟨B, 0, none⟩ = some (.slice a bs.length cap) := by simp [World.cell?, hb]
  have c1 : w.cell? ⟨B, 1, none⟩ = some (.int .i64 p) := by simp [World.cell?, hb]
  have f1 : w.frozen? ⟨B, 1, none⟩ = false := by simp [World.frozen?, hb]
  have HF := Lib.hid ((Fr.refl w.heap.size (some B) w).setCell (p := ⟨B, 1, none⟩) (.inr rfl) (.int .i64 ((p : Int) + 1)))
  have hb' : (w.setCell ⟨B, 1, none⟩ (.int .i64 ((p : Int) + 1))).heap[B]? = some (.cells #[.slice a bs.length cap, .int .i64 ((p + 1 : Nat) : Int)] 103) := by
    simp [World.setCell, Array.getElem?_modify, hb]
  have HR : Hid (Rdr (w.setCell ⟨B, 1, none⟩ (.int .i64 ((p : Int) + 1))) B (N + 1)) :=
    ⟨a, cap, bs, p + 1, hb', hs.frL HF.out (fun q hq hl => by have := hlt q hq (by simpa [u8s] using hl); exact ⟨by omega, by simp; omega⟩), hlt, hbs, by omega, hn⟩
  clear hb hb'
  have HL := Lib.hid hlt; clear hlt
  have HS := Lib.hid hs; clear hs
  by_cases h1 : n < 1
  · go_enter Tryz.func65, Tryz.ntmps65
    go_wp2
    go_ret
    exact ⟨0, rfl, ⟨by omega, by omega, fun _ => rfl⟩, HR.out, HF.out⟩
  · have h1' : 1 ≤ n := by omega
    by_cases h0 : bs.length = 0
    · have hz : ((bs.length : Int) == 0) = true := by rw [h0]; rfl
      clear h0
      go_enter Tryz.func65, Tryz.ntmps65
      go_wp2
      go_ret
      exact ⟨0, rfl, ⟨by omega, by omega, fun _ => rfl⟩, HR.out, HF.out⟩
    · have hz : ((bs.length : Int) == 0) = false := by rw [beq_eq_false_iff_ne]; omega
      have hp0 : 0 < bs.length := by omega
      clear h0
      by_cases hpl : p < bs.length
      · have hpl' : (p : Int) < (bs.length : Int) := by omega
        obtain ⟨b, off, rfl, hc⟩ := HS.out.u8 p hpl
        have hbB : b < B := HL.out _ rfl hp0
        have hx := hbs (bs.getD p 0) (by simp [List.getD_eq_getElem?_getD, hpl])
        generalize bs.getD p 0 = x at *
        obtain ⟨hx0, hx1⟩ := hx
        clear hbs
        have hr : Picked (x % n) n := ⟨Int.emod_nonneg _ (by omega), fun _ => Int.emod_lt_of_pos _ (by omega), fun h => by omega⟩
        have HP := Lib.hid hr; clear hr
        go_enter Tryz.func65, Tryz.ntmps65
        go_wp2
        go_ret
        exact ⟨_, rfl, HP.out, HR.out, HF.out⟩
      · have hpl' : (bs.length : Int) ≤ (p : Int) := by omega
        have hm1 : p % bs.length < bs.length := Nat.mod_lt _ hp0
        have hm2 : (p * 7 + 3) % bs.length < bs.length := Nat.mod_lt _ hp0
        obtain ⟨b, off, rfl, hc⟩ := HS.out.u8 (p % bs.length) hm1
        obtain ⟨b2, off2, hb2, hc2⟩ := HS.out.u8 ((p * 7 + 3) % bs.length) hm2
        cases hb2
        have hbB : b < B := HL.out _ rfl hp0
        obtain ⟨hx0, hx1⟩ := hbs (bs.getD (p % bs.length) 0) (by simp [List.getD_eq_getElem?_getD, hm1])
        obtain ⟨hy0, hy1⟩ := hbs (bs.getD ((p * 7 + 3) % bs.length) 0) (by simp [List.getD_eq_getElem?_getD, hm2])
        generalize bs.getD (p % bs.length) 0 = x at *
        generalize bs.getD ((p * 7 + 3) % bs.length) 0 = y at *
        have e1 : ((p : Int) % (bs.length : Int)).toNat = p % bs.length := by rw [← Int.natCast_emod, Int.toNat_natCast]
        have e2 : (((p : Int) * 7 + 3) % (bs.length : Int)).toNat = (p * 7 + 3) % bs.length := by
          rw [show ((p : Int) * 7 + 3) = ((p * 7 + 3 : Nat) : Int) by simp, ← Int.natCast_emod, Int.toNat_natCast]
        have l1 : (p : Int) % (bs.length : Int) < bs.length := Int.emod_lt_of_pos _ (by omega)
        have l2 : ((p : Int) * 7 + 3) % (bs.length : Int) < bs.length := Int.emod_lt_of_pos _ (by omega)
        have l3 : 0 ≤ (p : Int) % (bs.length : Int) := Int.emod_nonneg _ (by omega)
        have l4 : 0 ≤ ((p : Int) * 7 + 3) % (bs.length : Int) := Int.emod_nonneg _ (by omega)
        have l5 : 0 ≤ (p : Int) / (bs.length : Int) := Int.ediv_nonneg (by omega) (by omega)
        have l6 : (p : Int) / (bs.length : Int) ≤ p := Int.ediv_le_self _ (by omega)
        clear hbs
        obtain ⟨x1, x2⟩ := xor_bd (x * 131 + y * 1117 + ↑p * 29 + ↑p / ↑bs.length * 53) (by omega) (by omega)
        have hr : Picked (bits .xor .i64 (x * 131 + y * 1117 + ↑p * 29 + ↑p / ↑bs.length * 53) ((x * 131 + y * 1117 + ↑p * 29 + ↑p / ↑bs.length * 53) / 64) % n) n := ⟨Int.emod_nonneg _ (by omega), fun _ => Int.emod_lt_of_pos _ (by omega), fun h => by omega⟩
        have HP := Lib.hid hr; clear hr
        go_enter Tryz.func65, Tryz.ntmps65
        go_wp2
        go_quiet (fail)
        go_wp2
        go_ret
        exact ⟨_, rfl, HP.out, HR.out.drewN _, HF.out.drewN _⟩

def OddPost (B N : Nat) (n : Int) (w : World) (e : Ending) (w' : World) : Prop :=
  ∃ b : Bool, e = .returned (.bool b) ∧ (n ≤ 0 → b = false) ∧ Rdr w' B (N + 1) ∧ Fr w.heap.size (some B) w w'
theorem odd_any (B N : Nat) (n : Int) (w : World) (h : Rdr w B N) (hN : N ≤ 1099511627776) (hn : n ≤ 1000000) :
    Calls Tryz.prog 66 #[.pointer (some ⟨B, 0, none⟩), .int .i64 n] w (OddPost B N n w) := by
  have H := Lib.hid h; clear h
  by_cases h0 : 0 < n
  · go_enter Tryz.func66, Tryz.ntmps66
    go_wp2_with fail
    refine (pick_any B N _ _ H.out hN).mono ?_; rintro e w' ⟨r, rfl, hr, hR, hF⟩
    have HR := Lib.hid hR; clear hR
    clear hr
    go_wp2
    go_ret
    exact ⟨_, rfl, fun h => by omega, HR.out, hF⟩
  · have h0' : n ≤ 0 := by omega
    go_enter Tryz.func66, Tryz.ntmps66
    go_wp2
    go_ret
    exact ⟨false, rfl, fun _ => rfl, H.out.mono (by omega), Fr.refl _ _ _⟩

/-- A reader is opened. -/
def OpenPost (w : World) (e : Ending) (w' : World) : Prop := ∃ B, e = .returned (.pointer (some ⟨B, 0, none⟩)) ∧ w.heap.size ≤ B ∧ Rdr w' B 0 ∧ Fr w.heap.size none w w'
theorem l20Open_any (a : Option Addr) (cap : Nat) (bs : List Int) (w : World) (hs : Sl w a (u8s bs)) (hb : ∀ x ∈ bs, 0 ≤ x ∧ x ≤ 255) (hn : bs.length ≤ 1048576) (hcap : bs.length ≤ cap) :
    Calls Tryz.prog 37 #[.slice a bs.length cap] w (OpenPost w) := by
  have hlt : ∀ q, a = some q → 0 < bs.length → q.block < w.heap.size := by
    intro q hq h0
    obtain ⟨b, off, h1, h2⟩ := hs 0 (by simpa [u8s] using h0)
    rw [hq] at h1; cases h1
    exact World.block_lt_of_cell? w _ h2
  have HS := Lib.hid hs; clear hs
  have HL := Lib.hid hlt; clear hlt
  have HB := Lib.hid hb; clear hb
  by_cases h : bs.length ≤ 2000
  · go_enter Tryz.func37, Tryz.ntmps37
    go_wp2
    go_ret
    exact ⟨w.heap.size, rfl, Nat.le_refl _, ⟨a, cap, bs, 0, heap_alloc_new w _, HS.out.fr ((Fr.refl _ _ _).alloc (Nat.le_refl _) _), HL.out, HB.out, Nat.le_refl _, h⟩, (Fr.refl _ _ _).alloc (Nat.le_refl _) _⟩
  · have h1 : (2000 : Int) < bs.length := by omega
    have hl : (bs.take 2000).length = 2000 := by rw [List.length_take]; omega
    have hs2 : Hid (Sl w a (u8s (bs.take 2000))) := by
      intro j hj
      have hj' : j < 2000 := by have : j < (u8s (bs.take 2000)).length := hj; rw [u8s, List.length_map, hl] at this; exact this
      obtain ⟨b, off, e1, e2⟩ := HS.out j (by simp [u8s]; omega)
      exact ⟨b, off, e1, by rw [e2]; simp [u8s]⟩
    have HLen := Lib.hid hl; clear hl
    go_enter Tryz.func37, Tryz.ntmps37
    go_wp2
    go_ret
    refine ⟨w.heap.size, rfl, Nat.le_refl _, ⟨a, cap, bs.take 2000, 0, ?_, hs2.out.fr ((Fr.refl _ _ _).alloc (Nat.le_refl _) _), ?_, fun x hx => HB.out x (List.mem_of_mem_take hx), Nat.le_refl _, ?_⟩, (Fr.refl _ _ _).alloc (Nat.le_refl _) _⟩
    · rw [HLen.out]; exact heap_alloc_new w _
    · intro q hq _; exact HL.out q hq (by omega)
    · rw [HLen.out]; exact Nat.le_refl _
end Go.Proofs.YtdngnmpmaacapaaGreatDoor
