/-
  Contracts: knownOk, clone, ask and AfterDay.
-/
import Derived.Test.YtoedenmimcmkoaaDeckP
import Derived.Test.YtoedenmimcmkoaaFuncI
import Derived.Test.YtoedenmimcmkoaaCardsB
namespace Go.Proofs.Ytoedenmimcmkoaa
open Go.RowKit

theorem notKnown_any (n : Int) (w : World) : Calls Try.prog 79 #[.int .i64 n] w fun e w' => e = .returned (.bool (!inB n 0 1)) ∧ w = w' := by
  go_enter Try.func79, Try.ntmps79
  go_wp2_with (go_at_call 62; refine (in_any _ _ _ _).mono ?_; rintro e w' ⟨rfl, rfl⟩)
  go_ret
  exact ⟨rfl, rfl⟩

theorem knownOk_any (a : Option Addr) (ca : Nat) (cs : List (Int × Int)) (b : Option Addr) (cb : Nat) (ks : List Int) (w : World) (hs : Sl w a (cards cs)) (hm : cs.length ≤ 1048576) (hk : Sl w b (ints ks)) (hm2 : ks.length ≤ 1048576) :
    Calls Try.prog 60 #[.slice a cs.length ca, .slice b ks.length cb] w fun e w' => e = .returned (.bool (knownB cs ks)) ∧ Fr w.heap.size none w w' := by
  have HS := Lib.hid hs; have HK := Lib.hid hk; clear hs hk
  cases h : deckOkB cs
  · have hf := Lib.hid (show false = knownB cs ks by simp [knownB, h]); have H := Lib.hid h; clear h
    go_enter Try.func60, Try.ntmps60
    go_wp2_with (go_at_call 78; refine (implDeck_val HS.out hm H.out).mono ?_; rintro e w' ⟨rfl, hF⟩)
    go_ret
    exact ⟨ret_bool hf.out, hF⟩
  · by_cases hl : ks.length = cs.length
    · have hf := Lib.hid (show (!ks.any fun n => !inB n 0 1) = knownB cs ks by rw [any_not_all]; simp [knownB, h, hl]); have H := Lib.hid h; clear h
      have hz : ((ks.length : Int) == (cs.length : Int)) = true := by rw [beq_iff_eq]; omega
      clear hl
      go_enter Try.func60, Try.ntmps60
      go_wp2_with fail
      refine (implDeck_val HS.out hm H.out).mono ?_; rintro e w1 ⟨rfl, hF⟩
      have HF := Lib.hid hF; clear hF
      go_wp2_with fail
      refine (containsFuncI 79 (fun n => !inB n 0 1) (enters_by Try.func79 (by kernel_rfl) rfl) notKnown_any _ _ _ _ (HK.out.fr HF.out) hm2).mono ?_; rintro e w' ⟨rfl, rfl⟩
      go_wp2
      go_ret
      exact ⟨ret_bool hf.out, HF.out⟩
    · have hf := Lib.hid (show false = knownB cs ks by simp [knownB, hl]); have H := Lib.hid h; clear h
      have hz : ((ks.length : Int) == (cs.length : Int)) = false := by rw [beq_eq_false_iff_ne]; omega
      clear hl
      go_enter Try.func60, Try.ntmps60
      go_wp2_with (go_at_call 78; refine (implDeck_val HS.out hm H.out).mono ?_; rintro e w' ⟨rfl, hF⟩)
      go_ret
      exact ⟨ret_bool hf.out, hF⟩
theorem known_val {a : Option Addr} {ca : Nat} {cs : List (Int × Int)} {b : Option Addr} {cb : Nat} {ks : List Int} {w : World} {r : Bool} (hs : Sl w a (cards cs)) (hm : cs.length ≤ 1048576) (hk : Sl w b (ints ks)) (hm2 : ks.length ≤ 1048576) (h : knownB cs ks = r) :
    Calls Try.prog 60 #[.slice a cs.length ca, .slice b ks.length cb] w fun e w' => e = .returned (.bool r) ∧ Fr w.heap.size none w w' := h ▸ knownOk_any a ca cs b cb ks w hs hm hk hm2

/-- A new slice of cards. -/
def NewC (ys : List (Int × Int)) (w : World) (e : Ending) (w' : World) : Prop :=
  ∃ a cap, e = .returned (.slice a ys.length cap) ∧ Own w' w.heap.size 63 2 (.slice a ys.length cap) ys.length (cards ys) ∧ Fr w.heap.size none w w'

theorem clipC_any (a : Option Addr) (cap n : Nat) (w : World) (hn : n ≤ cap) (hc : cap ≤ 9223372036854775807) :
    Calls Try.prog 80 #[.slice a n cap] w fun e w' => e = .returned (.slice a n n) ∧ w = w' := by
  go_enter Try.func80, Try.ntmps80
  go_wp2
  go_ret
  exact ⟨rfl, rfl⟩

theorem appAll {ops : Array Oper} {rest : List Oper} {o : Oper} {a : Act} {Q : Exit → Act → World → Prop} {wr : World} (T E : TypeId) (z : Value) (size bytes : Nat)
    (ht : Try.prog.underlying T = some (.slice E)) (hinfo : (Try.prog.info? E).map (fun i => (i.zero, i.size, i.bytes)) = some (some z, size, bytes)) (hzs : z.cells.size = size) (hsz : 0 < size) (hby : bytes ≤ 64)
    (hgd : o.guard = none) (s x : Operand) (ho : o.op = .call { callee := .builtin .append, args := #[s, x], argTypes := #[T, T] })
    {B : Nat} {v : Value} {n : Nat} {cs : List Value} (p : Addr) (m c : Nat) (news : List Value) (hown : wr.ownsRow B E size v n cs) (hs : a.eval s = v) (hx : a.eval x = .slice (some p) m c)
    (hl : news.length = m * size) (hsl : Sl wr (some p) news) (h1 : ∀ u ∈ news, u.oneCell' = true) (hn : n + m ≤ 1099511627776) (hB : B ≤ wr.heap.size)
    (h : ∀ v' w', w'.ownsRow B E size v' (n + m) (cs ++ news) → Fr wr.heap.size v.ownBlock wr w' → wpList Try.prog ops Q rest (a.put o.dst v') w') :
    wpList Try.prog ops Q (o :: rest) a wr := by
  obtain ⟨i0, hi, hz0, hz1, hz2⟩ := info_parts hinfo
  refine wpList_append_own _ hgd s x T ho B E i0 z size bytes ht hi hz0 hz1 hz2 hzs hsz v n cs hs hown p m c news hx hl ?_ h1 (by simp [maxLen]; omega) ?_ hB ?_
  · intro j u hu
    have hj : j < news.length := (List.getElem?_eq_some_iff.1 hu).1
    obtain ⟨b, off, e1, e2⟩ := hsl j hj
    cases e1
    have ha : (⟨b, off, none⟩ : Addr).add j = ⟨b, off + j, none⟩ := by simp [Addr.add]
    rw [ha, e2]; rw [List.getElem?_eq_getElem hj] at hu; exact hu
  · have : (n + m) * bytes ≤ (n + m) * 64 := Nat.mul_le_mul_left _ hby
    omega
  · intro v' w' ho' hg _
    refine h v' w' ho' ((Fr.refl _ _ wr).grown hg (Nat.le_refl _) ?_)
    intro k hk; exact .inr hk.symm

theorem cells_one (xs : List (Int × Int)) : ∀ u ∈ cards xs, u.oneCell' = true := by
  intro u hu
  simp only [cards, rows, List.mem_flatMap] at hu
  obtain ⟨x, _, hx⟩ := hu
  simp [cardF] at hx
  rcases hx with rfl | rfl <;> rfl

theorem sliceClone_any (a : Option Addr) (ca : Nat) (cs : List (Int × Int)) (w : World) (hs : Sl w a (cards cs)) (hm : cs.length ≤ 1048576) :
    Calls Try.prog 81 #[.slice a cs.length ca] w fun e w' => ∃ a' c', e = .returned (.slice a' cs.length c') ∧ w'.ownsRow w.heap.size 63 2 (.slice a' cs.length c') cs.length (cards cs) ∧ Fr w.heap.size none w w' := by
  have hnil := fun W n => Lib.run_eql_slice_nil (P := Try.prog) W 35 63 a n ca 0 0 Try.underlying35
  cases a with
  | none =>
    have h0 : cs = [] := by
      cases cs with
      | nil => rfl
      | cons c r =>
        obtain ⟨b, off, e, _⟩ := hs 0 (by rw [cards_length]; simp)
        cases e
    subst h0
    go_enter Try.func81, Try.ntmps81
    go_wp2
    go_ret
    exact ⟨none, 0, rfl, World.ownsRow_nil _ _ _ _, Fr.refl _ _ _⟩
  | some p =>
    have HS := Lib.hid hs; clear hs
    go_enter Try.func81, Try.ntmps81
    go_wp2_with (at_builtin; refine appAll 35 63 (.agg #[.int .i64 0, .int .i64 0]) 2 16 Try.underlying35 infoCard rfl (by decide) (by decide) rfl _ _ rfl p cs.length ca (cards cs) (World.ownsRow_made (base := w.heap.size) w #[] 0 (Nat.le_refl _) (by simp [maxLen]) (by simp)) rfl rfl (cards_length cs) (HS.out.fr ((Fr.refl _ _ _).alloc (Nat.le_refl _) _)) (cells_one cs) (by omega) (by simp) ?_; intro v' w' ho' hF')
    obtain ⟨a', c', rfl, _, _⟩ := own_slice ho'
    rw [Nat.zero_add, List.nil_append] at ho'
    have HO := Lib.hid ho'
    have HF := Lib.hid (((Fr.refl _ _ w).alloc (Nat.le_refl _) _).trans (hF'.up (B' := w.heap.size) (by simp) (by intro g hg; cases hg; exact Nat.le_refl _)))
    clear ho' hF'
    go_wp2
    go_ret
    exact ⟨a', c', ret_slice (Nat.zero_add _), HO.out, HF.out⟩

theorem cloneC_any (a : Option Addr) (ca : Nat) (cs : List (Int × Int)) (w : World) (hs : Sl w a (cards cs)) (hm : cs.length ≤ 1048576) :
    Calls Try.prog 63 #[.slice a cs.length ca] w (NewC cs w) := by
  have HS := Lib.hid hs; clear hs
  go_enter Try.func63, Try.ntmps63
  go_wp2_with fail
  refine (sliceClone_any a ca cs _ HS.out hm).mono ?_; rintro e w1 ⟨a1, c1, rfl, ho, hF⟩
  obtain ⟨a2, c2, hv, hcap, hcm⟩ := own_slice ho
  cases hv
  unfold maxLen at hcm
  have HO := Lib.hid (Own.of ho).clip; clear ho
  go_wp2_with fail
  refine (clipC_any _ _ _ _ hcap (by omega)).mono ?_; rintro e w' ⟨rfl, rfl⟩
  go_wp2
  go_ret
  exact ⟨_, _, rfl, HO.out, hF⟩
end Go.Proofs.Ytoedenmimcmkoaa
