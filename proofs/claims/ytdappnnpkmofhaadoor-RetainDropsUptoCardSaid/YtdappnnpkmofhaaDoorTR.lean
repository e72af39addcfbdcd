/- The reference's own look at bytes: point, Utf, Check. -/
import Derived.Test.YtdappnnpkmofhaaDoorTA
import Derived.Test.YtdappnnpkmofhaaDoorPA
import Derived.Test.YtdappnnpkmofhaaDoorAbBits
set_option linter.unusedSimpArgs false
set_option linter.unusedVariables false
namespace Go.Proofs
open Go Go.Abs
variable {glob : Nat → PV}
set_option maxRecDepth 10000
set_option maxHeartbeats 4000000
attribute [local go_sem] int  bool  str  byt
/-- Bytes, as numbers, in a row. -/
def byts (l : List Nat) : PV := .vs 1 (l.map fun n : Nat => [.lit (.int .u8 (n : Int))])
theorem default_nat : (default : Nat) = 0 := rfl
attribute [local go_sem] byts  default_nat
/-- The point's value behind i bytes. -/
def pv (l : List Nat) (p0 : Nat) : Nat → Nat
  | 0 => p0
  | i + 1 => if i = 0 then p0 else pv l p0 i * 64 + l.getD i 0 % 64
/-- The head: how many bytes, the first bits, the least. -/
def headN (b : Nat) : Nat × Nat × Nat :=
  if 248 ≤ b then (0, 0, 0) else if 240 ≤ b then (4, b % 8, 65536) else if 224 ≤ b then (3, b % 16, 2048) else if 192 ≤ b then (2, b % 32, 128) else if 128 ≤ b then (0, 0, 0) else (1, b, 1)
def ContN (l : List Nat) (n : Nat) : Prop := ∀ j, 1 ≤ j → j < n → l.getD j 0 / 64 = 2
instance (l : List Nat) (n : Nat) : Decidable (ContN l n) := decidable_of_iff (∀ j, j < n → 1 ≤ j → l.getD j 0 / 64 = 2) ⟨fun h j a b => h j b a, fun h j a b => h j b a⟩
def badN (p least : Nat) : Prop := p < least ∨ 1114111 < p ∨ (55296 ≤ p ∧ p ≤ 57343)
instance (p least : Nat) : Decidable (badN p least) := inferInstanceAs (Decidable (_ ∨ _))
def tailN (l : List Nat) (n p least : Nat) : Nat := if l.length < n then 0 else if ContN l n then (if badN (pv l p n) least then 0 else n) else 0
def pointN (l : List Nat) : Nat := if (headN (l.getD 0 0)).1 = 0 then 0 else tailN l (headN (l.getD 0 0)).1 (headN (l.getD 0 0)).2.1 (headN (l.getD 0 0)).2.2
theorem pv_lt {l : List Nat} (hb : ∀ j, l.getD j 0 < 256) {p0 : Nat} (h0 : p0 < 256) : ∀ i, i ≤ 4 → pv l p0 i < 256 * 64 ^ i := by
  intro i
  induction i with
  | zero => intro _; simp only [pv]; omega
  | succ i ih =>
    intro hi
    have := ih (by omega)
    simp only [pv]
    split
    · have : 0 < 64 ^ (i + 1) := Nat.pow_pos (by omega)
      calc p0 < 256 * 1 := by omega
        _ ≤ 256 * 64 ^ (i + 1) := Nat.mul_le_mul_left _ this
    · rw [Nat.pow_succ]; omega
theorem point44 (l : List Nat) (hl : l.length < 1000000000) (h0 : 0 < l.length) (hb : ∀ j, l.getD j 0 < 256) : Pur Tryd.prog glob 57 [byts l] (int (pointN l : Nat)) := by
  intro σ
  have hb0 := hb 0
  generalize hB : l.getD 0 0 = b at hb0
  refine ACalls.of_body' (n := 82) [.tmp 2] Tryd.func57 rfl (by kernel_rfl) Tryd.ntmps57 (by simp only [List.length_cons, List.length_nil]; decide) rfl ?_
  have hg : (0 : Nat) = 0 := rfl
  have w7 := and64_7 (a := b) (by omega)
  have w15 := and64_15 (a := b) (by omega)
  have w31 := and64_31 (a := b) (by omega)
  have hpt : ∀ n p least, headN b = (n, p, least) → pointN l = if n = 0 then 0 else tailN l n p least := fun n p least e => by unfold pointN; rw [hB, e]
  have hsh : ∀ n p least, headN b = (n, p, least) → n ≠ 0 → l.length < n → pointN l = 0 := fun n p least e e0 hlt => by rw [hpt n p least e, if_neg e0]; unfold tailN; rw [if_pos hlt]
  repeat' (first
    | ((first | refine AWp.seqR rfl fun K hK => ?_ | refine AWp.regK rfl fun K hK => ?_ | refine AWp.seqP fol (by kernel_rfl) fun K hK => ?_); (repeat' (((first | refine opsW_kn fun K2 hK2 => ?_ | refine opsW_kg rfl fun K2 hK2 => ?_ | refine opsPW_kn fun K2 hK2 => ?_ | refine opsPW_kg rfl fun K2 hK2 => ?_); simp (disch := first | omega | simp only [go_sem, hg]) only [hg, go_sem, ↓reduceIte, reduceCtorEq, Nat.reduceAdd, Nat.reduceMul, Nat.reduceSub, Nat.reduceEqDiff, Nat.reduceLeDiff, Nat.reduceLT, Nat.reduceBEq, Nat.reduceBNe, Int.reduceBEq, Int.reduceBNe, bne_self_eq_false, beq_self_eq_true, Int.reduceEq, Int.reduceLT, Int.reduceLE, Int.reduceNeg, Int.reduceAdd, Int.reduceSub, Int.reduceToNat, List.getElem?_toArray, List.getElem?_cons, hB, w7, w15, w31, cond_true, cond_false, decide_eq_true_eq, decide_eq_false_iff_not, beq_iff_eq, beq_eq_false_iff_ne, bne_iff_ne, bne_eq_false_iff_eq, Bool.not_eq_true, Bool.not_eq_false, Classical.not_not, ne_eq]; (first | apply hK2 | ((try refine Or.inl ?_); intro o ho; (try simp only [set_none, hg, not_false_eq_true, and_true, true_and] at ho); replace hg := And.intro ho hg; apply hK2) | (refine ⟨fun hh => ?_, fun hh => ?_⟩ <;> replace hg := And.intro hh hg <;> first | (exfalso; omega) | apply hK2 | ((try refine Or.inl ?_); intro o ho; (try simp only [set_none, hg, not_false_eq_true, and_true, true_and] at ho); replace hg := And.intro ho hg; apply hK2)) | fail)) <;> clear hK2 K2)); all_goals ((first | refine opsW_nil (hK _ _ ?_) | refine opsPW_nil (hK _ ?_)); clear hK K))
    | ((first | refine AWp.seqC fun X Y hX hY => ?_ | refine AWp.condK fun X Y hX hY => ?_); simp (disch := first | omega | simp only [go_sem, hg]) only [hg, go_sem, ↓reduceIte, reduceCtorEq, Nat.reduceAdd, Nat.reduceMul, Nat.reduceSub, Nat.reduceEqDiff, Nat.reduceLeDiff, Nat.reduceLT, Nat.reduceBEq, Nat.reduceBNe, Int.reduceBEq, Int.reduceBNe, bne_self_eq_false, beq_self_eq_true, Int.reduceEq, Int.reduceLT, Int.reduceLE, Int.reduceNeg, Int.reduceAdd, Int.reduceSub, Int.reduceToNat, List.getElem?_toArray, List.getElem?_cons, hB, w7, w15, w31, cond_true, cond_false, decide_eq_true_eq, decide_eq_false_iff_not, beq_iff_eq, beq_eq_false_iff_ne, bne_iff_ne, bne_eq_false_iff_eq, Bool.not_eq_true, Bool.not_eq_false, Classical.not_not, ne_eq]; first | (refine ⟨fun hc => hX ?_, fun hc => hY ?_⟩ <;> replace hg := And.intro hc hg <;> first | (exfalso; omega) | skip) | refine hX ?_ | refine hY ?_) <;> clear hX hY X Y
    | ((first | refine AWp.skip ?_ | refine AWp.seqExit ?_ | refine AWp.seqRet ?_ | refine AWp.exit ?_ | refine AWp.ret ?_ | refine Eq.mpr AThen_n ?_ | refine Eq.mpr ABlock_n ?_ | refine Eq.mpr ANoGoto_n ?_); try simp (disch := first | omega | simp only [go_sem]) only [go_sem, ↓reduceIte, reduceCtorEq, Nat.reduceAdd, Nat.reduceMul, Nat.reduceSub, Nat.reduceEqDiff, Nat.reduceLeDiff, Nat.reduceLT, Nat.reduceBEq, Nat.reduceBNe, Int.reduceBEq, Int.reduceBNe, bne_self_eq_false, beq_self_eq_true, Int.reduceEq, Int.reduceLT, Int.reduceLE, Int.reduceNeg, Int.reduceAdd, Int.reduceSub, Int.reduceToNat, List.getElem?_toArray, List.getElem?_cons, AThen_n, AThen_e, AThen_r, ABlock_n, ABlock_e, ABlock_r, ANoGoto_n, ANoGoto_e, ANoGoto_r])
    | (first | refine AWp.seqScope ?_ | refine AWp.scope ?_ | refine AWp.seqLabel ?_ | refine AWp.seqSkip ?_ | refine AWp.seqBlock ?_ | refine AWp.seqSeq ?_ | refine AWp.block ?_))
  · rw [hpt 0 0 0 (by unfold headN; (repeat' split) <;> first | rfl | (exfalso; omega))]
    exact Hand.mk ⟨rfl, rfl⟩
  · rw [hsh 4 (b % 8) 65536 (by unfold headN; (repeat' split) <;> first | rfl | (exfalso; omega)) (by decide) (by omega)]
    exact Hand.mk ⟨rfl, rfl⟩
  · rw [hpt 4 (b % 8) 65536 (by unfold headN; (repeat' split) <;> first | rfl | (exfalso; omega)), if_neg (by decide)]
    have hlen : 4 ≤ l.length := by omega
    refine AWp.loopF (fun i : Nat => [(6, int (i + 1 : Nat)), (4, int (pv l (b % 8) (i + 1) : Nat)), (3, int (4 : Nat)), (5, int (65536 : Nat)), (0, byts l)]) (fun i τ => i + 1 ≤ 4 ∧ ContN l (i + 1) ∧ τ = σ) (fun i => 4 - i) 0 ?_ ⟨by omega, fun j h1 h2 => by omega, rfl⟩ ?_
    · (repeat' (first | exact LeF.nil _ | refine LeF.eq rfl ?_ ?_))
      all_goals first | rfl | (refine litI ?_; omega) | (refine litB ?_; simp only [Nat.add_zero]; done) | (refine litI ?_; simp only [Nat.add_zero]; try omega) | skip
    rintro i τ ⟨hi, hct, rfl⟩
    have hb1 := hb (i + 1)
    have hpl := pv_lt hb (p0 := (b % 8)) (by omega) (i + 1) (by omega)
    have hpv : pv l (b % 8) (i + 2) = pv l (b % 8) (i + 1) * 64 + l.getD (i + 1) 0 % 64 := rfl
    have a1 := and8_192 hb1
    have a2 := and8_63 hb1
    have hp64 : 64 ^ (i + 1) ≤ 64 ^ 4 := Nat.pow_le_pow_right (by decide) (by omega)
    have a3 := or64_shl (p := pv l (b % 8) (i + 1)) (x := l.getD (i + 1) 0 % 64) (by omega) (by omega)
    have a0 : IntKind.i64.wrap ((pv l (b % 8) (i + 1) : Int) * 2 ^ min 6 64) = ((pv l (b % 8) (i + 1) * 64 : Nat) : Int) := by
      rw [show (2 : Int) ^ min 6 64 = 64 by decide, wrap_i64 (by omega) (by omega)]; omega
    repeat' (first
      | ((first | refine AWp.seqR rfl fun K hK => ?_ | refine AWp.regK rfl fun K hK => ?_ | refine AWp.seqP fol (by kernel_rfl) fun K hK => ?_); (repeat' (((first | refine opsW_kn fun K2 hK2 => ?_ | refine opsW_kg rfl fun K2 hK2 => ?_ | refine opsPW_kn fun K2 hK2 => ?_ | refine opsPW_kg rfl fun K2 hK2 => ?_); simp (disch := first | omega | simp only [go_sem, hg]) only [hg, go_sem, ↓reduceIte, reduceCtorEq, Nat.reduceAdd, Nat.reduceMul, Nat.reduceSub, Nat.reduceEqDiff, Nat.reduceLeDiff, Nat.reduceLT, Nat.reduceBEq, Nat.reduceBNe, Int.reduceBEq, Int.reduceBNe, bne_self_eq_false, beq_self_eq_true, Int.reduceEq, Int.reduceLT, Int.reduceLE, Int.reduceNeg, Int.reduceAdd, Int.reduceSub, Int.reduceToNat, List.getElem?_toArray, List.getElem?_cons, a1, a2, a0, a3, cond_true, cond_false, decide_eq_true_eq, decide_eq_false_iff_not, beq_iff_eq, beq_eq_false_iff_ne, bne_iff_ne, bne_eq_false_iff_eq, Bool.not_eq_true, Bool.not_eq_false, Classical.not_not, ne_eq]; (first | apply hK2 | ((try refine Or.inl ?_); intro o ho; (try simp only [set_none, hg, not_false_eq_true, and_true, true_and] at ho); replace hg := And.intro ho hg; apply hK2) | (refine ⟨fun hh => ?_, fun hh => ?_⟩ <;> replace hg := And.intro hh hg <;> first | (exfalso; omega) | apply hK2 | ((try refine Or.inl ?_); intro o ho; (try simp only [set_none, hg, not_false_eq_true, and_true, true_and] at ho); replace hg := And.intro ho hg; apply hK2)) | fail)) <;> clear hK2 K2)); all_goals ((first | refine opsW_nil (hK _ _ ?_) | refine opsPW_nil (hK _ ?_)); clear hK K))
      | ((first | refine AWp.seqC fun X Y hX hY => ?_ | refine AWp.condK fun X Y hX hY => ?_); simp (disch := first | omega | simp only [go_sem, hg]) only [hg, go_sem, ↓reduceIte, reduceCtorEq, Nat.reduceAdd, Nat.reduceMul, Nat.reduceSub, Nat.reduceEqDiff, Nat.reduceLeDiff, Nat.reduceLT, Nat.reduceBEq, Nat.reduceBNe, Int.reduceBEq, Int.reduceBNe, bne_self_eq_false, beq_self_eq_true, Int.reduceEq, Int.reduceLT, Int.reduceLE, Int.reduceNeg, Int.reduceAdd, Int.reduceSub, Int.reduceToNat, List.getElem?_toArray, List.getElem?_cons, a1, a2, a0, a3, cond_true, cond_false, decide_eq_true_eq, decide_eq_false_iff_not, beq_iff_eq, beq_eq_false_iff_ne, bne_iff_ne, bne_eq_false_iff_eq, Bool.not_eq_true, Bool.not_eq_false, Classical.not_not, ne_eq]; first | (refine ⟨fun hc => hX ?_, fun hc => hY ?_⟩ <;> replace hg := And.intro hc hg <;> first | (exfalso; omega) | skip) | refine hX ?_ | refine hY ?_) <;> clear hX hY X Y
      | ((first | refine AWp.skip ?_ | refine AWp.seqExit ?_ | refine AWp.seqRet ?_ | refine AWp.exit ?_ | refine AWp.ret ?_ | refine Eq.mpr AThen_n ?_ | refine Eq.mpr ABlock_n ?_ | refine Eq.mpr ANoGoto_n ?_); try simp (disch := first | omega | simp only [go_sem]) only [go_sem, ↓reduceIte, reduceCtorEq, Nat.reduceAdd, Nat.reduceMul, Nat.reduceSub, Nat.reduceEqDiff, Nat.reduceLeDiff, Nat.reduceLT, Nat.reduceBEq, Nat.reduceBNe, Int.reduceBEq, Int.reduceBNe, bne_self_eq_false, beq_self_eq_true, Int.reduceEq, Int.reduceLT, Int.reduceLE, Int.reduceNeg, Int.reduceAdd, Int.reduceSub, Int.reduceToNat, List.getElem?_toArray, List.getElem?_cons, AThen_n, AThen_e, AThen_r, ABlock_n, ABlock_e, ABlock_r, ANoGoto_n, ANoGoto_e, ANoGoto_r])
      | (first | refine AWp.seqScope ?_ | refine AWp.scope ?_ | refine AWp.seqLabel ?_ | refine AWp.seqSkip ?_ | refine AWp.seqBlock ?_ | refine AWp.seqSeq ?_ | refine AWp.block ?_))
    · exact Hand.mk ⟨by unfold tailN; rw [if_neg (by omega), if_neg (fun h => absurd (h (i + 1) (by omega) (by omega)) (by omega))]; rfl, rfl⟩
    · refine ⟨i + 1, by omega, ?_, by omega, ?_⟩
      · (repeat' (first | exact LeF.nil _ | refine LeF.eq rfl ?_ ?_))
        all_goals first | rfl | (refine litI ?_; omega) | (refine litB ?_; simp only [Nat.add_zero]; done) | (refine litI ?_; simp only [Nat.add_zero]; try omega) | skip
      · intro j h1 h2
        rcases Nat.lt_or_ge j (i + 1) with h | h
        · exact hct j h1 h
        · have : j = i + 1 := by omega
          subst this; omega
    all_goals
      have hn : i + 1 = 4 := by omega
      have hpn : pv l (b % 8) 4 = pv l (b % 8) (i + 1) := by rw [hn]
      refine Hand.mk ⟨?_, rfl⟩
      unfold tailN
      rw [if_neg (by omega), if_pos (show ContN l 4 from hn ▸ hct), hpn]
      first
        | (rw [if_pos (by simp only [badN]; omega)]; rfl)
        | (rw [if_neg (by simp only [badN]; omega)])
  · rw [hsh 3 (b % 16) 2048 (by unfold headN; (repeat' split) <;> first | rfl | (exfalso; omega)) (by decide) (by omega)]
    exact Hand.mk ⟨rfl, rfl⟩
  · rw [hpt 3 (b % 16) 2048 (by unfold headN; (repeat' split) <;> first | rfl | (exfalso; omega)), if_neg (by decide)]
    have hlen : 3 ≤ l.length := by omega
    refine AWp.loopF (fun i : Nat => [(6, int (i + 1 : Nat)), (4, int (pv l (b % 16) (i + 1) : Nat)), (3, int (3 : Nat)), (5, int (2048 : Nat)), (0, byts l)]) (fun i τ => i + 1 ≤ 3 ∧ ContN l (i + 1) ∧ τ = σ) (fun i => 3 - i) 0 ?_ ⟨by omega, fun j h1 h2 => by omega, rfl⟩ ?_
    · (repeat' (first | exact LeF.nil _ | refine LeF.eq rfl ?_ ?_))
      all_goals first | rfl | (refine litI ?_; omega) | (refine litB ?_; simp only [Nat.add_zero]; done) | (refine litI ?_; simp only [Nat.add_zero]; try omega) | skip
    rintro i τ ⟨hi, hct, rfl⟩
    have hb1 := hb (i + 1)
    have hpl := pv_lt hb (p0 := (b % 16)) (by omega) (i + 1) (by omega)
    have hpv : pv l (b % 16) (i + 2) = pv l (b % 16) (i + 1) * 64 + l.getD (i + 1) 0 % 64 := rfl
    have a1 := and8_192 hb1
    have a2 := and8_63 hb1
    have hp64 : 64 ^ (i + 1) ≤ 64 ^ 4 := Nat.pow_le_pow_right (by decide) (by omega)
    have a3 := or64_shl (p := pv l (b % 16) (i + 1)) (x := l.getD (i + 1) 0 % 64) (by omega) (by omega)
    have a0 : IntKind.i64.wrap ((pv l (b % 16) (i + 1) : Int) * 2 ^ min 6 64) = ((pv l (b % 16) (i + 1) * 64 : Nat) : Int) := by
      rw [show (2 : Int) ^ min 6 64 = 64 by decide, wrap_i64 (by omega) (by omega)]; omega
    repeat' (first
      | ((first | refine AWp.seqR rfl fun K hK => ?_ | refine AWp.regK rfl fun K hK => ?_ | refine AWp.seqP fol (by kernel_rfl) fun K hK => ?_); (repeat' (((first | refine opsW_kn fun K2 hK2 => ?_ | refine opsW_kg rfl fun K2 hK2 => ?_ | refine opsPW_kn fun K2 hK2 => ?_ | refine opsPW_kg rfl fun K2 hK2 => ?_); simp (disch := first | omega | simp only [go_sem, hg]) only [hg, go_sem, ↓reduceIte, reduceCtorEq, Nat.reduceAdd, Nat.reduceMul, Nat.reduceSub, Nat.reduceEqDiff, Nat.reduceLeDiff, Nat.reduceLT, Nat.reduceBEq, Nat.reduceBNe, Int.reduceBEq, Int.reduceBNe, bne_self_eq_false, beq_self_eq_true, Int.reduceEq, Int.reduceLT, Int.reduceLE, Int.reduceNeg, Int.reduceAdd, Int.reduceSub, Int.reduceToNat, List.getElem?_toArray, List.getElem?_cons, a1, a2, a0, a3, cond_true, cond_false, decide_eq_true_eq, decide_eq_false_iff_not, beq_iff_eq, beq_eq_false_iff_ne, bne_iff_ne, bne_eq_false_iff_eq, Bool.not_eq_true, Bool.not_eq_false, Classical.not_not, ne_eq]; (first | apply hK2 | ((try refine Or.inl ?_); intro o ho; (try simp only [set_none, hg, not_false_eq_true, and_true, true_and] at ho); replace hg := And.intro ho hg; apply hK2) | (refine ⟨fun hh => ?_, fun hh => ?_⟩ <;> replace hg := And.intro hh hg <;> first | (exfalso; omega) | apply hK2 | ((try refine Or.inl ?_); intro o ho; (try simp only [set_none, hg, not_false_eq_true, and_true, true_and] at ho); replace hg := And.intro ho hg; apply hK2)) | fail)) <;> clear hK2 K2)); all_goals ((first | refine opsW_nil (hK _ _ ?_) | refine opsPW_nil (hK _ ?_)); clear hK K))
      | ((first | refine AWp.seqC fun X Y hX hY => ?_ | refine AWp.condK fun X Y hX hY => ?_); simp (disch := first | omega | simp only [go_sem, hg]) only [hg, go_sem, ↓reduceIte, reduceCtorEq, Nat.reduceAdd, Nat.reduceMul, Nat.reduceSub, Nat.reduceEqDiff, Nat.reduceLeDiff, Nat.reduceLT, Nat.reduceBEq, Nat.reduceBNe, Int.reduceBEq, Int.reduceBNe, bne_self_eq_false, beq_self_eq_true, Int.reduceEq, Int.reduceLT, Int.reduceLE, Int.reduceNeg, Int.reduceAdd, Int.reduceSub, Int.reduceToNat, List.getElem?_toArray, List.getElem?_cons, a1, a2, a0, a3, cond_true, cond_false, decide_eq_true_eq, decide_eq_false_iff_not, beq_iff_eq, beq_eq_false_iff_ne, bne_iff_ne, bne_eq_false_iff_eq, Bool.not_eq_true, Bool.not_eq_false, Classical.not_not, ne_eq]; first | (refine ⟨fun hc => hX ?_, fun hc => hY ?_⟩ <;> replace hg := And.intro hc hg <;> first | (exfalso; omega) | skip) | refine hX ?_ | refine hY ?_) <;> clear hX hY X Y
      | ((first | refine AWp.skip ?_ | refine AWp.seqExit ?_ | refine AWp.seqRet ?_ | refine AWp.exit ?_ | refine AWp.ret ?_ | refine Eq.mpr AThen_n ?_ | refine Eq.mpr ABlock_n ?_ | refine Eq.mpr ANoGoto_n ?_); try simp (disch := first | omega | simp only [go_sem]) only [go_sem, ↓reduceIte, reduceCtorEq, Nat.reduceAdd, Nat.reduceMul, Nat.reduceSub, Nat.reduceEqDiff, Nat.reduceLeDiff, Nat.reduceLT, Nat.reduceBEq, Nat.reduceBNe, Int.reduceBEq, Int.reduceBNe, bne_self_eq_false, beq_self_eq_true, Int.reduceEq, Int.reduceLT, Int.reduceLE, Int.reduceNeg, Int.reduceAdd, Int.reduceSub, Int.reduceToNat, List.getElem?_toArray, List.getElem?_cons, AThen_n, AThen_e, AThen_r, ABlock_n, ABlock_e, ABlock_r, ANoGoto_n, ANoGoto_e, ANoGoto_r])
      | (first | refine AWp.seqScope ?_ | refine AWp.scope ?_ | refine AWp.seqLabel ?_ | refine AWp.seqSkip ?_ | refine AWp.seqBlock ?_ | refine AWp.seqSeq ?_ | refine AWp.block ?_))
    · exact Hand.mk ⟨by unfold tailN; rw [if_neg (by omega), if_neg (fun h => absurd (h (i + 1) (by omega) (by omega)) (by omega))]; rfl, rfl⟩
    · refine ⟨i + 1, by omega, ?_, by omega, ?_⟩
      · (repeat' (first | exact LeF.nil _ | refine LeF.eq rfl ?_ ?_))
        all_goals first | rfl | (refine litI ?_; omega) | (refine litB ?_; simp only [Nat.add_zero]; done) | (refine litI ?_; simp only [Nat.add_zero]; try omega) | skip
      · intro j h1 h2
        rcases Nat.lt_or_ge j (i + 1) with h | h
        · exact hct j h1 h
        · have : j = i + 1 := by omega
          subst this; omega
    all_goals
      have hn : i + 1 = 3 := by omega
      have hpn : pv l (b % 16) 3 = pv l (b % 16) (i + 1) := by rw [hn]
      refine Hand.mk ⟨?_, rfl⟩
      unfold tailN
      rw [if_neg (by omega), if_pos (show ContN l 3 from hn ▸ hct), hpn]
      first
        | (rw [if_pos (by simp only [badN]; omega)]; rfl)
        | (rw [if_neg (by simp only [badN]; omega)])
  · rw [hsh 2 (b % 32) 128 (by unfold headN; (repeat' split) <;> first | rfl | (exfalso; omega)) (by decide) (by omega)]
    exact Hand.mk ⟨rfl, rfl⟩
  · rw [hpt 2 (b % 32) 128 (by unfold headN; (repeat' split) <;> first | rfl | (exfalso; omega)), if_neg (by decide)]
    have hlen : 2 ≤ l.length := by omega
    refine AWp.loopF (fun i : Nat => [(6, int (i + 1 : Nat)), (4, int (pv l (b % 32) (i + 1) : Nat)), (3, int (2 : Nat)), (5, int (128 : Nat)), (0, byts l)]) (fun i τ => i + 1 ≤ 2 ∧ ContN l (i + 1) ∧ τ = σ) (fun i => 2 - i) 0 ?_ ⟨by omega, fun j h1 h2 => by omega, rfl⟩ ?_
    · (repeat' (first | exact LeF.nil _ | refine LeF.eq rfl ?_ ?_))
      all_goals first | rfl | (refine litI ?_; omega) | (refine litB ?_; simp only [Nat.add_zero]; done) | (refine litI ?_; simp only [Nat.add_zero]; try omega) | skip
    rintro i τ ⟨hi, hct, rfl⟩
    have hb1 := hb (i + 1)
    have hpl := pv_lt hb (p0 := (b % 32)) (by omega) (i + 1) (by omega)
    have hpv : pv l (b % 32) (i + 2) = pv l (b % 32) (i + 1) * 64 + l.getD (i + 1) 0 % 64 := rfl
    have a1 := and8_192 hb1
    have a2 := and8_63 hb1
    have hp64 : 64 ^ (i + 1) ≤ 64 ^ 4 := Nat.pow_le_pow_right (by decide) (by omega)
    have a3 := or64_shl (p := pv l (b % 32) (i + 1)) (x := l.getD (i + 1) 0 % 64) (by omega) (by omega)
    have a0 : IntKind.i64.wrap ((pv l (b % 32) (i + 1) : Int) * 2 ^ min 6 64) = ((pv l (b % 32) (i + 1) * 64 : Nat) : Int) := by
      rw [show (2 : Int) ^ min 6 64 = 64 by decide, wrap_i64 (by omega) (by omega)]; omega
    repeat' (first
      | ((first | refine AWp.seqR rfl fun K hK => ?_ | refine AWp.regK rfl fun K hK => ?_ | refine AWp.seqP fol (by kernel_rfl) fun K hK => ?_); (repeat' (((first | refine opsW_kn fun K2 hK2 => ?_ | refine opsW_kg rfl fun K2 hK2 => ?_ | refine opsPW_kn fun K2 hK2 => ?_ | refine opsPW_kg rfl fun K2 hK2 => ?_); simp (disch := first | omega | simp only [go_sem, hg]) only [hg, go_sem, ↓reduceIte, reduceCtorEq, Nat.reduceAdd, Nat.reduceMul, Nat.reduceSub, Nat.reduceEqDiff, Nat.reduceLeDiff, Nat.reduceLT, Nat.reduceBEq, Nat.reduceBNe, Int.reduceBEq, Int.reduceBNe, bne_self_eq_false, beq_self_eq_true, Int.reduceEq, Int.reduceLT, Int.reduceLE, Int.reduceNeg, Int.reduceAdd, Int.reduceSub, Int.reduceToNat, List.getElem?_toArray, List.getElem?_cons, a1, a2, a0, a3, cond_true, cond_false, decide_eq_true_eq, decide_eq_false_iff_not, beq_iff_eq, beq_eq_false_iff_ne, bne_iff_ne, bne_eq_false_iff_eq, Bool.not_eq_true, Bool.not_eq_false, Classical.not_not, ne_eq]; (first | apply hK2 | ((try refine Or.inl ?_); intro o ho; (try simp only [set_none, hg, not_false_eq_true, and_true, true_and] at ho); replace hg := And.intro ho hg; apply hK2) | (refine ⟨fun hh => ?_, fun hh => ?_⟩ <;> replace hg := And.intro hh hg <;> first | (exfalso; omega) | apply hK2 | ((try refine Or.inl ?_); intro o ho; (try simp only [set_none, hg, not_false_eq_true, and_true, true_and] at ho); replace hg := And.intro ho hg; apply hK2)) | fail)) <;> clear hK2 K2)); all_goals ((first | refine opsW_nil (hK _ _ ?_) | refine opsPW_nil (hK _ ?_)); clear hK K))
      | ((first | refine AWp.seqC fun X Y hX hY => ?_ | refine AWp.condK fun X Y hX hY => ?_); simp (disch := first | omega | simp only [go_sem, hg]) only [hg, go_sem, ↓reduceIte, reduceCtorEq, Nat.reduceAdd, Nat.reduceMul, Nat.reduceSub, Nat.reduceEqDiff, Nat.reduceLeDiff, Nat.reduceLT, Nat.reduceBEq, Nat.reduceBNe, Int.reduceBEq, Int.reduceBNe, bne_self_eq_false, beq_self_eq_true, Int.reduceEq, Int.reduceLT, Int.reduceLE, Int.reduceNeg, Int.reduceAdd, Int.reduceSub, Int.reduceToNat, List.getElem?_toArray, List.getElem?_cons, a1, a2, a0, a3, cond_true, cond_false, decide_eq_true_eq, decide_eq_false_iff_not, beq_iff_eq, beq_eq_false_iff_ne, bne_iff_ne, bne_eq_false_iff_eq, Bool.not_eq_true, Bool.not_eq_false, Classical.not_not, ne_eq]; first | (refine ⟨fun hc => hX ?_, fun hc => hY ?_⟩ <;> replace hg := And.intro hc hg <;> first | (exfalso; omega) | skip) | refine hX ?_ | refine hY ?_) <;> clear hX hY X Y
      | ((first | refine AWp.skip ?_ | refine AWp.seqExit ?_ | refine AWp.seqRet ?_ | refine AWp.exit ?_ | refine AWp.ret ?_ | refine Eq.mpr AThen_n ?_ | refine Eq.mpr ABlock_n ?_ | refine Eq.mpr ANoGoto_n ?_); try simp (disch := first | omega | simp only [go_sem]) only [go_sem, ↓reduceIte, reduceCtorEq, Nat.reduceAdd, Nat.reduceMul, Nat.reduceSub, Nat.reduceEqDiff, Nat.reduceLeDiff, Nat.reduceLT, Nat.reduceBEq, Nat.reduceBNe, Int.reduceBEq, Int.reduceBNe, bne_self_eq_false, beq_self_eq_true, Int.reduceEq, Int.reduceLT, Int.reduceLE, Int.reduceNeg, Int.reduceAdd, Int.reduceSub, Int.reduceToNat, List.getElem?_toArray, List.getElem?_cons, AThen_n, AThen_e, AThen_r, ABlock_n, ABlock_e, ABlock_r, ANoGoto_n, ANoGoto_e, ANoGoto_r])
      | (first | refine AWp.seqScope ?_ | refine AWp.scope ?_ | refine AWp.seqLabel ?_ | refine AWp.seqSkip ?_ | refine AWp.seqBlock ?_ | refine AWp.seqSeq ?_ | refine AWp.block ?_))
    · exact Hand.mk ⟨by unfold tailN; rw [if_neg (by omega), if_neg (fun h => absurd (h (i + 1) (by omega) (by omega)) (by omega))]; rfl, rfl⟩
    · refine ⟨i + 1, by omega, ?_, by omega, ?_⟩
      · (repeat' (first | exact LeF.nil _ | refine LeF.eq rfl ?_ ?_))
        all_goals first | rfl | (refine litI ?_; omega) | (refine litB ?_; simp only [Nat.add_zero]; done) | (refine litI ?_; simp only [Nat.add_zero]; try omega) | skip
      · intro j h1 h2
        rcases Nat.lt_or_ge j (i + 1) with h | h
        · exact hct j h1 h
        · have : j = i + 1 := by omega
          subst this; omega
    all_goals
      have hn : i + 1 = 2 := by omega
      have hpn : pv l (b % 32) 2 = pv l (b % 32) (i + 1) := by rw [hn]
      refine Hand.mk ⟨?_, rfl⟩
      unfold tailN
      rw [if_neg (by omega), if_pos (show ContN l 2 from hn ▸ hct), hpn]
      first
        | (rw [if_pos (by simp only [badN]; omega)]; rfl)
        | (rw [if_neg (by simp only [badN]; omega)])
  · rw [hpt 0 0 0 (by unfold headN; (repeat' split) <;> first | rfl | (exfalso; omega))]
    exact Hand.mk ⟨rfl, rfl⟩
  · rw [hpt 1 b 1 (by unfold headN; (repeat' split) <;> first | rfl | (exfalso; omega)), if_neg (by decide)]
    have hlen : 1 ≤ l.length := by omega
    refine AWp.loopF (fun i : Nat => [(6, int (i + 1 : Nat)), (4, int (pv l b (i + 1) : Nat)), (3, int (1 : Nat)), (5, int (1 : Nat)), (0, byts l)]) (fun i τ => i + 1 ≤ 1 ∧ ContN l (i + 1) ∧ τ = σ) (fun i => 1 - i) 0 ?_ ⟨by omega, fun j h1 h2 => by omega, rfl⟩ ?_
    · (repeat' (first | exact LeF.nil _ | refine LeF.eq rfl ?_ ?_))
      all_goals first | rfl | (refine litI ?_; omega) | (refine litB ?_; simp only [Nat.add_zero]; done) | (refine litI ?_; simp only [Nat.add_zero]; try omega) | skip
    rintro i τ ⟨hi, hct, rfl⟩
    have hb1 := hb (i + 1)
    have hpl := pv_lt hb (p0 := b) (by omega) (i + 1) (by omega)
    have hpv : pv l b (i + 2) = pv l b (i + 1) * 64 + l.getD (i + 1) 0 % 64 := rfl
    have a1 := and8_192 hb1
    have a2 := and8_63 hb1
    have hp64 : 64 ^ (i + 1) ≤ 64 ^ 4 := Nat.pow_le_pow_right (by decide) (by omega)
    have a3 := or64_shl (p := pv l b (i + 1)) (x := l.getD (i + 1) 0 % 64) (by omega) (by omega)
    have a0 : IntKind.i64.wrap ((pv l b (i + 1) : Int) * 2 ^ min 6 64) = ((pv l b (i + 1) * 64 : Nat) : Int) := by
      rw [show (2 : Int) ^ min 6 64 = 64 by decide, wrap_i64 (by omega) (by omega)]; omega
    repeat' (first
      | ((first | refine AWp.seqR rfl fun K hK => ?_ | refine AWp.regK rfl fun K hK => ?_ | refine AWp.seqP fol (by kernel_rfl) fun K hK => ?_); (repeat' (((first | refine opsW_kn fun K2 hK2 => ?_ | refine opsW_kg rfl fun K2 hK2 => ?_ | refine opsPW_kn fun K2 hK2 => ?_ | refine opsPW_kg rfl fun K2 hK2 => ?_); simp (disch := first | omega | simp only [go_sem, hg]) only [hg, go_sem, ↓reduceIte, reduceCtorEq, Nat.reduceAdd, Nat.reduceMul, Nat.reduceSub, Nat.reduceEqDiff, Nat.reduceLeDiff, Nat.reduceLT, Nat.reduceBEq, Nat.reduceBNe, Int.reduceBEq, Int.reduceBNe, bne_self_eq_false, beq_self_eq_true, Int.reduceEq, Int.reduceLT, Int.reduceLE, Int.reduceNeg, Int.reduceAdd, Int.reduceSub, Int.reduceToNat, List.getElem?_toArray, List.getElem?_cons, a1, a2, a0, a3, cond_true, cond_false, decide_eq_true_eq, decide_eq_false_iff_not, beq_iff_eq, beq_eq_false_iff_ne, bne_iff_ne, bne_eq_false_iff_eq, Bool.not_eq_true, Bool.not_eq_false, Classical.not_not, ne_eq]; (first | apply hK2 | ((try refine Or.inl ?_); intro o ho; (try simp only [set_none, hg, not_false_eq_true, and_true, true_and] at ho); replace hg := And.intro ho hg; apply hK2) | (refine ⟨fun hh => ?_, fun hh => ?_⟩ <;> replace hg := And.intro hh hg <;> first | (exfalso; omega) | apply hK2 | ((try refine Or.inl ?_); intro o ho; (try simp only [set_none, hg, not_false_eq_true, and_true, true_and] at ho); replace hg := And.intro ho hg; apply hK2)) | fail)) <;> clear hK2 K2)); all_goals ((first | refine opsW_nil (hK _ _ ?_) | refine opsPW_nil (hK _ ?_)); clear hK K))
      | ((first | refine AWp.seqC fun X Y hX hY => ?_ | refine AWp.condK fun X Y hX hY => ?_); simp (disch := first | omega | simp only [go_sem, hg]) only [hg, go_sem, ↓reduceIte, reduceCtorEq, Nat.reduceAdd, Nat.reduceMul, Nat.reduceSub, Nat.reduceEqDiff, Nat.reduceLeDiff, Nat.reduceLT, Nat.reduceBEq, Nat.reduceBNe, Int.reduceBEq, Int.reduceBNe, bne_self_eq_false, beq_self_eq_true, Int.reduceEq, Int.reduceLT, Int.reduceLE, Int.reduceNeg, Int.reduceAdd, Int.reduceSub, Int.reduceToNat, List.getElem?_toArray, List.getElem?_cons, a1, a2, a0, a3, cond_true, cond_false, decide_eq_true_eq, decide_eq_false_iff_not, beq_iff_eq, beq_eq_false_iff_ne, bne_iff_ne, bne_eq_false_iff_eq, Bool.not_eq_true, Bool.not_eq_false, Classical.not_not, ne_eq]; first | (refine ⟨fun hc => hX ?_, fun hc => hY ?_⟩ <;> replace hg := And.intro hc hg <;> first | (exfalso; omega) | skip) | refine hX ?_ | refine hY ?_) <;> clear hX hY X Y
      | ((first | refine AWp.skip ?_ | refine AWp.seqExit ?_ | refine AWp.seqRet ?_ | refine AWp.exit ?_ | refine AWp.ret ?_ | refine Eq.mpr AThen_n ?_ | refine Eq.mpr ABlock_n ?_ | refine Eq.mpr ANoGoto_n ?_); try simp (disch := first | omega | simp only [go_sem]) only [go_sem, ↓reduceIte, reduceCtorEq, Nat.reduceAdd, Nat.reduceMul, Nat.reduceSub, Nat.reduceEqDiff, Nat.reduceLeDiff, Nat.reduceLT, Nat.reduceBEq, Nat.reduceBNe, Int.reduceBEq, Int.reduceBNe, bne_self_eq_false, beq_self_eq_true, Int.reduceEq, Int.reduceLT, Int.reduceLE, Int.reduceNeg, Int.reduceAdd, Int.reduceSub, Int.reduceToNat, List.getElem?_toArray, List.getElem?_cons, AThen_n, AThen_e, AThen_r, ABlock_n, ABlock_e, ABlock_r, ANoGoto_n, ANoGoto_e, ANoGoto_r])
      | (first | refine AWp.seqScope ?_ | refine AWp.scope ?_ | refine AWp.seqLabel ?_ | refine AWp.seqSkip ?_ | refine AWp.seqBlock ?_ | refine AWp.seqSeq ?_ | refine AWp.block ?_))
    all_goals
      have hn : i + 1 = 1 := by omega
      have hpn : pv l b 1 = pv l b (i + 1) := by rw [hn]
      refine Hand.mk ⟨?_, rfl⟩
      unfold tailN
      rw [if_neg (by omega), if_pos (show ContN l 1 from hn ▸ hct), hpn]
      first
        | (rw [if_pos (by simp only [badN]; omega)]; rfl)
        | (rw [if_neg (by simp only [badN]; omega)])
end Go.Proofs
