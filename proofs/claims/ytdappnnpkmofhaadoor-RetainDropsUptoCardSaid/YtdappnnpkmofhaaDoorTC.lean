/- Texts: Utf, Check of the reference; ValidString, ask, Check of the program; Split, Cut, prefixes. -/
import Derived.Test.YtdappnnpkmofhaaDoorPB
import Derived.Test.YtdappnnpkmofhaaDoorEL
set_option linter.unusedSimpArgs false
set_option linter.unusedVariables false
namespace Go.Proofs
open Go Go.Abs
variable {glob : Nat → PV}
set_option maxRecDepth 10000
set_option maxHeartbeats 4000000
attribute [local go_sem] int  bool  str  byt  byts  default_nat
def okText (s : ByteArray) : Bool := okBytes s.data.toList && decide (s.size ≤ 65535)
theorem okBytes_nil : okBytes [] = true := rfl
theorem utf33 (l : List UInt8) (hl : l.length < 1000000000) : Pur Tryd.prog glob 48 [byts (nums l)] (bool (okBytes l)) := by
  intro σ
  refine ACalls.of_body' (n := 14) [.tmp 2] Tryd.func48 rfl (by kernel_rfl) Tryd.ntmps48 (by simp only [List.length_cons, List.length_nil]; decide) rfl ?_
  have hg : (0 : Nat) = 0 := rfl
  repeat' (first
    | ((first | refine AWp.seqR rfl fun K hK => ?_ | refine AWp.regK rfl fun K hK => ?_ | refine AWp.seqP fol (by kernel_rfl) fun K hK => ?_); (repeat' (((first | refine opsW_kn fun K2 hK2 => ?_ | refine opsW_kg rfl fun K2 hK2 => ?_ | refine opsPW_kn fun K2 hK2 => ?_ | refine opsPW_kg rfl fun K2 hK2 => ?_); simp (disch := first | omega | simp only [go_sem, hg]) only [hg, go_sem, ↓reduceIte, reduceCtorEq, Nat.reduceAdd, Nat.reduceMul, Nat.reduceSub, Nat.reduceEqDiff, Nat.reduceLeDiff, Nat.reduceLT, Nat.reduceBEq, Nat.reduceBNe, Int.reduceBEq, Int.reduceBNe, bne_self_eq_false, beq_self_eq_true, Int.reduceEq, Int.reduceLT, Int.reduceLE, Int.reduceNeg, Int.reduceAdd, Int.reduceSub, Int.reduceToNat, List.getElem?_toArray, List.getElem?_cons, cond_true, cond_false, decide_eq_true_eq, decide_eq_false_iff_not, beq_iff_eq, beq_eq_false_iff_ne, bne_iff_ne, bne_eq_false_iff_eq, Bool.not_eq_true, Bool.not_eq_false, Classical.not_not, ne_eq]; (first | apply hK2 | ((try refine Or.inl ?_); intro o ho; (try simp only [set_none, hg, not_false_eq_true, and_true, true_and] at ho); replace hg := And.intro ho hg; apply hK2) | (refine ⟨fun hh => ?_, fun hh => ?_⟩ <;> replace hg := And.intro hh hg <;> first | (exfalso; omega) | apply hK2 | ((try refine Or.inl ?_); intro o ho; (try simp only [set_none, hg, not_false_eq_true, and_true, true_and] at ho); replace hg := And.intro ho hg; apply hK2)) | fail)) <;> clear hK2 K2)); all_goals ((first | refine opsW_nil (hK _ _ ?_) | refine opsPW_nil (hK _ ?_)); clear hK K))
    | ((first | refine AWp.seqC fun X Y hX hY => ?_ | refine AWp.condK fun X Y hX hY => ?_); simp (disch := first | omega | simp only [go_sem, hg]) only [hg, go_sem, ↓reduceIte, reduceCtorEq, Nat.reduceAdd, Nat.reduceMul, Nat.reduceSub, Nat.reduceEqDiff, Nat.reduceLeDiff, Nat.reduceLT, Nat.reduceBEq, Nat.reduceBNe, Int.reduceBEq, Int.reduceBNe, bne_self_eq_false, beq_self_eq_true, Int.reduceEq, Int.reduceLT, Int.reduceLE, Int.reduceNeg, Int.reduceAdd, Int.reduceSub, Int.reduceToNat, List.getElem?_toArray, List.getElem?_cons, cond_true, cond_false, decide_eq_true_eq, decide_eq_false_iff_not, beq_iff_eq, beq_eq_false_iff_ne, bne_iff_ne, bne_eq_false_iff_eq, Bool.not_eq_true, Bool.not_eq_false, Classical.not_not, ne_eq]; first | (refine ⟨fun hc => hX ?_, fun hc => hY ?_⟩ <;> replace hg := And.intro hc hg <;> first | (exfalso; omega) | skip) | refine hX ?_ | refine hY ?_) <;> clear hX hY X Y
    | ((first | refine AWp.skip ?_ | refine AWp.seqExit ?_ | refine AWp.seqRet ?_ | refine AWp.exit ?_ | refine AWp.ret ?_ | refine Eq.mpr AThen_n ?_ | refine Eq.mpr ABlock_n ?_ | refine Eq.mpr ANoGoto_n ?_); try simp (disch := first | omega | simp only [go_sem]) only [go_sem, ↓reduceIte, reduceCtorEq, Nat.reduceAdd, Nat.reduceMul, Nat.reduceSub, Nat.reduceEqDiff, Nat.reduceLeDiff, Nat.reduceLT, Nat.reduceBEq, Nat.reduceBNe, Int.reduceBEq, Int.reduceBNe, bne_self_eq_false, beq_self_eq_true, Int.reduceEq, Int.reduceLT, Int.reduceLE, Int.reduceNeg, Int.reduceAdd, Int.reduceSub, Int.reduceToNat, List.getElem?_toArray, List.getElem?_cons, AThen_n, AThen_e, AThen_r, ABlock_n, ABlock_e, ABlock_r, ANoGoto_n, ANoGoto_e, ANoGoto_r])
    | (first | refine AWp.seqScope ?_ | refine AWp.scope ?_ | refine AWp.seqLabel ?_ | refine AWp.seqSkip ?_ | refine AWp.seqBlock ?_ | refine AWp.seqSeq ?_ | refine AWp.block ?_))
  refine AWp.loopF (fun k : List UInt8 => [(0, byts (nums k))]) (fun k τ => k.length ≤ l.length ∧ okBytes l = okBytes k ∧ τ = σ) (fun k => k.length) l ?_ ⟨Nat.le_refl _, rfl, rfl⟩ ?_
  · (repeat' (first | exact LeF.nil _ | refine LeF.eq rfl ?_ ?_))
    all_goals first | rfl | (refine litI ?_; omega) | (refine litB ?_; simp only [Nat.add_zero]; done) | (refine litI ?_; simp only [Nat.add_zero]; try omega) | skip
  rintro k τ ⟨hk, hok, rfl⟩
  have hkl : (nums k).length = k.length := by simp
  rcases Nat.lt_or_ge 0 k.length with h0 | h0
  · obtain ⟨s1, s2⟩ := step_point k (List.length_pos_iff.1 h0)
    have hp := point44 (glob := glob) (nums k) (by omega) (by omega) (fun j => by rw [nums_get]; exact byteN_lt _ _)
    repeat' (first
      | ((first | refine AWp.seqR rfl fun K hK => ?_ | refine AWp.regK rfl fun K hK => ?_ | refine AWp.seqP fol (by kernel_rfl) fun K hK => ?_); (repeat' (((first | refine opsW_kn fun K2 hK2 => ?_ | refine opsW_kg rfl fun K2 hK2 => ?_ | refine opsPW_kn fun K2 hK2 => ?_ | refine opsPW_kg rfl fun K2 hK2 => ?_); simp (disch := first | omega | simp only [go_sem, hg]) only [hg, go_sem, ↓reduceIte, reduceCtorEq, Nat.reduceAdd, Nat.reduceMul, Nat.reduceSub, Nat.reduceEqDiff, Nat.reduceLeDiff, Nat.reduceLT, Nat.reduceBEq, Nat.reduceBNe, Int.reduceBEq, Int.reduceBNe, bne_self_eq_false, beq_self_eq_true, Int.reduceEq, Int.reduceLT, Int.reduceLE, Int.reduceNeg, Int.reduceAdd, Int.reduceSub, Int.reduceToNat, List.getElem?_toArray, List.getElem?_cons, hkl, cond_true, cond_false, decide_eq_true_eq, decide_eq_false_iff_not, beq_iff_eq, beq_eq_false_iff_ne, bne_iff_ne, bne_eq_false_iff_eq, Bool.not_eq_true, Bool.not_eq_false, Classical.not_not, ne_eq]; (first | apply hK2 | ((try refine Or.inl ?_); intro o ho; (try simp only [set_none, hg, not_false_eq_true, and_true, true_and] at ho); replace hg := And.intro ho hg; apply hK2) | (refine Pur.call (hp) ?_; apply hK2) | (refine ⟨fun hh => ?_, fun hh => ?_⟩ <;> replace hg := And.intro hh hg <;> first | (exfalso; omega) | apply hK2 | ((try refine Or.inl ?_); intro o ho; (try simp only [set_none, hg, not_false_eq_true, and_true, true_and] at ho); replace hg := And.intro ho hg; apply hK2) | (refine Pur.call (hp) ?_; apply hK2)) | fail)) <;> clear hK2 K2)); all_goals ((first | refine opsW_nil (hK _ _ ?_) | refine opsPW_nil (hK _ ?_)); clear hK K))
      | ((first | refine AWp.seqC fun X Y hX hY => ?_ | refine AWp.condK fun X Y hX hY => ?_); simp (disch := first | omega | simp only [go_sem, hg]) only [hg, go_sem, ↓reduceIte, reduceCtorEq, Nat.reduceAdd, Nat.reduceMul, Nat.reduceSub, Nat.reduceEqDiff, Nat.reduceLeDiff, Nat.reduceLT, Nat.reduceBEq, Nat.reduceBNe, Int.reduceBEq, Int.reduceBNe, bne_self_eq_false, beq_self_eq_true, Int.reduceEq, Int.reduceLT, Int.reduceLE, Int.reduceNeg, Int.reduceAdd, Int.reduceSub, Int.reduceToNat, List.getElem?_toArray, List.getElem?_cons, hkl, cond_true, cond_false, decide_eq_true_eq, decide_eq_false_iff_not, beq_iff_eq, beq_eq_false_iff_ne, bne_iff_ne, bne_eq_false_iff_eq, Bool.not_eq_true, Bool.not_eq_false, Classical.not_not, ne_eq]; first | (refine ⟨fun hc => hX ?_, fun hc => hY ?_⟩ <;> replace hg := And.intro hc hg <;> first | (exfalso; omega) | skip) | refine hX ?_ | refine hY ?_) <;> clear hX hY X Y
      | ((first | refine AWp.skip ?_ | refine AWp.seqExit ?_ | refine AWp.seqRet ?_ | refine AWp.exit ?_ | refine AWp.ret ?_ | refine Eq.mpr AThen_n ?_ | refine Eq.mpr ABlock_n ?_ | refine Eq.mpr ANoGoto_n ?_); try simp (disch := first | omega | simp only [go_sem]) only [go_sem, ↓reduceIte, reduceCtorEq, Nat.reduceAdd, Nat.reduceMul, Nat.reduceSub, Nat.reduceEqDiff, Nat.reduceLeDiff, Nat.reduceLT, Nat.reduceBEq, Nat.reduceBNe, Int.reduceBEq, Int.reduceBNe, bne_self_eq_false, beq_self_eq_true, Int.reduceEq, Int.reduceLT, Int.reduceLE, Int.reduceNeg, Int.reduceAdd, Int.reduceSub, Int.reduceToNat, List.getElem?_toArray, List.getElem?_cons, AThen_n, AThen_e, AThen_r, ABlock_n, ABlock_e, ABlock_r, ANoGoto_n, ANoGoto_e, ANoGoto_r])
      | (first | refine AWp.seqScope ?_ | refine AWp.scope ?_ | refine AWp.seqLabel ?_ | refine AWp.seqSkip ?_ | refine AWp.seqBlock ?_ | refine AWp.seqSeq ?_ | refine AWp.block ?_))
    · have hz : pointN (nums k) = 0 := by omega
      rw [hok, s1 hz]
      exact Hand.mk ⟨rfl, rfl⟩
    · have hz : pointN (nums k) ≠ 0 := by omega
      obtain ⟨a1, a2⟩ := s2 hz
      refine ⟨k.drop (pointN (nums k)), by simp; omega, ?_, by simp; omega, by rw [hok, a2]⟩
      (repeat' (first | exact LeF.nil _ | refine LeF.eq rfl ?_ ?_))
      all_goals first | rfl | (refine litI ?_; omega) | (refine litB ?_; simp only [Nat.add_zero]; done) | (refine litI ?_; simp only [Nat.add_zero]; try omega) | skip
      rw [List.take_of_length_le (by simp), ← List.map_drop, ← List.map_drop]; rfl
  · have : k = [] := List.eq_nil_of_length_eq_zero (by omega)
    subst this
    repeat' (first
      | ((first | refine AWp.seqR rfl fun K hK => ?_ | refine AWp.regK rfl fun K hK => ?_ | refine AWp.seqP fol (by kernel_rfl) fun K hK => ?_); (repeat' (((first | refine opsW_kn fun K2 hK2 => ?_ | refine opsW_kg rfl fun K2 hK2 => ?_ | refine opsPW_kn fun K2 hK2 => ?_ | refine opsPW_kg rfl fun K2 hK2 => ?_); simp (disch := first | omega | simp only [go_sem, hg]) only [hg, go_sem, ↓reduceIte, reduceCtorEq, Nat.reduceAdd, Nat.reduceMul, Nat.reduceSub, Nat.reduceEqDiff, Nat.reduceLeDiff, Nat.reduceLT, Nat.reduceBEq, Nat.reduceBNe, Int.reduceBEq, Int.reduceBNe, bne_self_eq_false, beq_self_eq_true, Int.reduceEq, Int.reduceLT, Int.reduceLE, Int.reduceNeg, Int.reduceAdd, Int.reduceSub, Int.reduceToNat, List.getElem?_toArray, List.getElem?_cons, cond_true, cond_false, decide_eq_true_eq, decide_eq_false_iff_not, beq_iff_eq, beq_eq_false_iff_ne, bne_iff_ne, bne_eq_false_iff_eq, Bool.not_eq_true, Bool.not_eq_false, Classical.not_not, ne_eq]; (first | apply hK2 | ((try refine Or.inl ?_); intro o ho; (try simp only [set_none, hg, not_false_eq_true, and_true, true_and] at ho); replace hg := And.intro ho hg; apply hK2) | (refine ⟨fun hh => ?_, fun hh => ?_⟩ <;> replace hg := And.intro hh hg <;> first | (exfalso; omega) | apply hK2 | ((try refine Or.inl ?_); intro o ho; (try simp only [set_none, hg, not_false_eq_true, and_true, true_and] at ho); replace hg := And.intro ho hg; apply hK2)) | fail)) <;> clear hK2 K2)); all_goals ((first | refine opsW_nil (hK _ _ ?_) | refine opsPW_nil (hK _ ?_)); clear hK K))
      | ((first | refine AWp.seqC fun X Y hX hY => ?_ | refine AWp.condK fun X Y hX hY => ?_); simp (disch := first | omega | simp only [go_sem, hg]) only [hg, go_sem, ↓reduceIte, reduceCtorEq, Nat.reduceAdd, Nat.reduceMul, Nat.reduceSub, Nat.reduceEqDiff, Nat.reduceLeDiff, Nat.reduceLT, Nat.reduceBEq, Nat.reduceBNe, Int.reduceBEq, Int.reduceBNe, bne_self_eq_false, beq_self_eq_true, Int.reduceEq, Int.reduceLT, Int.reduceLE, Int.reduceNeg, Int.reduceAdd, Int.reduceSub, Int.reduceToNat, List.getElem?_toArray, List.getElem?_cons, cond_true, cond_false, decide_eq_true_eq, decide_eq_false_iff_not, beq_iff_eq, beq_eq_false_iff_ne, bne_iff_ne, bne_eq_false_iff_eq, Bool.not_eq_true, Bool.not_eq_false, Classical.not_not, ne_eq]; first | (refine ⟨fun hc => hX ?_, fun hc => hY ?_⟩ <;> replace hg := And.intro hc hg <;> first | (exfalso; omega) | skip) | refine hX ?_ | refine hY ?_) <;> clear hX hY X Y
      | ((first | refine AWp.skip ?_ | refine AWp.seqExit ?_ | refine AWp.seqRet ?_ | refine AWp.exit ?_ | refine AWp.ret ?_ | refine Eq.mpr AThen_n ?_ | refine Eq.mpr ABlock_n ?_ | refine Eq.mpr ANoGoto_n ?_); try simp (disch := first | omega | simp only [go_sem]) only [go_sem, ↓reduceIte, reduceCtorEq, Nat.reduceAdd, Nat.reduceMul, Nat.reduceSub, Nat.reduceEqDiff, Nat.reduceLeDiff, Nat.reduceLT, Nat.reduceBEq, Nat.reduceBNe, Int.reduceBEq, Int.reduceBNe, bne_self_eq_false, beq_self_eq_true, Int.reduceEq, Int.reduceLT, Int.reduceLE, Int.reduceNeg, Int.reduceAdd, Int.reduceSub, Int.reduceToNat, List.getElem?_toArray, List.getElem?_cons, AThen_n, AThen_e, AThen_r, ABlock_n, ABlock_e, ABlock_r, ANoGoto_n, ANoGoto_e, ANoGoto_r])
      | (first | refine AWp.seqScope ?_ | refine AWp.scope ?_ | refine AWp.seqLabel ?_ | refine AWp.seqSkip ?_ | refine AWp.seqBlock ?_ | refine AWp.seqSeq ?_ | refine AWp.block ?_))
    refine Hand.mk ⟨?_, rfl⟩
    try simp (disch := first | omega | simp only [go_sem]) only [go_sem, ↓reduceIte, reduceCtorEq, Nat.reduceAdd, Nat.reduceMul, Nat.reduceSub, Nat.reduceEqDiff, Nat.reduceLeDiff, Nat.reduceLT, Nat.reduceBEq, Nat.reduceBNe, Int.reduceBEq, Int.reduceBNe, bne_self_eq_false, beq_self_eq_true, Int.reduceEq, Int.reduceLT, Int.reduceLE, Int.reduceNeg, Int.reduceAdd, Int.reduceSub, Int.reduceToNat, List.getElem?_toArray, List.getElem?_cons]
    rw [hok]; rfl
theorem bytesL_nums (s : ByteArray) : ((bytesL s).map fun n => [PV.lit (.int .u8 n)]) = (nums s.data.toList).map fun n : Nat => [PV.lit (.int .u8 (n : Int))] := by
  simp [bytesL]
theorem sb52 : sbT Tryd.prog 9 77 = true := by kernel_rfl
attribute [go_sem] sb52
def codeText (s : ByteArray) : Int := if okBytes s.data.toList = true then (if 65535 < s.size then 2 else 0) else 1
theorem check20 (s : ByteArray) (hs : s.size < 1000000000) : Pur Tryd.prog glob 38 [str s] (int (codeText s)) := by
  intro σ
  have hb := bytesL_nums s
  have hu := utf33 (glob := glob) s.data.toList (by rw [← size_data]; omega)
  refine ACalls.of_body' (n := 10) [.tmp 2] Tryd.func38 rfl (by kernel_rfl) Tryd.ntmps38 (by simp only [List.length_cons, List.length_nil]; decide) rfl ?_
  have hg : (0 : Nat) = 0 := rfl
  repeat' (first
    | ((first | refine AWp.seqR rfl fun K hK => ?_ | refine AWp.regK rfl fun K hK => ?_ | refine AWp.seqP fol (by kernel_rfl) fun K hK => ?_); (repeat' (((first | refine opsW_kn fun K2 hK2 => ?_ | refine opsW_kg rfl fun K2 hK2 => ?_ | refine opsPW_kn fun K2 hK2 => ?_ | refine opsPW_kg rfl fun K2 hK2 => ?_); simp (disch := first | omega | simp only [go_sem, hg]) only [hg, go_sem, ↓reduceIte, reduceCtorEq, Nat.reduceAdd, Nat.reduceMul, Nat.reduceSub, Nat.reduceEqDiff, Nat.reduceLeDiff, Nat.reduceLT, Nat.reduceBEq, Nat.reduceBNe, Int.reduceBEq, Int.reduceBNe, bne_self_eq_false, beq_self_eq_true, Int.reduceEq, Int.reduceLT, Int.reduceLE, Int.reduceNeg, Int.reduceAdd, Int.reduceSub, Int.reduceToNat, List.getElem?_toArray, List.getElem?_cons, hb, cond_true, cond_false, decide_eq_true_eq, decide_eq_false_iff_not, beq_iff_eq, beq_eq_false_iff_ne, bne_iff_ne, bne_eq_false_iff_eq, Bool.not_eq_true, Bool.not_eq_false, Classical.not_not, ne_eq]; (first | apply hK2 | (refine Or.inr ?_; apply hK2) | ((try refine Or.inl ?_); intro o ho; (try simp only [set_none, hg, not_false_eq_true, and_true, true_and] at ho); replace hg := And.intro ho hg; apply hK2) | (refine Pur.call (hu) ?_; apply hK2) | (refine ⟨fun hh => ?_, fun hh => ?_⟩ <;> replace hg := And.intro hh hg <;> first | (exfalso; omega) | apply hK2 | (refine Or.inr ?_; apply hK2) | ((try refine Or.inl ?_); intro o ho; (try simp only [set_none, hg, not_false_eq_true, and_true, true_and] at ho); replace hg := And.intro ho hg; apply hK2) | (refine Pur.call (hu) ?_; apply hK2)) | fail)) <;> clear hK2 K2)); all_goals ((first | refine opsW_nil (hK _ _ ?_) | refine opsPW_nil (hK _ ?_)); clear hK K))
    | ((first | refine AWp.seqC fun X Y hX hY => ?_ | refine AWp.condK fun X Y hX hY => ?_); simp (disch := first | omega | simp only [go_sem, hg]) only [hg, go_sem, ↓reduceIte, reduceCtorEq, Nat.reduceAdd, Nat.reduceMul, Nat.reduceSub, Nat.reduceEqDiff, Nat.reduceLeDiff, Nat.reduceLT, Nat.reduceBEq, Nat.reduceBNe, Int.reduceBEq, Int.reduceBNe, bne_self_eq_false, beq_self_eq_true, Int.reduceEq, Int.reduceLT, Int.reduceLE, Int.reduceNeg, Int.reduceAdd, Int.reduceSub, Int.reduceToNat, List.getElem?_toArray, List.getElem?_cons, hb, cond_true, cond_false, decide_eq_true_eq, decide_eq_false_iff_not, beq_iff_eq, beq_eq_false_iff_ne, bne_iff_ne, bne_eq_false_iff_eq, Bool.not_eq_true, Bool.not_eq_false, Classical.not_not, ne_eq]; first | (refine ⟨fun hc => hX ?_, fun hc => hY ?_⟩ <;> replace hg := And.intro hc hg <;> first | (exfalso; omega) | skip) | refine hX ?_ | refine hY ?_) <;> clear hX hY X Y
    | ((first | refine AWp.skip ?_ | refine AWp.seqExit ?_ | refine AWp.seqRet ?_ | refine AWp.exit ?_ | refine AWp.ret ?_ | refine Eq.mpr AThen_n ?_ | refine Eq.mpr ABlock_n ?_ | refine Eq.mpr ANoGoto_n ?_); try simp (disch := first | omega | simp only [go_sem]) only [go_sem, ↓reduceIte, reduceCtorEq, Nat.reduceAdd, Nat.reduceMul, Nat.reduceSub, Nat.reduceEqDiff, Nat.reduceLeDiff, Nat.reduceLT, Nat.reduceBEq, Nat.reduceBNe, Int.reduceBEq, Int.reduceBNe, bne_self_eq_false, beq_self_eq_true, Int.reduceEq, Int.reduceLT, Int.reduceLE, Int.reduceNeg, Int.reduceAdd, Int.reduceSub, Int.reduceToNat, List.getElem?_toArray, List.getElem?_cons, AThen_n, AThen_e, AThen_r, ABlock_n, ABlock_e, ABlock_r, ANoGoto_n, ANoGoto_e, ANoGoto_r])
    | (first | refine AWp.seqScope ?_ | refine AWp.scope ?_ | refine AWp.seqLabel ?_ | refine AWp.seqSkip ?_ | refine AWp.seqBlock ?_ | refine AWp.seqSeq ?_ | refine AWp.block ?_))
  · have h : okBytes s.data.toList = false := by simpa using hc
    refine Hand.mk ⟨?_, rfl⟩
    try simp (disch := first | omega | simp only [go_sem]) only [go_sem, ↓reduceIte, reduceCtorEq, Nat.reduceAdd, Nat.reduceMul, Nat.reduceSub, Nat.reduceEqDiff, Nat.reduceLeDiff, Nat.reduceLT, Nat.reduceBEq, Nat.reduceBNe, Int.reduceBEq, Int.reduceBNe, bne_self_eq_false, beq_self_eq_true, Int.reduceEq, Int.reduceLT, Int.reduceLE, Int.reduceNeg, Int.reduceAdd, Int.reduceSub, Int.reduceToNat, List.getElem?_toArray, List.getElem?_cons]
    simp [codeText, h]
  · have h : okBytes s.data.toList = true := by simpa using hg.2.1
    refine Hand.mk ⟨?_, rfl⟩
    try simp (disch := first | omega | simp only [go_sem]) only [go_sem, ↓reduceIte, reduceCtorEq, Nat.reduceAdd, Nat.reduceMul, Nat.reduceSub, Nat.reduceEqDiff, Nat.reduceLeDiff, Nat.reduceLT, Nat.reduceBEq, Nat.reduceBNe, Int.reduceBEq, Int.reduceBNe, bne_self_eq_false, beq_self_eq_true, Int.reduceEq, Int.reduceLT, Int.reduceLE, Int.reduceNeg, Int.reduceAdd, Int.reduceSub, Int.reduceToNat, List.getElem?_toArray, List.getElem?_cons]
    simp [codeText, h]; omega
  · have h : okBytes s.data.toList = true := by simpa using hg.2.1
    refine Hand.mk ⟨?_, rfl⟩
    try simp (disch := first | omega | simp only [go_sem]) only [go_sem, ↓reduceIte, reduceCtorEq, Nat.reduceAdd, Nat.reduceMul, Nat.reduceSub, Nat.reduceEqDiff, Nat.reduceLeDiff, Nat.reduceLT, Nat.reduceBEq, Nat.reduceBNe, Int.reduceBEq, Int.reduceBNe, bne_self_eq_false, beq_self_eq_true, Int.reduceEq, Int.reduceLT, Int.reduceLE, Int.reduceNeg, Int.reduceAdd, Int.reduceSub, Int.reduceToNat, List.getElem?_toArray, List.getElem?_cons]
    simp [codeText, h]; omega
theorem code_ok (s : ByteArray) : decide (codeText s = 0) = okText s := by
  unfold codeText okText
  cases okBytes s.data.toList
  · rfl
  · by_cases h : 65535 < s.size
    · have : ¬ s.size ≤ 65535 := by omega
      simp [h]
    · have : s.size ≤ 65535 := by omega
      simp [h, this]
/-! The library's tables. -/
def gFirst : PV := .vp ((List.range 256).map fun c => .lit (.int .u8 (Lib.firstT c)))
def gAcc : PV := .vp ((List.range 32).map fun i => .lit (.int .u8 (if i % 2 = 0 then Lib.accLo (i / 2) else Lib.accHi (i / 2))))
structure Globs (glob : Nat → PV) : Prop where
  first : glob 2 = gFirst
  acc : glob 3 = gAcc
  ml : ∃ m, glob 0 = .vp [.lit (.int .i64 m)]
  et : glob 1 = .vp [rty 31]
theorem cell_glob {gh : Gh} {σ : Store} {w : World} (hR : R glob gh σ w) {g : Nat} {cs : List PV} (h : glob g = .vp cs) {i : Nat} {v : Value} (hi : cs[i]? = some (.lit v)) : w.cell? ⟨g, i, none⟩ = some v := by
  have e := hR.gl g
  rw [h] at e
  generalize hv : Value.pointer (some ⟨g, 0, none⟩) = u at e
  cases e with
  | vp _ b off f hF hc hr =>
    have hlt : i < cs.length := (List.getElem?_eq_some_iff.1 hi).1
    have h1 := hc i hlt
    have h2 := of_lit (hr i _ hi)
    injection hv with hv; injection hv with hv; injection hv with hv1 hv2
    rw [← hv1, ← hv2, Nat.zero_add, h2] at h1
    exact h1
theorem tabs {gh : Gh} {σ : Store} {w : World} (G : Globs glob) (hR : R glob gh σ w) : Lib.Utf8Tabs 2 3 w := by
  refine ⟨fun c hc => cell_glob hR G.first ?_, fun i hi => ⟨cell_glob hR G.acc ?_, cell_glob hR G.acc ?_⟩⟩
  · simp [hc]
  · simp only [List.getElem?_map]
    rw [List.getElem?_range (by omega)]
    simp
  · simp only [List.getElem?_map]
    rw [List.getElem?_range (by omega)]
    simp only [Option.map_some]
    rw [if_neg (by omega), show (2 * i + 1) / 2 = i by omega]
theorem pur_ValidString (G : Globs glob) (s : ByteArray) (hs : s.size < 1000000000) : Pur Tryd.prog glob 67 [str s] (bool (Lib.validD s.data.toList)) :=
  Pur.of_belowW [.string s] (fun w => Lib.Utf8Tabs 2 3 w) (fun gh σ w hR => tabs G hR) ⟨_, Tryd.func67, by kernel_rfl, by kernel_rfl⟩ fun w hT => Tryd.utf8_ValidString s w (by omega) hT
theorem below_drewN (w : World) (n : Nat) : RowKit.Below w.heap.size w (w.drewN n) := by
  induction n with
  | zero => exact .refl _ _
  | succ n ih => exact ih.drew
theorem pur_Split (G : Globs glob) (s : ByteArray) (hs : s.size < 1000000000) : Pur Tryd.prog glob 62 [str s, str slash] (strs (levels s)) := by
  obtain ⟨m, hm⟩ := G.ml
  obtain ⟨e1, e2⟩ := split_levels s
  have := Pur.of_newRow (P := Tryd.prog) (glob := glob) [.string s, .string slash] ((levels s).map Value.string) (levels s).length 9 (fun w => w.cell? ⟨0, 0, none⟩ = some (.int .i64 m)) (fun gh σ w hR => cell_glob hR hm rfl)
    ⟨_, Tryd.func62, by kernel_rfl, by kernel_rfl⟩ (by simp) fun w hw => by
    have := Tryd.strings_Split s slash m w (by omega) hw (by decide)
    rw [e1, e2] at this
    simpa using this
  rw [List.map_map] at this
  exact this
theorem levels_ne (s : ByteArray) : levels s ≠ [] := by simp [levels, splitL_ne]
theorem splitL_len : ∀ (l : List UInt8), (splitL l).length ≤ l.length + 1
  | [] => by simp [splitL]
  | b :: l => by
    have := splitL_len l
    unfold splitL
    split
    · simp; omega
    · split
      · simp
      · rename_i h; simp [h] at this ⊢; omega
theorem levels_len (s : ByteArray) : (levels s).length ≤ s.size + 1 := by
  rw [size_data]; simpa [levels] using splitL_len s.data.toList
end Go.Proofs
