/- strings.ContainsAny(s, "+#"): whether a byte is one of the two. -/
import Derived.Test.YtdappnnpkmofhaaDoorBA
import Derived.Test.YtdappnnpkmofhaaDoorSL
import Derived.Test.YtdappnnpkmofhaaDoorAbShelf
set_option linter.unusedSimpArgs false
set_option linter.unusedVariables false
namespace Go.Proofs
open Go Go.Abs
variable {glob : Nat → PV}
set_option maxRecDepth 10000
set_option maxHeartbeats 4000000
attribute [local go_sem] int  bool  str  byt
theorem pur_ValidRune (c : Int) : Pur Tryd.prog glob 70 [.lit (.int .i32 c)] (bool (Lib.validRune c)) :=
  Pur.of_same [.int .i32 c] ⟨_, Tryd.func70, by kernel_rfl, by kernel_rfl⟩ fun w => Tryd.utf8_ValidRune c w
theorem pur_IndexByte (s : ByteArray) (c : Int) : Pur Tryd.prog glob 68 [str s, byt c] (int (Lib.indexByte s.data.toList c.toNat.toUInt8)) :=
  Pur.of_same [.string s, .int .u8 c] ⟨_, Tryd.func68, by kernel_rfl, by kernel_rfl⟩ fun w => Tryd.strings_IndexByte s c w
theorem pur_IndexRune (s : ByteArray) (r : Int) (h0 : 0 ≤ r) (h1 : r < 128) : Pur Tryd.prog glob 63 [str s, .lit (.int .i32 r)] (int (Lib.indexByte s.data.toList r.toNat.toUInt8)) :=
  Pur.of_same [.string s, .int .i32 r] ⟨_, Tryd.func63, by kernel_rfl, by kernel_rfl⟩ fun w => Tryd.strings_IndexRune_ascii s r w h0 h1
def pm : ByteArray := ⟨#[43, 35]⟩
def byteN (s : ByteArray) (i : Nat) : Nat := (s.data.getD i 0).toNat
theorem byteN_lt (s : ByteArray) (i : Nat) : byteN s i < 256 := (s.data.getD i 0).toNat_lt
theorem byteAt_nat (s : ByteArray) (i : Nat) : byteAt s (i : Int) = byteN s i := rfl
theorem get!_nat (s : ByteArray) (i : Nat) : (s.get! i).toNat = byteN s i := by
  obtain ⟨bs⟩ := s
  show (bs[i]!).toNat = (bs.getD i 0).toNat
  rw [Array.getElem!_eq_getD]; rfl
/-- What a step over a string tells and how far it goes. -/
theorem decode_lo {s : ByteArray} {i : Nat} (h : byteN s i < 128) : Utf8.decode s i = (byteN s i, 1) := by
  unfold Utf8.decode
  simp only [get!_nat, Nat.add_zero]
  rw [if_pos h]
theorem decode_hi {s : ByteArray} {i : Nat} (h : 128 ≤ byteN s i) : 128 ≤ (Utf8.decode s i).1 ∧ (Utf8.decode s i).1 ≤ 1114111 ∧ 1 ≤ (Utf8.decode s i).2 ∧ ∀ k, k < (Utf8.decode s i).2 → 128 ≤ byteN s (i + k) := by
  have h0 : ∀ k, k < 1 → 128 ≤ byteN s (i + k) := fun k hk => by
    have : k = 0 := by omega
    subst this; exact h
  unfold Utf8.decode
  simp only [get!_nat, Nat.add_zero]
  rw [if_neg (by omega)]
  split
  · rename_i h1
    simp only [Bool.and_eq_true, decide_eq_true_eq, beq_iff_eq] at h1
    have b1 := byteN_lt s (i + 1)
    have b0 := byteN_lt s i
    split
    · rename_i hc
      refine ⟨by simp only; omega, by simp only; omega, by simp, fun k hk => ?_⟩
      simp only at hk
      match k, hk with
      | 0, _ => exact h
      | 1, _ => omega
    · exact ⟨by decide, by decide, by simp, h0⟩
  · split
    · rename_i h1
      simp only [Bool.and_eq_true, decide_eq_true_eq, beq_iff_eq] at h1
      have b0 := byteN_lt s i
      split
      · rename_i hc
        simp only [Utf8.valid, Bool.and_eq_true, decide_eq_true_eq, Bool.or_eq_true] at hc
        refine ⟨by simp only; omega, by simp only; omega, by simp, fun k hk => ?_⟩
        simp only at hk
        match k, hk with
        | 0, _ => exact h
        | 1, _ => omega
        | 2, _ => omega
      · exact ⟨by decide, by decide, by simp, h0⟩
    · split
      · rename_i h1
        simp only [Bool.and_eq_true, decide_eq_true_eq, beq_iff_eq] at h1
        have b0 := byteN_lt s i
        split
        · rename_i hc
          simp only [Utf8.valid, Bool.and_eq_true, decide_eq_true_eq, Bool.or_eq_true] at hc
          refine ⟨by simp only; omega, by simp only; omega, by simp, fun k hk => ?_⟩
          simp only at hk
          match k, hk with
          | 0, _ => exact h
          | 1, _ => omega
          | 2, _ => omega
          | 3, _ => omega
        · exact ⟨by decide, by decide, by simp, h0⟩
      · exact ⟨by decide, by decide, by simp, h0⟩
theorem ofNat_toNat {n : Nat} (h : n < 256) : (UInt8.ofNat n).toNat = n := by simp [Nat.mod_eq_of_lt h]
theorem encode_hi {c : Nat} (h : 128 ≤ c) (h2 : c ≤ 1114111) : 2 ≤ (Utf8.encode (c : Int)).size ∧ (Utf8.encode (c : Int)).size ≤ 4 ∧ 128 ≤ byteN (Utf8.encode (c : Int)) ((Utf8.encode (c : Int)).size - 1) := by
  have key : ∀ d : Nat, 128 ≤ d → d ≤ 1114111 → ∀ e : ByteArray, e = (if d < 0x80 then ⟨#[UInt8.ofNat d]⟩ else if d < 0x800 then ⟨#[UInt8.ofNat (0xC0 + d / 64), UInt8.ofNat (0x80 + d % 64)]⟩
      else if d < 0x10000 then ⟨#[UInt8.ofNat (0xE0 + d / 4096), UInt8.ofNat (0x80 + d / 64 % 64), UInt8.ofNat (0x80 + d % 64)]⟩
      else ⟨#[UInt8.ofNat (0xF0 + d / 262144), UInt8.ofNat (0x80 + d / 4096 % 64), UInt8.ofNat (0x80 + d / 64 % 64), UInt8.ofNat (0x80 + d % 64)]⟩) → 2 ≤ e.size ∧ e.size ≤ 4 ∧ 128 ≤ byteN e (e.size - 1) := by
    intro d h1 h2 e he
    rw [if_neg (by omega)] at he
    have hb : 128 ≤ (UInt8.ofNat (0x80 + d % 64)).toNat := by rw [ofNat_toNat (by omega)]; omega
    split at he
    · subst he; exact ⟨by simp [ByteArray.size], by simp [ByteArray.size], hb⟩
    · split at he
      · subst he; exact ⟨by simp [ByteArray.size], by simp [ByteArray.size], hb⟩
      · subst he; exact ⟨by simp [ByteArray.size], by simp [ByteArray.size], hb⟩
  unfold Utf8.encode
  refine key (if Utf8.valid (c : Int) = true then ((c : Int)).toNat else Utf8.runeError) ?_ ?_ _ rfl
  · split
    · omega
    · decide
  · split
    · omega
    · decide
theorem pm_0 : byteN pm 0 = 43 := rfl
theorem pm_1 : byteN pm 1 = 35 := rfl
theorem pmd_0 : Utf8.decode pm 0 = (43, 1) := by decide
theorem pmd_1 : Utf8.decode pm 1 = (35, 1) := by decide
theorem fss : ssT Tryd.prog 9 9 = true := by kernel_rfl
theorem indexRune_hi (c : Nat) (h : 128 ≤ c) (h2 : c ≤ 1114111) : Pur Tryd.prog glob 63 [str pm, .lit (.int .i32 c)] (int (-1)) := by
  intro σ
  refine ACalls.of_body' (n := 187) [.tmp 4] Tryd.func63 rfl (by kernel_rfl) Tryd.ntmps63 (by simp only [List.length_cons, List.length_nil]; decide) rfl ?_
  have hg : (0 : Nat) = 0 := rfl
  obtain ⟨e1, e2, e3⟩ := encode_hi h h2
  have hbl := byteN_lt (Utf8.encode (c : Int)) ((Utf8.encode (c : Int)).size - 1)
  have hsz : pm.size = 2 := rfl
  repeat' (first
    | ((first | refine AWp.seqR rfl fun K hK => ?_ | refine AWp.regK rfl fun K hK => ?_ | refine AWp.seqP fol (by kernel_rfl) fun K hK => ?_); (repeat' (((first | refine opsW_kn fun K2 hK2 => ?_ | refine opsW_kg rfl fun K2 hK2 => ?_ | refine opsPW_kn fun K2 hK2 => ?_ | refine opsPW_kg rfl fun K2 hK2 => ?_); simp (disch := first | omega | simp only [go_sem, hg]) only [hg, go_sem, ↓reduceIte, reduceCtorEq, Nat.reduceAdd, Nat.reduceMul, Nat.reduceSub, Nat.reduceEqDiff, Nat.reduceLeDiff, Nat.reduceLT, Nat.reduceBEq, Nat.reduceBNe, Int.reduceBEq, Int.reduceBNe, bne_self_eq_false, beq_self_eq_true, Int.reduceEq, Int.reduceLT, Int.reduceLE, Int.reduceNeg, Int.reduceAdd, Int.reduceSub, Int.reduceToNat, List.getElem?_toArray, List.getElem?_cons, cond_true, cond_false, decide_eq_true_eq, decide_eq_false_iff_not, beq_iff_eq, beq_eq_false_iff_ne, bne_iff_ne, bne_eq_false_iff_eq, Bool.not_eq_true, Bool.not_eq_false, Classical.not_not, ne_eq]; (first | apply hK2 | ((try refine Or.inl ?_); intro o ho; (try simp only [set_none, hg, not_false_eq_true, and_true, true_and] at ho); replace hg := And.intro ho hg; apply hK2) | (refine Pur.call (pur_ValidRune (c : Int)) ?_; apply hK2) | (refine ⟨fun hh => ?_, fun hh => ?_⟩ <;> replace hg := And.intro hh hg <;> first | (exfalso; omega) | apply hK2 | ((try refine Or.inl ?_); intro o ho; (try simp only [set_none, hg, not_false_eq_true, and_true, true_and] at ho); replace hg := And.intro ho hg; apply hK2) | (refine Pur.call (pur_ValidRune (c : Int)) ?_; apply hK2)) | fail)) <;> clear hK2 K2)); all_goals ((first | refine opsW_nil (hK _ _ ?_) | refine opsPW_nil (hK _ ?_)); clear hK K))
    | ((first | refine AWp.seqC fun X Y hX hY => ?_ | refine AWp.condK fun X Y hX hY => ?_); simp (disch := first | omega | simp only [go_sem, hg]) only [hg, go_sem, ↓reduceIte, reduceCtorEq, Nat.reduceAdd, Nat.reduceMul, Nat.reduceSub, Nat.reduceEqDiff, Nat.reduceLeDiff, Nat.reduceLT, Nat.reduceBEq, Nat.reduceBNe, Int.reduceBEq, Int.reduceBNe, bne_self_eq_false, beq_self_eq_true, Int.reduceEq, Int.reduceLT, Int.reduceLE, Int.reduceNeg, Int.reduceAdd, Int.reduceSub, Int.reduceToNat, List.getElem?_toArray, List.getElem?_cons, cond_true, cond_false, decide_eq_true_eq, decide_eq_false_iff_not, beq_iff_eq, beq_eq_false_iff_ne, bne_iff_ne, bne_eq_false_iff_eq, Bool.not_eq_true, Bool.not_eq_false, Classical.not_not, ne_eq]; first | (refine ⟨fun hc => hX ?_, fun hc => hY ?_⟩ <;> replace hg := And.intro hc hg <;> first | (exfalso; omega) | skip) | refine hX ?_ | refine hY ?_) <;> clear hX hY X Y
    | ((first | refine AWp.skip ?_ | refine AWp.seqExit ?_ | refine AWp.seqRet ?_ | refine AWp.exit ?_ | refine AWp.ret ?_ | refine Eq.mpr AThen_n ?_ | refine Eq.mpr ABlock_n ?_ | refine Eq.mpr ANoGoto_n ?_); try simp (disch := first | omega | simp only [go_sem]) only [go_sem, ↓reduceIte, reduceCtorEq, Nat.reduceAdd, Nat.reduceMul, Nat.reduceSub, Nat.reduceEqDiff, Nat.reduceLeDiff, Nat.reduceLT, Nat.reduceBEq, Nat.reduceBNe, Int.reduceBEq, Int.reduceBNe, bne_self_eq_false, beq_self_eq_true, Int.reduceEq, Int.reduceLT, Int.reduceLE, Int.reduceNeg, Int.reduceAdd, Int.reduceSub, Int.reduceToNat, List.getElem?_toArray, List.getElem?_cons, AThen_n, AThen_e, AThen_r, ABlock_n, ABlock_e, ABlock_r, ANoGoto_n, ANoGoto_e, ANoGoto_r])
    | (first | refine AWp.seqScope ?_ | refine AWp.scope ?_ | refine AWp.seqLabel ?_ | refine AWp.seqSkip ?_ | refine AWp.seqBlock ?_ | refine AWp.seqSeq ?_ | refine AWp.block ?_))
  · refine AWp.loopF (fun x : Nat => [(175, .ptr o 0)]) (fun x τ => x ≤ 2 ∧ τ = σ.set o (.iterS pm x)) (fun x => 2 - x) 0 ?_ ⟨by omega, rfl⟩ ?_
    · (repeat' (first | exact LeF.nil _ | refine LeF.eq rfl ?_ ?_))
      all_goals first | rfl | (refine litI ?_; omega) | (refine litB ?_; simp only [Nat.add_zero]; done) | (refine litI ?_; simp only [Nat.add_zero]; try omega) | skip
    rintro x τ ⟨hx, rfl⟩
    match x, hx with
    | 0, _ =>
      repeat' (first
        | ((first | refine AWp.seqR rfl fun K hK => ?_ | refine AWp.regK rfl fun K hK => ?_ | refine AWp.seqP fol (by kernel_rfl) fun K hK => ?_); (repeat' (((first | refine opsW_kn fun K2 hK2 => ?_ | refine opsW_kg rfl fun K2 hK2 => ?_ | refine opsPW_kn fun K2 hK2 => ?_ | refine opsPW_kg rfl fun K2 hK2 => ?_); simp (disch := first | omega | simp only [go_sem, hg]) only [hg, go_sem, ↓reduceIte, reduceCtorEq, Nat.reduceAdd, Nat.reduceMul, Nat.reduceSub, Nat.reduceEqDiff, Nat.reduceLeDiff, Nat.reduceLT, Nat.reduceBEq, Nat.reduceBNe, Int.reduceBEq, Int.reduceBNe, bne_self_eq_false, beq_self_eq_true, Int.reduceEq, Int.reduceLT, Int.reduceLE, Int.reduceNeg, Int.reduceAdd, Int.reduceSub, Int.reduceToNat, List.getElem?_toArray, List.getElem?_cons, pmd_0, cond_true, cond_false, decide_eq_true_eq, decide_eq_false_iff_not, beq_iff_eq, beq_eq_false_iff_ne, bne_iff_ne, bne_eq_false_iff_eq, Bool.not_eq_true, Bool.not_eq_false, Classical.not_not, ne_eq]; (first | apply hK2 | ((try refine Or.inl ?_); intro o ho; (try simp only [set_none, hg, not_false_eq_true, and_true, true_and] at ho); replace hg := And.intro ho hg; apply hK2) | (refine ⟨fun hh => ?_, fun hh => ?_⟩ <;> replace hg := And.intro hh hg <;> first | (exfalso; omega) | apply hK2 | ((try refine Or.inl ?_); intro o ho; (try simp only [set_none, hg, not_false_eq_true, and_true, true_and] at ho); replace hg := And.intro ho hg; apply hK2)) | fail)) <;> clear hK2 K2)); all_goals ((first | refine opsW_nil (hK _ _ ?_) | refine opsPW_nil (hK _ ?_)); clear hK K))
        | ((first | refine AWp.seqC fun X Y hX hY => ?_ | refine AWp.condK fun X Y hX hY => ?_); simp (disch := first | omega | simp only [go_sem, hg]) only [hg, go_sem, ↓reduceIte, reduceCtorEq, Nat.reduceAdd, Nat.reduceMul, Nat.reduceSub, Nat.reduceEqDiff, Nat.reduceLeDiff, Nat.reduceLT, Nat.reduceBEq, Nat.reduceBNe, Int.reduceBEq, Int.reduceBNe, bne_self_eq_false, beq_self_eq_true, Int.reduceEq, Int.reduceLT, Int.reduceLE, Int.reduceNeg, Int.reduceAdd, Int.reduceSub, Int.reduceToNat, List.getElem?_toArray, List.getElem?_cons, pmd_0, cond_true, cond_false, decide_eq_true_eq, decide_eq_false_iff_not, beq_iff_eq, beq_eq_false_iff_ne, bne_iff_ne, bne_eq_false_iff_eq, Bool.not_eq_true, Bool.not_eq_false, Classical.not_not, ne_eq]; first | (refine ⟨fun hc => hX ?_, fun hc => hY ?_⟩ <;> replace hg := And.intro hc hg <;> first | (exfalso; omega) | skip) | refine hX ?_ | refine hY ?_) <;> clear hX hY X Y
        | ((first | refine AWp.skip ?_ | refine AWp.seqExit ?_ | refine AWp.seqRet ?_ | refine AWp.exit ?_ | refine AWp.ret ?_ | refine Eq.mpr AThen_n ?_ | refine Eq.mpr ABlock_n ?_ | refine Eq.mpr ANoGoto_n ?_); try simp (disch := first | omega | simp only [go_sem]) only [go_sem, ↓reduceIte, reduceCtorEq, Nat.reduceAdd, Nat.reduceMul, Nat.reduceSub, Nat.reduceEqDiff, Nat.reduceLeDiff, Nat.reduceLT, Nat.reduceBEq, Nat.reduceBNe, Int.reduceBEq, Int.reduceBNe, bne_self_eq_false, beq_self_eq_true, Int.reduceEq, Int.reduceLT, Int.reduceLE, Int.reduceNeg, Int.reduceAdd, Int.reduceSub, Int.reduceToNat, List.getElem?_toArray, List.getElem?_cons, AThen_n, AThen_e, AThen_r, ABlock_n, ABlock_e, ABlock_r, ANoGoto_n, ANoGoto_e, ANoGoto_r])
        | (first | refine AWp.seqScope ?_ | refine AWp.scope ?_ | refine AWp.seqLabel ?_ | refine AWp.seqSkip ?_ | refine AWp.seqBlock ?_ | refine AWp.seqSeq ?_ | refine AWp.block ?_))
      refine ⟨1, by omega, ?_, by omega, rfl⟩
      (repeat' (first | exact LeF.nil _ | refine LeF.eq rfl ?_ ?_))
      all_goals first | rfl | (refine litI ?_; omega) | (refine litB ?_; simp only [Nat.add_zero]; done) | (refine litI ?_; simp only [Nat.add_zero]; try omega) | skip
    | 1, _ =>
      repeat' (first
        | ((first | refine AWp.seqR rfl fun K hK => ?_ | refine AWp.regK rfl fun K hK => ?_ | refine AWp.seqP fol (by kernel_rfl) fun K hK => ?_); (repeat' (((first | refine opsW_kn fun K2 hK2 => ?_ | refine opsW_kg rfl fun K2 hK2 => ?_ | refine opsPW_kn fun K2 hK2 => ?_ | refine opsPW_kg rfl fun K2 hK2 => ?_); simp (disch := first | omega | simp only [go_sem, hg]) only [hg, go_sem, ↓reduceIte, reduceCtorEq, Nat.reduceAdd, Nat.reduceMul, Nat.reduceSub, Nat.reduceEqDiff, Nat.reduceLeDiff, Nat.reduceLT, Nat.reduceBEq, Nat.reduceBNe, Int.reduceBEq, Int.reduceBNe, bne_self_eq_false, beq_self_eq_true, Int.reduceEq, Int.reduceLT, Int.reduceLE, Int.reduceNeg, Int.reduceAdd, Int.reduceSub, Int.reduceToNat, List.getElem?_toArray, List.getElem?_cons, pmd_1, cond_true, cond_false, decide_eq_true_eq, decide_eq_false_iff_not, beq_iff_eq, beq_eq_false_iff_ne, bne_iff_ne, bne_eq_false_iff_eq, Bool.not_eq_true, Bool.not_eq_false, Classical.not_not, ne_eq]; (first | apply hK2 | ((try refine Or.inl ?_); intro o ho; (try simp only [set_none, hg, not_false_eq_true, and_true, true_and] at ho); replace hg := And.intro ho hg; apply hK2) | (refine ⟨fun hh => ?_, fun hh => ?_⟩ <;> replace hg := And.intro hh hg <;> first | (exfalso; omega) | apply hK2 | ((try refine Or.inl ?_); intro o ho; (try simp only [set_none, hg, not_false_eq_true, and_true, true_and] at ho); replace hg := And.intro ho hg; apply hK2)) | fail)) <;> clear hK2 K2)); all_goals ((first | refine opsW_nil (hK _ _ ?_) | refine opsPW_nil (hK _ ?_)); clear hK K))
        | ((first | refine AWp.seqC fun X Y hX hY => ?_ | refine AWp.condK fun X Y hX hY => ?_); simp (disch := first | omega | simp only [go_sem, hg]) only [hg, go_sem, ↓reduceIte, reduceCtorEq, Nat.reduceAdd, Nat.reduceMul, Nat.reduceSub, Nat.reduceEqDiff, Nat.reduceLeDiff, Nat.reduceLT, Nat.reduceBEq, Nat.reduceBNe, Int.reduceBEq, Int.reduceBNe, bne_self_eq_false, beq_self_eq_true, Int.reduceEq, Int.reduceLT, Int.reduceLE, Int.reduceNeg, Int.reduceAdd, Int.reduceSub, Int.reduceToNat, List.getElem?_toArray, List.getElem?_cons, pmd_1, cond_true, cond_false, decide_eq_true_eq, decide_eq_false_iff_not, beq_iff_eq, beq_eq_false_iff_ne, bne_iff_ne, bne_eq_false_iff_eq, Bool.not_eq_true, Bool.not_eq_false, Classical.not_not, ne_eq]; first | (refine ⟨fun hc => hX ?_, fun hc => hY ?_⟩ <;> replace hg := And.intro hc hg <;> first | (exfalso; omega) | skip) | refine hX ?_ | refine hY ?_) <;> clear hX hY X Y
        | ((first | refine AWp.skip ?_ | refine AWp.seqExit ?_ | refine AWp.seqRet ?_ | refine AWp.exit ?_ | refine AWp.ret ?_ | refine Eq.mpr AThen_n ?_ | refine Eq.mpr ABlock_n ?_ | refine Eq.mpr ANoGoto_n ?_); try simp (disch := first | omega | simp only [go_sem]) only [go_sem, ↓reduceIte, reduceCtorEq, Nat.reduceAdd, Nat.reduceMul, Nat.reduceSub, Nat.reduceEqDiff, Nat.reduceLeDiff, Nat.reduceLT, Nat.reduceBEq, Nat.reduceBNe, Int.reduceBEq, Int.reduceBNe, bne_self_eq_false, beq_self_eq_true, Int.reduceEq, Int.reduceLT, Int.reduceLE, Int.reduceNeg, Int.reduceAdd, Int.reduceSub, Int.reduceToNat, List.getElem?_toArray, List.getElem?_cons, AThen_n, AThen_e, AThen_r, ABlock_n, ABlock_e, ABlock_r, ANoGoto_n, ANoGoto_e, ANoGoto_r])
        | (first | refine AWp.seqScope ?_ | refine AWp.scope ?_ | refine AWp.seqLabel ?_ | refine AWp.seqSkip ?_ | refine AWp.seqBlock ?_ | refine AWp.seqSeq ?_ | refine AWp.block ?_))
      refine ⟨2, by omega, ?_, by omega, rfl⟩
      (repeat' (first | exact LeF.nil _ | refine LeF.eq rfl ?_ ?_))
      all_goals first | rfl | (refine litI ?_; omega) | (refine litB ?_; simp only [Nat.add_zero]; done) | (refine litI ?_; simp only [Nat.add_zero]; try omega) | skip
    | 2, _ =>
      repeat' (first
        | ((first | refine AWp.seqR rfl fun K hK => ?_ | refine AWp.regK rfl fun K hK => ?_ | refine AWp.seqP fol (by kernel_rfl) fun K hK => ?_); (repeat' (((first | refine opsW_kn fun K2 hK2 => ?_ | refine opsW_kg rfl fun K2 hK2 => ?_ | refine opsPW_kn fun K2 hK2 => ?_ | refine opsPW_kg rfl fun K2 hK2 => ?_); simp (disch := first | omega | simp only [go_sem, hg]) only [hg, go_sem, ↓reduceIte, reduceCtorEq, Nat.reduceAdd, Nat.reduceMul, Nat.reduceSub, Nat.reduceEqDiff, Nat.reduceLeDiff, Nat.reduceLT, Nat.reduceBEq, Nat.reduceBNe, Int.reduceBEq, Int.reduceBNe, bne_self_eq_false, beq_self_eq_true, Int.reduceEq, Int.reduceLT, Int.reduceLE, Int.reduceNeg, Int.reduceAdd, Int.reduceSub, Int.reduceToNat, List.getElem?_toArray, List.getElem?_cons, cond_true, cond_false, decide_eq_true_eq, decide_eq_false_iff_not, beq_iff_eq, beq_eq_false_iff_ne, bne_iff_ne, bne_eq_false_iff_eq, Bool.not_eq_true, Bool.not_eq_false, Classical.not_not, ne_eq]; (first | apply hK2 | ((try refine Or.inl ?_); intro o ho; (try simp only [set_none, hg, not_false_eq_true, and_true, true_and] at ho); replace hg := And.intro ho hg; apply hK2) | (refine ⟨fun hh => ?_, fun hh => ?_⟩ <;> replace hg := And.intro hh hg <;> first | (exfalso; omega) | apply hK2 | ((try refine Or.inl ?_); intro o ho; (try simp only [set_none, hg, not_false_eq_true, and_true, true_and] at ho); replace hg := And.intro ho hg; apply hK2)) | fail)) <;> clear hK2 K2)); all_goals ((first | refine opsW_nil (hK _ _ ?_) | refine opsPW_nil (hK _ ?_)); clear hK K))
        | ((first | refine AWp.seqC fun X Y hX hY => ?_ | refine AWp.condK fun X Y hX hY => ?_); simp (disch := first | omega | simp only [go_sem, hg]) only [hg, go_sem, ↓reduceIte, reduceCtorEq, Nat.reduceAdd, Nat.reduceMul, Nat.reduceSub, Nat.reduceEqDiff, Nat.reduceLeDiff, Nat.reduceLT, Nat.reduceBEq, Nat.reduceBNe, Int.reduceBEq, Int.reduceBNe, bne_self_eq_false, beq_self_eq_true, Int.reduceEq, Int.reduceLT, Int.reduceLE, Int.reduceNeg, Int.reduceAdd, Int.reduceSub, Int.reduceToNat, List.getElem?_toArray, List.getElem?_cons, cond_true, cond_false, decide_eq_true_eq, decide_eq_false_iff_not, beq_iff_eq, beq_eq_false_iff_ne, bne_iff_ne, bne_eq_false_iff_eq, Bool.not_eq_true, Bool.not_eq_false, Classical.not_not, ne_eq]; first | (refine ⟨fun hc => hX ?_, fun hc => hY ?_⟩ <;> replace hg := And.intro hc hg <;> first | (exfalso; omega) | skip) | refine hX ?_ | refine hY ?_) <;> clear hX hY X Y
        | ((first | refine AWp.skip ?_ | refine AWp.seqExit ?_ | refine AWp.seqRet ?_ | refine AWp.exit ?_ | refine AWp.ret ?_ | refine Eq.mpr AThen_n ?_ | refine Eq.mpr ABlock_n ?_ | refine Eq.mpr ANoGoto_n ?_); try simp (disch := first | omega | simp only [go_sem]) only [go_sem, ↓reduceIte, reduceCtorEq, Nat.reduceAdd, Nat.reduceMul, Nat.reduceSub, Nat.reduceEqDiff, Nat.reduceLeDiff, Nat.reduceLT, Nat.reduceBEq, Nat.reduceBNe, Int.reduceBEq, Int.reduceBNe, bne_self_eq_false, beq_self_eq_true, Int.reduceEq, Int.reduceLT, Int.reduceLE, Int.reduceNeg, Int.reduceAdd, Int.reduceSub, Int.reduceToNat, List.getElem?_toArray, List.getElem?_cons, AThen_n, AThen_e, AThen_r, ABlock_n, ABlock_e, ABlock_r, ANoGoto_n, ANoGoto_e, ANoGoto_r])
        | (first | refine AWp.seqScope ?_ | refine AWp.scope ?_ | refine AWp.seqLabel ?_ | refine AWp.seqSkip ?_ | refine AWp.seqBlock ?_ | refine AWp.seqSeq ?_ | refine AWp.block ?_))
      refine Hand.done (.refl _) ?_ ⟨?_, rfl⟩
      · refine Sub.by fun t y ne e => ?_
        first | exact e | (simp only [Store.set, Store.drop, hg, ne, if_false, not_false_eq_true, ↓reduceIte]; first | done | exact e)
      rfl
  · refine Hand.mk ⟨?_, rfl⟩
    try simp (disch := first | omega | simp only [go_sem]) only [go_sem, ↓reduceIte, reduceCtorEq, Nat.reduceAdd, Nat.reduceMul, Nat.reduceSub, Nat.reduceEqDiff, Nat.reduceLeDiff, Nat.reduceLT, Nat.reduceBEq, Nat.reduceBNe, Int.reduceBEq, Int.reduceBNe, bne_self_eq_false, beq_self_eq_true, Int.reduceEq, Int.reduceLT, Int.reduceLE, Int.reduceNeg, Int.reduceAdd, Int.reduceSub, Int.reduceToNat, List.getElem?_toArray, List.getElem?_cons]
  · generalize Utf8.encode (c : Int) = E at *
    obtain ⟨m, hm⟩ : ∃ m, E.size = m + 1 := ⟨E.size - 1, by omega⟩
    rw [hm, Nat.add_sub_cancel] at e3 hbl
    refine AWp.loopF (fun x : Unit => [(10, int 0), (9, int m), (8, int m), (7, str E), (0, str pm), (1, .lit (.int .i32 c))]) (fun x τ => τ = σ) (fun x => 0) () ?_ rfl ?_
    · (repeat' (first | exact LeF.nil _ | refine LeF.eq rfl ?_ ?_))
      all_goals first | rfl | (refine litI ?_; omega) | (refine litB ?_; simp only [Nat.add_zero]; done) | (refine litI ?_; simp only [Nat.add_zero]; try omega) | skip
    rintro x τ rfl
    rcases Nat.lt_or_ge m 2 with hm2 | hm2
    · have : m = 1 := by omega
      subst this
      have hb1 : byteAt E ((1 : Nat) : Int) = (byteN E 1 : Nat) := rfl
      have hb2 : byteAt pm ((1 : Nat) : Int) = 35 := rfl
      repeat' (first
        | ((first | refine AWp.seqR rfl fun K hK => ?_ | refine AWp.regK rfl fun K hK => ?_ | refine AWp.seqP fol (by kernel_rfl) fun K hK => ?_); (repeat' (((first | refine opsW_kn fun K2 hK2 => ?_ | refine opsW_kg rfl fun K2 hK2 => ?_ | refine opsPW_kn fun K2 hK2 => ?_ | refine opsPW_kg rfl fun K2 hK2 => ?_); simp (disch := first | omega | simp only [go_sem, hg]) only [hg, go_sem, ↓reduceIte, reduceCtorEq, Nat.reduceAdd, Nat.reduceMul, Nat.reduceSub, Nat.reduceEqDiff, Nat.reduceLeDiff, Nat.reduceLT, Nat.reduceBEq, Nat.reduceBNe, Int.reduceBEq, Int.reduceBNe, bne_self_eq_false, beq_self_eq_true, Int.reduceEq, Int.reduceLT, Int.reduceLE, Int.reduceNeg, Int.reduceAdd, Int.reduceSub, Int.reduceToNat, List.getElem?_toArray, List.getElem?_cons, hb1, hb2, cond_true, cond_false, decide_eq_true_eq, decide_eq_false_iff_not, beq_iff_eq, beq_eq_false_iff_ne, bne_iff_ne, bne_eq_false_iff_eq, Bool.not_eq_true, Bool.not_eq_false, Classical.not_not, ne_eq]; (first | apply hK2 | ((try refine Or.inl ?_); intro o ho; (try simp only [set_none, hg, not_false_eq_true, and_true, true_and] at ho); replace hg := And.intro ho hg; apply hK2) | (refine ⟨fun hh => ?_, fun hh => ?_⟩ <;> replace hg := And.intro hh hg <;> first | (exfalso; omega) | apply hK2 | ((try refine Or.inl ?_); intro o ho; (try simp only [set_none, hg, not_false_eq_true, and_true, true_and] at ho); replace hg := And.intro ho hg; apply hK2)) | fail)) <;> clear hK2 K2)); all_goals ((first | refine opsW_nil (hK _ _ ?_) | refine opsPW_nil (hK _ ?_)); clear hK K))
        | ((first | refine AWp.seqC fun X Y hX hY => ?_ | refine AWp.condK fun X Y hX hY => ?_); simp (disch := first | omega | simp only [go_sem, hg]) only [hg, go_sem, ↓reduceIte, reduceCtorEq, Nat.reduceAdd, Nat.reduceMul, Nat.reduceSub, Nat.reduceEqDiff, Nat.reduceLeDiff, Nat.reduceLT, Nat.reduceBEq, Nat.reduceBNe, Int.reduceBEq, Int.reduceBNe, bne_self_eq_false, beq_self_eq_true, Int.reduceEq, Int.reduceLT, Int.reduceLE, Int.reduceNeg, Int.reduceAdd, Int.reduceSub, Int.reduceToNat, List.getElem?_toArray, List.getElem?_cons, hb1, hb2, cond_true, cond_false, decide_eq_true_eq, decide_eq_false_iff_not, beq_iff_eq, beq_eq_false_iff_ne, bne_iff_ne, bne_eq_false_iff_eq, Bool.not_eq_true, Bool.not_eq_false, Classical.not_not, ne_eq]; first | (refine ⟨fun hc => hX ?_, fun hc => hY ?_⟩ <;> replace hg := And.intro hc hg <;> first | (exfalso; omega) | skip) | refine hX ?_ | refine hY ?_) <;> clear hX hY X Y
        | ((first | refine AWp.skip ?_ | refine AWp.seqExit ?_ | refine AWp.seqRet ?_ | refine AWp.exit ?_ | refine AWp.ret ?_ | refine Eq.mpr AThen_n ?_ | refine Eq.mpr ABlock_n ?_ | refine Eq.mpr ANoGoto_n ?_); try simp (disch := first | omega | simp only [go_sem]) only [go_sem, ↓reduceIte, reduceCtorEq, Nat.reduceAdd, Nat.reduceMul, Nat.reduceSub, Nat.reduceEqDiff, Nat.reduceLeDiff, Nat.reduceLT, Nat.reduceBEq, Nat.reduceBNe, Int.reduceBEq, Int.reduceBNe, bne_self_eq_false, beq_self_eq_true, Int.reduceEq, Int.reduceLT, Int.reduceLE, Int.reduceNeg, Int.reduceAdd, Int.reduceSub, Int.reduceToNat, List.getElem?_toArray, List.getElem?_cons, AThen_n, AThen_e, AThen_r, ABlock_n, ABlock_e, ABlock_r, ANoGoto_n, ANoGoto_e, ANoGoto_r])
        | (first | refine AWp.seqScope ?_ | refine AWp.scope ?_ | refine AWp.seqLabel ?_ | refine AWp.seqSkip ?_ | refine AWp.seqBlock ?_ | refine AWp.seqSeq ?_ | refine AWp.block ?_))
      refine AWp.seqO [(0, true), (1, true), (2, true), (3, true), (4, true), (5, true), (6, true), (7, false), (8, false)] fol (by kernel_rfl) fun K hK => ?_
      (repeat' (((first | refine opsDW_kpn rfl fun K2 hK2 => ?_ | refine opsDW_kpg rfl rfl fun K2 hK2 => ?_ | refine opsDW_ken rfl fun K2 hK2 => ?_ | refine opsDW_keg rfl rfl fun K2 hK2 => ?_); simp (disch := first | omega | simp only [go_sem, hg]) only [hg, go_sem, ↓reduceIte, reduceCtorEq, Nat.reduceAdd, Nat.reduceMul, Nat.reduceSub, Nat.reduceEqDiff, Nat.reduceLeDiff, Nat.reduceLT, Nat.reduceBEq, Nat.reduceBNe, Int.reduceBEq, Int.reduceBNe, bne_self_eq_false, beq_self_eq_true, Int.reduceEq, Int.reduceLT, Int.reduceLE, Int.reduceNeg, Int.reduceAdd, Int.reduceSub, Int.reduceToNat, List.getElem?_toArray, List.getElem?_cons, hb1, cond_true, cond_false, decide_eq_true_eq, decide_eq_false_iff_not, beq_iff_eq, beq_eq_false_iff_ne, bne_iff_ne, bne_eq_false_iff_eq, Bool.not_eq_true, Bool.not_eq_false, Classical.not_not, ne_eq]; (first | refine hK2 _ _ ?_ | ((try refine Or.inl ?_); intro o ho; (try simp only [set_none, hg, not_false_eq_true, and_true, true_and] at ho); replace hg := And.intro ho hg; refine hK2 _ _ ?_) | (refine Pur.call (pur_IndexByte _ (byteN E 1)) ?_; refine hK2 _ _ ?_) | (refine ⟨fun hh => ?_, fun hh => ?_⟩ <;> replace hg := And.intro hh hg <;> first | (exfalso; omega) | refine hK2 _ _ ?_ | ((try refine Or.inl ?_); intro o ho; (try simp only [set_none, hg, not_false_eq_true, and_true, true_and] at ho); replace hg := And.intro ho hg; refine hK2 _ _ ?_) | (refine Pur.call (pur_IndexByte _ (byteN E 1)) ?_; refine hK2 _ _ ?_)) | fail)) <;> clear hK2 K2)); all_goals (refine opsDW_nil (hK _ _ ?_); clear hK K)
      repeat' (first
        | ((first | refine AWp.seqR rfl fun K hK => ?_ | refine AWp.regK rfl fun K hK => ?_ | refine AWp.seqP fol (by kernel_rfl) fun K hK => ?_); (repeat' (((first | refine opsW_kn fun K2 hK2 => ?_ | refine opsW_kg rfl fun K2 hK2 => ?_ | refine opsPW_kn fun K2 hK2 => ?_ | refine opsPW_kg rfl fun K2 hK2 => ?_); simp (disch := first | omega | simp only [go_sem, hg]) only [hg, go_sem, ↓reduceIte, reduceCtorEq, Nat.reduceAdd, Nat.reduceMul, Nat.reduceSub, Nat.reduceEqDiff, Nat.reduceLeDiff, Nat.reduceLT, Nat.reduceBEq, Nat.reduceBNe, Int.reduceBEq, Int.reduceBNe, bne_self_eq_false, beq_self_eq_true, Int.reduceEq, Int.reduceLT, Int.reduceLE, Int.reduceNeg, Int.reduceAdd, Int.reduceSub, Int.reduceToNat, List.getElem?_toArray, List.getElem?_cons, cond_true, cond_false, decide_eq_true_eq, decide_eq_false_iff_not, beq_iff_eq, beq_eq_false_iff_ne, bne_iff_ne, bne_eq_false_iff_eq, Bool.not_eq_true, Bool.not_eq_false, Classical.not_not, ne_eq]; (first | apply hK2 | ((try refine Or.inl ?_); intro o ho; (try simp only [set_none, hg, not_false_eq_true, and_true, true_and] at ho); replace hg := And.intro ho hg; apply hK2) | (refine ⟨fun hh => ?_, fun hh => ?_⟩ <;> replace hg := And.intro hh hg <;> first | (exfalso; omega) | apply hK2 | ((try refine Or.inl ?_); intro o ho; (try simp only [set_none, hg, not_false_eq_true, and_true, true_and] at ho); replace hg := And.intro ho hg; apply hK2)) | fail)) <;> clear hK2 K2)); all_goals ((first | refine opsW_nil (hK _ _ ?_) | refine opsPW_nil (hK _ ?_)); clear hK K))
        | ((first | refine AWp.seqC fun X Y hX hY => ?_ | refine AWp.condK fun X Y hX hY => ?_); simp (disch := first | omega | simp only [go_sem, hg]) only [hg, go_sem, ↓reduceIte, reduceCtorEq, Nat.reduceAdd, Nat.reduceMul, Nat.reduceSub, Nat.reduceEqDiff, Nat.reduceLeDiff, Nat.reduceLT, Nat.reduceBEq, Nat.reduceBNe, Int.reduceBEq, Int.reduceBNe, bne_self_eq_false, beq_self_eq_true, Int.reduceEq, Int.reduceLT, Int.reduceLE, Int.reduceNeg, Int.reduceAdd, Int.reduceSub, Int.reduceToNat, List.getElem?_toArray, List.getElem?_cons, cond_true, cond_false, decide_eq_true_eq, decide_eq_false_iff_not, beq_iff_eq, beq_eq_false_iff_ne, bne_iff_ne, bne_eq_false_iff_eq, Bool.not_eq_true, Bool.not_eq_false, Classical.not_not, ne_eq]; first | (refine ⟨fun hc => hX ?_, fun hc => hY ?_⟩ <;> replace hg := And.intro hc hg <;> first | (exfalso; omega) | skip) | refine hX ?_ | refine hY ?_) <;> clear hX hY X Y
        | ((first | refine AWp.skip ?_ | refine AWp.seqExit ?_ | refine AWp.seqRet ?_ | refine AWp.exit ?_ | refine AWp.ret ?_ | refine Eq.mpr AThen_n ?_ | refine Eq.mpr ABlock_n ?_ | refine Eq.mpr ANoGoto_n ?_); try simp (disch := first | omega | simp only [go_sem]) only [go_sem, ↓reduceIte, reduceCtorEq, Nat.reduceAdd, Nat.reduceMul, Nat.reduceSub, Nat.reduceEqDiff, Nat.reduceLeDiff, Nat.reduceLT, Nat.reduceBEq, Nat.reduceBNe, Int.reduceBEq, Int.reduceBNe, bne_self_eq_false, beq_self_eq_true, Int.reduceEq, Int.reduceLT, Int.reduceLE, Int.reduceNeg, Int.reduceAdd, Int.reduceSub, Int.reduceToNat, List.getElem?_toArray, List.getElem?_cons, AThen_n, AThen_e, AThen_r, ABlock_n, ABlock_e, ABlock_r, ANoGoto_n, ANoGoto_e, ANoGoto_r])
        | (first | refine AWp.seqScope ?_ | refine AWp.scope ?_ | refine AWp.seqLabel ?_ | refine AWp.seqSkip ?_ | refine AWp.seqBlock ?_ | refine AWp.seqSeq ?_ | refine AWp.block ?_))
      · refine Hand.mk ⟨?_, rfl⟩
        try simp (disch := first | omega | simp only [go_sem]) only [go_sem, ↓reduceIte, reduceCtorEq, Nat.reduceAdd, Nat.reduceMul, Nat.reduceSub, Nat.reduceEqDiff, Nat.reduceLeDiff, Nat.reduceLT, Nat.reduceBEq, Nat.reduceBNe, Int.reduceBEq, Int.reduceBNe, bne_self_eq_false, beq_self_eq_true, Int.reduceEq, Int.reduceLT, Int.reduceLE, Int.reduceNeg, Int.reduceAdd, Int.reduceSub, Int.reduceToNat, List.getElem?_toArray, List.getElem?_cons]
      · have hnil : (pm.extract (((1 : Nat) : Int) + 1).toNat pm.size).data.toList = [] := by decide
        rw [hnil] at hc
        exact absurd (by simp [Lib.indexByte]) hc
    · repeat' (first
        | ((first | refine AWp.seqR rfl fun K hK => ?_ | refine AWp.regK rfl fun K hK => ?_ | refine AWp.seqP fol (by kernel_rfl) fun K hK => ?_); (repeat' (((first | refine opsW_kn fun K2 hK2 => ?_ | refine opsW_kg rfl fun K2 hK2 => ?_ | refine opsPW_kn fun K2 hK2 => ?_ | refine opsPW_kg rfl fun K2 hK2 => ?_); simp (disch := first | omega | simp only [go_sem, hg]) only [hg, go_sem, ↓reduceIte, reduceCtorEq, Nat.reduceAdd, Nat.reduceMul, Nat.reduceSub, Nat.reduceEqDiff, Nat.reduceLeDiff, Nat.reduceLT, Nat.reduceBEq, Nat.reduceBNe, Int.reduceBEq, Int.reduceBNe, bne_self_eq_false, beq_self_eq_true, Int.reduceEq, Int.reduceLT, Int.reduceLE, Int.reduceNeg, Int.reduceAdd, Int.reduceSub, Int.reduceToNat, List.getElem?_toArray, List.getElem?_cons, cond_true, cond_false, decide_eq_true_eq, decide_eq_false_iff_not, beq_iff_eq, beq_eq_false_iff_ne, bne_iff_ne, bne_eq_false_iff_eq, Bool.not_eq_true, Bool.not_eq_false, Classical.not_not, ne_eq]; (first | apply hK2 | ((try refine Or.inl ?_); intro o ho; (try simp only [set_none, hg, not_false_eq_true, and_true, true_and] at ho); replace hg := And.intro ho hg; apply hK2) | (refine ⟨fun hh => ?_, fun hh => ?_⟩ <;> replace hg := And.intro hh hg <;> first | (exfalso; omega) | apply hK2 | ((try refine Or.inl ?_); intro o ho; (try simp only [set_none, hg, not_false_eq_true, and_true, true_and] at ho); replace hg := And.intro ho hg; apply hK2)) | fail)) <;> clear hK2 K2)); all_goals ((first | refine opsW_nil (hK _ _ ?_) | refine opsPW_nil (hK _ ?_)); clear hK K))
        | ((first | refine AWp.seqC fun X Y hX hY => ?_ | refine AWp.condK fun X Y hX hY => ?_); simp (disch := first | omega | simp only [go_sem, hg]) only [hg, go_sem, ↓reduceIte, reduceCtorEq, Nat.reduceAdd, Nat.reduceMul, Nat.reduceSub, Nat.reduceEqDiff, Nat.reduceLeDiff, Nat.reduceLT, Nat.reduceBEq, Nat.reduceBNe, Int.reduceBEq, Int.reduceBNe, bne_self_eq_false, beq_self_eq_true, Int.reduceEq, Int.reduceLT, Int.reduceLE, Int.reduceNeg, Int.reduceAdd, Int.reduceSub, Int.reduceToNat, List.getElem?_toArray, List.getElem?_cons, cond_true, cond_false, decide_eq_true_eq, decide_eq_false_iff_not, beq_iff_eq, beq_eq_false_iff_ne, bne_iff_ne, bne_eq_false_iff_eq, Bool.not_eq_true, Bool.not_eq_false, Classical.not_not, ne_eq]; first | (refine ⟨fun hc => hX ?_, fun hc => hY ?_⟩ <;> replace hg := And.intro hc hg <;> first | (exfalso; omega) | skip) | refine hX ?_ | refine hY ?_) <;> clear hX hY X Y
        | ((first | refine AWp.skip ?_ | refine AWp.seqExit ?_ | refine AWp.seqRet ?_ | refine AWp.exit ?_ | refine AWp.ret ?_ | refine Eq.mpr AThen_n ?_ | refine Eq.mpr ABlock_n ?_ | refine Eq.mpr ANoGoto_n ?_); try simp (disch := first | omega | simp only [go_sem]) only [go_sem, ↓reduceIte, reduceCtorEq, Nat.reduceAdd, Nat.reduceMul, Nat.reduceSub, Nat.reduceEqDiff, Nat.reduceLeDiff, Nat.reduceLT, Nat.reduceBEq, Nat.reduceBNe, Int.reduceBEq, Int.reduceBNe, bne_self_eq_false, beq_self_eq_true, Int.reduceEq, Int.reduceLT, Int.reduceLE, Int.reduceNeg, Int.reduceAdd, Int.reduceSub, Int.reduceToNat, List.getElem?_toArray, List.getElem?_cons, AThen_n, AThen_e, AThen_r, ABlock_n, ABlock_e, ABlock_r, ANoGoto_n, ANoGoto_e, ANoGoto_r])
        | (first | refine AWp.seqScope ?_ | refine AWp.scope ?_ | refine AWp.seqLabel ?_ | refine AWp.seqSkip ?_ | refine AWp.seqBlock ?_ | refine AWp.seqSeq ?_ | refine AWp.block ?_))
      refine Hand.mk ⟨?_, rfl⟩
      try simp (disch := first | omega | simp only [go_sem]) only [go_sem, ↓reduceIte, reduceCtorEq, Nat.reduceAdd, Nat.reduceMul, Nat.reduceSub, Nat.reduceEqDiff, Nat.reduceLeDiff, Nat.reduceLT, Nat.reduceBEq, Nat.reduceBNe, Int.reduceBEq, Int.reduceBNe, bne_self_eq_false, beq_self_eq_true, Int.reduceEq, Int.reduceLT, Int.reduceLE, Int.reduceNeg, Int.reduceAdd, Int.reduceSub, Int.reduceToNat, List.getElem?_toArray, List.getElem?_cons]
/-- Where the first of the two bytes stands. -/
def isPm (b : Nat) : Bool := b == 43 || b == 35
def NoPm (s : ByteArray) (i : Nat) : Prop := ∀ j, j < i → isPm (byteN s j) = false
def hasPm (s : ByteArray) : Bool := s.data.toList.any fun b => isPm b.toNat
theorem byteN_get {s : ByteArray} {i : Nat} (h : i < s.size) : byteN s i = (s.data.toList[i]'(by simpa using h)).toNat := by
  unfold byteN
  have : s.data.size = s.size := rfl
  simp [Array.getD_eq_getD_getElem?, this, h]
theorem hasPm_no {s : ByteArray} (h : NoPm s s.size) : hasPm s = false := by
  unfold hasPm
  rw [List.any_eq_false]
  intro b hb
  obtain ⟨j, hj, rfl⟩ := List.getElem_of_mem hb
  have hj : j < s.size := by simpa using hj
  have := h j hj
  rw [byteN_get hj] at this
  simpa using this
theorem hasPm_yes {s : ByteArray} {i : Nat} (hi : i < s.size) (h : isPm (byteN s i) = true) : hasPm s = true := by
  unfold hasPm
  rw [byteN_get hi] at h
  exact List.any_eq_true.2 ⟨_, List.getElem_mem _, h⟩
theorem indexRune_pm (c : Nat) (h2 : c ≤ 1114111) : ∃ r : Int, Pur Tryd.prog glob 63 [str pm, .lit (.int .i32 c)] (int r) ∧ (0 ≤ r ↔ isPm c = true) := by
  rcases Nat.lt_or_ge c 128 with h | h
  · refine ⟨_, pur_IndexRune pm c (by omega) (by omega), ?_⟩
    have : ∀ c : Fin 128, 0 ≤ Lib.indexByte pm.data.toList (((c : Nat) : Int)).toNat.toUInt8 ↔ isPm c = true := by decide
    exact this ⟨c, h⟩
  · refine ⟨_, indexRune_hi c h h2, ?_⟩
    have : isPm c = false := by simp [isPm]; omega
    simp [this]
theorem pur_useASCIISet (n : Int) : Pur Tryd.prog glob 64 [int n] (bool (decide (n > 8))) := by
  intro σ
  refine ACalls.of_body' (n := 5) [.tmp 2] Tryd.func64 rfl (by kernel_rfl) Tryd.ntmps64 (by simp only [List.length_cons, List.length_nil]; decide) rfl ?_
  have hg : (0 : Nat) = 0 := rfl
  repeat' (first
    | ((first | refine AWp.seqR rfl fun K hK => ?_ | refine AWp.regK rfl fun K hK => ?_ | refine AWp.seqP fol (by kernel_rfl) fun K hK => ?_); (repeat' (((first | refine opsW_kn fun K2 hK2 => ?_ | refine opsW_kg rfl fun K2 hK2 => ?_ | refine opsPW_kn fun K2 hK2 => ?_ | refine opsPW_kg rfl fun K2 hK2 => ?_); simp (disch := first | omega | simp only [go_sem, hg]) only [hg, go_sem, ↓reduceIte, reduceCtorEq, Nat.reduceAdd, Nat.reduceMul, Nat.reduceSub, Nat.reduceEqDiff, Nat.reduceLeDiff, Nat.reduceLT, Nat.reduceBEq, Nat.reduceBNe, Int.reduceBEq, Int.reduceBNe, bne_self_eq_false, beq_self_eq_true, Int.reduceEq, Int.reduceLT, Int.reduceLE, Int.reduceNeg, Int.reduceAdd, Int.reduceSub, Int.reduceToNat, List.getElem?_toArray, List.getElem?_cons, cond_true, cond_false, decide_eq_true_eq, decide_eq_false_iff_not, beq_iff_eq, beq_eq_false_iff_ne, bne_iff_ne, bne_eq_false_iff_eq, Bool.not_eq_true, Bool.not_eq_false, Classical.not_not, ne_eq]; (first | apply hK2 | ((try refine Or.inl ?_); intro o ho; (try simp only [set_none, hg, not_false_eq_true, and_true, true_and] at ho); replace hg := And.intro ho hg; apply hK2) | (refine ⟨fun hh => ?_, fun hh => ?_⟩ <;> replace hg := And.intro hh hg <;> first | (exfalso; omega) | apply hK2 | ((try refine Or.inl ?_); intro o ho; (try simp only [set_none, hg, not_false_eq_true, and_true, true_and] at ho); replace hg := And.intro ho hg; apply hK2)) | fail)) <;> clear hK2 K2)); all_goals ((first | refine opsW_nil (hK _ _ ?_) | refine opsPW_nil (hK _ ?_)); clear hK K))
    | ((first | refine AWp.seqC fun X Y hX hY => ?_ | refine AWp.condK fun X Y hX hY => ?_); simp (disch := first | omega | simp only [go_sem, hg]) only [hg, go_sem, ↓reduceIte, reduceCtorEq, Nat.reduceAdd, Nat.reduceMul, Nat.reduceSub, Nat.reduceEqDiff, Nat.reduceLeDiff, Nat.reduceLT, Nat.reduceBEq, Nat.reduceBNe, Int.reduceBEq, Int.reduceBNe, bne_self_eq_false, beq_self_eq_true, Int.reduceEq, Int.reduceLT, Int.reduceLE, Int.reduceNeg, Int.reduceAdd, Int.reduceSub, Int.reduceToNat, List.getElem?_toArray, List.getElem?_cons, cond_true, cond_false, decide_eq_true_eq, decide_eq_false_iff_not, beq_iff_eq, beq_eq_false_iff_ne, bne_iff_ne, bne_eq_false_iff_eq, Bool.not_eq_true, Bool.not_eq_false, Classical.not_not, ne_eq]; first | (refine ⟨fun hc => hX ?_, fun hc => hY ?_⟩ <;> replace hg := And.intro hc hg <;> first | (exfalso; omega) | skip) | refine hX ?_ | refine hY ?_) <;> clear hX hY X Y
    | ((first | refine AWp.skip ?_ | refine AWp.seqExit ?_ | refine AWp.seqRet ?_ | refine AWp.exit ?_ | refine AWp.ret ?_ | refine Eq.mpr AThen_n ?_ | refine Eq.mpr ABlock_n ?_ | refine Eq.mpr ANoGoto_n ?_); try simp (disch := first | omega | simp only [go_sem]) only [go_sem, ↓reduceIte, reduceCtorEq, Nat.reduceAdd, Nat.reduceMul, Nat.reduceSub, Nat.reduceEqDiff, Nat.reduceLeDiff, Nat.reduceLT, Nat.reduceBEq, Nat.reduceBNe, Int.reduceBEq, Int.reduceBNe, bne_self_eq_false, beq_self_eq_true, Int.reduceEq, Int.reduceLT, Int.reduceLE, Int.reduceNeg, Int.reduceAdd, Int.reduceSub, Int.reduceToNat, List.getElem?_toArray, List.getElem?_cons, AThen_n, AThen_e, AThen_r, ABlock_n, ABlock_e, ABlock_r, ANoGoto_n, ANoGoto_e, ANoGoto_r])
    | (first | refine AWp.seqScope ?_ | refine AWp.scope ?_ | refine AWp.seqLabel ?_ | refine AWp.seqSkip ?_ | refine AWp.seqBlock ?_ | refine AWp.seqSeq ?_ | refine AWp.block ?_))
  refine Hand.mk ⟨?_, rfl⟩
  try simp (disch := first | omega | simp only [go_sem]) only [go_sem, ↓reduceIte, reduceCtorEq, Nat.reduceAdd, Nat.reduceMul, Nat.reduceSub, Nat.reduceEqDiff, Nat.reduceLeDiff, Nat.reduceLT, Nat.reduceBEq, Nat.reduceBNe, Int.reduceBEq, Int.reduceBNe, bne_self_eq_false, beq_self_eq_true, Int.reduceEq, Int.reduceLT, Int.reduceLE, Int.reduceNeg, Int.reduceAdd, Int.reduceSub, Int.reduceToNat, List.getElem?_toArray, List.getElem?_cons]
/-- The table of the two bytes. -/
def pmTab : List Value := (List.range 256).map fun i => .bool (isPm i)
theorem pmTab_len : pmTab.length = 256 := by simp [pmTab]
theorem pmTab_get (i : Nat) (h : i < 256) : pmTab.getD i default = .bool (isPm i) := by
  simp [pmTab, List.getD_eq_getElem?_getD, h]
theorem contains_pm (n : Nat) (h : n < 256) : Pur Tryd.prog glob 66 [.vp (pmTab.map .lit), byt n] (bool (isPm n)) := by
  intro σ
  have hl := pmTab_len
  have hgt := pmTab_get n h
  refine ACalls.of_body' (n := 10) [.tmp 4] Tryd.func66 rfl (by kernel_rfl) Tryd.ntmps66 (by simp only [List.length_cons, List.length_nil]; decide) rfl ?_
  have hg : (0 : Nat) = 0 := rfl
  repeat' (first
    | ((first | refine AWp.seqR rfl fun K hK => ?_ | refine AWp.regK rfl fun K hK => ?_ | refine AWp.seqP fol (by kernel_rfl) fun K hK => ?_); (repeat' (((first | refine opsW_kn fun K2 hK2 => ?_ | refine opsW_kg rfl fun K2 hK2 => ?_ | refine opsPW_kn fun K2 hK2 => ?_ | refine opsPW_kg rfl fun K2 hK2 => ?_); simp (disch := first | omega | simp only [go_sem, hg]) only [hg, go_sem, ↓reduceIte, reduceCtorEq, Nat.reduceAdd, Nat.reduceMul, Nat.reduceSub, Nat.reduceEqDiff, Nat.reduceLeDiff, Nat.reduceLT, Nat.reduceBEq, Nat.reduceBNe, Int.reduceBEq, Int.reduceBNe, bne_self_eq_false, beq_self_eq_true, Int.reduceEq, Int.reduceLT, Int.reduceLE, Int.reduceNeg, Int.reduceAdd, Int.reduceSub, Int.reduceToNat, List.getElem?_toArray, List.getElem?_cons, hgt, cond_true, cond_false, decide_eq_true_eq, decide_eq_false_iff_not, beq_iff_eq, beq_eq_false_iff_ne, bne_iff_ne, bne_eq_false_iff_eq, Bool.not_eq_true, Bool.not_eq_false, Classical.not_not, ne_eq]; (first | apply hK2 | ((try refine Or.inl ?_); intro o ho; (try simp only [set_none, hg, not_false_eq_true, and_true, true_and] at ho); replace hg := And.intro ho hg; apply hK2) | (refine ⟨fun hh => ?_, fun hh => ?_⟩ <;> replace hg := And.intro hh hg <;> first | (exfalso; omega) | apply hK2 | ((try refine Or.inl ?_); intro o ho; (try simp only [set_none, hg, not_false_eq_true, and_true, true_and] at ho); replace hg := And.intro ho hg; apply hK2)) | fail)) <;> clear hK2 K2)); all_goals ((first | refine opsW_nil (hK _ _ ?_) | refine opsPW_nil (hK _ ?_)); clear hK K))
    | ((first | refine AWp.seqC fun X Y hX hY => ?_ | refine AWp.condK fun X Y hX hY => ?_); simp (disch := first | omega | simp only [go_sem, hg]) only [hg, go_sem, ↓reduceIte, reduceCtorEq, Nat.reduceAdd, Nat.reduceMul, Nat.reduceSub, Nat.reduceEqDiff, Nat.reduceLeDiff, Nat.reduceLT, Nat.reduceBEq, Nat.reduceBNe, Int.reduceBEq, Int.reduceBNe, bne_self_eq_false, beq_self_eq_true, Int.reduceEq, Int.reduceLT, Int.reduceLE, Int.reduceNeg, Int.reduceAdd, Int.reduceSub, Int.reduceToNat, List.getElem?_toArray, List.getElem?_cons, hgt, cond_true, cond_false, decide_eq_true_eq, decide_eq_false_iff_not, beq_iff_eq, beq_eq_false_iff_ne, bne_iff_ne, bne_eq_false_iff_eq, Bool.not_eq_true, Bool.not_eq_false, Classical.not_not, ne_eq]; first | (refine ⟨fun hc => hX ?_, fun hc => hY ?_⟩ <;> replace hg := And.intro hc hg <;> first | (exfalso; omega) | skip) | refine hX ?_ | refine hY ?_) <;> clear hX hY X Y
    | ((first | refine AWp.skip ?_ | refine AWp.seqExit ?_ | refine AWp.seqRet ?_ | refine AWp.exit ?_ | refine AWp.ret ?_ | refine Eq.mpr AThen_n ?_ | refine Eq.mpr ABlock_n ?_ | refine Eq.mpr ANoGoto_n ?_); try simp (disch := first | omega | simp only [go_sem]) only [go_sem, ↓reduceIte, reduceCtorEq, Nat.reduceAdd, Nat.reduceMul, Nat.reduceSub, Nat.reduceEqDiff, Nat.reduceLeDiff, Nat.reduceLT, Nat.reduceBEq, Nat.reduceBNe, Int.reduceBEq, Int.reduceBNe, bne_self_eq_false, beq_self_eq_true, Int.reduceEq, Int.reduceLT, Int.reduceLE, Int.reduceNeg, Int.reduceAdd, Int.reduceSub, Int.reduceToNat, List.getElem?_toArray, List.getElem?_cons, AThen_n, AThen_e, AThen_r, ABlock_n, ABlock_e, ABlock_r, ANoGoto_n, ANoGoto_e, ANoGoto_r])
    | (first | refine AWp.seqScope ?_ | refine AWp.scope ?_ | refine AWp.seqLabel ?_ | refine AWp.seqSkip ?_ | refine AWp.seqBlock ?_ | refine AWp.seqSeq ?_ | refine AWp.block ?_))
  refine Hand.mk ⟨?_, rfl⟩
  try simp (disch := first | omega | simp only [go_sem]) only [go_sem, ↓reduceIte, reduceCtorEq, Nat.reduceAdd, Nat.reduceMul, Nat.reduceSub, Nat.reduceEqDiff, Nat.reduceLeDiff, Nat.reduceLT, Nat.reduceBEq, Nat.reduceBNe, Int.reduceBEq, Int.reduceBNe, bne_self_eq_false, beq_self_eq_true, Int.reduceEq, Int.reduceLT, Int.reduceLE, Int.reduceNeg, Int.reduceAdd, Int.reduceSub, Int.reduceToNat, List.getElem?_toArray, List.getElem?_cons]
theorem zero_set (w : World) : (zeroValue 110).run Tryd.prog w = .ok (.agg (Array.replicate 256 (.bool false))) w := by
  rw [Tryd.zeroValue110]; rfl
theorem set_pm : Lib.setCells pm.data.toList = pmTab.toArray := by kernel_rfl
theorem pur_makeSet : Pur Tryd.prog glob 65 [str pm] (.tup [.agg (pmTab.map .lit), bool true]) := fun σ =>
  .of_calls ⟨_, Tryd.func65, by kernel_rfl, by kernel_rfl⟩ fun gh w vs hR hv => by
    rw [repL_lits (us := [.string pm]) hv]
    refine Calls.mono (Tryd.strings_makeASCIISet zero_set pm w (by decide) (fun j b hb => by
      have : j = 0 ∨ j = 1 ∨ 2 ≤ j := by omega
      rcases this with rfl | rfl | h
      · simp [pm] at hb; subst hb; decide
      · simp [pm] at hb; subst hb; decide
      · rw [List.getElem?_eq_none (by simpa [pm] using h)] at hb; cases hb)) fun e w' ⟨h1, h2⟩ => ?_
    obtain ⟨x, r⟩ := hR.below (h2 ▸ (RowKit.Below.refl _ _).alloc (Nat.le_refl _) _)
    refine ⟨_, h1, gh, _, σ, x, r, ?_, rfl, rfl⟩
    rw [set_pm]
    refine .tup _ _ rfl fun i p hp => ?_
    match i, hp with
    | 0, hp =>
      simp at hp; subst hp
      refine .agg _ _ (by simp) fun i p hp => ?_
      rw [List.getElem?_map, Option.map_eq_some_iff] at hp
      obtain ⟨v, hv, rfl⟩ := hp
      have : pmTab.toArray.getD i undef = v := by
        have hi := (List.getElem?_eq_some_iff.1 hv).1
        simp [hi]
        rw [List.getElem?_eq_getElem hi] at hv
        simpa using hv
      show Rep gh w' (pmTab.toArray.getD i undef) _
      rw [this]; exact .lit v
    | 1, hp => simp at hp; subst hp; exact .lit _
theorem fzset : zeroCells Tryd.prog 110 = some (List.replicate 256 (.lit (.bool false))) := by kernel_rfl
theorem allCell_lits {L : List Bool} : allCell ((L.map Value.bool).map PV.lit) = true := by
  unfold allCell; rw [List.all_eq_true]; intro p hp
  obtain ⟨v, hv, rfl⟩ := List.mem_map.1 hp
  obtain ⟨b, _, rfl⟩ := List.mem_map.1 hv; rfl
theorem allCell_rep : allCell (List.replicate 256 (PV.lit (.bool false))) = true := by decide
theorem allCell_tab : allCell (pmTab.map PV.lit) = true := by
  have : pmTab = ((List.range 256).map isPm).map Value.bool := by simp [pmTab]
  rw [this]; exact allCell_lits
theorem splice_full {cs xs : List PV} (h : cs.length = xs.length) : splice cs 0 xs = xs := by
  simp [splice, h]
theorem NoPm_succ {s : ByteArray} {i : Nat} (h : NoPm s i) (h' : isPm (byteN s i) = false) : NoPm s (i + 1) := upto_succ h h'
theorem indexAny_pm (s : ByteArray) (hs : s.size < 1000000000) (σ : Store) : ACalls Tryd.prog glob 55 [str s, str pm] σ (fun r τ => ∃ k : Int, r = int k ∧ decide (k ≥ 0) = hasPm s ∧ τ = σ) := by
  have hpz : pm.size = 2 := rfl
  have hpe : (pm == ByteArray.empty) = false := by decide
  have hsp := splice_full (cs := List.replicate 256 (.lit (.bool false))) (xs := pmTab.map .lit) (by simp [pmTab_len])
  refine ACalls.of_body' (n := 55) [.tmp 4] Tryd.func55 rfl (by kernel_rfl) Tryd.ntmps55 (by simp only [List.length_cons, List.length_nil]; decide) rfl ?_
  have hg : (0 : Nat) = 0 := rfl
  have hse : strEq pm ⟨#[]⟩ = false := by kernel_rfl
  repeat' (first
    | ((first | refine AWp.seqR rfl fun K hK => ?_ | refine AWp.regK rfl fun K hK => ?_ | refine AWp.seqP fol (by kernel_rfl) fun K hK => ?_); (repeat' (((first | refine opsW_kn fun K2 hK2 => ?_ | refine opsW_kg rfl fun K2 hK2 => ?_ | refine opsPW_kn fun K2 hK2 => ?_ | refine opsPW_kg rfl fun K2 hK2 => ?_); simp (disch := first | omega | simp only [go_sem, hg]) only [hg, go_sem, ↓reduceIte, reduceCtorEq, Nat.reduceAdd, Nat.reduceMul, Nat.reduceSub, Nat.reduceEqDiff, Nat.reduceLeDiff, Nat.reduceLT, Nat.reduceBEq, Nat.reduceBNe, Int.reduceBEq, Int.reduceBNe, bne_self_eq_false, beq_self_eq_true, Int.reduceEq, Int.reduceLT, Int.reduceLE, Int.reduceNeg, Int.reduceAdd, Int.reduceSub, Int.reduceToNat, List.getElem?_toArray, List.getElem?_cons, hse, fzset, pmTab_len, allCell_rep, allCell_tab, hsp, List.length_replicate, cond_true, cond_false, decide_eq_true_eq, decide_eq_false_iff_not, beq_iff_eq, beq_eq_false_iff_ne, bne_iff_ne, bne_eq_false_iff_eq, Bool.not_eq_true, Bool.not_eq_false, Classical.not_not, ne_eq]; (first | apply hK2 | ((try refine Or.inl ?_); intro o ho; (try simp only [set_none, hg, not_false_eq_true, and_true, true_and] at ho); replace hg := And.intro ho hg; apply hK2) | (refine Pur.call (pur_useASCIISet s.size) ?_; apply hK2) | (refine Pur.call (pur_makeSet) ?_; apply hK2) | (refine ⟨fun hh => ?_, fun hh => ?_⟩ <;> replace hg := And.intro hh hg <;> first | (exfalso; omega) | apply hK2 | ((try refine Or.inl ?_); intro o ho; (try simp only [set_none, hg, not_false_eq_true, and_true, true_and] at ho); replace hg := And.intro ho hg; apply hK2) | (refine Pur.call (pur_useASCIISet s.size) ?_; apply hK2) | (refine Pur.call (pur_makeSet) ?_; apply hK2)) | fail)) <;> clear hK2 K2)); all_goals ((first | refine opsW_nil (hK _ _ ?_) | refine opsPW_nil (hK _ ?_)); clear hK K))
    | ((first | refine AWp.seqC fun X Y hX hY => ?_ | refine AWp.condK fun X Y hX hY => ?_); simp (disch := first | omega | simp only [go_sem, hg]) only [hg, go_sem, ↓reduceIte, reduceCtorEq, Nat.reduceAdd, Nat.reduceMul, Nat.reduceSub, Nat.reduceEqDiff, Nat.reduceLeDiff, Nat.reduceLT, Nat.reduceBEq, Nat.reduceBNe, Int.reduceBEq, Int.reduceBNe, bne_self_eq_false, beq_self_eq_true, Int.reduceEq, Int.reduceLT, Int.reduceLE, Int.reduceNeg, Int.reduceAdd, Int.reduceSub, Int.reduceToNat, List.getElem?_toArray, List.getElem?_cons, hse, fzset, pmTab_len, allCell_rep, allCell_tab, hsp, List.length_replicate, cond_true, cond_false, decide_eq_true_eq, decide_eq_false_iff_not, beq_iff_eq, beq_eq_false_iff_ne, bne_iff_ne, bne_eq_false_iff_eq, Bool.not_eq_true, Bool.not_eq_false, Classical.not_not, ne_eq]; first | (refine ⟨fun hc => hX ?_, fun hc => hY ?_⟩ <;> replace hg := And.intro hc hg <;> first | (exfalso; omega) | skip) | refine hX ?_ | refine hY ?_) <;> clear hX hY X Y
    | ((first | refine AWp.skip ?_ | refine AWp.seqExit ?_ | refine AWp.seqRet ?_ | refine AWp.exit ?_ | refine AWp.ret ?_ | refine Eq.mpr AThen_n ?_ | refine Eq.mpr ABlock_n ?_ | refine Eq.mpr ANoGoto_n ?_); try simp (disch := first | omega | simp only [go_sem]) only [go_sem, ↓reduceIte, reduceCtorEq, Nat.reduceAdd, Nat.reduceMul, Nat.reduceSub, Nat.reduceEqDiff, Nat.reduceLeDiff, Nat.reduceLT, Nat.reduceBEq, Nat.reduceBNe, Int.reduceBEq, Int.reduceBNe, bne_self_eq_false, beq_self_eq_true, Int.reduceEq, Int.reduceLT, Int.reduceLE, Int.reduceNeg, Int.reduceAdd, Int.reduceSub, Int.reduceToNat, List.getElem?_toArray, List.getElem?_cons, AThen_n, AThen_e, AThen_r, ABlock_n, ABlock_e, ABlock_r, ANoGoto_n, ANoGoto_e, ANoGoto_r])
    | (first | refine AWp.seqScope ?_ | refine AWp.scope ?_ | refine AWp.seqLabel ?_ | refine AWp.seqSkip ?_ | refine AWp.seqBlock ?_ | refine AWp.seqSeq ?_ | refine AWp.block ?_))
  · refine .narrow [(8, int 0), (6, .ptr o 0), (0, str s)] ?_ (.freeze o set_same ?_)
    · (repeat' (first | exact LeF.nil _ | refine LeF.eq rfl ?_ ?_))
      all_goals first | rfl | (refine litI ?_; omega) | (refine litB ?_; simp only [Nat.add_zero]; done) | (refine litI ?_; simp only [Nat.add_zero]; try omega) | skip
    simp only [List.map_cons, List.map_nil, frz_lit, frz_ptr, List.drop_zero, int, str, set_drop ho]
    refine AWp.loopF (fun i : Nat => [(8, int i), (6, .vp (pmTab.map .lit)), (0, str s)]) (fun i τ => i ≤ s.size ∧ NoPm s i ∧ τ = σ) (fun i => s.size - i) 0 ?_ ⟨by omega, fun j hj => by omega, rfl⟩ ?_
    · (repeat' (first | exact LeF.nil _ | refine LeF.eq rfl ?_ ?_))
      all_goals first | rfl | (refine litI ?_; omega) | (refine litB ?_; simp only [Nat.add_zero]; done) | (refine litI ?_; simp only [Nat.add_zero]; try omega) | skip
    rintro i τ ⟨hi, hno, rfl⟩
    rcases Nat.lt_or_ge i s.size with hlt | hlt
    · repeat' (first
        | ((first | refine AWp.seqR rfl fun K hK => ?_ | refine AWp.regK rfl fun K hK => ?_ | refine AWp.seqP fol (by kernel_rfl) fun K hK => ?_); (repeat' (((first | refine opsW_kn fun K2 hK2 => ?_ | refine opsW_kg rfl fun K2 hK2 => ?_ | refine opsPW_kn fun K2 hK2 => ?_ | refine opsPW_kg rfl fun K2 hK2 => ?_); simp (disch := first | omega | simp only [go_sem, hg]) only [hg, go_sem, ↓reduceIte, reduceCtorEq, Nat.reduceAdd, Nat.reduceMul, Nat.reduceSub, Nat.reduceEqDiff, Nat.reduceLeDiff, Nat.reduceLT, Nat.reduceBEq, Nat.reduceBNe, Int.reduceBEq, Int.reduceBNe, bne_self_eq_false, beq_self_eq_true, Int.reduceEq, Int.reduceLT, Int.reduceLE, Int.reduceNeg, Int.reduceAdd, Int.reduceSub, Int.reduceToNat, List.getElem?_toArray, List.getElem?_cons, byteAt_nat, cond_true, cond_false, decide_eq_true_eq, decide_eq_false_iff_not, beq_iff_eq, beq_eq_false_iff_ne, bne_iff_ne, bne_eq_false_iff_eq, Bool.not_eq_true, Bool.not_eq_false, Classical.not_not, ne_eq]; (first | apply hK2 | ((try refine Or.inl ?_); intro o ho; (try simp only [set_none, hg, not_false_eq_true, and_true, true_and] at ho); replace hg := And.intro ho hg; apply hK2) | (refine Pur.call (contains_pm (byteN s i) (byteN_lt s i)) ?_; apply hK2) | (refine ⟨fun hh => ?_, fun hh => ?_⟩ <;> replace hg := And.intro hh hg <;> first | (exfalso; omega) | apply hK2 | ((try refine Or.inl ?_); intro o ho; (try simp only [set_none, hg, not_false_eq_true, and_true, true_and] at ho); replace hg := And.intro ho hg; apply hK2) | (refine Pur.call (contains_pm (byteN s i) (byteN_lt s i)) ?_; apply hK2)) | fail)) <;> clear hK2 K2)); all_goals ((first | refine opsW_nil (hK _ _ ?_) | refine opsPW_nil (hK _ ?_)); clear hK K))
        | ((first | refine AWp.seqC fun X Y hX hY => ?_ | refine AWp.condK fun X Y hX hY => ?_); simp (disch := first | omega | simp only [go_sem, hg]) only [hg, go_sem, ↓reduceIte, reduceCtorEq, Nat.reduceAdd, Nat.reduceMul, Nat.reduceSub, Nat.reduceEqDiff, Nat.reduceLeDiff, Nat.reduceLT, Nat.reduceBEq, Nat.reduceBNe, Int.reduceBEq, Int.reduceBNe, bne_self_eq_false, beq_self_eq_true, Int.reduceEq, Int.reduceLT, Int.reduceLE, Int.reduceNeg, Int.reduceAdd, Int.reduceSub, Int.reduceToNat, List.getElem?_toArray, List.getElem?_cons, byteAt_nat, cond_true, cond_false, decide_eq_true_eq, decide_eq_false_iff_not, beq_iff_eq, beq_eq_false_iff_ne, bne_iff_ne, bne_eq_false_iff_eq, Bool.not_eq_true, Bool.not_eq_false, Classical.not_not, ne_eq]; first | (refine ⟨fun hc => hX ?_, fun hc => hY ?_⟩ <;> replace hg := And.intro hc hg <;> first | (exfalso; omega) | skip) | refine hX ?_ | refine hY ?_) <;> clear hX hY X Y
        | ((first | refine AWp.skip ?_ | refine AWp.seqExit ?_ | refine AWp.seqRet ?_ | refine AWp.exit ?_ | refine AWp.ret ?_ | refine Eq.mpr AThen_n ?_ | refine Eq.mpr ABlock_n ?_ | refine Eq.mpr ANoGoto_n ?_); try simp (disch := first | omega | simp only [go_sem]) only [go_sem, ↓reduceIte, reduceCtorEq, Nat.reduceAdd, Nat.reduceMul, Nat.reduceSub, Nat.reduceEqDiff, Nat.reduceLeDiff, Nat.reduceLT, Nat.reduceBEq, Nat.reduceBNe, Int.reduceBEq, Int.reduceBNe, bne_self_eq_false, beq_self_eq_true, Int.reduceEq, Int.reduceLT, Int.reduceLE, Int.reduceNeg, Int.reduceAdd, Int.reduceSub, Int.reduceToNat, List.getElem?_toArray, List.getElem?_cons, AThen_n, AThen_e, AThen_r, ABlock_n, ABlock_e, ABlock_r, ANoGoto_n, ANoGoto_e, ANoGoto_r])
        | (first | refine AWp.seqScope ?_ | refine AWp.scope ?_ | refine AWp.seqLabel ?_ | refine AWp.seqSkip ?_ | refine AWp.seqBlock ?_ | refine AWp.seqSeq ?_ | refine AWp.block ?_))
      · exact Hand.mk ⟨_, rfl, by rw [hasPm_yes hlt hc]; simp, rfl⟩
      · refine ⟨i + 1, by omega, ?_, by omega, NoPm_succ hno hc⟩
        (repeat' (first | exact LeF.nil _ | refine LeF.eq rfl ?_ ?_))
        all_goals first | rfl | (refine litI ?_; omega) | (refine litB ?_; simp only [Nat.add_zero]; done) | (refine litI ?_; simp only [Nat.add_zero]; try omega) | skip
    · have : i = s.size := by omega
      subst this
      repeat' (first
        | ((first | refine AWp.seqR rfl fun K hK => ?_ | refine AWp.regK rfl fun K hK => ?_ | refine AWp.seqP fol (by kernel_rfl) fun K hK => ?_); (repeat' (((first | refine opsW_kn fun K2 hK2 => ?_ | refine opsW_kg rfl fun K2 hK2 => ?_ | refine opsPW_kn fun K2 hK2 => ?_ | refine opsPW_kg rfl fun K2 hK2 => ?_); simp (disch := first | omega | simp only [go_sem, hg]) only [hg, go_sem, ↓reduceIte, reduceCtorEq, Nat.reduceAdd, Nat.reduceMul, Nat.reduceSub, Nat.reduceEqDiff, Nat.reduceLeDiff, Nat.reduceLT, Nat.reduceBEq, Nat.reduceBNe, Int.reduceBEq, Int.reduceBNe, bne_self_eq_false, beq_self_eq_true, Int.reduceEq, Int.reduceLT, Int.reduceLE, Int.reduceNeg, Int.reduceAdd, Int.reduceSub, Int.reduceToNat, List.getElem?_toArray, List.getElem?_cons, cond_true, cond_false, decide_eq_true_eq, decide_eq_false_iff_not, beq_iff_eq, beq_eq_false_iff_ne, bne_iff_ne, bne_eq_false_iff_eq, Bool.not_eq_true, Bool.not_eq_false, Classical.not_not, ne_eq]; (first | apply hK2 | ((try refine Or.inl ?_); intro o ho; (try simp only [set_none, hg, not_false_eq_true, and_true, true_and] at ho); replace hg := And.intro ho hg; apply hK2) | (refine ⟨fun hh => ?_, fun hh => ?_⟩ <;> replace hg := And.intro hh hg <;> first | (exfalso; omega) | apply hK2 | ((try refine Or.inl ?_); intro o ho; (try simp only [set_none, hg, not_false_eq_true, and_true, true_and] at ho); replace hg := And.intro ho hg; apply hK2)) | fail)) <;> clear hK2 K2)); all_goals ((first | refine opsW_nil (hK _ _ ?_) | refine opsPW_nil (hK _ ?_)); clear hK K))
        | ((first | refine AWp.seqC fun X Y hX hY => ?_ | refine AWp.condK fun X Y hX hY => ?_); simp (disch := first | omega | simp only [go_sem, hg]) only [hg, go_sem, ↓reduceIte, reduceCtorEq, Nat.reduceAdd, Nat.reduceMul, Nat.reduceSub, Nat.reduceEqDiff, Nat.reduceLeDiff, Nat.reduceLT, Nat.reduceBEq, Nat.reduceBNe, Int.reduceBEq, Int.reduceBNe, bne_self_eq_false, beq_self_eq_true, Int.reduceEq, Int.reduceLT, Int.reduceLE, Int.reduceNeg, Int.reduceAdd, Int.reduceSub, Int.reduceToNat, List.getElem?_toArray, List.getElem?_cons, cond_true, cond_false, decide_eq_true_eq, decide_eq_false_iff_not, beq_iff_eq, beq_eq_false_iff_ne, bne_iff_ne, bne_eq_false_iff_eq, Bool.not_eq_true, Bool.not_eq_false, Classical.not_not, ne_eq]; first | (refine ⟨fun hc => hX ?_, fun hc => hY ?_⟩ <;> replace hg := And.intro hc hg <;> first | (exfalso; omega) | skip) | refine hX ?_ | refine hY ?_) <;> clear hX hY X Y
        | ((first | refine AWp.skip ?_ | refine AWp.seqExit ?_ | refine AWp.seqRet ?_ | refine AWp.exit ?_ | refine AWp.ret ?_ | refine Eq.mpr AThen_n ?_ | refine Eq.mpr ABlock_n ?_ | refine Eq.mpr ANoGoto_n ?_); try simp (disch := first | omega | simp only [go_sem]) only [go_sem, ↓reduceIte, reduceCtorEq, Nat.reduceAdd, Nat.reduceMul, Nat.reduceSub, Nat.reduceEqDiff, Nat.reduceLeDiff, Nat.reduceLT, Nat.reduceBEq, Nat.reduceBNe, Int.reduceBEq, Int.reduceBNe, bne_self_eq_false, beq_self_eq_true, Int.reduceEq, Int.reduceLT, Int.reduceLE, Int.reduceNeg, Int.reduceAdd, Int.reduceSub, Int.reduceToNat, List.getElem?_toArray, List.getElem?_cons, AThen_n, AThen_e, AThen_r, ABlock_n, ABlock_e, ABlock_r, ANoGoto_n, ANoGoto_e, ANoGoto_r])
        | (first | refine AWp.seqScope ?_ | refine AWp.scope ?_ | refine AWp.seqLabel ?_ | refine AWp.seqSkip ?_ | refine AWp.seqBlock ?_ | refine AWp.seqSeq ?_ | refine AWp.block ?_))
      exact Hand.mk ⟨_, rfl, by rw [hasPm_no hno]; simp, rfl⟩
  · refine AWp.loopF (fun p : Nat => [(45, .ptr o 0), (0, str s), (1, str pm)]) (fun p τ => NoPm s p ∧ τ = σ.set o (.iterS s p)) (fun p => s.size - p) 0 ?_ ⟨fun j hj => by omega, rfl⟩ ?_
    · (repeat' (first | exact LeF.nil _ | refine LeF.eq rfl ?_ ?_))
      all_goals first | rfl | (refine litI ?_; omega) | (refine litB ?_; simp only [Nat.add_zero]; done) | (refine litI ?_; simp only [Nat.add_zero]; try omega) | skip
    rintro p τ ⟨hno, rfl⟩
    have hd : (Utf8.decode s p).1 ≤ 1114111 ∧ (isPm (Utf8.decode s p).1 = isPm (byteN s p)) ∧ 1 ≤ (Utf8.decode s p).2 ∧ (isPm (byteN s p) = false → NoPm s (p + (Utf8.decode s p).2)) := by
      have hb := byteN_lt s p
      rcases Nat.lt_or_ge (byteN s p) 128 with h | h
      · rw [decode_lo h]
        exact ⟨by simp only; omega, rfl, Nat.le_refl _, fun h' => NoPm_succ hno h'⟩
      · obtain ⟨a1, a2, a3, a4⟩ := decode_hi h
        refine ⟨a2, ?_, a3, fun _ j hj => ?_⟩
        · have e1 : isPm (Utf8.decode s p).1 = false := by simp [isPm]; omega
          have e2 : isPm (byteN s p) = false := by simp [isPm]; omega
          rw [e1, e2]
        · rcases Nat.lt_or_ge j p with h1 | h1
          · exact hno j h1
          · have := a4 (j - p) (by omega)
            rw [Nat.add_sub_cancel' h1] at this
            simp [isPm]; omega
    obtain ⟨h1, h2, h3, h4⟩ := hd
    obtain ⟨r, hr, hri⟩ := indexRune_pm (glob := glob) (Utf8.decode s p).1 h1
    rw [h2] at hri
    repeat' (first
      | ((first | refine AWp.seqR rfl fun K hK => ?_ | refine AWp.regK rfl fun K hK => ?_ | refine AWp.seqP fol (by kernel_rfl) fun K hK => ?_); (repeat' (((first | refine opsW_kn fun K2 hK2 => ?_ | refine opsW_kg rfl fun K2 hK2 => ?_ | refine opsPW_kn fun K2 hK2 => ?_ | refine opsPW_kg rfl fun K2 hK2 => ?_); simp (disch := first | omega | simp only [go_sem, hg]) only [hg, go_sem, ↓reduceIte, reduceCtorEq, Nat.reduceAdd, Nat.reduceMul, Nat.reduceSub, Nat.reduceEqDiff, Nat.reduceLeDiff, Nat.reduceLT, Nat.reduceBEq, Nat.reduceBNe, Int.reduceBEq, Int.reduceBNe, bne_self_eq_false, beq_self_eq_true, Int.reduceEq, Int.reduceLT, Int.reduceLE, Int.reduceNeg, Int.reduceAdd, Int.reduceSub, Int.reduceToNat, List.getElem?_toArray, List.getElem?_cons, cond_true, cond_false, decide_eq_true_eq, decide_eq_false_iff_not, beq_iff_eq, beq_eq_false_iff_ne, bne_iff_ne, bne_eq_false_iff_eq, Bool.not_eq_true, Bool.not_eq_false, Classical.not_not, ne_eq]; (first | apply hK2 | ((try refine Or.inl ?_); intro o ho; (try simp only [set_none, hg, not_false_eq_true, and_true, true_and] at ho); replace hg := And.intro ho hg; apply hK2) | (refine Pur.call (hr) ?_; apply hK2) | (refine ⟨fun hh => ?_, fun hh => ?_⟩ <;> replace hg := And.intro hh hg <;> first | (exfalso; omega) | apply hK2 | ((try refine Or.inl ?_); intro o ho; (try simp only [set_none, hg, not_false_eq_true, and_true, true_and] at ho); replace hg := And.intro ho hg; apply hK2) | (refine Pur.call (hr) ?_; apply hK2)) | fail)) <;> clear hK2 K2)); all_goals ((first | refine opsW_nil (hK _ _ ?_) | refine opsPW_nil (hK _ ?_)); clear hK K))
      | ((first | refine AWp.seqC fun X Y hX hY => ?_ | refine AWp.condK fun X Y hX hY => ?_); simp (disch := first | omega | simp only [go_sem, hg]) only [hg, go_sem, ↓reduceIte, reduceCtorEq, Nat.reduceAdd, Nat.reduceMul, Nat.reduceSub, Nat.reduceEqDiff, Nat.reduceLeDiff, Nat.reduceLT, Nat.reduceBEq, Nat.reduceBNe, Int.reduceBEq, Int.reduceBNe, bne_self_eq_false, beq_self_eq_true, Int.reduceEq, Int.reduceLT, Int.reduceLE, Int.reduceNeg, Int.reduceAdd, Int.reduceSub, Int.reduceToNat, List.getElem?_toArray, List.getElem?_cons, cond_true, cond_false, decide_eq_true_eq, decide_eq_false_iff_not, beq_iff_eq, beq_eq_false_iff_ne, bne_iff_ne, bne_eq_false_iff_eq, Bool.not_eq_true, Bool.not_eq_false, Classical.not_not, ne_eq]; first | (refine ⟨fun hc => hX ?_, fun hc => hY ?_⟩ <;> replace hg := And.intro hc hg <;> first | (exfalso; omega) | skip) | refine hX ?_ | refine hY ?_) <;> clear hX hY X Y
      | ((first | refine AWp.skip ?_ | refine AWp.seqExit ?_ | refine AWp.seqRet ?_ | refine AWp.exit ?_ | refine AWp.ret ?_ | refine Eq.mpr AThen_n ?_ | refine Eq.mpr ABlock_n ?_ | refine Eq.mpr ANoGoto_n ?_); try simp (disch := first | omega | simp only [go_sem]) only [go_sem, ↓reduceIte, reduceCtorEq, Nat.reduceAdd, Nat.reduceMul, Nat.reduceSub, Nat.reduceEqDiff, Nat.reduceLeDiff, Nat.reduceLT, Nat.reduceBEq, Nat.reduceBNe, Int.reduceBEq, Int.reduceBNe, bne_self_eq_false, beq_self_eq_true, Int.reduceEq, Int.reduceLT, Int.reduceLE, Int.reduceNeg, Int.reduceAdd, Int.reduceSub, Int.reduceToNat, List.getElem?_toArray, List.getElem?_cons, AThen_n, AThen_e, AThen_r, ABlock_n, ABlock_e, ABlock_r, ANoGoto_n, ANoGoto_e, ANoGoto_r])
      | (first | refine AWp.seqScope ?_ | refine AWp.scope ?_ | refine AWp.seqLabel ?_ | refine AWp.seqSkip ?_ | refine AWp.seqBlock ?_ | refine AWp.seqSeq ?_ | refine AWp.block ?_))
    · exact Hand.done (.refl _) (Sub.new ho) ⟨_, rfl, by rw [hasPm_yes (show p < s.size from ‹_›) (hri.1 (by omega))]; simp, rfl⟩
    · refine ⟨p + (Utf8.decode s p).2, by omega, ?_, h4 (by cases hb : isPm (byteN s p) with | false => rfl | true => exact absurd (hri.2 hb) (by omega)), rfl⟩
      (repeat' (first | exact LeF.nil _ | refine LeF.eq rfl ?_ ?_))
      all_goals first | rfl | (refine litI ?_; omega) | (refine litB ?_; simp only [Nat.add_zero]; done) | (refine litI ?_; simp only [Nat.add_zero]; try omega) | skip
    · rename_i hle
      exact Hand.done (.refl _) (Sub.new ho) ⟨_, rfl, by rw [hasPm_no fun j hj => hno j (by omega)]; simp, rfl⟩
theorem containsAny_pm (s : ByteArray) (hs : s.size < 1000000000) : Pur Tryd.prog glob 45 [str s, str pm] (bool (hasPm s)) := by
  intro σ
  refine ACalls.of_body' (n := 9) [.tmp 4] Tryd.func45 rfl (by kernel_rfl) Tryd.ntmps45 (by simp only [List.length_cons, List.length_nil]; decide) rfl ?_
  have hg : (0 : Nat) = 0 := rfl
  repeat' (first
    | ((first | refine AWp.seqR rfl fun K hK => ?_ | refine AWp.regK rfl fun K hK => ?_ | refine AWp.seqP fol (by kernel_rfl) fun K hK => ?_); (repeat' (((first | refine opsW_kn fun K2 hK2 => ?_ | refine opsW_kg rfl fun K2 hK2 => ?_ | refine opsPW_kn fun K2 hK2 => ?_ | refine opsPW_kg rfl fun K2 hK2 => ?_); simp (disch := first | omega | simp only [go_sem, hg]) only [hg, go_sem, ↓reduceIte, reduceCtorEq, Nat.reduceAdd, Nat.reduceMul, Nat.reduceSub, Nat.reduceEqDiff, Nat.reduceLeDiff, Nat.reduceLT, Nat.reduceBEq, Nat.reduceBNe, Int.reduceBEq, Int.reduceBNe, bne_self_eq_false, beq_self_eq_true, Int.reduceEq, Int.reduceLT, Int.reduceLE, Int.reduceNeg, Int.reduceAdd, Int.reduceSub, Int.reduceToNat, List.getElem?_toArray, List.getElem?_cons, cond_true, cond_false, decide_eq_true_eq, decide_eq_false_iff_not, beq_iff_eq, beq_eq_false_iff_ne, bne_iff_ne, bne_eq_false_iff_eq, Bool.not_eq_true, Bool.not_eq_false, Classical.not_not, ne_eq]; (first | apply hK2 | ((try refine Or.inl ?_); intro o ho; (try simp only [set_none, hg, not_false_eq_true, and_true, true_and] at ho); replace hg := And.intro ho hg; apply hK2) | (refine (indexAny_pm s hs _).mono ?_; rintro _ _ ⟨k, rfl, hk, rfl⟩; apply hK2) | (refine ⟨fun hh => ?_, fun hh => ?_⟩ <;> replace hg := And.intro hh hg <;> first | (exfalso; omega) | apply hK2 | ((try refine Or.inl ?_); intro o ho; (try simp only [set_none, hg, not_false_eq_true, and_true, true_and] at ho); replace hg := And.intro ho hg; apply hK2) | (refine (indexAny_pm s hs _).mono ?_; rintro _ _ ⟨k, rfl, hk, rfl⟩; apply hK2)) | fail)) <;> clear hK2 K2)); all_goals ((first | refine opsW_nil (hK _ _ ?_) | refine opsPW_nil (hK _ ?_)); clear hK K))
    | ((first | refine AWp.seqC fun X Y hX hY => ?_ | refine AWp.condK fun X Y hX hY => ?_); simp (disch := first | omega | simp only [go_sem, hg]) only [hg, go_sem, ↓reduceIte, reduceCtorEq, Nat.reduceAdd, Nat.reduceMul, Nat.reduceSub, Nat.reduceEqDiff, Nat.reduceLeDiff, Nat.reduceLT, Nat.reduceBEq, Nat.reduceBNe, Int.reduceBEq, Int.reduceBNe, bne_self_eq_false, beq_self_eq_true, Int.reduceEq, Int.reduceLT, Int.reduceLE, Int.reduceNeg, Int.reduceAdd, Int.reduceSub, Int.reduceToNat, List.getElem?_toArray, List.getElem?_cons, cond_true, cond_false, decide_eq_true_eq, decide_eq_false_iff_not, beq_iff_eq, beq_eq_false_iff_ne, bne_iff_ne, bne_eq_false_iff_eq, Bool.not_eq_true, Bool.not_eq_false, Classical.not_not, ne_eq]; first | (refine ⟨fun hc => hX ?_, fun hc => hY ?_⟩ <;> replace hg := And.intro hc hg <;> first | (exfalso; omega) | skip) | refine hX ?_ | refine hY ?_) <;> clear hX hY X Y
    | ((first | refine AWp.skip ?_ | refine AWp.seqExit ?_ | refine AWp.seqRet ?_ | refine AWp.exit ?_ | refine AWp.ret ?_ | refine Eq.mpr AThen_n ?_ | refine Eq.mpr ABlock_n ?_ | refine Eq.mpr ANoGoto_n ?_); try simp (disch := first | omega | simp only [go_sem]) only [go_sem, ↓reduceIte, reduceCtorEq, Nat.reduceAdd, Nat.reduceMul, Nat.reduceSub, Nat.reduceEqDiff, Nat.reduceLeDiff, Nat.reduceLT, Nat.reduceBEq, Nat.reduceBNe, Int.reduceBEq, Int.reduceBNe, bne_self_eq_false, beq_self_eq_true, Int.reduceEq, Int.reduceLT, Int.reduceLE, Int.reduceNeg, Int.reduceAdd, Int.reduceSub, Int.reduceToNat, List.getElem?_toArray, List.getElem?_cons, AThen_n, AThen_e, AThen_r, ABlock_n, ABlock_e, ABlock_r, ANoGoto_n, ANoGoto_e, ANoGoto_r])
    | (first | refine AWp.seqScope ?_ | refine AWp.scope ?_ | refine AWp.seqLabel ?_ | refine AWp.seqSkip ?_ | refine AWp.seqBlock ?_ | refine AWp.seqSeq ?_ | refine AWp.block ?_))
  refine Hand.mk ⟨?_, rfl⟩
  try simp (disch := first | omega | simp only [go_sem]) only [go_sem, ↓reduceIte, reduceCtorEq, Nat.reduceAdd, Nat.reduceMul, Nat.reduceSub, Nat.reduceEqDiff, Nat.reduceLeDiff, Nat.reduceLT, Nat.reduceBEq, Nat.reduceBNe, Int.reduceBEq, Int.reduceBNe, bne_self_eq_false, beq_self_eq_true, Int.reduceEq, Int.reduceLT, Int.reduceLE, Int.reduceNeg, Int.reduceAdd, Int.reduceSub, Int.reduceToNat, List.getElem?_toArray, List.getElem?_cons]
  rw [hk]
end Go.Proofs
