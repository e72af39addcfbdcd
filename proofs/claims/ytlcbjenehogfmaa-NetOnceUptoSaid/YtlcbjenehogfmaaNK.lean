/- NetOnce: the walk of the law. -/
import Derived.Test.YtlcbjenehogfmaaNJ
set_option linter.unusedSimpArgs false
set_option linter.unusedVariables false
namespace Go.Proofs
open Go Go.Abs
variable {glob : Nat → PV}
set_option maxRecDepth 10000
set_option maxHeartbeats 4000000
attribute [local go_sem] int  bool  str
theorem mkI : mkB Try.prog 26 = true := by kernel_rfl
theorem mkZI : mkZ Try.prog 26 = .lit (.int .i64 0) := by kernel_rfl
theorem mkBI : mkBytes Try.prog 26 = 8 := by kernel_rfl
attribute [local go_sem] mkI mkZI mkBI
theorem rep0 (c : Nat) : List.replicate c (PV.lit (.int .i64 0)) = (List.replicate c (0 : Int)).map intP := by simp [intP]
/-- A net, and two rows of numbers. -/
structure OI (σ : Store) (o o3 o4 c : Nat) (L : List WayD) (w g : Nat → Int) (β : Store) (p : PV) (W G : List Int) (τ : Store) : Prop where
  net : NetAt β o L p τ
  sub : Sub σ β
  b3 : β o3 = some (.cells (W.map intP))
  b4 : β o4 = some (.cells (G.map intP))
  ne : ¬ o3 = o4
  s3 : σ o3 = none
  s4 : σ o4 = none
  wl : W.length = c
  gl : G.length = c
  wv : ∀ j, j < c → W.getD j default = w j
  gv : ∀ j, j < c → G.getD j default = g j
theorem OI.setW {σ τ β : Store} {o o3 o4 c : Nat} {L : List WayD} {w g : Nat → Int} {p : PV} {W G : List Int} (h : OI σ o o3 o4 c L w g β p W G τ) {i : Nat} (hi : i < c) (x : Int) {w' : Nat → Int} (hw : ∀ j, j < c → w' j = if j = i then x else w j) :
    OI σ o o3 o4 c L w' g (β.set o3 (.cells ((W.set i x).map intP))) p (W.set i x) G (τ.set o3 (.cells (splice (W.map intP) i [.lit (.int .i64 x)]))) := by
  rw [splice_one W i x (by rw [h.wl]; exact hi)]
  refine ⟨h.net.base h.b3 _, h.sub.set h.s3, set_same, by rw [set_other (Ne.symm h.ne)]; exact h.b4, h.ne, h.s3, h.s4, by simp [h.wl], h.gl, fun j hj => ?_, h.gv⟩
  rw [hw j hj]
  have := h.wv j hj
  simp only [List.getD_eq_getElem?_getD, List.getElem?_set] at this ⊢
  by_cases e : i = j
  · subst e; simp [h.wl, hi]
  · rw [if_neg e, if_neg (Ne.symm e)]; exact this
theorem OI.setG {σ τ β : Store} {o o3 o4 c : Nat} {L : List WayD} {w g : Nat → Int} {p : PV} {W G : List Int} (h : OI σ o o3 o4 c L w g β p W G τ) {i : Nat} (hi : i < c) (x : Int) {g' : Nat → Int} (hw : ∀ j, j < c → g' j = if j = i then x else g j) :
    OI σ o o3 o4 c L w g' (β.set o4 (.cells ((G.set i x).map intP))) p W (G.set i x) (τ.set o4 (.cells (splice (G.map intP) i [.lit (.int .i64 x)]))) := by
  rw [splice_one G i x (by rw [h.gl]; exact hi)]
  refine ⟨h.net.base h.b4 _, h.sub.set h.s4, by rw [set_other h.ne]; exact h.b3, set_same, h.ne, h.s3, h.s4, h.wl, by simp [h.gl], h.wv, fun j hj => ?_⟩
  rw [hw j hj]
  have := h.gv j hj
  simp only [List.getD_eq_getElem?_getD, List.getElem?_set] at this ⊢
  by_cases e : i = j
  · subst e; simp [h.gl, hi]
  · rw [if_neg e, if_neg (Ne.symm e)]; exact this
theorem OI.more {σ τ β : Store} {o o3 o4 c : Nat} {L L' : List WayD} {w g : Nat → Int} {p p' : PV} {W G : List Int} {τ' : Store} (h : OI σ o o3 o4 c L w g β p W G τ) (hn : NetAt β o L' p' τ') : OI σ o o3 o4 c L' w g β p' W G τ' := ⟨hn, h.sub, h.b3, h.b4, h.ne, h.s3, h.s4, h.wl, h.gl, h.wv, h.gv⟩
def wantF (P : Nat → Int) (i : Nat) (j : Nat) : Int := if j < i then ((item j (P j)).length : Int) else 0
theorem cnt_le (X : List WayD) (j : Nat) : 0 ≤ cnt X j ∧ cnt X j ≤ X.length := by
  unfold cnt
  have := List.countP_le_length (p := fun w : WayD => decide (w.term = (j : Int))) (l := X)
  omega
theorem once3 (A : List ActD) (hA : A.length < 2000000) (hb : ∀ i, i < A.length → BdAct (A.getD i default)) (σ : Store) : ACalls Try.prog glob 3 [acts A] σ (fun r τ => r = bool true ∧ Sub σ τ) := by
  have h6 := heavy6 (glob := glob) A hA hb (σ := σ)
  refine ACalls.of_body' (n := 115) [.tmp 2] Try.func3 rfl (by kernel_rfl) Try.ntmps3 (by simp only [List.length_cons, List.length_nil]; decide) rfl ?_
  have hg : (0 : Nat) = 0 := rfl
  obtain ⟨c, hcm, hc60, hcA⟩ : ∃ c : Nat, (if (60 : Int) < A.length then (60 : Int) else A.length) = (c : Int) ∧ c ≤ 60 ∧ c ≤ A.length := by
    refine ⟨min 60 A.length, ?_, by omega, by omega⟩
    split <;> omega
  repeat' (first
    | ((first | refine AWp.seqR rfl fun K hK => ?_ | refine AWp.regK rfl fun K hK => ?_ | refine AWp.seqP fol (by kernel_rfl) fun K hK => ?_); (repeat' (((first | refine opsW_kn fun K2 hK2 => ?_ | refine opsW_kg rfl fun K2 hK2 => ?_ | refine opsPW_kn fun K2 hK2 => ?_ | refine opsPW_kg rfl fun K2 hK2 => ?_); simp (disch := first | omega | simp only [go_sem, hg]) only [hg, go_sem, ↓reduceIte, reduceCtorEq, Nat.reduceAdd, Nat.reduceMul, Nat.reduceSub, Nat.reduceEqDiff, Nat.reduceLeDiff, Nat.reduceLT, Nat.reduceBEq, Nat.reduceBNe, Int.reduceBEq, Int.reduceBNe, bne_self_eq_false, beq_self_eq_true, Int.reduceEq, Int.reduceLT, Int.reduceLE, Int.reduceNeg, Int.reduceAdd, Int.reduceSub, Int.reduceToNat, List.getElem?_toArray, List.getElem?_cons, hcm, rep0, cond_true, cond_false, decide_eq_true_eq, decide_eq_false_iff_not, beq_iff_eq, beq_eq_false_iff_ne, bne_iff_ne, bne_eq_false_iff_eq, Bool.not_eq_true, Bool.not_eq_false, Classical.not_not, ne_eq]; (first | apply hK2 | ((try refine Or.inl ?_); intro o ho; (try simp only [set_none, hg, not_false_eq_true, and_true, true_and] at ho); replace hg := And.intro ho hg; apply hK2) | (refine h6.mono ?_; rintro _ _ ⟨⟨b, rfl⟩, rfl⟩; apply hK2) | (refine new7.mono ?_; rintro _ τ1 ⟨o1, rfl, hn1⟩; apply hK2) | (refine ⟨fun hh => ?_, fun hh => ?_⟩ <;> replace hg := And.intro hh hg <;> first | (exfalso; omega) | apply hK2 | ((try refine Or.inl ?_); intro o ho; (try simp only [set_none, hg, not_false_eq_true, and_true, true_and] at ho); replace hg := And.intro ho hg; apply hK2) | (refine h6.mono ?_; rintro _ _ ⟨⟨b, rfl⟩, rfl⟩; apply hK2) | (refine new7.mono ?_; rintro _ τ1 ⟨o1, rfl, hn1⟩; apply hK2)) | fail)) <;> clear hK2 K2)); all_goals ((first | refine opsW_nil (hK _ _ ?_) | refine opsPW_nil (hK _ ?_)); clear hK K))
    | ((first | refine AWp.seqC fun X Y hX hY => ?_ | refine AWp.condK fun X Y hX hY => ?_); simp (disch := first | omega | simp only [go_sem, hg]) only [hg, go_sem, ↓reduceIte, reduceCtorEq, Nat.reduceAdd, Nat.reduceMul, Nat.reduceSub, Nat.reduceEqDiff, Nat.reduceLeDiff, Nat.reduceLT, Nat.reduceBEq, Nat.reduceBNe, Int.reduceBEq, Int.reduceBNe, bne_self_eq_false, beq_self_eq_true, Int.reduceEq, Int.reduceLT, Int.reduceLE, Int.reduceNeg, Int.reduceAdd, Int.reduceSub, Int.reduceToNat, List.getElem?_toArray, List.getElem?_cons, hcm, rep0, cond_true, cond_false, decide_eq_true_eq, decide_eq_false_iff_not, beq_iff_eq, beq_eq_false_iff_ne, bne_iff_ne, bne_eq_false_iff_eq, Bool.not_eq_true, Bool.not_eq_false, Classical.not_not, ne_eq]; first | (refine ⟨fun hc => hX ?_, fun hc => hY ?_⟩ <;> replace hg := And.intro hc hg <;> first | (exfalso; omega) | skip) | refine hX ?_ | refine hY ?_) <;> clear hX hY X Y
    | ((first | refine AWp.skip ?_ | refine AWp.seqExit ?_ | refine AWp.seqRet ?_ | refine AWp.exit ?_ | refine AWp.ret ?_ | refine Eq.mpr AThen_n ?_ | refine Eq.mpr ABlock_n ?_ | refine Eq.mpr ANoGoto_n ?_); try simp (disch := first | omega | simp only [go_sem]) only [go_sem, ↓reduceIte, reduceCtorEq, Nat.reduceAdd, Nat.reduceMul, Nat.reduceSub, Nat.reduceEqDiff, Nat.reduceLeDiff, Nat.reduceLT, Nat.reduceBEq, Nat.reduceBNe, Int.reduceBEq, Int.reduceBNe, bne_self_eq_false, beq_self_eq_true, Int.reduceEq, Int.reduceLT, Int.reduceLE, Int.reduceNeg, Int.reduceAdd, Int.reduceSub, Int.reduceToNat, List.getElem?_toArray, List.getElem?_cons, AThen_n, AThen_e, AThen_r, ABlock_n, ABlock_e, ABlock_r, ANoGoto_n, ANoGoto_e, ANoGoto_r])
    | (first | refine AWp.seqScope ?_ | refine AWp.scope ?_ | refine AWp.seqLabel ?_ | refine AWp.seqSkip ?_ | refine AWp.seqBlock ?_ | refine AWp.seqSeq ?_ | refine AWp.block ?_))
  · exact Hand.mk ⟨rfl, .refl _⟩
  rename_i σ1 o3 h3
  obtain ⟨P, hP⟩ : ∃ P : Nat → Int, ∀ i, P i = (A.getD i default).pick := ⟨fun i => (A.getD i default).pick, fun _ => rfl⟩
  have hz0 : ∀ j, j < c → (List.replicate c (0 : Int)).getD j default = 0 := fun j hj => by simp [List.getD_eq_getElem?_getD, hj]
  have hO0 : ∃ β p W G, OI σ1 o1 o3 o c (full P 0) (wantF P 0) (fun _ => 0) β p W G ((τ1.set o3 (.cells ((List.replicate c (0 : Int)).map intP))).set o (.cells ((List.replicate c (0 : Int)).map intP))) := by
    have n1 := hn1.grow h3 (.cells ((List.replicate c (0 : Int)).map intP))
    have n2 := n1.grow (o3 := o) (by rw [set_other ho.1.1]; exact ho.2) (.cells ((List.replicate c (0 : Int)).map intP))
    exact ⟨_, _, List.replicate c 0, List.replicate c 0, n2, ((Sub.refl _).set (hn1.sub.none h3)).set (hn1.sub.none ho.2), by rw [set_other ho.1.2]; exact set_same, set_same, ho.1.2, hn1.sub.none h3, hn1.sub.none ho.2, by simp, by simp, fun j hj => by rw [hz0 j hj]; rfl, hz0⟩
  generalize ((τ1.set o3 (.cells ((List.replicate c (0 : Int)).map intP))).set o (.cells ((List.replicate c (0 : Int)).map intP))) = τ2 at *
  clear hg
  have hg : (0 : Nat) = 0 := rfl
  refine AWp.loopF (fun i : Nat => [(7, int i), (6, .rs 1 o 0 c c), (5, .rs 1 o3 0 c c), (4, int c), (3, .ptr o1 0), (0, acts A)]) (fun i τ => i ≤ c ∧ ∃ β p W G, OI σ1 o1 o3 o c (full P i) (wantF P i) (fun _ => 0) β p W G τ) (fun i => c - i) 0 ?_ ⟨by omega, hO0⟩ ?_
  · (repeat' (first | exact LeF.nil _ | refine LeF.eq rfl ?_ ?_))
    all_goals first | rfl | (refine litI ?_; omega) | (refine litB ?_; simp only [Nat.add_zero]; done) | (refine litI ?_; simp only [Nat.add_zero]; try omega) | skip
  clear hO0
  rintro i τ2 ⟨hi, β, p, W, G, hO⟩
  rcases Nat.lt_or_ge i c with hi1 | hi1
  · have hpk := (hb i (by omega)).p
    have hput : putL (full P i) 4 i 100 ((A.getD i default).pick % 4) ((A.getD i default).pick / 4 % 8) = full P (i + 1) := by
      rw [← hP]; exact put_full P i (by omega)
    have hmod := mod9 (glob := glob) (A.getD i default).pick
    have hh : (A.getD i default).pick % 4 = 0 ∨ (A.getD i default).pick % 4 = 1 ∨ (A.getD i default).pick % 4 = 2 ∨ (A.getD i default).pick % 4 = 3 := by omega
    rcases hh with hq | hq | hq | hq
    · repeat' (first
        | ((first | refine AWp.seqR rfl fun K hK => ?_ | refine AWp.regK rfl fun K hK => ?_ | refine AWp.seqP fol (by kernel_rfl) fun K hK => ?_); (repeat' (((first | refine opsW_kn fun K2 hK2 => ?_ | refine opsW_kg rfl fun K2 hK2 => ?_ | refine opsPW_kn fun K2 hK2 => ?_ | refine opsPW_kg rfl fun K2 hK2 => ?_); simp (disch := first | omega | simp only [go_sem, hg]) only [hg, go_sem, ↓reduceIte, reduceCtorEq, Nat.reduceAdd, Nat.reduceMul, Nat.reduceSub, Nat.reduceEqDiff, Nat.reduceLeDiff, Nat.reduceLT, Nat.reduceBEq, Nat.reduceBNe, Int.reduceBEq, Int.reduceBNe, bne_self_eq_false, beq_self_eq_true, Int.reduceEq, Int.reduceLT, Int.reduceLE, Int.reduceNeg, Int.reduceAdd, Int.reduceSub, Int.reduceToNat, List.getElem?_toArray, List.getElem?_cons, actC, rpcW, hq, hO.wl, cond_true, cond_false, decide_eq_true_eq, decide_eq_false_iff_not, beq_iff_eq, beq_eq_false_iff_ne, bne_iff_ne, bne_eq_false_iff_eq, Bool.not_eq_true, Bool.not_eq_false, Classical.not_not, ne_eq]; (first | apply hK2 | ((try refine Or.inl ?_); intro o ho; (try simp only [set_none, hg, not_false_eq_true, and_true, true_and] at ho); replace hg := And.intro ho hg; apply hK2) | (refine f_rpc2 4 _ ?_; apply hK2) | (refine (put8 hO.net 4 i 100 (A.getD i default).pick (by omega) hpk).mono ?_; rintro _ τ3 ⟨rfl, p1, hn2⟩; have e3 := hn2.sub _ _ hO.b3; replace hg := And.intro e3 hg; apply hK2) | (refine Pur.call (hmod) ?_; apply hK2) | (refine ⟨fun hh => ?_, fun hh => ?_⟩ <;> replace hg := And.intro hh hg <;> first | (exfalso; omega) | apply hK2 | ((try refine Or.inl ?_); intro o ho; (try simp only [set_none, hg, not_false_eq_true, and_true, true_and] at ho); replace hg := And.intro ho hg; apply hK2) | (refine f_rpc2 4 _ ?_; apply hK2) | (refine (put8 hO.net 4 i 100 (A.getD i default).pick (by omega) hpk).mono ?_; rintro _ τ3 ⟨rfl, p1, hn2⟩; have e3 := hn2.sub _ _ hO.b3; replace hg := And.intro e3 hg; apply hK2) | (refine Pur.call (hmod) ?_; apply hK2)) | fail)) <;> clear hK2 K2)); all_goals ((first | refine opsW_nil (hK _ _ ?_) | refine opsPW_nil (hK _ ?_)); clear hK K))
        | ((first | refine AWp.seqC fun X Y hX hY => ?_ | refine AWp.condK fun X Y hX hY => ?_); simp (disch := first | omega | simp only [go_sem, hg]) only [hg, go_sem, ↓reduceIte, reduceCtorEq, Nat.reduceAdd, Nat.reduceMul, Nat.reduceSub, Nat.reduceEqDiff, Nat.reduceLeDiff, Nat.reduceLT, Nat.reduceBEq, Nat.reduceBNe, Int.reduceBEq, Int.reduceBNe, bne_self_eq_false, beq_self_eq_true, Int.reduceEq, Int.reduceLT, Int.reduceLE, Int.reduceNeg, Int.reduceAdd, Int.reduceSub, Int.reduceToNat, List.getElem?_toArray, List.getElem?_cons, actC, rpcW, hq, hO.wl, cond_true, cond_false, decide_eq_true_eq, decide_eq_false_iff_not, beq_iff_eq, beq_eq_false_iff_ne, bne_iff_ne, bne_eq_false_iff_eq, Bool.not_eq_true, Bool.not_eq_false, Classical.not_not, ne_eq]; first | (refine ⟨fun hc => hX ?_, fun hc => hY ?_⟩ <;> replace hg := And.intro hc hg <;> first | (exfalso; omega) | skip) | refine hX ?_ | refine hY ?_) <;> clear hX hY X Y
        | ((first | refine AWp.skip ?_ | refine AWp.seqExit ?_ | refine AWp.seqRet ?_ | refine AWp.exit ?_ | refine AWp.ret ?_ | refine Eq.mpr AThen_n ?_ | refine Eq.mpr ABlock_n ?_ | refine Eq.mpr ANoGoto_n ?_); try simp (disch := first | omega | simp only [go_sem]) only [go_sem, ↓reduceIte, reduceCtorEq, Nat.reduceAdd, Nat.reduceMul, Nat.reduceSub, Nat.reduceEqDiff, Nat.reduceLeDiff, Nat.reduceLT, Nat.reduceBEq, Nat.reduceBNe, Int.reduceBEq, Int.reduceBNe, bne_self_eq_false, beq_self_eq_true, Int.reduceEq, Int.reduceLT, Int.reduceLE, Int.reduceNeg, Int.reduceAdd, Int.reduceSub, Int.reduceToNat, List.getElem?_toArray, List.getElem?_cons, AThen_n, AThen_e, AThen_r, ABlock_n, ABlock_e, ABlock_r, ANoGoto_n, ANoGoto_e, ANoGoto_r])
        | (first | refine AWp.seqScope ?_ | refine AWp.scope ?_ | refine AWp.seqLabel ?_ | refine AWp.seqSkip ?_ | refine AWp.seqBlock ?_ | refine AWp.seqSeq ?_ | refine AWp.block ?_))
      rw [hput] at hn2
      refine ⟨i + 1, by omega, ?_, by omega, _, _, _, _, (hO.more hn2).setW hi1 1 ?_⟩
      · (repeat' (first | exact LeF.nil _ | refine LeF.eq rfl ?_ ?_))
        all_goals first | rfl | (refine litI ?_; omega) | (refine litB ?_; simp only [Nat.add_zero]; done) | (refine litI ?_; simp only [Nat.add_zero]; try omega) | skip
      · intro j hj
        unfold wantF
        by_cases e : j = i
        · subst e; rw [if_pos (by omega), if_pos rfl]; simp [item, -List.getD_eq_getElem?_getD, hP, hq]
        · rw [if_neg e]
          by_cases e2 : j < i
          · rw [if_pos (by omega), if_pos e2]
          · rw [if_neg (by omega), if_neg e2]
    · repeat' (first
        | ((first | refine AWp.seqR rfl fun K hK => ?_ | refine AWp.regK rfl fun K hK => ?_ | refine AWp.seqP fol (by kernel_rfl) fun K hK => ?_); (repeat' (((first | refine opsW_kn fun K2 hK2 => ?_ | refine opsW_kg rfl fun K2 hK2 => ?_ | refine opsPW_kn fun K2 hK2 => ?_ | refine opsPW_kg rfl fun K2 hK2 => ?_); simp (disch := first | omega | simp only [go_sem, hg]) only [hg, go_sem, ↓reduceIte, reduceCtorEq, Nat.reduceAdd, Nat.reduceMul, Nat.reduceSub, Nat.reduceEqDiff, Nat.reduceLeDiff, Nat.reduceLT, Nat.reduceBEq, Nat.reduceBNe, Int.reduceBEq, Int.reduceBNe, bne_self_eq_false, beq_self_eq_true, Int.reduceEq, Int.reduceLT, Int.reduceLE, Int.reduceNeg, Int.reduceAdd, Int.reduceSub, Int.reduceToNat, List.getElem?_toArray, List.getElem?_cons, actC, rpcW, hq, hO.wl, cond_true, cond_false, decide_eq_true_eq, decide_eq_false_iff_not, beq_iff_eq, beq_eq_false_iff_ne, bne_iff_ne, bne_eq_false_iff_eq, Bool.not_eq_true, Bool.not_eq_false, Classical.not_not, ne_eq]; (first | apply hK2 | ((try refine Or.inl ?_); intro o ho; (try simp only [set_none, hg, not_false_eq_true, and_true, true_and] at ho); replace hg := And.intro ho hg; apply hK2) | (refine f_rpc2 4 _ ?_; apply hK2) | (refine (put8 hO.net 4 i 100 (A.getD i default).pick (by omega) hpk).mono ?_; rintro _ τ3 ⟨rfl, p1, hn2⟩; have e3 := hn2.sub _ _ hO.b3; replace hg := And.intro e3 hg; apply hK2) | (refine Pur.call (hmod) ?_; apply hK2) | (refine ⟨fun hh => ?_, fun hh => ?_⟩ <;> replace hg := And.intro hh hg <;> first | (exfalso; omega) | apply hK2 | ((try refine Or.inl ?_); intro o ho; (try simp only [set_none, hg, not_false_eq_true, and_true, true_and] at ho); replace hg := And.intro ho hg; apply hK2) | (refine f_rpc2 4 _ ?_; apply hK2) | (refine (put8 hO.net 4 i 100 (A.getD i default).pick (by omega) hpk).mono ?_; rintro _ τ3 ⟨rfl, p1, hn2⟩; have e3 := hn2.sub _ _ hO.b3; replace hg := And.intro e3 hg; apply hK2) | (refine Pur.call (hmod) ?_; apply hK2)) | fail)) <;> clear hK2 K2)); all_goals ((first | refine opsW_nil (hK _ _ ?_) | refine opsPW_nil (hK _ ?_)); clear hK K))
        | ((first | refine AWp.seqC fun X Y hX hY => ?_ | refine AWp.condK fun X Y hX hY => ?_); simp (disch := first | omega | simp only [go_sem, hg]) only [hg, go_sem, ↓reduceIte, reduceCtorEq, Nat.reduceAdd, Nat.reduceMul, Nat.reduceSub, Nat.reduceEqDiff, Nat.reduceLeDiff, Nat.reduceLT, Nat.reduceBEq, Nat.reduceBNe, Int.reduceBEq, Int.reduceBNe, bne_self_eq_false, beq_self_eq_true, Int.reduceEq, Int.reduceLT, Int.reduceLE, Int.reduceNeg, Int.reduceAdd, Int.reduceSub, Int.reduceToNat, List.getElem?_toArray, List.getElem?_cons, actC, rpcW, hq, hO.wl, cond_true, cond_false, decide_eq_true_eq, decide_eq_false_iff_not, beq_iff_eq, beq_eq_false_iff_ne, bne_iff_ne, bne_eq_false_iff_eq, Bool.not_eq_true, Bool.not_eq_false, Classical.not_not, ne_eq]; first | (refine ⟨fun hc => hX ?_, fun hc => hY ?_⟩ <;> replace hg := And.intro hc hg <;> first | (exfalso; omega) | skip) | refine hX ?_ | refine hY ?_) <;> clear hX hY X Y
        | ((first | refine AWp.skip ?_ | refine AWp.seqExit ?_ | refine AWp.seqRet ?_ | refine AWp.exit ?_ | refine AWp.ret ?_ | refine Eq.mpr AThen_n ?_ | refine Eq.mpr ABlock_n ?_ | refine Eq.mpr ANoGoto_n ?_); try simp (disch := first | omega | simp only [go_sem]) only [go_sem, ↓reduceIte, reduceCtorEq, Nat.reduceAdd, Nat.reduceMul, Nat.reduceSub, Nat.reduceEqDiff, Nat.reduceLeDiff, Nat.reduceLT, Nat.reduceBEq, Nat.reduceBNe, Int.reduceBEq, Int.reduceBNe, bne_self_eq_false, beq_self_eq_true, Int.reduceEq, Int.reduceLT, Int.reduceLE, Int.reduceNeg, Int.reduceAdd, Int.reduceSub, Int.reduceToNat, List.getElem?_toArray, List.getElem?_cons, AThen_n, AThen_e, AThen_r, ABlock_n, ABlock_e, ABlock_r, ANoGoto_n, ANoGoto_e, ANoGoto_r])
        | (first | refine AWp.seqScope ?_ | refine AWp.scope ?_ | refine AWp.seqLabel ?_ | refine AWp.seqSkip ?_ | refine AWp.seqBlock ?_ | refine AWp.seqSeq ?_ | refine AWp.block ?_))
      rw [hput] at hn2
      refine ⟨i + 1, by omega, ?_, by omega, β, p1, W, G, ?_⟩
      · (repeat' (first | exact LeF.nil _ | refine LeF.eq rfl ?_ ?_))
        all_goals first | rfl | (refine litI ?_; omega) | (refine litB ?_; simp only [Nat.add_zero]; done) | (refine litI ?_; simp only [Nat.add_zero]; try omega) | skip
      · have h2 := hO.more hn2
        refine { h2 with wv := fun j hj => ?_ }
        rw [h2.wv j hj]
        unfold wantF
        by_cases e : j = i
        · subst e; rw [if_neg (by omega), if_pos (by omega)]; simp [item, -List.getD_eq_getElem?_getD, hP, hq]
        · by_cases e2 : j < i
          · rw [if_pos e2, if_pos (by omega)]
          · rw [if_neg e2, if_neg (by omega)]
    · repeat' (first
        | ((first | refine AWp.seqR rfl fun K hK => ?_ | refine AWp.regK rfl fun K hK => ?_ | refine AWp.seqP fol (by kernel_rfl) fun K hK => ?_); (repeat' (((first | refine opsW_kn fun K2 hK2 => ?_ | refine opsW_kg rfl fun K2 hK2 => ?_ | refine opsPW_kn fun K2 hK2 => ?_ | refine opsPW_kg rfl fun K2 hK2 => ?_); simp (disch := first | omega | simp only [go_sem, hg]) only [hg, go_sem, ↓reduceIte, reduceCtorEq, Nat.reduceAdd, Nat.reduceMul, Nat.reduceSub, Nat.reduceEqDiff, Nat.reduceLeDiff, Nat.reduceLT, Nat.reduceBEq, Nat.reduceBNe, Int.reduceBEq, Int.reduceBNe, bne_self_eq_false, beq_self_eq_true, Int.reduceEq, Int.reduceLT, Int.reduceLE, Int.reduceNeg, Int.reduceAdd, Int.reduceSub, Int.reduceToNat, List.getElem?_toArray, List.getElem?_cons, actC, rpcW, hq, hO.wl, cond_true, cond_false, decide_eq_true_eq, decide_eq_false_iff_not, beq_iff_eq, beq_eq_false_iff_ne, bne_iff_ne, bne_eq_false_iff_eq, Bool.not_eq_true, Bool.not_eq_false, Classical.not_not, ne_eq]; (first | apply hK2 | ((try refine Or.inl ?_); intro o ho; (try simp only [set_none, hg, not_false_eq_true, and_true, true_and] at ho); replace hg := And.intro ho hg; apply hK2) | (refine f_rpc2 4 _ ?_; apply hK2) | (refine (put8 hO.net 4 i 100 (A.getD i default).pick (by omega) hpk).mono ?_; rintro _ τ3 ⟨rfl, p1, hn2⟩; have e3 := hn2.sub _ _ hO.b3; replace hg := And.intro e3 hg; apply hK2) | (refine Pur.call (hmod) ?_; apply hK2) | (refine ⟨fun hh => ?_, fun hh => ?_⟩ <;> replace hg := And.intro hh hg <;> first | (exfalso; omega) | apply hK2 | ((try refine Or.inl ?_); intro o ho; (try simp only [set_none, hg, not_false_eq_true, and_true, true_and] at ho); replace hg := And.intro ho hg; apply hK2) | (refine f_rpc2 4 _ ?_; apply hK2) | (refine (put8 hO.net 4 i 100 (A.getD i default).pick (by omega) hpk).mono ?_; rintro _ τ3 ⟨rfl, p1, hn2⟩; have e3 := hn2.sub _ _ hO.b3; replace hg := And.intro e3 hg; apply hK2) | (refine Pur.call (hmod) ?_; apply hK2)) | fail)) <;> clear hK2 K2)); all_goals ((first | refine opsW_nil (hK _ _ ?_) | refine opsPW_nil (hK _ ?_)); clear hK K))
        | ((first | refine AWp.seqC fun X Y hX hY => ?_ | refine AWp.condK fun X Y hX hY => ?_); simp (disch := first | omega | simp only [go_sem, hg]) only [hg, go_sem, ↓reduceIte, reduceCtorEq, Nat.reduceAdd, Nat.reduceMul, Nat.reduceSub, Nat.reduceEqDiff, Nat.reduceLeDiff, Nat.reduceLT, Nat.reduceBEq, Nat.reduceBNe, Int.reduceBEq, Int.reduceBNe, bne_self_eq_false, beq_self_eq_true, Int.reduceEq, Int.reduceLT, Int.reduceLE, Int.reduceNeg, Int.reduceAdd, Int.reduceSub, Int.reduceToNat, List.getElem?_toArray, List.getElem?_cons, actC, rpcW, hq, hO.wl, cond_true, cond_false, decide_eq_true_eq, decide_eq_false_iff_not, beq_iff_eq, beq_eq_false_iff_ne, bne_iff_ne, bne_eq_false_iff_eq, Bool.not_eq_true, Bool.not_eq_false, Classical.not_not, ne_eq]; first | (refine ⟨fun hc => hX ?_, fun hc => hY ?_⟩ <;> replace hg := And.intro hc hg <;> first | (exfalso; omega) | skip) | refine hX ?_ | refine hY ?_) <;> clear hX hY X Y
        | ((first | refine AWp.skip ?_ | refine AWp.seqExit ?_ | refine AWp.seqRet ?_ | refine AWp.exit ?_ | refine AWp.ret ?_ | refine Eq.mpr AThen_n ?_ | refine Eq.mpr ABlock_n ?_ | refine Eq.mpr ANoGoto_n ?_); try simp (disch := first | omega | simp only [go_sem]) only [go_sem, ↓reduceIte, reduceCtorEq, Nat.reduceAdd, Nat.reduceMul, Nat.reduceSub, Nat.reduceEqDiff, Nat.reduceLeDiff, Nat.reduceLT, Nat.reduceBEq, Nat.reduceBNe, Int.reduceBEq, Int.reduceBNe, bne_self_eq_false, beq_self_eq_true, Int.reduceEq, Int.reduceLT, Int.reduceLE, Int.reduceNeg, Int.reduceAdd, Int.reduceSub, Int.reduceToNat, List.getElem?_toArray, List.getElem?_cons, AThen_n, AThen_e, AThen_r, ABlock_n, ABlock_e, ABlock_r, ANoGoto_n, ANoGoto_e, ANoGoto_r])
        | (first | refine AWp.seqScope ?_ | refine AWp.scope ?_ | refine AWp.seqLabel ?_ | refine AWp.seqSkip ?_ | refine AWp.seqBlock ?_ | refine AWp.seqSeq ?_ | refine AWp.block ?_))
      rw [hput] at hn2
      refine ⟨i + 1, by omega, ?_, by omega, _, _, _, _, (hO.more hn2).setW hi1 1 ?_⟩
      · (repeat' (first | exact LeF.nil _ | refine LeF.eq rfl ?_ ?_))
        all_goals first | rfl | (refine litI ?_; omega) | (refine litB ?_; simp only [Nat.add_zero]; done) | (refine litI ?_; simp only [Nat.add_zero]; try omega) | skip
      · intro j hj
        unfold wantF
        by_cases e : j = i
        · subst e; rw [if_pos (by omega), if_pos rfl]; simp [item, -List.getD_eq_getElem?_getD, hP, hq]
        · rw [if_neg e]
          by_cases e2 : j < i
          · rw [if_pos (by omega), if_pos e2]
          · rw [if_neg (by omega), if_neg e2]
    · repeat' (first
        | ((first | refine AWp.seqR rfl fun K hK => ?_ | refine AWp.regK rfl fun K hK => ?_ | refine AWp.seqP fol (by kernel_rfl) fun K hK => ?_); (repeat' (((first | refine opsW_kn fun K2 hK2 => ?_ | refine opsW_kg rfl fun K2 hK2 => ?_ | refine opsPW_kn fun K2 hK2 => ?_ | refine opsPW_kg rfl fun K2 hK2 => ?_); simp (disch := first | omega | simp only [go_sem, hg]) only [hg, go_sem, ↓reduceIte, reduceCtorEq, Nat.reduceAdd, Nat.reduceMul, Nat.reduceSub, Nat.reduceEqDiff, Nat.reduceLeDiff, Nat.reduceLT, Nat.reduceBEq, Nat.reduceBNe, Int.reduceBEq, Int.reduceBNe, bne_self_eq_false, beq_self_eq_true, Int.reduceEq, Int.reduceLT, Int.reduceLE, Int.reduceNeg, Int.reduceAdd, Int.reduceSub, Int.reduceToNat, List.getElem?_toArray, List.getElem?_cons, actC, rpcW, hq, hO.wl, cond_true, cond_false, decide_eq_true_eq, decide_eq_false_iff_not, beq_iff_eq, beq_eq_false_iff_ne, bne_iff_ne, bne_eq_false_iff_eq, Bool.not_eq_true, Bool.not_eq_false, Classical.not_not, ne_eq]; (first | apply hK2 | ((try refine Or.inl ?_); intro o ho; (try simp only [set_none, hg, not_false_eq_true, and_true, true_and] at ho); replace hg := And.intro ho hg; apply hK2) | (refine f_rpc2 4 _ ?_; apply hK2) | (refine (put8 hO.net 4 i 100 (A.getD i default).pick (by omega) hpk).mono ?_; rintro _ τ3 ⟨rfl, p1, hn2⟩; have e3 := hn2.sub _ _ hO.b3; replace hg := And.intro e3 hg; apply hK2) | (refine Pur.call (hmod) ?_; apply hK2) | (refine ⟨fun hh => ?_, fun hh => ?_⟩ <;> replace hg := And.intro hh hg <;> first | (exfalso; omega) | apply hK2 | ((try refine Or.inl ?_); intro o ho; (try simp only [set_none, hg, not_false_eq_true, and_true, true_and] at ho); replace hg := And.intro ho hg; apply hK2) | (refine f_rpc2 4 _ ?_; apply hK2) | (refine (put8 hO.net 4 i 100 (A.getD i default).pick (by omega) hpk).mono ?_; rintro _ τ3 ⟨rfl, p1, hn2⟩; have e3 := hn2.sub _ _ hO.b3; replace hg := And.intro e3 hg; apply hK2) | (refine Pur.call (hmod) ?_; apply hK2)) | fail)) <;> clear hK2 K2)); all_goals ((first | refine opsW_nil (hK _ _ ?_) | refine opsPW_nil (hK _ ?_)); clear hK K))
        | ((first | refine AWp.seqC fun X Y hX hY => ?_ | refine AWp.condK fun X Y hX hY => ?_); simp (disch := first | omega | simp only [go_sem, hg]) only [hg, go_sem, ↓reduceIte, reduceCtorEq, Nat.reduceAdd, Nat.reduceMul, Nat.reduceSub, Nat.reduceEqDiff, Nat.reduceLeDiff, Nat.reduceLT, Nat.reduceBEq, Nat.reduceBNe, Int.reduceBEq, Int.reduceBNe, bne_self_eq_false, beq_self_eq_true, Int.reduceEq, Int.reduceLT, Int.reduceLE, Int.reduceNeg, Int.reduceAdd, Int.reduceSub, Int.reduceToNat, List.getElem?_toArray, List.getElem?_cons, actC, rpcW, hq, hO.wl, cond_true, cond_false, decide_eq_true_eq, decide_eq_false_iff_not, beq_iff_eq, beq_eq_false_iff_ne, bne_iff_ne, bne_eq_false_iff_eq, Bool.not_eq_true, Bool.not_eq_false, Classical.not_not, ne_eq]; first | (refine ⟨fun hc => hX ?_, fun hc => hY ?_⟩ <;> replace hg := And.intro hc hg <;> first | (exfalso; omega) | skip) | refine hX ?_ | refine hY ?_) <;> clear hX hY X Y
        | ((first | refine AWp.skip ?_ | refine AWp.seqExit ?_ | refine AWp.seqRet ?_ | refine AWp.exit ?_ | refine AWp.ret ?_ | refine Eq.mpr AThen_n ?_ | refine Eq.mpr ABlock_n ?_ | refine Eq.mpr ANoGoto_n ?_); try simp (disch := first | omega | simp only [go_sem]) only [go_sem, ↓reduceIte, reduceCtorEq, Nat.reduceAdd, Nat.reduceMul, Nat.reduceSub, Nat.reduceEqDiff, Nat.reduceLeDiff, Nat.reduceLT, Nat.reduceBEq, Nat.reduceBNe, Int.reduceBEq, Int.reduceBNe, bne_self_eq_false, beq_self_eq_true, Int.reduceEq, Int.reduceLT, Int.reduceLE, Int.reduceNeg, Int.reduceAdd, Int.reduceSub, Int.reduceToNat, List.getElem?_toArray, List.getElem?_cons, AThen_n, AThen_e, AThen_r, ABlock_n, ABlock_e, ABlock_r, ANoGoto_n, ANoGoto_e, ANoGoto_r])
        | (first | refine AWp.seqScope ?_ | refine AWp.scope ?_ | refine AWp.seqLabel ?_ | refine AWp.seqSkip ?_ | refine AWp.seqBlock ?_ | refine AWp.seqSeq ?_ | refine AWp.block ?_))
      rw [hput] at hn2
      refine ⟨i + 1, by omega, ?_, by omega, _, _, _, _, (hO.more hn2).setW hi1 2 ?_⟩
      · (repeat' (first | exact LeF.nil _ | refine LeF.eq rfl ?_ ?_))
        all_goals first | rfl | (refine litI ?_; omega) | (refine litB ?_; simp only [Nat.add_zero]; done) | (refine litI ?_; simp only [Nat.add_zero]; try omega) | skip
      · intro j hj
        unfold wantF
        by_cases e : j = i
        · subst e; rw [if_pos (by omega), if_pos rfl]; simp [item, -List.getD_eq_getElem?_getD, hP, hq]
        · rw [if_neg e]
          by_cases e2 : j < i
          · rw [if_pos (by omega), if_pos e2]
          · rw [if_neg (by omega), if_neg e2]
  · have hic : i = c := by omega
    subst hic
    have hfl := full_len P i
    have hq0 : EqAll (come 100 (full P i)) := by rw [come_100]; exact fun a b ha hb => absurd ha (by simp)
    have hl0 : (full P i).length < 100000 := by omega
    repeat' (first
      | ((first | refine AWp.seqR rfl fun K hK => ?_ | refine AWp.regK rfl fun K hK => ?_ | refine AWp.seqP fol (by kernel_rfl) fun K hK => ?_); (repeat' (((first | refine opsW_kn fun K2 hK2 => ?_ | refine opsW_kg rfl fun K2 hK2 => ?_ | refine opsPW_kn fun K2 hK2 => ?_ | refine opsPW_kg rfl fun K2 hK2 => ?_); simp (disch := first | omega | simp only [go_sem, hg]) only [hg, go_sem, ↓reduceIte, reduceCtorEq, Nat.reduceAdd, Nat.reduceMul, Nat.reduceSub, Nat.reduceEqDiff, Nat.reduceLeDiff, Nat.reduceLT, Nat.reduceBEq, Nat.reduceBNe, Int.reduceBEq, Int.reduceBNe, bne_self_eq_false, beq_self_eq_true, Int.reduceEq, Int.reduceLT, Int.reduceLE, Int.reduceNeg, Int.reduceAdd, Int.reduceSub, Int.reduceToNat, List.getElem?_toArray, List.getElem?_cons, come_100, cond_true, cond_false, decide_eq_true_eq, decide_eq_false_iff_not, beq_iff_eq, beq_eq_false_iff_ne, bne_iff_ne, bne_eq_false_iff_eq, Bool.not_eq_true, Bool.not_eq_false, Classical.not_not, ne_eq]; (first | apply hK2 | ((try refine Or.inl ?_); intro o ho; (try simp only [set_none, hg, not_false_eq_true, and_true, true_and] at ho); replace hg := And.intro ho hg; apply hK2) | (refine (take10 hO.net 100 hl0 hq0).mono ?_; rintro _ τ3 ⟨rfl, p3, hn3⟩; apply hK2) | (refine ⟨fun hh => ?_, fun hh => ?_⟩ <;> replace hg := And.intro hh hg <;> first | (exfalso; omega) | apply hK2 | ((try refine Or.inl ?_); intro o ho; (try simp only [set_none, hg, not_false_eq_true, and_true, true_and] at ho); replace hg := And.intro ho hg; apply hK2) | (refine (take10 hO.net 100 hl0 hq0).mono ?_; rintro _ τ3 ⟨rfl, p3, hn3⟩; apply hK2)) | fail)) <;> clear hK2 K2)); all_goals ((first | refine opsW_nil (hK _ _ ?_) | refine opsPW_nil (hK _ ?_)); clear hK K))
      | ((first | refine AWp.seqC fun X Y hX hY => ?_ | refine AWp.condK fun X Y hX hY => ?_); simp (disch := first | omega | simp only [go_sem, hg]) only [hg, go_sem, ↓reduceIte, reduceCtorEq, Nat.reduceAdd, Nat.reduceMul, Nat.reduceSub, Nat.reduceEqDiff, Nat.reduceLeDiff, Nat.reduceLT, Nat.reduceBEq, Nat.reduceBNe, Int.reduceBEq, Int.reduceBNe, bne_self_eq_false, beq_self_eq_true, Int.reduceEq, Int.reduceLT, Int.reduceLE, Int.reduceNeg, Int.reduceAdd, Int.reduceSub, Int.reduceToNat, List.getElem?_toArray, List.getElem?_cons, come_100, cond_true, cond_false, decide_eq_true_eq, decide_eq_false_iff_not, beq_iff_eq, beq_eq_false_iff_ne, bne_iff_ne, bne_eq_false_iff_eq, Bool.not_eq_true, Bool.not_eq_false, Classical.not_not, ne_eq]; first | (refine ⟨fun hc => hX ?_, fun hc => hY ?_⟩ <;> replace hg := And.intro hc hg <;> first | (exfalso; omega) | skip) | refine hX ?_ | refine hY ?_) <;> clear hX hY X Y
      | ((first | refine AWp.skip ?_ | refine AWp.seqExit ?_ | refine AWp.seqRet ?_ | refine AWp.exit ?_ | refine AWp.ret ?_ | refine Eq.mpr AThen_n ?_ | refine Eq.mpr ABlock_n ?_ | refine Eq.mpr ANoGoto_n ?_); try simp (disch := first | omega | simp only [go_sem]) only [go_sem, ↓reduceIte, reduceCtorEq, Nat.reduceAdd, Nat.reduceMul, Nat.reduceSub, Nat.reduceEqDiff, Nat.reduceLeDiff, Nat.reduceLT, Nat.reduceBEq, Nat.reduceBNe, Int.reduceBEq, Int.reduceBNe, bne_self_eq_false, beq_self_eq_true, Int.reduceEq, Int.reduceLT, Int.reduceLE, Int.reduceNeg, Int.reduceAdd, Int.reduceSub, Int.reduceToNat, List.getElem?_toArray, List.getElem?_cons, AThen_n, AThen_e, AThen_r, ABlock_n, ABlock_e, ABlock_r, ANoGoto_n, ANoGoto_e, ANoGoto_r])
      | (first | refine AWp.seqScope ?_ | refine AWp.scope ?_ | refine AWp.seqLabel ?_ | refine AWp.seqSkip ?_ | refine AWp.seqBlock ?_ | refine AWp.seqSeq ?_ | refine AWp.block ?_))
    rw [left_100] at hn3
    have hO1 : ∃ β p W G, OI σ1 o1 o3 o i (rest (101 : Nat) (full P i)) (wantF P i) (fun j => cnt (gone (101 : Nat) (full P i)) j) β p W G τ3 := by
      have h2 := hO.more hn3
      refine ⟨β, p3, W, G, ?_⟩
      have e1 : rest ((101 : Nat) : Int) (full P i) = full P i := rest_all
      have e2 : gone ((101 : Nat) : Int) (full P i) = [] := gone_none
      rw [e1, e2]
      exact h2
    clear hO hn3 hg hi hi1
    have hg : (0 : Nat) = 0 := rfl
    refine AWp.loopF (fun t : Nat => [(8, int t), (6, .rs 1 o 0 i i), (5, .rs 1 o3 0 i i), (4, int i), (3, .ptr o1 0), (0, acts A)]) (fun t τ => 101 ≤ t ∧ t ≤ 111 ∧ ∃ β p W G, OI σ1 o1 o3 o i (rest t (full P i)) (wantF P i) (fun j => cnt (gone t (full P i)) j) β p W G τ) (fun t => 111 - t) 101 ?_ ⟨by omega, by omega, hO1⟩ ?_
    · (repeat' (first | exact LeF.nil _ | refine LeF.eq rfl ?_ ?_))
      all_goals first | rfl | (refine litI ?_; omega) | (refine litB ?_; simp only [Nat.add_zero]; done) | (refine litI ?_; simp only [Nat.add_zero]; try omega) | skip
    clear hO1
    rintro t τ4 ⟨ht1, ht2, β, p, W, G, hO⟩
    rcases Nat.lt_or_ge t 111 with ht3 | ht3
    · have hlr : (rest t (full P i)).length < 100000 := Nat.lt_of_le_of_lt (List.length_filter_le _ _) hl0
      have hqt := eqAll_rest t (full P i)
      have hlx : (come t (rest t (full P i))).length ≤ 1000 := Nat.le_trans (List.length_filter_le _ _) (Nat.le_trans (List.length_filter_le _ _) (by omega))
      have hstep := fun j => cnt_step t j (full P i)
      have hmem : ∀ w ∈ come t (rest t (full P i)), w ∈ full P i := fun w hw => (List.mem_filter.1 (List.mem_filter.1 hw).1).1
      have hleft := left_rest t (full P i)
      repeat' (first
        | ((first | refine AWp.seqR rfl fun K hK => ?_ | refine AWp.regK rfl fun K hK => ?_ | refine AWp.seqP fol (by kernel_rfl) fun K hK => ?_); (repeat' (((first | refine opsW_kn fun K2 hK2 => ?_ | refine opsW_kg rfl fun K2 hK2 => ?_ | refine opsPW_kn fun K2 hK2 => ?_ | refine opsPW_kg rfl fun K2 hK2 => ?_); simp (disch := first | omega | simp only [go_sem, hg]) only [hg, go_sem, ↓reduceIte, reduceCtorEq, Nat.reduceAdd, Nat.reduceMul, Nat.reduceSub, Nat.reduceEqDiff, Nat.reduceLeDiff, Nat.reduceLT, Nat.reduceBEq, Nat.reduceBNe, Int.reduceBEq, Int.reduceBNe, bne_self_eq_false, beq_self_eq_true, Int.reduceEq, Int.reduceLT, Int.reduceLE, Int.reduceNeg, Int.reduceAdd, Int.reduceSub, Int.reduceToNat, List.getElem?_toArray, List.getElem?_cons, rpcW, cond_true, cond_false, decide_eq_true_eq, decide_eq_false_iff_not, beq_iff_eq, beq_eq_false_iff_ne, bne_iff_ne, bne_eq_false_iff_eq, Bool.not_eq_true, Bool.not_eq_false, Classical.not_not, ne_eq]; (first | apply hK2 | ((try refine Or.inl ?_); intro o ho; (try simp only [set_none, hg, not_false_eq_true, and_true, true_and] at ho); replace hg := And.intro ho hg; apply hK2) | (refine (take10 hO.net t hlr hqt).mono ?_; rintro _ τ5 ⟨rfl, p5, hn5⟩; apply hK2) | (refine ⟨fun hh => ?_, fun hh => ?_⟩ <;> replace hg := And.intro hh hg <;> first | (exfalso; omega) | apply hK2 | ((try refine Or.inl ?_); intro o ho; (try simp only [set_none, hg, not_false_eq_true, and_true, true_and] at ho); replace hg := And.intro ho hg; apply hK2) | (refine (take10 hO.net t hlr hqt).mono ?_; rintro _ τ5 ⟨rfl, p5, hn5⟩; apply hK2)) | fail)) <;> clear hK2 K2)); all_goals ((first | refine opsW_nil (hK _ _ ?_) | refine opsPW_nil (hK _ ?_)); clear hK K))
        | ((first | refine AWp.seqC fun X Y hX hY => ?_ | refine AWp.condK fun X Y hX hY => ?_); simp (disch := first | omega | simp only [go_sem, hg]) only [hg, go_sem, ↓reduceIte, reduceCtorEq, Nat.reduceAdd, Nat.reduceMul, Nat.reduceSub, Nat.reduceEqDiff, Nat.reduceLeDiff, Nat.reduceLT, Nat.reduceBEq, Nat.reduceBNe, Int.reduceBEq, Int.reduceBNe, bne_self_eq_false, beq_self_eq_true, Int.reduceEq, Int.reduceLT, Int.reduceLE, Int.reduceNeg, Int.reduceAdd, Int.reduceSub, Int.reduceToNat, List.getElem?_toArray, List.getElem?_cons, rpcW, cond_true, cond_false, decide_eq_true_eq, decide_eq_false_iff_not, beq_iff_eq, beq_eq_false_iff_ne, bne_iff_ne, bne_eq_false_iff_eq, Bool.not_eq_true, Bool.not_eq_false, Classical.not_not, ne_eq]; first | (refine ⟨fun hc => hX ?_, fun hc => hY ?_⟩ <;> replace hg := And.intro hc hg <;> first | (exfalso; omega) | skip) | refine hX ?_ | refine hY ?_) <;> clear hX hY X Y
        | ((first | refine AWp.skip ?_ | refine AWp.seqExit ?_ | refine AWp.seqRet ?_ | refine AWp.exit ?_ | refine AWp.ret ?_ | refine Eq.mpr AThen_n ?_ | refine Eq.mpr ABlock_n ?_ | refine Eq.mpr ANoGoto_n ?_); try simp (disch := first | omega | simp only [go_sem]) only [go_sem, ↓reduceIte, reduceCtorEq, Nat.reduceAdd, Nat.reduceMul, Nat.reduceSub, Nat.reduceEqDiff, Nat.reduceLeDiff, Nat.reduceLT, Nat.reduceBEq, Nat.reduceBNe, Int.reduceBEq, Int.reduceBNe, bne_self_eq_false, beq_self_eq_true, Int.reduceEq, Int.reduceLT, Int.reduceLE, Int.reduceNeg, Int.reduceAdd, Int.reduceSub, Int.reduceToNat, List.getElem?_toArray, List.getElem?_cons, AThen_n, AThen_e, AThen_r, ABlock_n, ABlock_e, ABlock_r, ANoGoto_n, ANoGoto_e, ANoGoto_r])
        | (first | refine AWp.seqScope ?_ | refine AWp.scope ?_ | refine AWp.seqLabel ?_ | refine AWp.seqSkip ?_ | refine AWp.seqBlock ?_ | refine AWp.seqSeq ?_ | refine AWp.block ?_))
      rw [hleft] at hn5
      have hO2 := hO.more hn5
      generalize come t (rest t (full P i)) = X at *
      have hgl : (gone t (full P i)).length ≤ 1000 := Nat.le_trans (List.length_filter_le _ _) (by omega)
      have hO3 : ∃ β p W G, OI σ1 o1 o3 o i (rest (t + 1) (full P i)) (wantF P i) (fun j => cnt (gone t (full P i)) j + cnt (X.take 0) j) β p W G τ5 := by
        refine ⟨β, p5, W, G, ?_⟩
        have e : (fun j => cnt (gone t (full P i)) j + cnt (X.take 0) j) = fun j => cnt (gone t (full P i)) j := by funext j; simp [cnt]
        rw [e]; exact hO2
      clear hO hn5 hO2 hg
      have hg : (0 : Nat) = 0 := rfl
      refine AWp.loopF (fun k : Nat => [(10, int k), (9, rpcs X), (8, int t), (6, .rs 1 o 0 i i), (5, .rs 1 o3 0 i i), (4, int i), (3, .ptr o1 0), (0, acts A)]) (fun k τ => k ≤ X.length ∧ ∃ β p W G, OI σ1 o1 o3 o i (rest (t + 1) (full P i)) (wantF P i) (fun j => cnt (gone t (full P i)) j + cnt (X.take k) j) β p W G τ) (fun k => X.length - k) 0 ?_ ⟨by omega, hO3⟩ ?_
      · (repeat' (first | exact LeF.nil _ | refine LeF.eq rfl ?_ ?_))
        all_goals first | rfl | (refine litI ?_; omega) | (refine litB ?_; simp only [Nat.add_zero]; done) | (refine litI ?_; simp only [Nat.add_zero]; try omega) | skip
      clear hO3
      rintro k τ6 ⟨hk, β, p, W, G, hO⟩
      rcases Nat.lt_or_ge k X.length with hk1 | hk1
      · obtain ⟨hkind, ⟨j, hj, hterm⟩, _⟩ := full_mem P (hmem _ (getD_mem hk1))
        have hgj := hO.gv j hj
        have hb4 := hO.net.sub _ _ hO.b4
        have hgl2 : j < G.length := by rw [hO.gl]; exact hj
        have hc1 := cnt_le (gone t (full P i)) j
        have hc2 := cnt_le (X.take k) j
        have hc3 := List.length_take_le' k X
        replace hg := And.intro hb4 hg
        repeat' (first
          | ((first | refine AWp.seqR rfl fun K hK => ?_ | refine AWp.regK rfl fun K hK => ?_ | refine AWp.seqP fol (by kernel_rfl) fun K hK => ?_); (repeat' (((first | refine opsW_kn fun K2 hK2 => ?_ | refine opsW_kg rfl fun K2 hK2 => ?_ | refine opsPW_kn fun K2 hK2 => ?_ | refine opsPW_kg rfl fun K2 hK2 => ?_); simp (disch := first | omega | simp only [go_sem, hg]) only [hg, go_sem, ↓reduceIte, reduceCtorEq, Nat.reduceAdd, Nat.reduceMul, Nat.reduceSub, Nat.reduceEqDiff, Nat.reduceLeDiff, Nat.reduceLT, Nat.reduceBEq, Nat.reduceBNe, Int.reduceBEq, Int.reduceBNe, bne_self_eq_false, beq_self_eq_true, Int.reduceEq, Int.reduceLT, Int.reduceLE, Int.reduceNeg, Int.reduceAdd, Int.reduceSub, Int.reduceToNat, List.getElem?_toArray, List.getElem?_cons, rpcW, hterm, hkind, intP, hgj, cond_true, cond_false, decide_eq_true_eq, decide_eq_false_iff_not, beq_iff_eq, beq_eq_false_iff_ne, bne_iff_ne, bne_eq_false_iff_eq, Bool.not_eq_true, Bool.not_eq_false, Classical.not_not, ne_eq]; (first | apply hK2 | ((try refine Or.inl ?_); intro o ho; (try simp only [set_none, hg, not_false_eq_true, and_true, true_and] at ho); replace hg := And.intro ho hg; apply hK2) | (refine ⟨fun hh => ?_, fun hh => ?_⟩ <;> replace hg := And.intro hh hg <;> first | (exfalso; omega) | apply hK2 | ((try refine Or.inl ?_); intro o ho; (try simp only [set_none, hg, not_false_eq_true, and_true, true_and] at ho); replace hg := And.intro ho hg; apply hK2)) | fail)) <;> clear hK2 K2)); all_goals ((first | refine opsW_nil (hK _ _ ?_) | refine opsPW_nil (hK _ ?_)); clear hK K))
          | ((first | refine AWp.seqC fun X Y hX hY => ?_ | refine AWp.condK fun X Y hX hY => ?_); simp (disch := first | omega | simp only [go_sem, hg]) only [hg, go_sem, ↓reduceIte, reduceCtorEq, Nat.reduceAdd, Nat.reduceMul, Nat.reduceSub, Nat.reduceEqDiff, Nat.reduceLeDiff, Nat.reduceLT, Nat.reduceBEq, Nat.reduceBNe, Int.reduceBEq, Int.reduceBNe, bne_self_eq_false, beq_self_eq_true, Int.reduceEq, Int.reduceLT, Int.reduceLE, Int.reduceNeg, Int.reduceAdd, Int.reduceSub, Int.reduceToNat, List.getElem?_toArray, List.getElem?_cons, rpcW, hterm, hkind, intP, hgj, cond_true, cond_false, decide_eq_true_eq, decide_eq_false_iff_not, beq_iff_eq, beq_eq_false_iff_ne, bne_iff_ne, bne_eq_false_iff_eq, Bool.not_eq_true, Bool.not_eq_false, Classical.not_not, ne_eq]; first | (refine ⟨fun hc => hX ?_, fun hc => hY ?_⟩ <;> replace hg := And.intro hc hg <;> first | (exfalso; omega) | skip) | refine hX ?_ | refine hY ?_) <;> clear hX hY X Y
          | ((first | refine AWp.skip ?_ | refine AWp.seqExit ?_ | refine AWp.seqRet ?_ | refine AWp.exit ?_ | refine AWp.ret ?_ | refine Eq.mpr AThen_n ?_ | refine Eq.mpr ABlock_n ?_ | refine Eq.mpr ANoGoto_n ?_); try simp (disch := first | omega | simp only [go_sem]) only [go_sem, ↓reduceIte, reduceCtorEq, Nat.reduceAdd, Nat.reduceMul, Nat.reduceSub, Nat.reduceEqDiff, Nat.reduceLeDiff, Nat.reduceLT, Nat.reduceBEq, Nat.reduceBNe, Int.reduceBEq, Int.reduceBNe, bne_self_eq_false, beq_self_eq_true, Int.reduceEq, Int.reduceLT, Int.reduceLE, Int.reduceNeg, Int.reduceAdd, Int.reduceSub, Int.reduceToNat, List.getElem?_toArray, List.getElem?_cons, AThen_n, AThen_e, AThen_r, ABlock_n, ABlock_e, ABlock_r, ANoGoto_n, ANoGoto_e, ANoGoto_r])
          | (first | refine AWp.seqScope ?_ | refine AWp.scope ?_ | refine AWp.seqLabel ?_ | refine AWp.seqSkip ?_ | refine AWp.seqBlock ?_ | refine AWp.seqSeq ?_ | refine AWp.block ?_))
        refine ⟨k + 1, by omega, ?_, by omega, _, _, _, _, hO.setG hj (cnt (gone t (full P i)) j + cnt (X.take k) j + 1) ?_⟩
        · (repeat' (first | exact LeF.nil _ | refine LeF.eq rfl ?_ ?_))
          all_goals first | rfl | (refine litI ?_; omega) | (refine litB ?_; simp only [Nat.add_zero]; done) | (refine litI ?_; simp only [Nat.add_zero]; try omega) | skip
        · intro j2 hj2
          rw [take_next hk1, cnt_app]
          have e1 : cnt [X.getD k default] j2 = if j2 = j then 1 else 0 := by
            unfold cnt
            simp only [List.countP_cons, List.countP_nil, hterm]
            by_cases e : j2 = j
            · subst e; simp
            · rw [if_neg e]; simp; omega
          rw [e1]
          by_cases e : j2 = j
          · subst e; simp; omega
          · rw [if_neg e, if_neg e]; omega
      · have hkl : k = X.length := by omega
        subst hkl
        repeat' (first
          | ((first | refine AWp.seqR rfl fun K hK => ?_ | refine AWp.regK rfl fun K hK => ?_ | refine AWp.seqP fol (by kernel_rfl) fun K hK => ?_); (repeat' (((first | refine opsW_kn fun K2 hK2 => ?_ | refine opsW_kg rfl fun K2 hK2 => ?_ | refine opsPW_kn fun K2 hK2 => ?_ | refine opsPW_kg rfl fun K2 hK2 => ?_); simp (disch := first | omega | simp only [go_sem, hg]) only [hg, go_sem, ↓reduceIte, reduceCtorEq, Nat.reduceAdd, Nat.reduceMul, Nat.reduceSub, Nat.reduceEqDiff, Nat.reduceLeDiff, Nat.reduceLT, Nat.reduceBEq, Nat.reduceBNe, Int.reduceBEq, Int.reduceBNe, bne_self_eq_false, beq_self_eq_true, Int.reduceEq, Int.reduceLT, Int.reduceLE, Int.reduceNeg, Int.reduceAdd, Int.reduceSub, Int.reduceToNat, List.getElem?_toArray, List.getElem?_cons, rpcW, cond_true, cond_false, decide_eq_true_eq, decide_eq_false_iff_not, beq_iff_eq, beq_eq_false_iff_ne, bne_iff_ne, bne_eq_false_iff_eq, Bool.not_eq_true, Bool.not_eq_false, Classical.not_not, ne_eq]; (first | apply hK2 | ((try refine Or.inl ?_); intro o ho; (try simp only [set_none, hg, not_false_eq_true, and_true, true_and] at ho); replace hg := And.intro ho hg; apply hK2) | (refine ⟨fun hh => ?_, fun hh => ?_⟩ <;> replace hg := And.intro hh hg <;> first | (exfalso; omega) | apply hK2 | ((try refine Or.inl ?_); intro o ho; (try simp only [set_none, hg, not_false_eq_true, and_true, true_and] at ho); replace hg := And.intro ho hg; apply hK2)) | fail)) <;> clear hK2 K2)); all_goals ((first | refine opsW_nil (hK _ _ ?_) | refine opsPW_nil (hK _ ?_)); clear hK K))
          | ((first | refine AWp.seqC fun X Y hX hY => ?_ | refine AWp.condK fun X Y hX hY => ?_); simp (disch := first | omega | simp only [go_sem, hg]) only [hg, go_sem, ↓reduceIte, reduceCtorEq, Nat.reduceAdd, Nat.reduceMul, Nat.reduceSub, Nat.reduceEqDiff, Nat.reduceLeDiff, Nat.reduceLT, Nat.reduceBEq, Nat.reduceBNe, Int.reduceBEq, Int.reduceBNe, bne_self_eq_false, beq_self_eq_true, Int.reduceEq, Int.reduceLT, Int.reduceLE, Int.reduceNeg, Int.reduceAdd, Int.reduceSub, Int.reduceToNat, List.getElem?_toArray, List.getElem?_cons, rpcW, cond_true, cond_false, decide_eq_true_eq, decide_eq_false_iff_not, beq_iff_eq, beq_eq_false_iff_ne, bne_iff_ne, bne_eq_false_iff_eq, Bool.not_eq_true, Bool.not_eq_false, Classical.not_not, ne_eq]; first | (refine ⟨fun hc => hX ?_, fun hc => hY ?_⟩ <;> replace hg := And.intro hc hg <;> first | (exfalso; omega) | skip) | refine hX ?_ | refine hY ?_) <;> clear hX hY X Y
          | ((first | refine AWp.skip ?_ | refine AWp.seqExit ?_ | refine AWp.seqRet ?_ | refine AWp.exit ?_ | refine AWp.ret ?_ | refine Eq.mpr AThen_n ?_ | refine Eq.mpr ABlock_n ?_ | refine Eq.mpr ANoGoto_n ?_); try simp (disch := first | omega | simp only [go_sem]) only [go_sem, ↓reduceIte, reduceCtorEq, Nat.reduceAdd, Nat.reduceMul, Nat.reduceSub, Nat.reduceEqDiff, Nat.reduceLeDiff, Nat.reduceLT, Nat.reduceBEq, Nat.reduceBNe, Int.reduceBEq, Int.reduceBNe, bne_self_eq_false, beq_self_eq_true, Int.reduceEq, Int.reduceLT, Int.reduceLE, Int.reduceNeg, Int.reduceAdd, Int.reduceSub, Int.reduceToNat, List.getElem?_toArray, List.getElem?_cons, AThen_n, AThen_e, AThen_r, ABlock_n, ABlock_e, ABlock_r, ANoGoto_n, ANoGoto_e, ANoGoto_r])
          | (first | refine AWp.seqScope ?_ | refine AWp.scope ?_ | refine AWp.seqLabel ?_ | refine AWp.seqSkip ?_ | refine AWp.seqBlock ?_ | refine AWp.seqSeq ?_ | refine AWp.block ?_))
        refine ⟨t + 1, by omega, ?_, by omega, by omega, β, p, W, G, ?_⟩
        · (repeat' (first | exact LeF.nil _ | refine LeF.eq rfl ?_ ?_))
          all_goals first | rfl | (refine litI ?_; omega) | (refine litB ?_; simp only [Nat.add_zero]; done) | (refine litI ?_; simp only [Nat.add_zero]; try omega) | skip
        · have e1 : ((t + 1 : Nat) : Int) = (t : Int) + 1 := by omega
          have e2 : (fun j => cnt (gone t (full P i)) j + cnt (X.take X.length) j) = fun j => cnt (gone ((t : Int) + 1) (full P i)) j := by
            funext j; rw [List.take_length]; exact hstep j
          rw [e2] at hO
          rw [e1]; exact hO
    · have ht4 : t = 111 := by omega
      subst ht4
      have hr0 : rest ((111 : Nat) : Int) (full P i) = [] := rest_none
      have hg0 : gone ((111 : Nat) : Int) (full P i) = full P i := gone_all
      rw [hr0, hg0] at hO
      have hWG : W = G := by
        apply List.ext_getElem (by rw [hO.wl, hO.gl])
        intro j h1 h2
        have hj : j < i := by rw [← hO.wl]; exact h1
        have e1 := hO.wv j hj
        have e2 := hO.gv j hj
        rw [getD_get h1] at e1
        rw [getD_get h2] at e2
        rw [e1, e2, cnt_full, wantF]
      have hb3 := hO.net.sub _ _ hO.b3
      have hb4 := hO.net.sub _ _ hO.b4
      refine AWp.narrow [(8, int 111), (6, .rs 1 o 0 i i), (5, .rs 1 o3 0 i i), (3, .ptr o1 0)] ?_ ?_
      · (repeat' (first | exact LeF.nil _ | refine LeF.eq rfl ?_ ?_))
        all_goals first | rfl | (refine litI ?_; omega) | (refine litB ?_; simp only [Nat.add_zero]; done) | (refine litI ?_; simp only [Nat.add_zero]; try omega) | skip
      refine AWp.freeze o3 hb3 (AWp.freeze o (by rw [drop_other (Ne.symm hO.ne)]; exact hb4) ?_)
      have hn3 := (hO.net.dropB hO.b3).dropB (by rw [drop_other (Ne.symm hO.ne)]; exact hO.b4)
      have hno1 : ¬ o1 = o3 := fun e => by have := hO.net.no; rw [e, hO.b3] at this; cases this
      have hno2 : ¬ o1 = o := fun e => by have := hO.net.no; rw [e, hO.b4] at this; cases this
      have hsub : Sub σ1 ((β.drop o3).drop o) := (hO.sub.drop hO.s3).drop hO.s4
      have f1 : frz o3 (W.map intP) (.rs 1 o3 0 i i) = ints W := frz_rs1 hO.wl.symm
      have f2 : frz o (G.map intP) (.rs 1 o 0 i i) = ints G := frz_rs1 hO.gl.symm
      have hnum := eqNums (glob := glob) W G (by rw [hO.wl]; omega) hWG
      simp only [List.map_cons, List.map_nil, f1, f2, frz_rs_ne (show ¬ o = o3 from Ne.symm hO.ne), frz_ptr_ne hno1, frz_ptr_ne hno2, frz_lit, int, ints, frz_vs]
      clear hg
      have hg : (0 : Nat) = 0 := rfl
      simp only [ints] at hnum
      repeat' (first
        | ((first | refine AWp.seqR rfl fun K hK => ?_ | refine AWp.regK rfl fun K hK => ?_ | refine AWp.seqP fol (by kernel_rfl) fun K hK => ?_); (repeat' (((first | refine opsW_kn fun K2 hK2 => ?_ | refine opsW_kg rfl fun K2 hK2 => ?_ | refine opsPW_kn fun K2 hK2 => ?_ | refine opsPW_kg rfl fun K2 hK2 => ?_); simp (disch := first | omega | simp only [go_sem, hg]) only [hg, go_sem, ↓reduceIte, reduceCtorEq, Nat.reduceAdd, Nat.reduceMul, Nat.reduceSub, Nat.reduceEqDiff, Nat.reduceLeDiff, Nat.reduceLT, Nat.reduceBEq, Nat.reduceBNe, Int.reduceBEq, Int.reduceBNe, bne_self_eq_false, beq_self_eq_true, Int.reduceEq, Int.reduceLT, Int.reduceLE, Int.reduceNeg, Int.reduceAdd, Int.reduceSub, Int.reduceToNat, List.getElem?_toArray, List.getElem?_cons, cond_true, cond_false, decide_eq_true_eq, decide_eq_false_iff_not, beq_iff_eq, beq_eq_false_iff_ne, bne_iff_ne, bne_eq_false_iff_eq, Bool.not_eq_true, Bool.not_eq_false, Classical.not_not, ne_eq]; (first | apply hK2 | ((try refine Or.inl ?_); intro o ho; (try simp only [set_none, hg, not_false_eq_true, and_true, true_and] at ho); replace hg := And.intro ho hg; apply hK2) | (refine Pur.call (hnum) ?_; apply hK2) | (refine (count12 hn3).mono ?_; rintro _ _ ⟨rfl, rfl⟩; apply hK2) | (refine wakes13.mono ?_; rintro _ τ8 ⟨rfl, hs8⟩; apply hK2) | (refine ⟨fun hh => ?_, fun hh => ?_⟩ <;> replace hg := And.intro hh hg <;> first | (exfalso; omega) | apply hK2 | ((try refine Or.inl ?_); intro o ho; (try simp only [set_none, hg, not_false_eq_true, and_true, true_and] at ho); replace hg := And.intro ho hg; apply hK2) | (refine Pur.call (hnum) ?_; apply hK2) | (refine (count12 hn3).mono ?_; rintro _ _ ⟨rfl, rfl⟩; apply hK2) | (refine wakes13.mono ?_; rintro _ τ8 ⟨rfl, hs8⟩; apply hK2)) | fail)) <;> clear hK2 K2)); all_goals ((first | refine opsW_nil (hK _ _ ?_) | refine opsPW_nil (hK _ ?_)); clear hK K))
        | ((first | refine AWp.seqC fun X Y hX hY => ?_ | refine AWp.condK fun X Y hX hY => ?_); simp (disch := first | omega | simp only [go_sem, hg]) only [hg, go_sem, ↓reduceIte, reduceCtorEq, Nat.reduceAdd, Nat.reduceMul, Nat.reduceSub, Nat.reduceEqDiff, Nat.reduceLeDiff, Nat.reduceLT, Nat.reduceBEq, Nat.reduceBNe, Int.reduceBEq, Int.reduceBNe, bne_self_eq_false, beq_self_eq_true, Int.reduceEq, Int.reduceLT, Int.reduceLE, Int.reduceNeg, Int.reduceAdd, Int.reduceSub, Int.reduceToNat, List.getElem?_toArray, List.getElem?_cons, cond_true, cond_false, decide_eq_true_eq, decide_eq_false_iff_not, beq_iff_eq, beq_eq_false_iff_ne, bne_iff_ne, bne_eq_false_iff_eq, Bool.not_eq_true, Bool.not_eq_false, Classical.not_not, ne_eq]; first | (refine ⟨fun hc => hX ?_, fun hc => hY ?_⟩ <;> replace hg := And.intro hc hg <;> first | (exfalso; omega) | skip) | refine hX ?_ | refine hY ?_) <;> clear hX hY X Y
        | ((first | refine AWp.skip ?_ | refine AWp.seqExit ?_ | refine AWp.seqRet ?_ | refine AWp.exit ?_ | refine AWp.ret ?_ | refine Eq.mpr AThen_n ?_ | refine Eq.mpr ABlock_n ?_ | refine Eq.mpr ANoGoto_n ?_); try simp (disch := first | omega | simp only [go_sem]) only [go_sem, ↓reduceIte, reduceCtorEq, Nat.reduceAdd, Nat.reduceMul, Nat.reduceSub, Nat.reduceEqDiff, Nat.reduceLeDiff, Nat.reduceLT, Nat.reduceBEq, Nat.reduceBNe, Int.reduceBEq, Int.reduceBNe, bne_self_eq_false, beq_self_eq_true, Int.reduceEq, Int.reduceLT, Int.reduceLE, Int.reduceNeg, Int.reduceAdd, Int.reduceSub, Int.reduceToNat, List.getElem?_toArray, List.getElem?_cons, AThen_n, AThen_e, AThen_r, ABlock_n, ABlock_e, ABlock_r, ANoGoto_n, ANoGoto_e, ANoGoto_r])
        | (first | refine AWp.seqScope ?_ | refine AWp.scope ?_ | refine AWp.seqLabel ?_ | refine AWp.seqSkip ?_ | refine AWp.seqBlock ?_ | refine AWp.seqSeq ?_ | refine AWp.block ?_))
      exact Hand.mk ⟨rfl, hsub.trans (hn3.sub.trans hs8)⟩
end Go.Proofs
