/- A net: what comes. -/
import Derived.Test.YtlcbjenehogfmaaND
set_option linter.unusedSimpArgs false
set_option linter.unusedVariables false
namespace Go.Proofs
open Go Go.Abs
variable {glob : Nat → PV}
set_option maxRecDepth 10000
set_option maxHeartbeats 4000000
attribute [local go_sem] int  bool  str
def owner : PV → Nat → Prop
  | .rs _ o _ _ _, i => i = o
  | _, _ => False
abbrev rpcW (w : WayD) : List PV := rpcC w.kind w.term
theorem rpcW_len (w : WayD) : (rpcW w).length = 11 := rfl
abbrev rpcs (A : List WayD) : PV := .vs 11 (A.map rpcW)
/-- Two rows of their own, beside a net. -/
structure Two (σ : Store) (o : Nat) (A B : List WayD) (pa pb : PV) (τ : Store) : Prop where
  no : σ o = none
  sub : Sub σ τ
  at_ : ∃ x, τ o = some (.cells [x])
  ra : Row 12 wayC σ (fun i => i = o ∨ owner pb i) A pa τ
  rb : Row 12 wayC σ (fun i => i = o ∨ owner pa i) B pb τ
theorem Two.swap {σ τ : Store} {o : Nat} {A B : List WayD} {pa pb : PV} (h : Two σ o A B pa pb τ) : Two σ o B A pb pa τ := ⟨h.no, h.sub, h.at_, h.rb, h.ra⟩
theorem Row.owned {k : Nat} {α : Type} {f : α → List PV} {σ τ : Store} {not : Nat → Prop} {L : List α} {p : PV} (h : Row k f σ not L p τ) {i : Nat} (hi : owner p i) : ∃ y, τ i = some y := by
  rcases h with ⟨e1, e2⟩ | ⟨o2, e1, e2, e3, e4, e5⟩
  · subst e2; exact hi.elim
  · subst e4; simp only [owner] at hi; subst hi; exact ⟨_, e5⟩
theorem Row.notO {k : Nat} {α : Type} {f : α → List PV} {σ τ : Store} {not : Nat → Prop} {L : List α} {p : PV} (h : Row k f σ not L p τ) {i : Nat} (hi : owner p i) : ¬ not i := by
  rcases h with ⟨e1, e2⟩ | ⟨o2, e1, e2, e3, e4, e5⟩
  · subst e2; exact hi.elim
  · subst e4; simp only [owner] at hi; subst hi; exact e2
theorem Row.re {k : Nat} {α : Type} {f : α → List PV} {σ τ τ' : Store} {not not' : Nat → Prop} {L : List α} {p : PV} (h : Row k f σ not L p τ) (h1 : ∀ i, owner p i → τ' i = τ i) (h2 : ∀ i, owner p i → ¬ not' i) : Row k f σ not' L p τ' := by
  rcases h with h | ⟨o2, e1, e2, e3, e4, e5⟩
  · exact .inl h
  · subst e4
    exact .inr ⟨o2, e1, h2 o2 rfl, e3, rfl, by rw [h1 o2 rfl]; exact e5⟩
theorem Two.appA {σ τ : Store} {o : Nat} {A B : List WayD} {pa pb : PV} (h : Two σ o A B pa pb τ) (x : WayD) (hsz : (A.length + 1) * 136 ≤ 140737488355328) {K : PV → Store → Prop} (hk : ∀ p' τ', Two σ o (A ++ [x]) B p' pb τ' → K p' τ') : appW 12 136 τ pa 1 (wayC x) K := by
  obtain ⟨y, hy⟩ := h.at_
  refine h.ra.app1 h.sub (fun i hi => ?_) wayC_len x hsz fun p' τ' hs hi hr => hk p' τ' ⟨h.no, hs, ⟨y, (hi o (.inl rfl)).trans hy⟩, hr, h.rb.re (fun i h2 => hi i (.inr h2)) fun i h2 h3 => ?_⟩
  · rcases hi with rfl | hi
    · exact ⟨_, hy⟩
    · exact h.rb.owned hi
  · rcases h3 with h3 | h3
    · exact h.rb.notO h2 (.inl h3)
    · exact hr.notO h3 (.inr h2)
/-- A round's own variable. -/
theorem Two.more {σ τ : Store} {o : Nat} {A B : List WayD} {pa pb : PV} (h : Two σ o A B pa pb τ) {o2 : Nat} {y : PObj} (h2 : τ o2 = none) : Two σ o A B pa pb (τ.set o2 y) := by
  obtain ⟨x, hx⟩ := h.at_
  have ne : ∀ i z, τ i = some z → ¬ i = o2 := fun i z hz e => by subst e; rw [h2] at hz; cases hz
  refine ⟨h.no, h.sub.set (h.sub.none h2), ⟨x, by rw [set_other (ne _ _ hx)]; exact hx⟩, h.ra.re (fun i hi => ?_) (fun i hi => h.ra.notO hi), h.rb.re (fun i hi => ?_) (fun i hi => h.rb.notO hi)⟩
  · obtain ⟨z, hz⟩ := h.ra.owned hi; exact set_other (ne _ _ hz)
  · obtain ⟨z, hz⟩ := h.rb.owned hi; exact set_other (ne _ _ hz)
theorem _root_.Go.Abs.Grow.more {α : Type} {k : Nat} {f : α → List PV} {ρ τ : Store} {L : List α} {p : PV} (h : Grow k f ρ L p τ) {o : Nat} {x : PObj} (ho : τ o = none) : ∃ ρ', Sub ρ ρ' ∧ Grow k f ρ' L p (τ.set o x) := by
  cases h with
  | nil => exact ⟨_, (Sub.refl _).set ho, .nil⟩
  | some o' L hL τ hs hn h =>
    have hρo : ρ o = none := hs.none ho
    refine ⟨ρ, .refl _, .some o' L hL _ (hs.set hρo) hn ?_⟩
    have : ¬ o' = o := fun e => by subst e; rw [ho] at h; cases h
    rw [set_other this]; exact h
theorem _root_.Go.Abs.Grow.hand2 {α : Type} {k : Nat} {f : α → List PV} {σ ρ τ : Store} {L : List α} {p : PV} (h : Grow k f ρ L p τ) (hk : ∀ x, (f x).length = k) (hσ : Sub σ ρ) {K : PV → Store → Prop} (hw : K (.vs k (L.map f)) σ) : Hand K p τ := by
  cases h with
  | nil => exact .done (Le.nil_vs k) hσ hw
  | some o L hL τ hs hn h =>
    refine .freeze h ?_
    rw [frz_rows hk]
    exact .done (.refl _) (hσ.trans (hs.drop hn)) hw
def comeB (now : Int) (w : WayD) : Bool := decide (w.at_ ≤ now)
abbrev come (now : Int) (L : List WayD) : List WayD := L.filter (comeB now)
abbrev left (now : Int) (L : List WayD) : List WayD := L.filter fun w => !comeB now w
theorem filt_next {so : WayD → Bool} {A : List WayD} {i : Nat} (h : i < A.length) : (A.take (i + 1)).filter so = (A.take i).filter so ++ (if so (A.getD i default) = true then [A.getD i default] else []) := by
  rw [take_next h, List.filter_append]; congr 1; simp [List.filter_cons]
theorem filt_le {so : WayD → Bool} {A : List WayD} {i : Nat} : ((A.take i).filter so).length ≤ A.length := Nat.le_trans (List.length_filter_le _ _) (List.length_take_le' _ _)
theorem take10 {σ τ : Store} {o : Nat} {L : List WayD} {p : PV} (h : NetAt σ o L p τ) (now : Int) (hL : L.length < 100000) (he : EqAll (come now L)) :
    ACalls Try.prog glob 10 [.ptr o 0, int now] τ (fun r τ' => r = rpcs (come now L) ∧ ∃ p', NetAt σ o (left now L) p' τ') := by
  have h1 := h.at_
  have hno := h.no
  have hrow := h.row
  have hsub := h.sub
  have h27 := sort27 (glob := glob) (come now L) (Nat.lt_of_le_of_lt (List.length_filter_le _ _) (by omega)) he
  refine ACalls.of_body' (n := 52) [.tmp 4] Try.func10 rfl (by kernel_rfl) Try.ntmps10 (by simp only [List.length_cons, List.length_nil]; decide) rfl ?_
  have hg : (0 : Nat) = 0 := rfl
  replace hg := And.intro h1 hg
  repeat' (first
    | ((first | refine AWp.seqR rfl fun K hK => ?_ | refine AWp.regK rfl fun K hK => ?_ | refine AWp.seqP fol (by kernel_rfl) fun K hK => ?_); (repeat' (((first | refine opsW_kn fun K2 hK2 => ?_ | refine opsW_kg rfl fun K2 hK2 => ?_ | refine opsPW_kn fun K2 hK2 => ?_ | refine opsPW_kg rfl fun K2 hK2 => ?_); simp (disch := first | omega | simp only [go_sem, hg]) only [hg, go_sem, ↓reduceIte, reduceCtorEq, Nat.reduceAdd, Nat.reduceMul, Nat.reduceSub, Nat.reduceEqDiff, Nat.reduceLeDiff, Nat.reduceLT, Nat.reduceBEq, Nat.reduceBNe, Int.reduceBEq, Int.reduceBNe, bne_self_eq_false, beq_self_eq_true, Int.reduceEq, Int.reduceLT, Int.reduceLE, Int.reduceNeg, Int.reduceAdd, Int.reduceSub, Int.reduceToNat, List.getElem?_toArray, List.getElem?_cons, cond_true, cond_false, decide_eq_true_eq, decide_eq_false_iff_not, beq_iff_eq, beq_eq_false_iff_ne, bne_iff_ne, bne_eq_false_iff_eq, Bool.not_eq_true, Bool.not_eq_false, Classical.not_not, ne_eq]; (first | apply hK2 | ((try refine Or.inl ?_); intro o ho; (try simp only [set_none, hg, not_false_eq_true, and_true, true_and] at ho); replace hg := And.intro ho hg; apply hK2) | (refine hrow.lenE ⟨_, Try.underlying48⟩ ?_; apply hK2) | (refine ⟨fun hh => ?_, fun hh => ?_⟩ <;> replace hg := And.intro hh hg <;> first | (exfalso; omega) | apply hK2 | ((try refine Or.inl ?_); intro o ho; (try simp only [set_none, hg, not_false_eq_true, and_true, true_and] at ho); replace hg := And.intro ho hg; apply hK2) | (refine hrow.lenE ⟨_, Try.underlying48⟩ ?_; apply hK2)) | fail)) <;> clear hK2 K2)); all_goals ((first | refine opsW_nil (hK _ _ ?_) | refine opsPW_nil (hK _ ?_)); clear hK K))
    | ((first | refine AWp.seqC fun X Y hX hY => ?_ | refine AWp.condK fun X Y hX hY => ?_); simp (disch := first | omega | simp only [go_sem, hg]) only [hg, go_sem, ↓reduceIte, reduceCtorEq, Nat.reduceAdd, Nat.reduceMul, Nat.reduceSub, Nat.reduceEqDiff, Nat.reduceLeDiff, Nat.reduceLT, Nat.reduceBEq, Nat.reduceBNe, Int.reduceBEq, Int.reduceBNe, bne_self_eq_false, beq_self_eq_true, Int.reduceEq, Int.reduceLT, Int.reduceLE, Int.reduceNeg, Int.reduceAdd, Int.reduceSub, Int.reduceToNat, List.getElem?_toArray, List.getElem?_cons, cond_true, cond_false, decide_eq_true_eq, decide_eq_false_iff_not, beq_iff_eq, beq_eq_false_iff_ne, bne_iff_ne, bne_eq_false_iff_eq, Bool.not_eq_true, Bool.not_eq_false, Classical.not_not, ne_eq]; first | (refine ⟨fun hc => hX ?_, fun hc => hY ?_⟩ <;> replace hg := And.intro hc hg <;> first | (exfalso; omega) | skip) | refine hX ?_ | refine hY ?_) <;> clear hX hY X Y
    | ((first | refine AWp.skip ?_ | refine AWp.seqExit ?_ | refine AWp.seqRet ?_ | refine AWp.exit ?_ | refine AWp.ret ?_ | refine Eq.mpr AThen_n ?_ | refine Eq.mpr ABlock_n ?_ | refine Eq.mpr ANoGoto_n ?_); try simp (disch := first | omega | simp only [go_sem]) only [go_sem, ↓reduceIte, reduceCtorEq, Nat.reduceAdd, Nat.reduceMul, Nat.reduceSub, Nat.reduceEqDiff, Nat.reduceLeDiff, Nat.reduceLT, Nat.reduceBEq, Nat.reduceBNe, Int.reduceBEq, Int.reduceBNe, bne_self_eq_false, beq_self_eq_true, Int.reduceEq, Int.reduceLT, Int.reduceLE, Int.reduceNeg, Int.reduceAdd, Int.reduceSub, Int.reduceToNat, List.getElem?_toArray, List.getElem?_cons, AThen_n, AThen_e, AThen_r, ABlock_n, ABlock_e, ABlock_r, ANoGoto_n, ANoGoto_e, ANoGoto_r])
    | (first | refine AWp.seqScope ?_ | refine AWp.scope ?_ | refine AWp.seqLabel ?_ | refine AWp.seqSkip ?_ | refine AWp.seqBlock ?_ | refine AWp.seqSeq ?_ | refine AWp.block ?_))
  refine AWp.narrow [(16, int 0), (15, int L.length), (14, p), (6, nilS), (5, nilS), (4, nilS), (1, int now), (0, .ptr o 0)] ?_ ?_
  · (repeat' (first | exact LeF.nil _ | refine LeF.eq rfl ?_ ?_))
    all_goals first | rfl | (refine litI ?_; omega) | (refine litB ?_; simp only [Nat.add_zero]; done) | (refine litI ?_; simp only [Nat.add_zero]; try omega) | skip
  have hfr : ∀ {c : Code} {Q : Post}, (∀ τ', Sub σ τ' → (∃ x, τ' o = some (.cells [x])) → AWp Try.prog glob 52 c [(16, int 0), (15, int L.length), (14, ways L), (6, nilS), (5, nilS), (4, nilS), (1, int now), (0, .ptr o 0)] τ' Q) → AWp Try.prog glob 52 c [(16, int 0), (15, int L.length), (14, p), (6, nilS), (5, nilS), (4, nilS), (1, int now), (0, .ptr o 0)] τ Q := fun hk => by
    rcases hrow with ⟨e1, e2⟩ | ⟨o2, e1, e2, e3, e4, e5⟩
    · subst e1; subst e2
      exact (hk τ hsub ⟨_, h1⟩).weaken (.keep rfl (.keep rfl (.cons rfl (Le.nil_vs 12) (.keep rfl (.keep rfl (.keep rfl (.keep rfl (.keep rfl (.nil _))))))))) (.refl _)
    · subst e4
      refine .freeze o2 e5 ?_
      simp only [List.map_cons, List.map_nil, frz_rows wayC_len, frz_ptr_ne (fun e => e2 e.symm), frz_lit, int, frz_vs]
      exact hk _ (hsub.drop e1) ⟨_, by rw [drop_other (fun e => e2 e.symm)]; exact h1⟩
  refine hfr fun τ1 hs1 hx1 => ?_
  clear hfr hg
  have hg : (0 : Nat) = 0 := rfl
  refine AWp.loopF (fun x : Nat × PV × PV => [(16, int x.1), (15, int L.length), (14, ways L), (6, x.2.2), (5, x.2.1), (4, nilS), (1, int now), (0, .ptr o 0)]) (fun x τ' => x.1 ≤ L.length ∧ Two σ o (come now (L.take x.1)) (left now (L.take x.1)) x.2.1 x.2.2 τ') (fun x => L.length - x.1) (0, nilS, nilS) ?_ ⟨by simp, hno, hs1, hx1, .inl ⟨by simp, rfl⟩, .inl ⟨by simp, rfl⟩⟩ ?_
  · (repeat' (first | exact LeF.nil _ | refine LeF.eq rfl ?_ ?_))
    all_goals first | rfl | (refine litI ?_; omega) | (refine litB ?_; simp only [Nat.add_zero]; done) | (refine litI ?_; simp only [Nat.add_zero]; try omega) | skip
  rintro ⟨i, pc, pl⟩ τ2 ⟨hi, hT⟩
  simp only at hi hT
  rcases Nat.lt_or_ge i L.length with hl | hl
  · have hn1 := filt_next (so := comeB now) hl
    have hn2 := filt_next (so := fun w => !comeB now w) hl
    have hc1 := filt_le (so := comeB now) (A := L) (i := i)
    have hc2 := filt_le (so := fun w => !comeB now w) (A := L) (i := i)
    have hz1 : ((come now (L.take i)).length + 1) * 136 ≤ 140737488355328 := by have : (come now (L.take i)).length ≤ L.length := hc1; omega
    have hz2 : ((left now (L.take i)).length + 1) * 136 ≤ 140737488355328 := by have : (left now (L.take i)).length ≤ L.length := hc2; omega
    cases hb : comeB now (L.getD i default)
    · have hb' : ¬ (L.getD i default).at_ ≤ now := by simpa [comeB] using hb
      simp only [hb, Bool.false_eq_true, ↓reduceIte, List.append_nil, Bool.not_false] at hn1 hn2
      replace hg := And.intro hb' hg
      repeat' (first
        | ((first | refine AWp.seqR rfl fun K hK => ?_ | refine AWp.regK rfl fun K hK => ?_ | refine AWp.seqP fol (by kernel_rfl) fun K hK => ?_); (repeat' (((first | refine opsW_kn fun K2 hK2 => ?_ | refine opsW_kg rfl fun K2 hK2 => ?_ | refine opsPW_kn fun K2 hK2 => ?_ | refine opsPW_kg rfl fun K2 hK2 => ?_); simp (disch := first | omega | simp only [go_sem, hg]) only [hg, go_sem, ↓reduceIte, reduceCtorEq, Nat.reduceAdd, Nat.reduceMul, Nat.reduceSub, Nat.reduceEqDiff, Nat.reduceLeDiff, Nat.reduceLT, Nat.reduceBEq, Nat.reduceBNe, Int.reduceBEq, Int.reduceBNe, bne_self_eq_false, beq_self_eq_true, Int.reduceEq, Int.reduceLT, Int.reduceLE, Int.reduceNeg, Int.reduceAdd, Int.reduceSub, Int.reduceToNat, List.getElem?_toArray, List.getElem?_cons, wayC, cond_true, cond_false, decide_eq_true_eq, decide_eq_false_iff_not, beq_iff_eq, beq_eq_false_iff_ne, bne_iff_ne, bne_eq_false_iff_eq, Bool.not_eq_true, Bool.not_eq_false, Classical.not_not, ne_eq]; (first | apply hK2 | (refine Or.inr ?_; apply hK2) | ((try refine Or.inl ?_); intro o ho; (try simp only [set_none, hg, not_false_eq_true, and_true, true_and] at ho); replace hg := And.intro ho hg; apply hK2) | (refine ((hT.more ho).swap.appA (L.getD i default) hz2 ?_); intro p1 τ3 hp1; apply hK2) | (refine ⟨fun hh => ?_, fun hh => ?_⟩ <;> replace hg := And.intro hh hg <;> first | (exfalso; omega) | apply hK2 | (refine Or.inr ?_; apply hK2) | ((try refine Or.inl ?_); intro o ho; (try simp only [set_none, hg, not_false_eq_true, and_true, true_and] at ho); replace hg := And.intro ho hg; apply hK2) | (refine ((hT.more ho).swap.appA (L.getD i default) hz2 ?_); intro p1 τ3 hp1; apply hK2)) | fail)) <;> clear hK2 K2)); all_goals ((first | refine opsW_nil (hK _ _ ?_) | refine opsPW_nil (hK _ ?_)); clear hK K))
        | ((first | refine AWp.seqC fun X Y hX hY => ?_ | refine AWp.condK fun X Y hX hY => ?_); simp (disch := first | omega | simp only [go_sem, hg]) only [hg, go_sem, ↓reduceIte, reduceCtorEq, Nat.reduceAdd, Nat.reduceMul, Nat.reduceSub, Nat.reduceEqDiff, Nat.reduceLeDiff, Nat.reduceLT, Nat.reduceBEq, Nat.reduceBNe, Int.reduceBEq, Int.reduceBNe, bne_self_eq_false, beq_self_eq_true, Int.reduceEq, Int.reduceLT, Int.reduceLE, Int.reduceNeg, Int.reduceAdd, Int.reduceSub, Int.reduceToNat, List.getElem?_toArray, List.getElem?_cons, wayC, cond_true, cond_false, decide_eq_true_eq, decide_eq_false_iff_not, beq_iff_eq, beq_eq_false_iff_ne, bne_iff_ne, bne_eq_false_iff_eq, Bool.not_eq_true, Bool.not_eq_false, Classical.not_not, ne_eq]; first | (refine ⟨fun hc => hX ?_, fun hc => hY ?_⟩ <;> replace hg := And.intro hc hg <;> first | (exfalso; omega) | skip) | refine hX ?_ | refine hY ?_) <;> clear hX hY X Y
        | ((first | refine AWp.skip ?_ | refine AWp.seqExit ?_ | refine AWp.seqRet ?_ | refine AWp.exit ?_ | refine AWp.ret ?_ | refine Eq.mpr AThen_n ?_ | refine Eq.mpr ABlock_n ?_ | refine Eq.mpr ANoGoto_n ?_); try simp (disch := first | omega | simp only [go_sem]) only [go_sem, ↓reduceIte, reduceCtorEq, Nat.reduceAdd, Nat.reduceMul, Nat.reduceSub, Nat.reduceEqDiff, Nat.reduceLeDiff, Nat.reduceLT, Nat.reduceBEq, Nat.reduceBNe, Int.reduceBEq, Int.reduceBNe, bne_self_eq_false, beq_self_eq_true, Int.reduceEq, Int.reduceLT, Int.reduceLE, Int.reduceNeg, Int.reduceAdd, Int.reduceSub, Int.reduceToNat, List.getElem?_toArray, List.getElem?_cons, AThen_n, AThen_e, AThen_r, ABlock_n, ABlock_e, ABlock_r, ANoGoto_n, ANoGoto_e, ANoGoto_r])
        | (first | refine AWp.seqScope ?_ | refine AWp.scope ?_ | refine AWp.seqLabel ?_ | refine AWp.seqSkip ?_ | refine AWp.seqBlock ?_ | refine AWp.seqSeq ?_ | refine AWp.block ?_))
      refine ⟨(i + 1, pc, p1), by simp only; omega, ?_, by simp only; omega, ?_⟩
      · (repeat' (first | exact LeF.nil _ | refine LeF.eq rfl ?_ ?_))
        all_goals first | rfl | (refine litI ?_; omega) | (refine litB ?_; simp only [Nat.add_zero]; done) | (refine litI ?_; simp only [Nat.add_zero]; try omega) | skip
      · simp only [come, left]; rw [hn1, hn2]; exact hp1.swap
    · have hb' : (L.getD i default).at_ ≤ now := by simpa [comeB] using hb
      simp only [hb, Bool.false_eq_true, ↓reduceIte, List.append_nil, Bool.not_true] at hn1 hn2
      replace hg := And.intro hb' hg
      repeat' (first
        | ((first | refine AWp.seqR rfl fun K hK => ?_ | refine AWp.regK rfl fun K hK => ?_ | refine AWp.seqP fol (by kernel_rfl) fun K hK => ?_); (repeat' (((first | refine opsW_kn fun K2 hK2 => ?_ | refine opsW_kg rfl fun K2 hK2 => ?_ | refine opsPW_kn fun K2 hK2 => ?_ | refine opsPW_kg rfl fun K2 hK2 => ?_); simp (disch := first | omega | simp only [go_sem, hg]) only [hg, go_sem, ↓reduceIte, reduceCtorEq, Nat.reduceAdd, Nat.reduceMul, Nat.reduceSub, Nat.reduceEqDiff, Nat.reduceLeDiff, Nat.reduceLT, Nat.reduceBEq, Nat.reduceBNe, Int.reduceBEq, Int.reduceBNe, bne_self_eq_false, beq_self_eq_true, Int.reduceEq, Int.reduceLT, Int.reduceLE, Int.reduceNeg, Int.reduceAdd, Int.reduceSub, Int.reduceToNat, List.getElem?_toArray, List.getElem?_cons, wayC, cond_true, cond_false, decide_eq_true_eq, decide_eq_false_iff_not, beq_iff_eq, beq_eq_false_iff_ne, bne_iff_ne, bne_eq_false_iff_eq, Bool.not_eq_true, Bool.not_eq_false, Classical.not_not, ne_eq]; (first | apply hK2 | (refine Or.inr ?_; apply hK2) | ((try refine Or.inl ?_); intro o ho; (try simp only [set_none, hg, not_false_eq_true, and_true, true_and] at ho); replace hg := And.intro ho hg; apply hK2) | (refine ((hT.more ho).appA (L.getD i default) hz1 ?_); intro p1 τ3 hp1; apply hK2) | (refine ⟨fun hh => ?_, fun hh => ?_⟩ <;> replace hg := And.intro hh hg <;> first | (exfalso; omega) | apply hK2 | (refine Or.inr ?_; apply hK2) | ((try refine Or.inl ?_); intro o ho; (try simp only [set_none, hg, not_false_eq_true, and_true, true_and] at ho); replace hg := And.intro ho hg; apply hK2) | (refine ((hT.more ho).appA (L.getD i default) hz1 ?_); intro p1 τ3 hp1; apply hK2)) | fail)) <;> clear hK2 K2)); all_goals ((first | refine opsW_nil (hK _ _ ?_) | refine opsPW_nil (hK _ ?_)); clear hK K))
        | ((first | refine AWp.seqC fun X Y hX hY => ?_ | refine AWp.condK fun X Y hX hY => ?_); simp (disch := first | omega | simp only [go_sem, hg]) only [hg, go_sem, ↓reduceIte, reduceCtorEq, Nat.reduceAdd, Nat.reduceMul, Nat.reduceSub, Nat.reduceEqDiff, Nat.reduceLeDiff, Nat.reduceLT, Nat.reduceBEq, Nat.reduceBNe, Int.reduceBEq, Int.reduceBNe, bne_self_eq_false, beq_self_eq_true, Int.reduceEq, Int.reduceLT, Int.reduceLE, Int.reduceNeg, Int.reduceAdd, Int.reduceSub, Int.reduceToNat, List.getElem?_toArray, List.getElem?_cons, wayC, cond_true, cond_false, decide_eq_true_eq, decide_eq_false_iff_not, beq_iff_eq, beq_eq_false_iff_ne, bne_iff_ne, bne_eq_false_iff_eq, Bool.not_eq_true, Bool.not_eq_false, Classical.not_not, ne_eq]; first | (refine ⟨fun hc => hX ?_, fun hc => hY ?_⟩ <;> replace hg := And.intro hc hg <;> first | (exfalso; omega) | skip) | refine hX ?_ | refine hY ?_) <;> clear hX hY X Y
        | ((first | refine AWp.skip ?_ | refine AWp.seqExit ?_ | refine AWp.seqRet ?_ | refine AWp.exit ?_ | refine AWp.ret ?_ | refine Eq.mpr AThen_n ?_ | refine Eq.mpr ABlock_n ?_ | refine Eq.mpr ANoGoto_n ?_); try simp (disch := first | omega | simp only [go_sem]) only [go_sem, ↓reduceIte, reduceCtorEq, Nat.reduceAdd, Nat.reduceMul, Nat.reduceSub, Nat.reduceEqDiff, Nat.reduceLeDiff, Nat.reduceLT, Nat.reduceBEq, Nat.reduceBNe, Int.reduceBEq, Int.reduceBNe, bne_self_eq_false, beq_self_eq_true, Int.reduceEq, Int.reduceLT, Int.reduceLE, Int.reduceNeg, Int.reduceAdd, Int.reduceSub, Int.reduceToNat, List.getElem?_toArray, List.getElem?_cons, AThen_n, AThen_e, AThen_r, ABlock_n, ABlock_e, ABlock_r, ANoGoto_n, ANoGoto_e, ANoGoto_r])
        | (first | refine AWp.seqScope ?_ | refine AWp.scope ?_ | refine AWp.seqLabel ?_ | refine AWp.seqSkip ?_ | refine AWp.seqBlock ?_ | refine AWp.seqSeq ?_ | refine AWp.block ?_))
      refine ⟨(i + 1, p1, pl), by simp only; omega, ?_, by simp only; omega, ?_⟩
      · (repeat' (first | exact LeF.nil _ | refine LeF.eq rfl ?_ ?_))
        all_goals first | rfl | (refine litI ?_; omega) | (refine litB ?_; simp only [Nat.add_zero]; done) | (refine litI ?_; simp only [Nat.add_zero]; try omega) | skip
      · simp only [come, left]; rw [hn1, hn2]; exact hp1
  · have hi' : i = L.length := by omega
    subst hi'
    rw [List.take_length] at hT
    have hfr : ∀ {c : Code} {Q : Post}, (∀ τ', Sub σ τ' → (∃ x, τ' o = some (.cells [x])) → Row 12 wayC σ (· = o) (left now L) pl τ' → AWp Try.prog glob 52 c [(16, int L.length), (15, int L.length), (14, ways L), (6, pl), (5, ways (come now L)), (4, nilS), (1, int now), (0, .ptr o 0)] τ' Q) → AWp Try.prog glob 52 c [(16, int L.length), (15, int L.length), (14, ways L), (6, pl), (5, pc), (4, nilS), (1, int now), (0, .ptr o 0)] τ2 Q := fun hk => by
      obtain ⟨x, hx⟩ := hT.at_
      rcases hT.ra with ⟨e1, e2⟩ | ⟨o2, e1, e2, e3, e4, e5⟩
      · rw [e1] at hk
        subst e2
        exact (hk τ2 hT.sub ⟨_, hx⟩ (hT.rb.re (fun _ _ => rfl) fun i hi h2 => hT.rb.notO hi (.inl h2))).weaken (.keep rfl (.keep rfl (.keep rfl (.keep rfl (.cons rfl (Le.nil_vs 12) (.keep rfl (.keep rfl (.keep rfl (.nil _))))))))) (.refl _)
      · subst e4
        have hno2 : ¬ o = o2 := fun e => e2 (.inl e.symm)
        have hpl : frz o2 (List.flatMap wayC (come now L)) pl = pl := by
          rcases hT.rb with ⟨_, f2⟩ | ⟨o3, _, f2, _, f4, _⟩
          · subst f2; rfl
          · subst f4; exact frz_rs_ne (fun e => f2 (.inr e))
        refine .freeze o2 e5 ?_
        simp only [List.map_cons, List.map_nil, frz_rows wayC_len, frz_ptr_ne hno2, frz_lit, int, frz_vs, hpl]
        refine hk _ (hT.sub.drop e1) ⟨_, by rw [drop_other hno2]; exact hx⟩ (hT.rb.re (fun i hi => drop_other fun e => ?_) fun i hi h2 => hT.rb.notO hi (.inl h2))
        subst e; exact hT.rb.notO hi (.inr rfl)
    refine AWp.narrow [(16, int L.length), (15, int L.length), (14, ways L), (6, pl), (5, pc), (4, nilS), (1, int now), (0, .ptr o 0)] ?_ ?_
    · (repeat' (first | exact LeF.nil _ | refine LeF.eq rfl ?_ ?_))
      all_goals first | rfl | (refine litI ?_; omega) | (refine litB ?_; simp only [Nat.add_zero]; done) | (refine litI ?_; simp only [Nat.add_zero]; try omega) | skip
    refine hfr fun τ3 hs3 hx3 hr3 => ?_
    clear hfr
    obtain ⟨x, hx⟩ := hx3
    replace hg := And.intro hx (And.intro hr3.one hg)
    repeat' (first
      | ((first | refine AWp.seqR rfl fun K hK => ?_ | refine AWp.regK rfl fun K hK => ?_ | refine AWp.seqP fol (by kernel_rfl) fun K hK => ?_); (repeat' (((first | refine opsW_kn fun K2 hK2 => ?_ | refine opsW_kg rfl fun K2 hK2 => ?_ | refine opsPW_kn fun K2 hK2 => ?_ | refine opsPW_kg rfl fun K2 hK2 => ?_); simp (disch := first | omega | simp only [go_sem, hg]) only [hg, go_sem, ↓reduceIte, reduceCtorEq, Nat.reduceAdd, Nat.reduceMul, Nat.reduceSub, Nat.reduceEqDiff, Nat.reduceLeDiff, Nat.reduceLT, Nat.reduceBEq, Nat.reduceBNe, Int.reduceBEq, Int.reduceBNe, bne_self_eq_false, beq_self_eq_true, Int.reduceEq, Int.reduceLT, Int.reduceLE, Int.reduceNeg, Int.reduceAdd, Int.reduceSub, Int.reduceToNat, List.getElem?_toArray, List.getElem?_cons, cond_true, cond_false, decide_eq_true_eq, decide_eq_false_iff_not, beq_iff_eq, beq_eq_false_iff_ne, bne_iff_ne, bne_eq_false_iff_eq, Bool.not_eq_true, Bool.not_eq_false, Classical.not_not, ne_eq]; (first | apply hK2 | ((try refine Or.inl ?_); intro o ho; (try simp only [set_none, hg, not_false_eq_true, and_true, true_and] at ho); replace hg := And.intro ho hg; apply hK2) | (refine Pur.call (h27) ?_; apply hK2) | (refine ⟨fun hh => ?_, fun hh => ?_⟩ <;> replace hg := And.intro hh hg <;> first | (exfalso; omega) | apply hK2 | ((try refine Or.inl ?_); intro o ho; (try simp only [set_none, hg, not_false_eq_true, and_true, true_and] at ho); replace hg := And.intro ho hg; apply hK2) | (refine Pur.call (h27) ?_; apply hK2)) | fail)) <;> clear hK2 K2)); all_goals ((first | refine opsW_nil (hK _ _ ?_) | refine opsPW_nil (hK _ ?_)); clear hK K))
      | ((first | refine AWp.seqC fun X Y hX hY => ?_ | refine AWp.condK fun X Y hX hY => ?_); simp (disch := first | omega | simp only [go_sem, hg]) only [hg, go_sem, ↓reduceIte, reduceCtorEq, Nat.reduceAdd, Nat.reduceMul, Nat.reduceSub, Nat.reduceEqDiff, Nat.reduceLeDiff, Nat.reduceLT, Nat.reduceBEq, Nat.reduceBNe, Int.reduceBEq, Int.reduceBNe, bne_self_eq_false, beq_self_eq_true, Int.reduceEq, Int.reduceLT, Int.reduceLE, Int.reduceNeg, Int.reduceAdd, Int.reduceSub, Int.reduceToNat, List.getElem?_toArray, List.getElem?_cons, cond_true, cond_false, decide_eq_true_eq, decide_eq_false_iff_not, beq_iff_eq, beq_eq_false_iff_ne, bne_iff_ne, bne_eq_false_iff_eq, Bool.not_eq_true, Bool.not_eq_false, Classical.not_not, ne_eq]; first | (refine ⟨fun hc => hX ?_, fun hc => hY ?_⟩ <;> replace hg := And.intro hc hg <;> first | (exfalso; omega) | skip) | refine hX ?_ | refine hY ?_) <;> clear hX hY X Y
      | ((first | refine AWp.skip ?_ | refine AWp.seqExit ?_ | refine AWp.seqRet ?_ | refine AWp.exit ?_ | refine AWp.ret ?_ | refine Eq.mpr AThen_n ?_ | refine Eq.mpr ABlock_n ?_ | refine Eq.mpr ANoGoto_n ?_); try simp (disch := first | omega | simp only [go_sem]) only [go_sem, ↓reduceIte, reduceCtorEq, Nat.reduceAdd, Nat.reduceMul, Nat.reduceSub, Nat.reduceEqDiff, Nat.reduceLeDiff, Nat.reduceLT, Nat.reduceBEq, Nat.reduceBNe, Int.reduceBEq, Int.reduceBNe, bne_self_eq_false, beq_self_eq_true, Int.reduceEq, Int.reduceLT, Int.reduceLE, Int.reduceNeg, Int.reduceAdd, Int.reduceSub, Int.reduceToNat, List.getElem?_toArray, List.getElem?_cons, AThen_n, AThen_e, AThen_r, ABlock_n, ABlock_e, ABlock_r, ANoGoto_n, ANoGoto_e, ANoGoto_r])
      | (first | refine AWp.seqScope ?_ | refine AWp.scope ?_ | refine AWp.seqLabel ?_ | refine AWp.seqSkip ?_ | refine AWp.seqBlock ?_ | refine AWp.seqSeq ?_ | refine AWp.block ?_))
    have hN : NetAt σ o (left now L) pl (τ3.set o (.cells [pl])) := ⟨hno, hs3.set hno, by simp [set_same], hr3.keep rfl⟩
    generalize (τ3.set o (.cells [pl])) = τ4 at *
    clear hg
    have hg : (0 : Nat) = 0 := rfl
    refine AWp.loopF (fun x : Nat × PV => [(41, int x.1), (40, int (come now L).length), (39, ways (come now L)), (4, x.2)]) (fun x τ' => x.1 ≤ (come now L).length ∧ ∃ ρ, Sub τ4 ρ ∧ Grow 11 rpcW ρ ((come now L).take x.1) x.2 τ') (fun x => (come now L).length - x.1) (0, nilS) ?_ ⟨by simp, τ4, .refl _, .nil⟩ ?_
    · (repeat' (first | exact LeF.nil _ | refine LeF.eq rfl ?_ ?_))
      all_goals first | rfl | (refine litI ?_; omega) | (refine litB ?_; simp only [Nat.add_zero]; done) | (refine litI ?_; simp only [Nat.add_zero]; try omega) | skip
    have hcl : (come now L).length ≤ L.length := List.length_filter_le _ _
    generalize come now L = C at *
    rintro ⟨i, p4⟩ τ' ⟨hi, ρ, hρ, hG⟩
    simp only at hi hG
    have hlt := List.length_take_le i C
    rcases Nat.lt_or_ge i C.length with hl | hl
    · repeat' (first
        | ((first | refine AWp.seqR rfl fun K hK => ?_ | refine AWp.regK rfl fun K hK => ?_ | refine AWp.seqP fol (by kernel_rfl) fun K hK => ?_); (repeat' (((first | refine opsW_kn fun K2 hK2 => ?_ | refine opsW_kg rfl fun K2 hK2 => ?_ | refine opsPW_kn fun K2 hK2 => ?_ | refine opsPW_kg rfl fun K2 hK2 => ?_); simp (disch := first | omega | simp only [go_sem, hg]) only [hg, go_sem, ↓reduceIte, reduceCtorEq, Nat.reduceAdd, Nat.reduceMul, Nat.reduceSub, Nat.reduceEqDiff, Nat.reduceLeDiff, Nat.reduceLT, Nat.reduceBEq, Nat.reduceBNe, Int.reduceBEq, Int.reduceBNe, bne_self_eq_false, beq_self_eq_true, Int.reduceEq, Int.reduceLT, Int.reduceLE, Int.reduceNeg, Int.reduceAdd, Int.reduceSub, Int.reduceToNat, List.getElem?_toArray, List.getElem?_cons, wayC, cond_true, cond_false, decide_eq_true_eq, decide_eq_false_iff_not, beq_iff_eq, beq_eq_false_iff_ne, bne_iff_ne, bne_eq_false_iff_eq, Bool.not_eq_true, Bool.not_eq_false, Classical.not_not, ne_eq]; (first | apply hK2 | (refine Or.inr ?_; apply hK2) | ((try refine Or.inl ?_); intro o ho; (try simp only [set_none, hg, not_false_eq_true, and_true, true_and] at ho); replace hg := And.intro ho hg; apply hK2) | (refine Exists.elim (hG.more ho) fun ρ' hr => Grow.app1 (bytes := 128) hr.2 rpcW_len (C.getD i default) (by omega) ?_; intro p1 τ1 hp1; apply hK2) | (refine ⟨fun hh => ?_, fun hh => ?_⟩ <;> replace hg := And.intro hh hg <;> first | (exfalso; omega) | apply hK2 | (refine Or.inr ?_; apply hK2) | ((try refine Or.inl ?_); intro o ho; (try simp only [set_none, hg, not_false_eq_true, and_true, true_and] at ho); replace hg := And.intro ho hg; apply hK2) | (refine Exists.elim (hG.more ho) fun ρ' hr => Grow.app1 (bytes := 128) hr.2 rpcW_len (C.getD i default) (by omega) ?_; intro p1 τ1 hp1; apply hK2)) | fail)) <;> clear hK2 K2)); all_goals ((first | refine opsW_nil (hK _ _ ?_) | refine opsPW_nil (hK _ ?_)); clear hK K))
        | ((first | refine AWp.seqC fun X Y hX hY => ?_ | refine AWp.condK fun X Y hX hY => ?_); simp (disch := first | omega | simp only [go_sem, hg]) only [hg, go_sem, ↓reduceIte, reduceCtorEq, Nat.reduceAdd, Nat.reduceMul, Nat.reduceSub, Nat.reduceEqDiff, Nat.reduceLeDiff, Nat.reduceLT, Nat.reduceBEq, Nat.reduceBNe, Int.reduceBEq, Int.reduceBNe, bne_self_eq_false, beq_self_eq_true, Int.reduceEq, Int.reduceLT, Int.reduceLE, Int.reduceNeg, Int.reduceAdd, Int.reduceSub, Int.reduceToNat, List.getElem?_toArray, List.getElem?_cons, wayC, cond_true, cond_false, decide_eq_true_eq, decide_eq_false_iff_not, beq_iff_eq, beq_eq_false_iff_ne, bne_iff_ne, bne_eq_false_iff_eq, Bool.not_eq_true, Bool.not_eq_false, Classical.not_not, ne_eq]; first | (refine ⟨fun hc => hX ?_, fun hc => hY ?_⟩ <;> replace hg := And.intro hc hg <;> first | (exfalso; omega) | skip) | refine hX ?_ | refine hY ?_) <;> clear hX hY X Y
        | ((first | refine AWp.skip ?_ | refine AWp.seqExit ?_ | refine AWp.seqRet ?_ | refine AWp.exit ?_ | refine AWp.ret ?_ | refine Eq.mpr AThen_n ?_ | refine Eq.mpr ABlock_n ?_ | refine Eq.mpr ANoGoto_n ?_); try simp (disch := first | omega | simp only [go_sem]) only [go_sem, ↓reduceIte, reduceCtorEq, Nat.reduceAdd, Nat.reduceMul, Nat.reduceSub, Nat.reduceEqDiff, Nat.reduceLeDiff, Nat.reduceLT, Nat.reduceBEq, Nat.reduceBNe, Int.reduceBEq, Int.reduceBNe, bne_self_eq_false, beq_self_eq_true, Int.reduceEq, Int.reduceLT, Int.reduceLE, Int.reduceNeg, Int.reduceAdd, Int.reduceSub, Int.reduceToNat, List.getElem?_toArray, List.getElem?_cons, AThen_n, AThen_e, AThen_r, ABlock_n, ABlock_e, ABlock_r, ANoGoto_n, ANoGoto_e, ANoGoto_r])
        | (first | refine AWp.seqScope ?_ | refine AWp.scope ?_ | refine AWp.seqLabel ?_ | refine AWp.seqSkip ?_ | refine AWp.seqBlock ?_ | refine AWp.seqSeq ?_ | refine AWp.block ?_))
      refine ⟨(i + 1, p1), by simp only; omega, ?_, by simp only; omega, ?_⟩
      · (repeat' (first | exact LeF.nil _ | refine LeF.eq rfl ?_ ?_))
        all_goals first | rfl | (refine litI ?_; omega) | (refine litB ?_; simp only [Nat.add_zero]; done) | (refine litI ?_; simp only [Nat.add_zero]; try omega) | skip
      · simp only; rw [take_next hl]; exact ⟨_, hρ.trans (by assumption : _ ∧ _).1, hp1⟩
    · repeat' (first
        | ((first | refine AWp.seqR rfl fun K hK => ?_ | refine AWp.regK rfl fun K hK => ?_ | refine AWp.seqP fol (by kernel_rfl) fun K hK => ?_); (repeat' (((first | refine opsW_kn fun K2 hK2 => ?_ | refine opsW_kg rfl fun K2 hK2 => ?_ | refine opsPW_kn fun K2 hK2 => ?_ | refine opsPW_kg rfl fun K2 hK2 => ?_); simp (disch := first | omega | simp only [go_sem, hg]) only [hg, go_sem, ↓reduceIte, reduceCtorEq, Nat.reduceAdd, Nat.reduceMul, Nat.reduceSub, Nat.reduceEqDiff, Nat.reduceLeDiff, Nat.reduceLT, Nat.reduceBEq, Nat.reduceBNe, Int.reduceBEq, Int.reduceBNe, bne_self_eq_false, beq_self_eq_true, Int.reduceEq, Int.reduceLT, Int.reduceLE, Int.reduceNeg, Int.reduceAdd, Int.reduceSub, Int.reduceToNat, List.getElem?_toArray, List.getElem?_cons, cond_true, cond_false, decide_eq_true_eq, decide_eq_false_iff_not, beq_iff_eq, beq_eq_false_iff_ne, bne_iff_ne, bne_eq_false_iff_eq, Bool.not_eq_true, Bool.not_eq_false, Classical.not_not, ne_eq]; (first | apply hK2 | ((try refine Or.inl ?_); intro o ho; (try simp only [set_none, hg, not_false_eq_true, and_true, true_and] at ho); replace hg := And.intro ho hg; apply hK2) | (refine ⟨fun hh => ?_, fun hh => ?_⟩ <;> replace hg := And.intro hh hg <;> first | (exfalso; omega) | apply hK2 | ((try refine Or.inl ?_); intro o ho; (try simp only [set_none, hg, not_false_eq_true, and_true, true_and] at ho); replace hg := And.intro ho hg; apply hK2)) | fail)) <;> clear hK2 K2)); all_goals ((first | refine opsW_nil (hK _ _ ?_) | refine opsPW_nil (hK _ ?_)); clear hK K))
        | ((first | refine AWp.seqC fun X Y hX hY => ?_ | refine AWp.condK fun X Y hX hY => ?_); simp (disch := first | omega | simp only [go_sem, hg]) only [hg, go_sem, ↓reduceIte, reduceCtorEq, Nat.reduceAdd, Nat.reduceMul, Nat.reduceSub, Nat.reduceEqDiff, Nat.reduceLeDiff, Nat.reduceLT, Nat.reduceBEq, Nat.reduceBNe, Int.reduceBEq, Int.reduceBNe, bne_self_eq_false, beq_self_eq_true, Int.reduceEq, Int.reduceLT, Int.reduceLE, Int.reduceNeg, Int.reduceAdd, Int.reduceSub, Int.reduceToNat, List.getElem?_toArray, List.getElem?_cons, cond_true, cond_false, decide_eq_true_eq, decide_eq_false_iff_not, beq_iff_eq, beq_eq_false_iff_ne, bne_iff_ne, bne_eq_false_iff_eq, Bool.not_eq_true, Bool.not_eq_false, Classical.not_not, ne_eq]; first | (refine ⟨fun hc => hX ?_, fun hc => hY ?_⟩ <;> replace hg := And.intro hc hg <;> first | (exfalso; omega) | skip) | refine hX ?_ | refine hY ?_) <;> clear hX hY X Y
        | ((first | refine AWp.skip ?_ | refine AWp.seqExit ?_ | refine AWp.seqRet ?_ | refine AWp.exit ?_ | refine AWp.ret ?_ | refine Eq.mpr AThen_n ?_ | refine Eq.mpr ABlock_n ?_ | refine Eq.mpr ANoGoto_n ?_); try simp (disch := first | omega | simp only [go_sem]) only [go_sem, ↓reduceIte, reduceCtorEq, Nat.reduceAdd, Nat.reduceMul, Nat.reduceSub, Nat.reduceEqDiff, Nat.reduceLeDiff, Nat.reduceLT, Nat.reduceBEq, Nat.reduceBNe, Int.reduceBEq, Int.reduceBNe, bne_self_eq_false, beq_self_eq_true, Int.reduceEq, Int.reduceLT, Int.reduceLE, Int.reduceNeg, Int.reduceAdd, Int.reduceSub, Int.reduceToNat, List.getElem?_toArray, List.getElem?_cons, AThen_n, AThen_e, AThen_r, ABlock_n, ABlock_e, ABlock_r, ANoGoto_n, ANoGoto_e, ANoGoto_r])
        | (first | refine AWp.seqScope ?_ | refine AWp.scope ?_ | refine AWp.seqLabel ?_ | refine AWp.seqSkip ?_ | refine AWp.seqBlock ?_ | refine AWp.seqSeq ?_ | refine AWp.block ?_))
      refine hG.hand2 rpcW_len hρ ?_
      rw [List.take_of_length_le (by omega)]
      exact ⟨rfl, _, hN⟩
end Go.Proofs
