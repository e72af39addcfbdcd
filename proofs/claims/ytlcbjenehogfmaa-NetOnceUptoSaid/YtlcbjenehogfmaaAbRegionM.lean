/- Regions whose order is open, with operations of three kinds: 0 yields what it yields whatever is owned; 1 only reads what is owned now, and each operation that changes it comes behind; 2 comes up alone. -/
import Derived.Test.YtlcbjenehogfmaaAbRegionW
set_option linter.unusedSimpArgs false
set_option linter.unusedVariables false
namespace Go.Abs
open Go
section
variable {P : Program} {glob : Nat → PV} {n : Nat} {σ : Store} {l : Fram} {Q : Post}

theorem AYields.unput {ops : Array Oper} {o : Oper} {f : Nat → PV} {r : PV} {d : Option Nat} (p : PV) (h : AYields P glob ops o (upd f d p) r) (hd : ∀ t, d = some t → t ∉ o.looksAt ops) : AYields P glob ops o f r := by
  obtain ⟨b, h1, h2, h3⟩ := h
  refine ⟨b, gd_congr h1 fun j w t hg ht => ?_, fun e => (h2 e).congr fun x hx => ?_, h3⟩
  · cases d with
    | none => rfl
    | some d =>
      have := looks_gd (hd d rfl) j w t hg ht
      simp [upd, this]
  · exact (evF_upd fun y hy => looks_op (hd y hy) x hx).symm

variable (P glob) in
def AAnyM (cls : Nat → Nat) (ops : Array Oper) (K : (Nat → PV) → Store → Prop) : Nat → Array Bool → (Nat → PV) → Store → Prop
  | 0, listed, f, σ => Region.ready .any ops listed = [] ∧ K f σ
  | fuel + 1, listed, f, σ => (Region.ready .any ops listed = [] → K f σ) ∧
    ∀ i ∈ Region.ready .any ops listed, ∀ o, ops[i]? = some o →
      (cls i = 0 ∧ ∃ r, AYields P glob ops o f r ∧ AAnyM cls ops K fuel (listed.setIfInBounds i true) (upd f o.dst r) σ) ∨
      (cls i = 1 ∧ ∃ r, ASames P glob σ ops o f r ∧ AAnyM cls ops K fuel (listed.setIfInBounds i true) (upd f o.dst r) σ) ∨
      (cls i = 2 ∧ AStep P glob ops o f σ (fun f' σ' => AAnyM cls ops K fuel (listed.setIfInBounds i true) f' σ'))

theorem AAny_of_M {cls : Nat → Nat} {ops : Array Oper} {K : (Nat → PV) → Store → Prop} : ∀ (fuel : Nat) (listed : Array Bool) (f : Nat → PV) (σ : Store), AAnyM P glob cls ops K fuel listed f σ → AAny P glob ops K fuel listed f σ
  | 0, _, _, _, h => h
  | fuel + 1, listed, f, σ, h => ⟨h.1, fun i hi o ho => by
      rcases h.2 i hi o ho with ⟨_, r, h1, h2⟩ | ⟨_, r, h1, h2⟩ | ⟨_, h1⟩
      · exact h1.step (AAny_of_M fuel _ _ _ h2)
      · exact h1.step (AAny_of_M fuel _ _ _ h2)
      · exact h1.mono fun f' σ' h => AAny_of_M fuel _ _ _ h⟩

theorem not_before {ops : Array Oper} {listed : Array Bool} {i k : Nat} (hi : i ∈ Region.ready .any ops listed) (hk : listed.getD k false = true) : k ≠ i := fun e => by
  subst e
  have h0 := (mem_ready.1 hi).1
  rcases Nat.lt_or_ge k listed.size with h' | h'
  · simp [h'] at h0 hk; rw [h0] at hk; cases hk
  · simp [Array.getElem?_eq_none h'] at hk

theorem AAnyM_first0 {cls : Nat → Nat} {ops : Array Oper} {K : (Nat → PV) → Store → Prop} {i : Nat} {oi : Oper} {r : PV} (hi : ops[i]? = some oi) (hc : cls i = 0) :
    ∀ (fuel : Nat) (listed : Array Bool) (f : Nat → PV) (σ : Store),
      (∀ j oj, ops[j]? = some oj → j ≠ i → listed.getD j true = false → (∀ e ∈ oj.after, Region.binds .any e = true → e.on ≠ i) → oi.apart ops oj = true) →
      i ∈ Region.ready .any ops listed → AYields P glob ops oi f r →
      AAnyM P glob cls ops K fuel (listed.setIfInBounds i true) (upd f oi.dst r) σ → AAnyM P glob cls ops K (fuel + 1) listed f σ := by
  intro fuel
  induction fuel with
  | zero =>
    intro listed f σ _ hr hy H
    refine ⟨fun h => (by rw [h] at hr; cases hr), fun j hj o ho => ?_⟩
    by_cases hji : j = i
    · subst hji
      rw [hi] at ho; cases ho
      exact .inl ⟨hc, r, hy, H⟩
    · have := ready_mono hj hji
      rw [H.1] at this
      cases this
  | succ fuel ih =>
    intro listed f σ hfree hr hy H
    refine ⟨fun h => (by rw [h] at hr; cases hr), fun j hj oj hoj => ?_⟩
    by_cases hji : j = i
    · subst hji
      rw [hi] at hoj; cases hoj
      exact .inl ⟨hc, r, hy, H⟩
    · have h1 := H.2 j (ready_mono hj hji) oj hoj
      obtain ⟨hjun, oj', hoj', hall⟩ := mem_ready.1 hj
      rw [hoj] at hoj'
      cases hoj'
      have hnot : ∀ e ∈ oj.after, Region.binds .any e = true → e.on ≠ i := fun e he hb => not_before hr (hall e he hb)
      have hap := hfree j oj hoj hji hjun hnot
      obtain ⟨a1, a2, a3⟩ := Oper.apart_spec hap
      have hfree' : ∀ k ok, ops[k]? = some ok → k ≠ i → (listed.setIfInBounds j true).getD k true = false →
          (∀ e ∈ ok.after, Region.binds .any e = true → e.on ≠ i) → oi.apart ops ok = true := fun k ok hk hki hun hno => by
        refine hfree k ok hk hki ?_ hno
        by_cases hjk : j = k
        · subst hjk; exact hjun
        · rw [getD_set_ne true hjk] at hun; exact hun
      have fin : ∀ q σ', AAnyM P glob cls ops K fuel ((listed.setIfInBounds i true).setIfInBounds j true) (upd (upd f oi.dst r) oj.dst q) σ' → AAnyM P glob cls ops K (fuel + 1) (listed.setIfInBounds j true) (upd f oj.dst q) σ' := fun q σ' h2 => by
        refine ih (listed.setIfInBounds j true) _ σ' hfree' (ready_mono hr (Ne.symm hji)) (hy.put q a3) ?_
        rw [Array.setIfInBounds_comm _ _ hji, ← upd_comm f r q a2]
        exact h2
      rcases h1 with ⟨c, q, h1, h2⟩ | ⟨c, q, h1, h2⟩ | ⟨c, h1⟩
      · exact .inl ⟨c, q, h1.unput r a1, fin q σ h2⟩
      · exact .inr (.inl ⟨c, q, h1.unput r a1, fin q σ h2⟩)
      · exact .inr (.inr ⟨c, AStep.put a1 h1 fun q σ' h2 => fin q σ' h2⟩)

theorem AAnyM_first1 {cls : Nat → Nat} {ops : Array Oper} {K : (Nat → PV) → Store → Prop} {i : Nat} {oi : Oper} {r : PV} (hi : ops[i]? = some oi) (hc : cls i = 1) (S : Nat → Bool)
    (h4 : ∀ k ok, ops[k]? = some ok → S k = true → ∃ e ∈ ok.after, Region.binds .any e = true ∧ (e.on = i ∨ S e.on = true)) :
    ∀ (fuel : Nat) (listed : Array Bool) (f : Nat → PV) (σ : Store),
      (∀ j oj, ops[j]? = some oj → j ≠ i → listed.getD j true = false → (∀ e ∈ oj.after, Region.binds .any e = true → e.on ≠ i) → oi.apart ops oj = true) →
      (∀ j oj, ops[j]? = some oj → listed.getD j true = false → cls j = 2 → S j = true) → (∀ k, S k = true → listed.getD k false = false) →
      i ∈ Region.ready .any ops listed → ASames P glob σ ops oi f r →
      AAnyM P glob cls ops K fuel (listed.setIfInBounds i true) (upd f oi.dst r) σ → AAnyM P glob cls ops K (fuel + 1) listed f σ := by
  intro fuel
  induction fuel with
  | zero =>
    intro listed f σ _ _ _ hr hy H
    refine ⟨fun h => (by rw [h] at hr; cases hr), fun j hj o ho => ?_⟩
    by_cases hji : j = i
    · subst hji
      rw [hi] at ho; cases ho
      exact .inr (.inl ⟨hc, r, hy, H⟩)
    · have := ready_mono hj hji
      rw [H.1] at this
      cases this
  | succ fuel ih =>
    intro listed f σ hfree h2 h3 hr hy H
    refine ⟨fun h => (by rw [h] at hr; cases hr), fun j hj oj hoj => ?_⟩
    by_cases hji : j = i
    · subst hji
      rw [hi] at hoj; cases hoj
      exact .inr (.inl ⟨hc, r, hy, H⟩)
    · have h1 := H.2 j (ready_mono hj hji) oj hoj
      obtain ⟨hjun, oj', hoj', hall⟩ := mem_ready.1 hj
      rw [hoj] at hoj'
      cases hoj'
      have hnot : ∀ e ∈ oj.after, Region.binds .any e = true → e.on ≠ i := fun e he hb => not_before hr (hall e he hb)
      have hSj : S j = false := by
        cases hs : S j with
        | false => rfl
        | true =>
          obtain ⟨e, e1, e2, e3⟩ := h4 j oj hoj hs
          rcases e3 with e3 | e3
          · exact absurd e3 (hnot e e1 e2)
          · have := h3 _ e3
            rw [hall e e1 e2] at this; cases this
      have hap := hfree j oj hoj hji hjun hnot
      obtain ⟨a1, a2, a3⟩ := Oper.apart_spec hap
      have hfree' : ∀ k ok, ops[k]? = some ok → k ≠ i → (listed.setIfInBounds j true).getD k true = false →
          (∀ e ∈ ok.after, Region.binds .any e = true → e.on ≠ i) → oi.apart ops ok = true := fun k ok hk hki hun hno => by
        refine hfree k ok hk hki ?_ hno
        by_cases hjk : j = k
        · subst hjk; exact hjun
        · rw [getD_set_ne true hjk] at hun; exact hun
      have h2' : ∀ k ok, ops[k]? = some ok → (listed.setIfInBounds j true).getD k true = false → cls k = 2 → S k = true := fun k ok hk hun => by
        refine h2 k ok hk ?_
        by_cases hjk : j = k
        · subst hjk; exact hjun
        · rw [getD_set_ne true hjk] at hun; exact hun
      have h3' : ∀ k, S k = true → (listed.setIfInBounds j true).getD k false = false := fun k hk => by
        have : j ≠ k := fun e => by subst e; rw [hSj] at hk; cases hk
        rw [getD_set_ne false this]; exact h3 k hk
      have fin : ∀ q, AAnyM P glob cls ops K fuel ((listed.setIfInBounds i true).setIfInBounds j true) (upd (upd f oi.dst r) oj.dst q) σ → AAnyM P glob cls ops K (fuel + 1) (listed.setIfInBounds j true) (upd f oj.dst q) σ := fun q h2 => by
        refine ih (listed.setIfInBounds j true) _ σ hfree' h2' h3' (ready_mono hr (Ne.symm hji)) (hy.put q a3) ?_
        rw [Array.setIfInBounds_comm _ _ hji, ← upd_comm f r q a2]
        exact h2
      rcases h1 with ⟨c, q, h1, k2⟩ | ⟨c, q, h1, k2⟩ | ⟨c, h1⟩
      · exact .inl ⟨c, q, h1.unput r a1, fin q k2⟩
      · exact .inr (.inl ⟨c, q, h1.unput r a1, fin q k2⟩)
      · have := h2 j oj hoj hjun c
        rw [hSj] at this; cases this

def clsOf (ord : List (Nat × Nat)) (i : Nat) : Nat := match ord.find? (fun x => x.1 == i) with | some x => x.2 | none => 2
def depStep (ops : Array Oper) (i : Nat) (T : List Nat) : List Nat :=
  (List.range ops.size).filter fun j => match ops[j]? with | some o => o.after.any fun e => Region.binds .any e && (e.on == i || T.contains e.on) | none => false
def depOk (ops : Array Oper) (i : Nat) (T : List Nat) : Bool :=
  T.all fun k => match ops[k]? with | some o => o.after.any fun e => Region.binds .any e && (e.on == i || T.contains e.on) | none => true
def sOk (cls : Nat → Nat) (ops : Array Oper) (listed : Array Bool) (i : Nat) : Bool :=
  let T := depStep ops i (depStep ops i (depStep ops i []))
  depOk ops i T && ((List.range ops.size).all fun j => listed.getD j true || !(cls j == 2) || T.contains j) && T.all fun k => !(listed.getD k false)
def okM (cls : Nat → Nat) (ops : Array Oper) : List (Nat × Nat) → Array Bool → Bool
  | [], listed => (Region.ready .any ops listed).isEmpty
  | (i, c) :: r, listed => cls i == c && (match c with
    | 0 => (Region.ready .any ops listed).contains i && Region.free .any ops listed i
    | 1 => (Region.ready .any ops listed).contains i && Region.free .any ops listed i && sOk cls ops listed i
    | 2 => Region.ready .any ops listed == [i]
    | _ => false) && okM cls ops r (listed.setIfInBounds i true)

variable (P glob) in
def AOrdM (ops : Array Oper) (K : (Nat → PV) → Store → Prop) : List (Nat × Nat) → (Nat → PV) → Store → Prop
  | [], f, σ => K f σ
  | (i, 0) :: r, f, σ => ∃ o p, ops[i]? = some o ∧ AYields P glob ops o f p ∧ AOrdM ops K r (upd f o.dst p) σ
  | (i, 1) :: r, f, σ => ∃ o p, ops[i]? = some o ∧ ASames P glob σ ops o f p ∧ AOrdM ops K r (upd f o.dst p) σ
  | (i, _) :: r, f, σ => ∃ o, ops[i]? = some o ∧ AStep P glob ops o f σ (fun f' σ' => AOrdM ops K r f' σ')

theorem AAnyM_of_ord {cls : Nat → Nat} {ops : Array Oper} {K : (Nat → PV) → Store → Prop} : ∀ (ord : List (Nat × Nat)) (listed : Array Bool) (f : Nat → PV) (σ : Store), okM cls ops ord listed = true → AOrdM P glob ops K ord f σ → AAnyM P glob cls ops K ord.length listed f σ
  | [], listed, f, σ, hB, h => ⟨by simpa [okM] using hB, h⟩
  | (i, 0) :: r, listed, f, σ, hB, h => by
    simp only [okM, Bool.and_eq_true, beq_iff_eq] at hB
    obtain ⟨⟨hc, h1, h2⟩, h3⟩ := hB
    obtain ⟨o, p, ho, hy, hk⟩ := h
    exact AAnyM_first0 ho hc r.length listed f σ (Region.free_spec ho h2) (by simpa using h1) hy (AAnyM_of_ord r _ _ σ h3 hk)
  | (i, 1) :: r, listed, f, σ, hB, h => by
    simp only [okM, Bool.and_eq_true, beq_iff_eq] at hB
    obtain ⟨⟨hc, ⟨h1, h2⟩, hs⟩, h3⟩ := hB
    obtain ⟨o, p, ho, hy, hk⟩ := h
    unfold sOk at hs
    generalize depStep ops i (depStep ops i (depStep ops i [])) = T at hs
    simp only [Bool.and_eq_true, List.all_eq_true] at hs
    obtain ⟨⟨s1, s2⟩, s3⟩ := hs
    refine AAnyM_first1 ho hc (fun k => T.contains k) ?_ r.length listed f σ (Region.free_spec ho h2) ?_ ?_ (by simpa using h1) hy (AAnyM_of_ord r _ _ σ h3 hk)
    · intro k ok hk hS
      unfold depOk at s1
      rw [List.all_eq_true] at s1
      have := s1 k (by simpa using hS)
      rw [hk] at this
      simp only [Array.any_eq_true'] at this
      obtain ⟨e, e1, e2⟩ := this
      simp only [Bool.and_eq_true, Bool.or_eq_true, beq_iff_eq] at e2
      exact ⟨e, e1, e2.1, e2.2⟩
    · intro j oj hj hun hc2
      have := s2 j (List.mem_range.2 (Array.getElem?_eq_some_iff.1 hj).1)
      rw [hun, hc2] at this
      simpa using this
    · intro k hk
      have := s3 k (by simpa using hk)
      simpa using this
  | (i, 2) :: r, listed, f, σ, hB, h => by
    simp only [okM, Bool.and_eq_true, beq_iff_eq] at hB
    obtain ⟨⟨hc, h1⟩, h3⟩ := hB
    obtain ⟨o, ho, hk⟩ := h
    refine ⟨fun e => (by rw [e] at h1; cases h1), fun j hj oj hoj => ?_⟩
    rw [h1] at hj
    simp at hj
    subst hj
    rw [ho] at hoj; cases hoj
    exact .inr (.inr ⟨hc, hk.mono fun f' σ' h => AAnyM_of_ord r _ f' σ' h3 h⟩)
  | (i, k + 3) :: r, listed, f, σ, hB, h => by
    simp [okM] at hB

/-- The rules over frames as lists. -/
def opsMW (P : Program) (glob : Nat → PV) (ops : Array Oper) : List (Oper × Nat) → Fram → Store → (Fram → Store → Prop) → Prop
  | [], l, σ, K => K l σ
  | (o, 0) :: r, l, σ, K => gW ops l o (pW P glob o.op (ev glob l) fun p => opsMW P glob ops r (putF l o.dst p) σ K) (opsMW P glob ops r (putF l o.dst (.lit undef)) σ K)
  | (o, 1) :: r, l, σ, K => gW ops l o (∃ p, eW P glob o.op (ev glob l) σ (fun r τ => r = p ∧ τ = σ) ∧ opsMW P glob ops r (putF l o.dst p) σ K) (opsMW P glob ops r (putF l o.dst (.lit undef)) σ K)
  | (o, _) :: r, l, σ, K => gW ops l o (eW P glob o.op (ev glob l) σ fun p σ' => opsMW P glob ops r (putF l o.dst p) σ' K) (opsMW P glob ops r (putF l o.dst (.lit undef)) σ K)

theorem AOrdM_of_W {ops : Array Oper} {K : Fram → Store → Prop} : ∀ (ord : List (Nat × Nat)) (r : List (Oper × Nat)) (l : Fram) (σ : Store), ord.map (fun x => (ops[x.1]?, x.2)) = r.map (fun x => (some x.1, x.2)) → opsMW P glob ops r l σ K →
    AOrdM P glob ops (fun f σ => ∃ l, lk l = f ∧ K l σ) ord (lk l) σ
  | [], [], l, σ, _, h => ⟨l, rfl, h⟩
  | [], _ :: _, _, _, e, _ => by simp at e
  | _ :: _, [], _, _, e, _ => by simp at e
  | (i, 0) :: ord, (o, t) :: r, l, σ, e, h => by
    simp only [List.map_cons, List.cons.injEq, Prod.mk.injEq] at e
    obtain ⟨⟨h0, rfl⟩, e⟩ := e
    obtain ⟨b, h1, h2, h3⟩ := gW_gd h
    cases b with
    | true =>
      obtain ⟨p, hp, hk⟩ := pW_sound (h2 rfl)
      rw [ev_look] at hp
      exact ⟨o, p, h0, ⟨true, h1, fun _ => hp, fun e => (by cases e)⟩, by rw [← look_putF]; exact AOrdM_of_W ord r _ σ e hk⟩
    | false => exact ⟨o, .lit undef, h0, ⟨false, h1, fun e => (by cases e), fun _ => rfl⟩, by rw [← look_putF]; exact AOrdM_of_W ord r _ σ e (h3 rfl)⟩
  | (i, 1) :: ord, (o, t) :: r, l, σ, e, h => by
    simp only [List.map_cons, List.cons.injEq, Prod.mk.injEq] at e
    obtain ⟨⟨h0, rfl⟩, e⟩ := e
    obtain ⟨b, h1, h2, h3⟩ := gW_gd h
    cases b with
    | true =>
      obtain ⟨p, hp, hk⟩ := h2 rfl
      have hp' := eW_sound hp
      rw [ev_look] at hp'
      exact ⟨o, p, h0, ⟨true, h1, fun _ => hp', fun e => (by cases e)⟩, by rw [← look_putF]; exact AOrdM_of_W ord r _ σ e hk⟩
    | false => exact ⟨o, .lit undef, h0, ⟨false, h1, fun e => (by cases e), fun _ => rfl⟩, by rw [← look_putF]; exact AOrdM_of_W ord r _ σ e (h3 rfl)⟩
  | (i, k + 2) :: ord, (o, t) :: r, l, σ, e, h => by
    simp only [List.map_cons, List.cons.injEq, Prod.mk.injEq] at e
    obtain ⟨⟨h0, rfl⟩, e⟩ := e
    obtain ⟨b, h1, h2, h3⟩ := gW_gd h
    refine ⟨o, h0, b, h1, fun eb => ?_, fun eb => ?_⟩
    · have := eW_sound (h2 eb)
      rw [ev_look] at this
      exact this.mono fun p σ' hk => by rw [← look_putF]; exact AOrdM_of_W ord r _ σ' e hk
    · rw [← look_putF]; exact AOrdM_of_W ord r _ σ e (h3 eb)

def pickM (os : List Oper) : List (Nat × Nat) → List (Oper × Nat)
  | [] => []
  | (i, b) :: r => (os.getD i default, b) :: pickM os r
theorem pickM_spec {os : List Oper} : ∀ (ord : List (Nat × Nat)), (ord.all fun x => decide (x.1 < os.length)) = true → ord.map (fun x => (os.toArray[x.1]?, x.2)) = (pickM os ord).map (fun x => (some x.1, x.2))
  | [], _ => rfl
  | (i, b) :: r, h => by
    simp only [List.all_cons, Bool.and_eq_true, decide_eq_true_eq] at h
    simp only [List.map_cons, pickM, pickM_spec r h.2]
    simp [h.1]

def okMixed (n : Nat) (os : List Oper) (ord : List (Nat × Nat)) : Bool := (ord.all fun x => decide (x.1 < os.length)) && (dstOk n os.toArray && (ord.length == os.length) && okM (clsOf ord) os.toArray ord (Array.replicate os.length false))

theorem AWp.regM {id : Nat} {os : List Oper} (ord : List (Nat × Nat)) (hm : P.follows .mixedOrders = true) (hB : okMixed n os ord = true)
    (h : ∀ K : Fram → Store → Prop, (∀ l σ, Q .normal l σ → K l σ) → opsMW P glob os.toArray (pickM os ord) l σ K) : AWp P glob n (.region id os.toArray true) l σ Q := by
  unfold okMixed at hB
  simp only [Bool.and_eq_true, beq_iff_eq] at hB
  obtain ⟨hB1, ⟨hd, hlen⟩, hB2⟩ := hB
  have h0 := h (fun l σ => Q .normal l σ) fun _ _ h => h
  intro gh w a hR hF
  have h1 := AOrdM_of_W ord _ l σ (pickM_spec ord hB1) h0
  have h2 := AAny_of_M _ _ _ _ (AAnyM_of_ord ord _ _ σ hB2 h1)
  refine wp_region_any hm ?_
  have hsz : os.toArray.size = os.length := by simp
  rw [hsz, ← hlen]
  have x0 : Ext gh w gh { w with drawn := w.drawn + 1 } := .drew gh w _
  have hR0 : R glob gh σ { w with drawn := w.drawn + 1 } :=
    ⟨hR.fb, fun o y e => by
      obtain ⟨s, a1, a2, a3, a4⟩ := hR.ob o y e
      exact ⟨s, a1, a2, a3, a4.ext x0 rfl⟩, hR.inj, hR.fresh, fun g => (hR.gl g).ext x0⟩
  rw [← hlen] at h2
  refine wpAny_of_AAny (n := n) (gh0 := gh) (w0 := w) (dstOk_spec hd) (K := fun f σ => ∃ l, lk l = f ∧ Q .normal l σ) ?_ _ _ _ σ a _ h2 ⟨gh, x0, hR0, FrF.ext x0 hF⟩
  rintro f σ' a' w' ⟨l', rfl, hq⟩ ⟨gh', x, hR', hF'⟩
  exact ⟨gh', l', σ', x, hR', hF', hq⟩
theorem AWp.seqM {id : Nat} {os : List Oper} {y : Code} (ord : List (Nat × Nat)) (hm : P.follows .mixedOrders = true) (hB : okMixed n os ord = true)
    (h : ∀ K : Fram → Store → Prop, (∀ l σ, AWp P glob n y l σ Q → K l σ) → opsMW P glob os.toArray (pickM os ord) l σ K) : AWp P glob n (.seq (.region id os.toArray true) y) l σ Q :=
  .seq (.regM ord hm hB fun K hK => h K fun l σ hl => hK l σ hl)

theorem opsMW_nil {os : List Oper} {ops : Array Oper} {K : Fram → Store → Prop} (h : K l σ) : opsMW P glob ops (pickM os []) l σ K := h
section
variable {os : List Oper} {ops : Array Oper} {i : Nat} {dst : Option Tmp} {op : Op} {ty : TypeId} {pos : String} {after : Array Edge} {r : List (Nat × Nat)} {K : Fram → Store → Prop} {j d : Nat} {want : Bool}
theorem opsMW_k0n (ho : os.getD i default = ⟨dst, op, ty, pos, after, none⟩)
    (h : ∀ K' : Fram → Store → Prop, (∀ l σ, opsMW P glob ops (pickM os r) l σ K → K' l σ) → pW P glob op (ev glob l) fun p => K' (putF l dst p) σ) : opsMW P glob ops (pickM os ((i, 0) :: r)) l σ K := by
  simp only [pickM, opsMW, ho]
  exact h _ fun _ _ h => h
theorem opsMW_k0g (ho : os.getD i default = ⟨dst, op, ty, pos, after, some (j, want)⟩) (hj : (ops[j]?).bind (·.dst) = some d)
    (h : ∀ K' : Fram → Store → Prop, (∀ l σ, opsMW P glob ops (pickM os r) l σ K → K' l σ) → ∃ t, lk l d = .lit t ∧ (asB t = some want → pW P glob op (ev glob l) fun p => K' (putF l dst p) σ) ∧ (asB t ≠ some want → K' (putF l dst (.lit undef)) σ)) : opsMW P glob ops (pickM os ((i, 0) :: r)) l σ K := by
  simp only [pickM, opsMW, ho]
  obtain ⟨t, h1, h2, h3⟩ := h _ fun _ _ h => h
  exact ⟨d, t, hj, h1, h2, h3⟩
theorem opsMW_k1n (ho : os.getD i default = ⟨dst, op, ty, pos, after, none⟩)
    (h : ∀ K' : Fram → Store → Prop, (∀ l σ, opsMW P glob ops (pickM os r) l σ K → K' l σ) → ∃ p, eW P glob op (ev glob l) σ (fun r τ => r = p ∧ τ = σ) ∧ K' (putF l dst p) σ) : opsMW P glob ops (pickM os ((i, 1) :: r)) l σ K := by
  simp only [pickM, opsMW, ho]
  exact h _ fun _ _ h => h
theorem opsMW_k1g (ho : os.getD i default = ⟨dst, op, ty, pos, after, some (j, want)⟩) (hj : (ops[j]?).bind (·.dst) = some d)
    (h : ∀ K' : Fram → Store → Prop, (∀ l σ, opsMW P glob ops (pickM os r) l σ K → K' l σ) → ∃ t, lk l d = .lit t ∧ (asB t = some want → ∃ p, eW P glob op (ev glob l) σ (fun r τ => r = p ∧ τ = σ) ∧ K' (putF l dst p) σ) ∧ (asB t ≠ some want → K' (putF l dst (.lit undef)) σ)) : opsMW P glob ops (pickM os ((i, 1) :: r)) l σ K := by
  simp only [pickM, opsMW, ho]
  obtain ⟨t, h1, h2, h3⟩ := h _ fun _ _ h => h
  exact ⟨d, t, hj, h1, h2, h3⟩
theorem opsMW_k2n (ho : os.getD i default = ⟨dst, op, ty, pos, after, none⟩)
    (h : ∀ K' : Fram → Store → Prop, (∀ l σ, opsMW P glob ops (pickM os r) l σ K → K' l σ) → eW P glob op (ev glob l) σ fun p σ' => K' (putF l dst p) σ') : opsMW P glob ops (pickM os ((i, 2) :: r)) l σ K := by
  simp only [pickM, opsMW, ho]
  exact h _ fun _ _ h => h
theorem opsMW_k2g (ho : os.getD i default = ⟨dst, op, ty, pos, after, some (j, want)⟩) (hj : (ops[j]?).bind (·.dst) = some d)
    (h : ∀ K' : Fram → Store → Prop, (∀ l σ, opsMW P glob ops (pickM os r) l σ K → K' l σ) → ∃ t, lk l d = .lit t ∧ (asB t = some want → eW P glob op (ev glob l) σ fun p σ' => K' (putF l dst p) σ') ∧ (asB t ≠ some want → K' (putF l dst (.lit undef)) σ)) : opsMW P glob ops (pickM os ((i, 2) :: r)) l σ K := by
  simp only [pickM, opsMW, ho]
  obtain ⟨t, h1, h2, h3⟩ := h _ fun _ _ h => h
  exact ⟨d, t, hj, h1, h2, h3⟩
end
end
end Go.Abs
