/- Regions whose operations only read, at what is owned now: whatever order comes, they yield the same. -/
import Derived.Test.YtlcbjenehogfmaaAbRegion
set_option linter.unusedSimpArgs false
set_option linter.unusedVariables false
namespace Go.Abs
open Go
section
variable {P : Program} {glob : Nat → PV} {n : Nat} {σ : Store}

variable (P glob) in
/-- It yields r, at what is owned now, and nothing turns. -/
def OpSame (σ : Store) (o : Oper) (ρ : Operand → PV) (r : PV) : Prop := OpOk P glob o ρ σ fun r' σ' => r' = r ∧ σ' = σ

variable (P glob) in
def ASames (σ : Store) (ops : Array Oper) (o : Oper) (f : Nat → PV) (r : PV) : Prop :=
  ∃ b, gd ops f o b ∧ (b = true → OpSame P glob σ o (evF glob f) r) ∧ (b = false → r = .lit undef)

theorem OpSame.congr {o : Oper} {ρ ρ' : Operand → PV} {r : PV} (h : OpSame P glob σ o ρ r) (he : ∀ x ∈ o.op.operands, ρ' x = ρ x) : OpSame P glob σ o ρ' r := OpOk.congr h he

theorem ASames.put {ops : Array Oper} {o : Oper} {f : Nat → PV} {r : PV} (h : ASames P glob σ ops o f r) {d : Option Nat} (p : PV) (hd : ∀ t, d = some t → t ∉ o.looksAt ops) : ASames P glob σ ops o (upd f d p) r := by
  obtain ⟨b, h1, h2, h3⟩ := h
  refine ⟨b, gd_congr h1 fun j w t hg ht => ?_, fun e => (h2 e).congr fun x hx => ?_, h3⟩
  · cases d with
    | none => rfl
    | some d =>
      have := looks_gd (hd d rfl) j w t hg ht
      simp [upd, this]
  · exact evF_upd fun y hy => looks_op (hd y hy) x hx

theorem ASames.unput {ops : Array Oper} {o : Oper} {f : Nat → PV} {r : PV} {d : Option Nat} (p : PV) (h : ASames P glob σ ops o (upd f d p) r) (hd : ∀ t, d = some t → t ∉ o.looksAt ops) : ASames P glob σ ops o f r := by
  obtain ⟨b, h1, h2, h3⟩ := h
  refine ⟨b, gd_congr h1 fun j w t hg ht => ?_, fun e => (h2 e).congr fun x hx => ?_, h3⟩
  · cases d with
    | none => rfl
    | some d =>
      have := looks_gd (hd d rfl) j w t hg ht
      simp [upd, this]
  · exact (evF_upd fun y hy => looks_op (hd y hy) x hx).symm

theorem ASames.step {ops : Array Oper} {o : Oper} {f : Nat → PV} {r : PV} {K : (Nat → PV) → Store → Prop} (h : ASames P glob σ ops o f r) (hk : K (upd f o.dst r) σ) : AStep P glob ops o f σ K := by
  obtain ⟨b, h1, h2, h3⟩ := h
  exact ⟨b, h1, fun e => (h2 e).mono fun _ _ ⟨e1, e2⟩ => by rw [e1, e2]; exact hk, fun e => by rw [← h3 e]; exact hk⟩

variable (P glob) in
/-- Whatever order, each operation reads. -/
def AAnyS (σ : Store) (ops : Array Oper) (K : (Nat → PV) → Prop) : Nat → Array Bool → (Nat → PV) → Prop
  | 0, listed, f => Region.ready .any ops listed = [] ∧ K f
  | fuel + 1, listed, f => (Region.ready .any ops listed = [] → K f) ∧
    ∀ i ∈ Region.ready .any ops listed, ∀ o, ops[i]? = some o → ∃ r, ASames P glob σ ops o f r ∧ AAnyS σ ops K fuel (listed.setIfInBounds i true) (upd f o.dst r)

theorem AAny_of_S {ops : Array Oper} {K : (Nat → PV) → Store → Prop} : ∀ (fuel : Nat) (listed : Array Bool) (f : Nat → PV), AAnyS P glob σ ops (fun f => K f σ) fuel listed f → AAny P glob ops K fuel listed f σ
  | 0, _, _, h => h
  | fuel + 1, listed, f, h => ⟨h.1, fun i hi o ho => by
      obtain ⟨r, h1, h2⟩ := h.2 i hi o ho
      exact h1.step (AAny_of_S fuel _ _ h2)⟩

theorem AAnyS_first {ops : Array Oper} {K : (Nat → PV) → Prop} {i : Nat} {oi : Oper} {r : PV} (hi : ops[i]? = some oi) :
    ∀ (fuel : Nat) (listed : Array Bool) (f : Nat → PV),
      (∀ j oj, ops[j]? = some oj → j ≠ i → listed.getD j true = false → (∀ e ∈ oj.after, Region.binds .any e = true → e.on ≠ i) → oi.apart ops oj = true) →
      i ∈ Region.ready .any ops listed → ASames P glob σ ops oi f r →
      AAnyS P glob σ ops K fuel (listed.setIfInBounds i true) (upd f oi.dst r) → AAnyS P glob σ ops K (fuel + 1) listed f := by
  intro fuel
  induction fuel with
  | zero =>
    intro listed f _ hr hy H
    refine ⟨fun h => (by rw [h] at hr; cases hr), fun j hj o ho => ?_⟩
    by_cases hji : j = i
    · subst hji
      rw [hi] at ho; cases ho
      exact ⟨r, hy, H⟩
    · have := ready_mono hj hji
      rw [H.1] at this
      cases this
  | succ fuel ih =>
    intro listed f hfree hr hy H
    refine ⟨fun h => (by rw [h] at hr; cases hr), fun j hj oj hoj => ?_⟩
    by_cases hji : j = i
    · subst hji
      rw [hi] at hoj; cases hoj
      exact ⟨r, hy, H⟩
    · obtain ⟨q, h1, h2⟩ := H.2 j (ready_mono hj hji) oj hoj
      obtain ⟨hjun, oj', hoj', hall⟩ := mem_ready.1 hj
      rw [hoj] at hoj'
      cases hoj'
      have hnot : ∀ e ∈ oj.after, Region.binds .any e = true → e.on ≠ i := fun e he hb heq => by
        have h1 := hall e he hb
        have h0 := (mem_ready.1 hr).1
        rw [heq] at h1
        rcases Nat.lt_or_ge i listed.size with h' | h'
        · simp [h'] at h0 h1; rw [h0] at h1; cases h1
        · simp [Array.getElem?_eq_none h'] at h1
      have hap := hfree j oj hoj hji hjun hnot
      obtain ⟨a1, a2, a3⟩ := Oper.apart_spec hap
      have hfree' : ∀ k ok, ops[k]? = some ok → k ≠ i → (listed.setIfInBounds j true).getD k true = false →
          (∀ e ∈ ok.after, Region.binds .any e = true → e.on ≠ i) → oi.apart ops ok = true := fun k ok hk hki hun hno => by
        refine hfree k ok hk hki ?_ hno
        by_cases hjk : j = k
        · subst hjk; exact hjun
        · rw [getD_set_ne true hjk] at hun; exact hun
      refine ⟨q, h1.unput r a1, ?_⟩
      refine ih (listed.setIfInBounds j true) _ hfree' (ready_mono hr (Ne.symm hji)) (hy.put q a3) ?_
      rw [Array.setIfInBounds_comm _ _ hji, ← upd_comm f r q a2]
      exact h2

variable (P glob) in
def AOrdS (σ : Store) (ops : Array Oper) (K : (Nat → PV) → Prop) : List Nat → (Nat → PV) → Prop
  | [], f => K f
  | i :: r, f => ∃ o p, ops[i]? = some o ∧ ASames P glob σ ops o f p ∧ AOrdS σ ops K r (upd f o.dst p)

theorem AAnyS_of_ord {ops : Array Oper} {K : (Nat → PV) → Prop} : ∀ (ord : List Nat) (listed : Array Bool) (f : Nat → PV), okOrd ops (ord.map fun i => (i, true)) listed = true → AOrdS P glob σ ops K ord f → AAnyS P glob σ ops K ord.length listed f
  | [], listed, f, hB, h => ⟨by simpa [okOrd] using hB, h⟩
  | i :: r, listed, f, hB, h => by
    simp only [List.map_cons, okOrd, Bool.and_eq_true] at hB
    obtain ⟨⟨h1, h2⟩, h3⟩ := hB
    obtain ⟨o, p, ho, hy, hk⟩ := h
    exact AAnyS_first ho r.length listed f (Region.free_spec ho h2) (by simpa using h1) hy (AAnyS_of_ord r _ _ h3 hk)

variable (P glob) in
/-- The operations of a list, in its order, over frames as lists. -/
def ALS (σ : Store) (ops : Array Oper) (K : Fram → Prop) : List Oper → Fram → Prop
  | [], l => K l
  | o :: r, l => ∃ b, gd ops (lk l) o b ∧ (b = true → ∃ p, OpSame P glob σ o (ev glob l) p ∧ ALS σ ops K r (putF l o.dst p)) ∧ (b = false → ALS σ ops K r (putF l o.dst (.lit undef)))

theorem AOrdS_of_ALS {ops : Array Oper} {K : Fram → Prop} : ∀ (ord : List Nat) (r : List Oper) (l : Fram), ord.map (fun i => ops[i]?) = r.map some → ALS P glob σ ops K r l →
    AOrdS P glob σ ops (fun f => ∃ l, lk l = f ∧ K l) ord (lk l)
  | [], [], l, _, h => ⟨l, rfl, h⟩
  | [], _ :: _, _, e, _ => by simp at e
  | _ :: _, [], _, e, _ => by simp at e
  | i :: ord, o :: r, l, e, h => by
    simp only [List.map_cons, List.cons.injEq] at e
    obtain ⟨h0, e⟩ := e
    obtain ⟨b, h1, h2, h3⟩ := h
    cases b with
    | true =>
      obtain ⟨p, hp, hk⟩ := h2 rfl
      rw [ev_look] at hp
      exact ⟨o, p, h0, ⟨true, h1, fun _ => hp, fun e => (by cases e)⟩, by rw [← look_putF]; exact AOrdS_of_ALS ord r _ e hk⟩
    | false => exact ⟨o, .lit undef, h0, ⟨false, h1, fun e => (by cases e), fun _ => rfl⟩, by rw [← look_putF]; exact AOrdS_of_ALS ord r _ e (h3 rfl)⟩

theorem AWp.regionS {id : Nat} {os : List Oper} {l : Fram} {Q : Post} (hm : P.follows .mixedOrders = true) (hd : dstOk n os.toArray = true) (hB : okOrd os.toArray ((List.range os.length).map fun i => (i, true)) (Array.replicate os.length false) = true)
    (h : ALS P glob σ os.toArray (fun l => Q .normal l σ) os l) : AWp P glob n (.region id os.toArray true) l σ Q := by
  intro gh w a hR hF
  have h1 := AOrdS_of_ALS (List.range os.length) os l (by
    apply List.ext_getElem?
    intro i
    by_cases hi : i < os.length
    · simp [hi]
    · simp [Nat.le_of_not_lt hi]) h
  have h2 := AAnyS_of_ord (List.range os.length) _ _ hB h1
  refine wp_region_any hm ?_
  have hsz : os.toArray.size = os.length := by simp
  rw [hsz]
  have x0 : Ext gh w gh { w with drawn := w.drawn + 1 } := .drew gh w _
  have hR0 : R glob gh σ { w with drawn := w.drawn + 1 } :=
    ⟨hR.fb, fun o y e => by
      obtain ⟨s, a1, a2, a3, a4⟩ := hR.ob o y e
      exact ⟨s, a1, a2, a3, a4.ext x0 rfl⟩, hR.inj, hR.fresh, fun g => (hR.gl g).ext x0⟩
  rw [List.length_range] at h2
  have h3 := AAny_of_S (K := fun f τ => ∃ l, lk l = f ∧ Q .normal l τ) _ _ _ h2
  refine wpAny_of_AAny (n := n) (gh0 := gh) (w0 := w) (dstOk_spec hd) (K := fun f σ => ∃ l, lk l = f ∧ Q .normal l σ) ?_ _ _ _ σ a _ h3 ⟨gh, x0, hR0, FrF.ext x0 hF⟩
  rintro f σ' a' w' ⟨l', rfl, hq⟩ ⟨gh', x, hR', hF'⟩
  exact ⟨gh', l', σ', x, hR', hF', hq⟩
end
end Go.Abs
