/- Regions: their operations one behind the other; where the order is open, whatever order comes. -/
import Derived.Test.YtlcbjenehogfmaaAbEff2
set_option linter.unusedSimpArgs false
set_option linter.unusedVariables false
namespace Go.Abs
open Go

section
variable {P : Program} {glob : Nat → PV} {n : Nat} {σ : Store}

def evF (glob : Nat → PV) (f : Nat → PV) : Operand → PV
  | .tmp t => f t
  | .const v => ofV v
  | .global g => glob g
  | .func g => .fn (.func g) [] []

theorem ev_look (l : Fram) : ev glob l = evF glob (lk l) := by funext x; cases x <;> rfl

def upd (f : Nat → PV) (d : Option Nat) (p : PV) : Nat → PV := fun t => match d with | some d => if t = d then p else f t | none => f t

theorem look_putF (l : Fram) (d : Option Nat) (p : PV) : lk (putF l d p) = upd (lk l) d p := by
  funext t; cases d <;> simp [putF, upd, lk]

theorem OpOk.congr {o : Oper} {ρ ρ' : Operand → PV} {K : PV → Store → Prop} (h : OpOk P glob o ρ σ K) (he : ∀ x ∈ o.op.operands, ρ' x = ρ x) : OpOk P glob o ρ' σ K :=
  fun gh w a hR hF => h gh w a hR fun x hx => by rw [← he x hx]; exact hF x hx

theorem OpPure.congr {o : Oper} {ρ ρ' : Operand → PV} {r : PV} (h : OpPure P glob o ρ r) (he : ∀ x ∈ o.op.operands, ρ' x = ρ x) : OpPure P glob o ρ' r :=
  fun σ => (h σ).congr he

def asB : Value → Option Bool | .bool b => some b | _ => none

/-- What the guard of an operation says in a frame. -/
def gd (ops : Array Oper) (f : Nat → PV) (o : Oper) (b : Bool) : Prop :=
  match o.guard with
  | none => b = true
  | some (j, want) => ∃ d t, (ops[j]?).bind (·.dst) = some d ∧ f d = .lit t ∧ b = (asB t == some want)

variable (P glob) in
/-- One operation. -/
def AStep (ops : Array Oper) (o : Oper) (f : Nat → PV) (σ : Store) (K : (Nat → PV) → Store → Prop) : Prop :=
  ∃ b, gd ops f o b ∧ (b = true → OpOk P glob o (evF glob f) σ fun p σ' => K (upd f o.dst p) σ') ∧ (b = false → K (upd f o.dst (.lit undef)) σ)

variable (P glob) in
/-- One operation that yields what it yields whatever is owned. -/
def AYields (ops : Array Oper) (o : Oper) (f : Nat → PV) (r : PV) : Prop :=
  ∃ b, gd ops f o b ∧ (b = true → OpPure P glob o (evF glob f) r) ∧ (b = false → r = .lit undef)

theorem AStep.mono {ops : Array Oper} {o : Oper} {f : Nat → PV} {K K' : (Nat → PV) → Store → Prop} (h : AStep P glob ops o f σ K) (hk : ∀ f σ, K f σ → K' f σ) : AStep P glob ops o f σ K' := by
  obtain ⟨b, h1, h2, h3⟩ := h
  exact ⟨b, h1, fun e => (h2 e).mono fun _ _ => hk _ _, fun e => hk _ _ (h3 e)⟩

theorem AYields.step {ops : Array Oper} {o : Oper} {f : Nat → PV} {r : PV} {K : (Nat → PV) → Store → Prop} (h : AYields P glob ops o f r) (hk : K (upd f o.dst r) σ) : AStep P glob ops o f σ K := by
  obtain ⟨b, h1, h2, h3⟩ := h
  exact ⟨b, h1, fun e => (h2 e).ok hk, fun e => by rw [← h3 e]; exact hk⟩

theorem gd_congr {ops : Array Oper} {f f' : Nat → PV} {o : Oper} {b : Bool} (h : gd ops f o b) (he : ∀ j w d, o.guard = some (j, w) → (ops[j]?).bind (·.dst) = some d → f' d = f d) : gd ops f' o b := by
  unfold gd at *
  split
  · rename_i hg; simpa [hg] using h
  · rename_i j w hg
    simp only [hg] at h
    obtain ⟨d, t, h1, h2, h3⟩ := h
    exact ⟨d, t, h1, by rw [he j w d hg h1]; exact h2, h3⟩

/-- A frame that differs in a slot at which the operation does not lk. -/
theorem evF_upd {f : Nat → PV} {d : Option Nat} {p : PV} {x : Operand} (h : ∀ y, d = some y → x ≠ .tmp y) : evF glob (upd f d p) x = evF glob f x := by
  cases x with
  | tmp t =>
    simp only [evF, upd]
    cases d with
    | none => rfl
    | some d => simp only; rw [if_neg (fun e => h d rfl (by rw [e]))]
  | _ => rfl

theorem looks_op {ops : Array Oper} {o : Oper} {t : Nat} (h : t ∉ o.looksAt ops) : ∀ x ∈ o.op.operands, x ≠ .tmp t := by
  intro x hx e
  subst e
  exact h (List.mem_append_left _ (List.mem_filterMap.2 ⟨.tmp t, by simpa using hx, rfl⟩))

theorem looks_gd {ops : Array Oper} {o : Oper} {t : Nat} (h : t ∉ o.looksAt ops) : ∀ j w d, o.guard = some (j, w) → (ops[j]?).bind (·.dst) = some d → d ≠ t := by
  intro j w d hg hd e
  subst e
  exact h (List.mem_append_right _ (by simp [hg, hd]))

theorem AStep.put {ops : Array Oper} {o : Oper} {f : Nat → PV} {d : Option Nat} {p : PV} (hd : ∀ t, d = some t → t ∉ o.looksAt ops) {K : (Nat → PV) → Store → Prop} (h : AStep P glob ops o (upd f d p) σ K)
    {K' : (Nat → PV) → Store → Prop} (hk : ∀ q σ', K (upd (upd f d p) o.dst q) σ' → K' (upd f o.dst q) σ') : AStep P glob ops o f σ K' := by
  obtain ⟨b, h1, h2, h3⟩ := h
  refine ⟨b, gd_congr h1 fun j w t hg ht => ?_, fun e => ((h2 e).congr fun x hx => ?_).mono fun q σ' => hk q σ', fun e => hk _ _ (h3 e)⟩
  · cases d with
    | none => rfl
    | some d =>
      have := looks_gd (hd d rfl) j w t hg ht
      simp [upd, this]
  · exact (evF_upd fun y hy => looks_op (hd y hy) x hx).symm

theorem AYields.put {ops : Array Oper} {o : Oper} {f : Nat → PV} {r : PV} (h : AYields P glob ops o f r) {d : Option Nat} (p : PV) (hd : ∀ t, d = some t → t ∉ o.looksAt ops) : AYields P glob ops o (upd f d p) r := by
  obtain ⟨b, h1, h2, h3⟩ := h
  refine ⟨b, gd_congr h1 fun j w t hg ht => ?_, fun e => (h2 e).congr fun x hx => ?_, h3⟩
  · cases d with
    | none => rfl
    | some d =>
      have := looks_gd (hd d rfl) j w t hg ht
      simp [upd, this]
  · exact evF_upd fun y hy => looks_op (hd y hy) x hx

theorem upd_comm (f : Nat → PV) {x y : Option Nat} (p q : PV) (h : ∀ d, x = some d → y ≠ some d) : upd (upd f x p) y q = upd (upd f y q) x p := by
  funext t
  cases x with
  | none => rfl
  | some d =>
    cases y with
    | none => rfl
    | some e =>
      have hne : e ≠ d := fun h' => h d rfl (by rw [h'])
      simp only [upd]
      by_cases h1 : t = e
      · subst h1; simp [hne]
      · simp [h1]

/-! Whatever order. -/

variable (P glob) in
def AAny (ops : Array Oper) (K : (Nat → PV) → Store → Prop) : Nat → Array Bool → (Nat → PV) → Store → Prop
  | 0, listed, f, σ => Region.ready .any ops listed = [] ∧ K f σ
  | fuel + 1, listed, f, σ => (Region.ready .any ops listed = [] → K f σ) ∧
    ∀ i ∈ Region.ready .any ops listed, ∀ o, ops[i]? = some o → AStep P glob ops o f σ (fun f' σ' => AAny ops K fuel (listed.setIfInBounds i true) f' σ')

theorem ready_lt {ops : Array Oper} {listed : Array Bool} {i : Nat} (h : i ∈ Region.ready .any ops listed) : ∃ o, ops[i]? = some o := by
  have := (List.mem_filter.1 h).1
  simp at this
  exact ⟨ops[i], by simp [this]⟩

theorem AAny_first {ops : Array Oper} {K : (Nat → PV) → Store → Prop} {i : Nat} {oi : Oper} {r : PV} (hi : ops[i]? = some oi) :
    ∀ (fuel : Nat) (listed : Array Bool) (f : Nat → PV) (σ : Store),
      (∀ j oj, ops[j]? = some oj → j ≠ i → listed.getD j true = false → (∀ e ∈ oj.after, Region.binds .any e = true → e.on ≠ i) → oi.apart ops oj = true) →
      i ∈ Region.ready .any ops listed → AYields P glob ops oi f r →
      AAny P glob ops K fuel (listed.setIfInBounds i true) (upd f oi.dst r) σ → AAny P glob ops K (fuel + 1) listed f σ := by
  intro fuel
  induction fuel with
  | zero =>
    intro listed f σ _ hr hy H
    refine ⟨fun h => (by rw [h] at hr; cases hr), fun j hj o ho => ?_⟩
    by_cases hji : j = i
    · subst hji
      rw [hi] at ho; cases ho
      exact hy.step H
    · have := ready_mono hj hji
      rw [H.1] at this
      cases this
  | succ fuel ih =>
    intro listed f σ hfree hr hy H
    refine ⟨fun h => (by rw [h] at hr; cases hr), fun j hj oj hoj => ?_⟩
    by_cases hji : j = i
    · subst hji
      rw [hi] at hoj; cases hoj
      exact hy.step H
    · have h1 := H.2 j (ready_mono hj hji) oj hoj
      obtain ⟨hjun, oj', hoj', hall⟩ := mem_ready.1 hj
      rw [hoj] at hoj'
      cases hoj'
      have hnot : ∀ e ∈ oj.after, Region.binds .any e = true → e.on ≠ i := fun e he hb heq => by
        have h1 := hall e he hb
        have h0 := (mem_ready.1 hr).1
        rw [heq] at h1
        rcases Nat.lt_or_ge i listed.size with h' | h'
        · simp [h'] at h0 h1; rw [h0] at h1; cases h1
        · simp [Array.getElem?_eq_none h'] at h1
      have hap := hfree j oj hoj hji hjun hnot
      obtain ⟨a1, a2, a3⟩ := Oper.apart_spec hap
      have hfree' : ∀ k ok, ops[k]? = some ok → k ≠ i → (listed.setIfInBounds j true).getD k true = false →
          (∀ e ∈ ok.after, Region.binds .any e = true → e.on ≠ i) → oi.apart ops ok = true := fun k ok hk hki hun hno => by
        refine hfree k ok hk hki ?_ hno
        by_cases hjk : j = k
        · subst hjk; exact hjun
        · rw [getD_set_ne true hjk] at hun; exact hun
      refine AStep.put a1 h1 fun q σ' h2 => ?_
      refine ih (listed.setIfInBounds j true) _ σ' hfree' (ready_mono hr (Ne.symm hji)) (hy.put q a3) ?_
      rw [Array.setIfInBounds_comm _ _ hji, ← upd_comm f r q a2]
      exact h2

/-- An order, and which of its operations yield what they yield whatever is owned; the others come up alone. -/
def okOrd (ops : Array Oper) : List (Nat × Bool) → Array Bool → Bool
  | [], listed => (Region.ready .any ops listed).isEmpty
  | (i, true) :: r, listed => (Region.ready .any ops listed).contains i && Region.free .any ops listed i && okOrd ops r (listed.setIfInBounds i true)
  | (i, false) :: r, listed => (Region.ready .any ops listed == [i]) && okOrd ops r (listed.setIfInBounds i true)

variable (P glob) in
/-- The operations in that order. -/
def AOrd (ops : Array Oper) (K : (Nat → PV) → Store → Prop) : List (Nat × Bool) → (Nat → PV) → Store → Prop
  | [], f, σ => K f σ
  | (i, true) :: r, f, σ => ∃ o p, ops[i]? = some o ∧ AYields P glob ops o f p ∧ AOrd ops K r (upd f o.dst p) σ
  | (i, false) :: r, f, σ => ∃ o, ops[i]? = some o ∧ AStep P glob ops o f σ (fun f' σ' => AOrd ops K r f' σ')

theorem AAny_of_ord {ops : Array Oper} {K : (Nat → PV) → Store → Prop} : ∀ (ord : List (Nat × Bool)) (listed : Array Bool) (f : Nat → PV) (σ : Store), okOrd ops ord listed = true → AOrd P glob ops K ord f σ → AAny P glob ops K ord.length listed f σ
  | [], listed, f, σ, hB, h => ⟨by simpa [okOrd] using hB, h⟩
  | (i, true) :: r, listed, f, σ, hB, h => by
    simp only [okOrd, Bool.and_eq_true] at hB
    obtain ⟨⟨h1, h2⟩, h3⟩ := hB
    obtain ⟨o, p, ho, hy, hk⟩ := h
    exact AAny_first ho r.length listed f σ (Region.free_spec ho h2) (by simpa using h1) hy (AAny_of_ord r _ _ σ h3 hk)
  | (i, false) :: r, listed, f, σ, hB, h => by
    simp only [okOrd, Bool.and_eq_true, beq_iff_eq] at hB
    obtain ⟨h1, h3⟩ := hB
    obtain ⟨o, ho, hk⟩ := h
    refine ⟨fun e => (by rw [e] at h1; cases h1), fun j hj oj hoj => ?_⟩
    rw [h1] at hj
    simp at hj
    subst hj
    rw [ho] at hoj; cases hoj
    exact hk.mono fun f' σ' h => AAny_of_ord r _ f' σ' h3 h

/-! Down to the machine. -/

def FrF (gh : Gh) (w : World) (n : Nat) (f : Nat → PV) (a : Act) : Prop := a.tmps.size = n ∧ a.defers = [] ∧ ∀ t, Rep gh w (a.tmps.getD t undef) (f t)

theorem FrF.ext {gh gh' : Gh} {w w' : World} {f : Nat → PV} {a : Act} (x : Ext gh w gh' w') (h : FrF gh w n f a) : FrF gh' w' n f a :=
  ⟨h.1, h.2.1, fun t => (h.2.2 t).ext x⟩

theorem FrF.put {gh : Gh} {w : World} {f : Nat → PV} {a : Act} (h : FrF gh w n f a) {d : Option Nat} (hd : ∀ x, d = some x → x < n) {v : Value} {r : PV} (hr : Rep gh w v r) : FrF gh w n (upd f d r) (a.put d v) := by
  cases d with
  | none => exact h
  | some d =>
    have hdn := hd d rfl
    refine ⟨by simp [Act.put, h.1], by simp [Act.put, h.2.1], fun t => ?_⟩
    simp only [upd, Act.put]
    by_cases ht : t = d
    · subst ht; simp [h.1, hdn]; exact hr
    · rw [if_neg ht]
      have : (a.tmps.setIfInBounds d v).getD t undef = a.tmps.getD t undef := by
        simp [Array.getElem?_setIfInBounds_ne (Ne.symm ht)]
      rw [this]; exact h.2.2 t

theorem rep_evF {gh : Gh} {w : World} {f : Nat → PV} {a : Act} (hR : R glob gh σ w) (h : FrF gh w n f a) (x : Operand) : Rep gh w (a.eval x) (evF glob f x) := by
  cases x with
  | tmp t => exact h.2.2 t
  | const v => exact rep_ofV gh w v
  | global g => exact hR.gl g
  | func f => exact .fn _ _ _ _ _ rfl rfl (fun i p h => by simp at h) (fun i p h => by simp at h)

theorem gd_wanted {gh : Gh} {w : World} {ops : Array Oper} {f : Nat → PV} {a : Act} {o : Oper} {b : Bool} (h : FrF gh w n f a) (hg : gd ops f o b) : Region.wanted o (yielded ops a.tmps) = b := by
  unfold gd at hg
  unfold Region.wanted
  split at hg
  · rename_i h0; rw [h0]; exact hg.symm
  · rename_i j want h0
    rw [h0]
    obtain ⟨d, t, h1, h2, h3⟩ := hg
    have hr := h.2.2 d
    rw [h2] at hr
    have hv := lit_of_rep hr
    have hd : yielded ops a.tmps j = asB t := by
      simp only [yielded, h1, Option.bind_some]
      rcases Nat.lt_or_ge d a.tmps.size with h' | h'
      · simp [h'] at hv ⊢; rw [hv]; cases t <;> rfl
      · simp [Array.getElem?_eq_none h'] at hv ⊢; rw [← hv]; rfl
    simp only [hd]; exact h3.symm

theorem Oper.wp_monoQ {o : Oper} {a : Act} {w : World} {K : Act → World → Prop} {Q : Exit → Act → World → Prop} (h : o.wp P a w K (fun _ _ _ => False)) : o.wp P a w K Q := by
  unfold Oper.wp at *
  generalize (execOp a.eval o).run P w = r at *
  have lo : ¬ LetsOut (fun _ _ _ => False) := fun ⟨_, _, h⟩ => h
  cases r with
  | ok x w' =>
    cases x <;> simp only [Oper.upon] at h ⊢ <;> try exact h
    refine h.mono fun e w'' he => ?_
    cases e with
    | returned v => exact he
    | panicked c => exact he.elim
    | outgrown => exact absurd he lo
  | halt x w' => cases x <;> simp only [Oper.upon] at h ⊢

/-- A related pair. -/
def St (glob : Nat → PV) (n : Nat) (gh0 : Gh) (w0 : World) (f : Nat → PV) (σ : Store) (a : Act) (w : World) : Prop := ∃ gh, Ext gh0 w0 gh w ∧ R glob gh σ w ∧ FrF gh w n f a

theorem wpOp_of_AStep {ops : Array Oper} (hdst : ∀ (i : Nat) (o : Oper) d, ops[i]? = some o → o.dst = some d → d < n) {gh0 : Gh} {w0 : World} {i : Nat} {o : Oper} (ho : ops[i]? = some o) {f : Nat → PV} {K : (Nat → PV) → Store → Prop} (h : AStep P glob ops o f σ K)
    {a : Act} {w : World} (hs : St glob n gh0 w0 f σ a w) {K' : Act → World → Prop} {Q : Exit → Act → World → Prop} (hk : ∀ f' σ' a' w', K f' σ' → St glob n gh0 w0 f' σ' a' w' → K' a' w') : wpOp P ops Q i K' a w := by
  obtain ⟨gh, x, hR, hF⟩ := hs
  obtain ⟨b, h1, h2, h3⟩ := h
  unfold wpOp
  simp only [ho, gd_wanted hF h1]
  cases b with
  | true =>
    simp only [if_true]
    refine .inl (Oper.wp_monoQ (Oper.wp_mono ?_ (h2 rfl gh w a hR fun y _ => rep_evF hR hF y)))
    rintro a' w' ⟨gh', v, r, σ', e, x', hR', hr, hK⟩
    subst e
    exact hk _ _ _ _ hK ⟨gh', x.trans x', hR', (hF.ext x').put (fun d hd => hdst i o d ho hd) hr⟩
  | false =>
    simp only [Bool.false_eq_true, if_false]
    exact hk _ _ _ _ (h3 rfl) ⟨gh, x, hR, hF.put (fun d hd => hdst i o d ho hd) (.lit _)⟩

theorem wpAny_of_AAny {ops : Array Oper} (hdst : ∀ (i : Nat) (o : Oper) d, ops[i]? = some o → o.dst = some d → d < n) {gh0 : Gh} {w0 : World} {K : (Nat → PV) → Store → Prop} {Q : Exit → Act → World → Prop}
    (hQ : ∀ f σ a w, K f σ → St glob n gh0 w0 f σ a w → Q .normal a w) : ∀ (fuel : Nat) (listed : Array Bool) (f : Nat → PV) (σ : Store) (a : Act) (w : World), AAny P glob ops K fuel listed f σ → St glob n gh0 w0 f σ a w → wpAny P .any ops Q fuel listed a w
  | 0, listed, f, σ, a, w, h, hs => ⟨h.1, hQ _ _ _ _ h.2 hs⟩
  | fuel + 1, listed, f, σ, a, w, h, hs => ⟨fun e => hQ _ _ _ _ (h.1 e) hs, fun i hi => by
      obtain ⟨o, ho⟩ := ready_lt hi
      exact wpOp_of_AStep hdst ho (h.2 i hi o ho) hs fun f' σ' a' w' hK hs' => wpAny_of_AAny hdst hQ fuel _ f' σ' a' w' hK hs'⟩

variable (P glob) in
/-- The operations as they stand. -/
def ASeq (ops : Array Oper) (K : (Nat → PV) → Store → Prop) : List Nat → (Nat → PV) → Store → Prop
  | [], f, σ => K f σ
  | i :: r, f, σ => match ops[i]? with | none => ASeq ops K r f σ | some o => AStep P glob ops o f σ (fun f' σ' => ASeq ops K r f' σ')

theorem wpOps_of_ASeq {ops : Array Oper} (hdst : ∀ (i : Nat) (o : Oper) d, ops[i]? = some o → o.dst = some d → d < n) {gh0 : Gh} {w0 : World} {K : (Nat → PV) → Store → Prop} {Q : Exit → Act → World → Prop}
    (hQ : ∀ f σ a w, K f σ → St glob n gh0 w0 f σ a w → Q .normal a w) : ∀ (is : List Nat) (f : Nat → PV) (σ : Store) (a : Act) (w : World), ASeq P glob ops K is f σ → St glob n gh0 w0 f σ a w → wpOps P ops Q is a w
  | [], f, σ, a, w, h, hs => hQ _ _ _ _ h hs
  | i :: r, f, σ, a, w, h, hs => by
    rw [wpOps_cons]
    unfold ASeq at h
    split at h
    · rename_i h0
      unfold wpOp
      simp only [h0]
      exact wpOps_of_ASeq hdst hQ r f σ a w h hs
    · rename_i o h0
      exact wpOp_of_AStep hdst h0 h hs fun f' σ' a' w' hK hs' => wpOps_of_ASeq hdst hQ r f' σ' a' w' hK hs'

def dstOk (n : Nat) (ops : Array Oper) : Bool := ops.toList.all fun o => match o.dst with | some d => decide (d < n) | none => true

theorem dstOk_spec {ops : Array Oper} (h : dstOk n ops = true) : ∀ (i : Nat) (o : Oper) d, ops[i]? = some o → o.dst = some d → d < n := fun i o d hi hd => by
  have := List.all_eq_true.1 h o (by
    have := Array.mem_of_getElem? hi
    simpa using this)
  simpa [hd] using this

/-! The rules. -/

variable (P glob) in
/-- The operations of a list, in its order, over frames as lists. -/
def AL (ops : Array Oper) (K : Fram → Store → Prop) : List Oper → Fram → Store → Prop
  | [], l, σ => K l σ
  | o :: r, l, σ => ∃ b, gd ops (lk l) o b ∧ (b = true → OpOk P glob o (ev glob l) σ fun p σ' => AL ops K r (putF l o.dst p) σ') ∧ (b = false → AL ops K r (putF l o.dst (.lit undef)) σ)

variable (P glob) in
def ALD (ops : Array Oper) (K : Fram → Store → Prop) : List (Oper × Bool) → Fram → Store → Prop
  | [], l, σ => K l σ
  | (o, true) :: r, l, σ => ∃ b, gd ops (lk l) o b ∧ (b = true → ∃ p, OpPure P glob o (ev glob l) p ∧ ALD ops K r (putF l o.dst p) σ) ∧ (b = false → ALD ops K r (putF l o.dst (.lit undef)) σ)
  | (o, false) :: r, l, σ => ∃ b, gd ops (lk l) o b ∧ (b = true → OpOk P glob o (ev glob l) σ fun p σ' => ALD ops K r (putF l o.dst p) σ') ∧ (b = false → ALD ops K r (putF l o.dst (.lit undef)) σ)

theorem ASeq_of_AL {ops : Array Oper} {K : Fram → Store → Prop} : ∀ (k : Nat) (r : List Oper) (l : Fram) (σ : Store), (∀ j, r[j]? = ops[k + j]?) → AL P glob ops K r l σ →
    ASeq P glob ops (fun f σ => ∃ l, lk l = f ∧ K l σ) (List.range' k r.length) (lk l) σ
  | k, [], l, σ, _, h => ⟨l, rfl, h⟩
  | k, o :: r, l, σ, hl, h => by
    have h0 : ops[k]? = some o := by simpa using (hl 0).symm
    have hl' : ∀ j, r[j]? = ops[k + 1 + j]? := fun j => by have := hl (j + 1); simpa [Nat.add_assoc, Nat.add_comm 1 j] using this
    obtain ⟨b, h1, h2, h3⟩ := h
    simp only [List.length_cons, List.range'_succ, ASeq, h0]
    refine ⟨b, h1, fun e => ?_, fun e => ?_⟩
    · have := h2 e
      rw [ev_look] at this
      exact this.mono fun p σ' hk => by rw [← look_putF]; exact ASeq_of_AL (k + 1) r _ σ' hl' hk
    · rw [← look_putF]; exact ASeq_of_AL (k + 1) r _ σ hl' (h3 e)

theorem AOrd_of_ALD {ops : Array Oper} {K : Fram → Store → Prop} : ∀ (ord : List (Nat × Bool)) (r : List (Oper × Bool)) (l : Fram) (σ : Store), ord.map (fun x => (ops[x.1]?, x.2)) = r.map (fun x => (some x.1, x.2)) → ALD P glob ops K r l σ →
    AOrd P glob ops (fun f σ => ∃ l, lk l = f ∧ K l σ) ord (lk l) σ
  | [], [], l, σ, _, h => ⟨l, rfl, h⟩
  | [], _ :: _, _, _, e, _ => by simp at e
  | _ :: _, [], _, _, e, _ => by simp at e
  | (i, true) :: ord, (o, t) :: r, l, σ, e, h => by
    simp only [List.map_cons, List.cons.injEq, Prod.mk.injEq] at e
    obtain ⟨⟨h0, rfl⟩, e⟩ := e
    obtain ⟨b, h1, h2, h3⟩ := h
    cases b with
    | true =>
      obtain ⟨p, hp, hk⟩ := h2 rfl
      rw [ev_look] at hp
      exact ⟨o, p, h0, ⟨true, h1, fun _ => hp, fun e => (by cases e)⟩, by rw [← look_putF]; exact AOrd_of_ALD ord r _ σ e hk⟩
    | false => exact ⟨o, .lit undef, h0, ⟨false, h1, fun e => (by cases e), fun _ => rfl⟩, by rw [← look_putF]; exact AOrd_of_ALD ord r _ σ e (h3 rfl)⟩
  | (i, false) :: ord, (o, t) :: r, l, σ, e, h => by
    simp only [List.map_cons, List.cons.injEq, Prod.mk.injEq] at e
    obtain ⟨⟨h0, rfl⟩, e⟩ := e
    obtain ⟨b, h1, h2, h3⟩ := h
    refine ⟨o, h0, b, h1, fun eb => ?_, fun eb => ?_⟩
    · have := h2 eb
      rw [ev_look] at this
      exact this.mono fun p σ' hk => by rw [← look_putF]; exact AOrd_of_ALD ord r _ σ' e hk
    · rw [← look_putF]; exact AOrd_of_ALD ord r _ σ e (h3 eb)

theorem AWp.region {id : Nat} {os : List Oper} {l : Fram} {Q : Post} (hd : dstOk n os.toArray = true) (h : AL P glob os.toArray (fun l σ => Q .normal l σ) os l σ) : AWp P glob n (.region id os.toArray false) l σ Q := by
  intro gh w a hR hF
  have := ASeq_of_AL 0 os l σ (fun j => by simp) h
  refine wp_region ?_
  have hsz : os.toArray.size = os.length := by simp
  rw [hsz, List.range_eq_range']
  refine wpOps_of_ASeq (n := n) (gh0 := gh) (w0 := w) (dstOk_spec hd) (K := fun f σ => ∃ l, lk l = f ∧ Q .normal l σ) ?_ _ _ σ a w this ⟨gh, .refl _ _, hR, hF⟩
  rintro f σ' a' w' ⟨l', rfl, hq⟩ ⟨gh', x, hR', hF'⟩
  exact ⟨gh', l', σ', x, hR', hF', hq⟩

theorem AWp.regionD {id : Nat} {os : List Oper} {l : Fram} {Q : Post} (hm : P.follows .mixedOrders = true) (hd : dstOk n os.toArray = true) (ord : List (Nat × Bool)) (hlen : ord.length = os.length) (hB : okOrd os.toArray ord (Array.replicate os.length false) = true)
    (r : List (Oper × Bool)) (hr : ord.map (fun x => (os.toArray[x.1]?, x.2)) = r.map (fun x => (some x.1, x.2))) (h : ALD P glob os.toArray (fun l σ => Q .normal l σ) r l σ) : AWp P glob n (.region id os.toArray true) l σ Q := by
  intro gh w a hR hF
  have h1 := AOrd_of_ALD ord r l σ hr h
  have h2 := AAny_of_ord ord _ _ σ hB h1
  refine wp_region_any hm ?_
  have hsz : os.toArray.size = os.length := by simp
  rw [hsz, ← hlen]
  have x0 : Ext gh w gh { w with drawn := w.drawn + 1 } := .drew gh w _
  have hR0 : R glob gh σ { w with drawn := w.drawn + 1 } :=
    ⟨hR.fb, fun o y e => by
      obtain ⟨s, a1, a2, a3, a4⟩ := hR.ob o y e
      exact ⟨s, a1, a2, a3, a4.ext x0 rfl⟩, hR.inj, hR.fresh, fun g => (hR.gl g).ext x0⟩
  rw [← hlen] at h2
  refine wpAny_of_AAny (n := n) (gh0 := gh) (w0 := w) (dstOk_spec hd) (K := fun f σ => ∃ l, lk l = f ∧ Q .normal l σ) ?_ _ _ _ σ a _ h2 ⟨gh, x0, hR0, FrF.ext x0 hF⟩
  rintro f σ' a' w' ⟨l', rfl, hq⟩ ⟨gh', x, hR', hF'⟩
  exact ⟨gh', l', σ', x, hR', hF', hq⟩
end
end Go.Abs
