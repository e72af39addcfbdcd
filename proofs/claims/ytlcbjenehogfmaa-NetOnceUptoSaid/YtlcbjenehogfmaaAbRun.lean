/- Rules in the shape in which a walk meets them. -/
import Derived.Test.YtlcbjenehogfmaaAbFn
import Derived.KernelRfl
set_option linter.unusedSimpArgs false
set_option linter.unusedVariables false
namespace Go.Abs
open Go

section
variable {P : Program} {glob : Nat → PV} {n : Nat} {σ : Store} {l : Fram} {Q : Post}

theorem AWp.seqR {id : Nat} {os : List Oper} {y : Code} (hd : dstOk n os.toArray = true) (h : ∀ K : Fram → Store → Prop, (∀ l σ, AWp P glob n y l σ Q → K l σ) → opsW P glob os.toArray os l σ K) :
    AWp P glob n (.seq (.region id os.toArray false) y) l σ Q :=
  .seq_k fun K hK => .reg hd (h K hK)

theorem AWp.seqD {id : Nat} {os : List Oper} {y : Code} (ord : List (Nat × Bool)) (r : List (Oper × Bool)) (hm : P.follows .mixedOrders = true) (hB : (dstOk n os.toArray && (ord.length == os.length) && okOrd os.toArray ord (Array.replicate os.length false)) = true)
    (hr : ord.map (fun x => (os.toArray[x.1]?, x.2)) = r.map (fun x => (some x.1, x.2))) (h : ∀ K : Fram → Store → Prop, (∀ l σ, AWp P glob n y l σ Q → K l σ) → opsDW P glob os.toArray r l σ K) :
    AWp P glob n (.seq (.region id os.toArray true) y) l σ Q :=
  .seq_k fun K hK => .regD ord r hm hB hr (h K hK)

theorem AWp.regK {id : Nat} {os : List Oper} (hd : dstOk n os.toArray = true) (h : ∀ K : Fram → Store → Prop, (∀ l σ, Q .normal l σ → K l σ) → opsW P glob os.toArray os l σ K) :
    AWp P glob n (.region id os.toArray false) l σ Q :=
  .reg hd (h _ fun _ _ h => h)

theorem AWp.regDK {id : Nat} {os : List Oper} (ord : List (Nat × Bool)) (r : List (Oper × Bool)) (hm : P.follows .mixedOrders = true) (hB : (dstOk n os.toArray && (ord.length == os.length) && okOrd os.toArray ord (Array.replicate os.length false)) = true)
    (hr : ord.map (fun x => (os.toArray[x.1]?, x.2)) = r.map (fun x => (some x.1, x.2))) (h : ∀ K : Fram → Store → Prop, (∀ l σ, Q .normal l σ → K l σ) → opsDW P glob os.toArray r l σ K) :
    AWp P glob n (.region id os.toArray true) l σ Q :=
  .regD ord r hm hB hr (h _ fun _ _ h => h)

/-- A piece of code, then the rest, with an assertion in between that says less. -/
theorem AWp.seqCut {x y : Code} (M : Fram → Store → Prop) (hx : AWp P glob n x l σ (AThen M Q)) (hy : ∀ l σ, M l σ → AWp P glob n y l σ Q) : AWp P glob n (.seq x y) l σ Q :=
  .seq (hx.mono fun e l σ h => by cases e <;> first | exact hy _ _ h | exact h)

/-- The same with one frame and a store of which something is said. -/
theorem AWp.seqCutF {x y : Code} (F : Fram) (S : Store → Prop) (hx : AWp P glob n x l σ (AThen (fun l σ => LeF l F ∧ S σ) Q)) (hy : ∀ σ, S σ → AWp P glob n y F σ Q) : AWp P glob n (.seq x y) l σ Q :=
  .seqCut _ hx fun _ σ h => (hy σ h.2).weaken h.1 (.refl _)

/-- Operations that all yield what they yield whatever is owned. -/
def opsPW (P : Program) (glob : Nat → PV) (ops : Array Oper) : List Oper → Fram → (Fram → Prop) → Prop
  | [], l, K => K l
  | o :: r, l, K => gW ops l o (pW P glob o.op (ev glob l) fun p => opsPW P glob ops r (putF l o.dst p) K) (opsPW P glob ops r (putF l o.dst (.lit undef)) K)

theorem opsPW_ALD {ops : Array Oper} {K : Fram → Store → Prop} : ∀ (r : List Oper) (l : Fram), opsPW P glob ops r l (fun l => K l σ) → ALD P glob ops K (r.map fun o => (o, true)) l σ
  | [], _, h => h
  | o :: r, l, h => by
    obtain ⟨b, h1, h2, h3⟩ := gW_gd h
    refine ⟨b, h1, fun e => ?_, fun e => opsPW_ALD r _ (h3 e)⟩
    obtain ⟨p, hp, hk⟩ := pW_sound (h2 e)
    exact ⟨p, hp, opsPW_ALD r _ hk⟩

def allPure (k : Nat) : List (Nat × Bool) := (List.range k).map fun i => (i, true)

theorem AWp.regP {id : Nat} {os : List Oper} (hm : P.follows .mixedOrders = true) (hB : (dstOk n os.toArray && okOrd os.toArray (allPure os.length) (Array.replicate os.length false)) = true)
    (h : ∀ K : Fram → Prop, (∀ l, Q .normal l σ → K l) → opsPW P glob os.toArray os l K) : AWp P glob n (.region id os.toArray true) l σ Q := by
  simp only [Bool.and_eq_true] at hB
  refine .regionD hm hB.1 (allPure os.length) (by simp [allPure]) hB.2 (os.map fun o => (o, true)) ?_ (opsPW_ALD os l (h _ fun _ h => h))
  apply List.ext_getElem?
  intro i
  simp only [allPure, List.map_map, List.getElem?_map]
  by_cases hi : i < os.length
  · simp [hi]
  · simp [Nat.le_of_not_lt hi]

theorem AWp.seqP {id : Nat} {os : List Oper} {y : Code} (hm : P.follows .mixedOrders = true) (hB : (dstOk n os.toArray && okOrd os.toArray (allPure os.length) (Array.replicate os.length false)) = true)
    (h : ∀ K : Fram → Prop, (∀ l, AWp P glob n y l σ Q → K l) → opsPW P glob os.toArray os l K) : AWp P glob n (.seq (.region id os.toArray true) y) l σ Q :=
  .seq (.regP hm hB fun K hK => h K fun l hl => hK l hl)

/-- The operations in an order. -/
def pickO (os : List Oper) : List (Nat × Bool) → List (Oper × Bool)
  | [] => []
  | (i, b) :: r => (os.getD i default, b) :: pickO os r

theorem pickO_spec {os : List Oper} : ∀ (ord : List (Nat × Bool)), (ord.all fun x => decide (x.1 < os.length)) = true → ord.map (fun x => (os.toArray[x.1]?, x.2)) = (pickO os ord).map (fun x => (some x.1, x.2))
  | [], _ => rfl
  | (i, b) :: r, h => by
    simp only [List.all_cons, Bool.and_eq_true, decide_eq_true_eq] at h
    simp only [List.map_cons, pickO, pickO_spec r h.2]
    simp [h.1]

theorem AWp.regO {id : Nat} {os : List Oper} (ord : List (Nat × Bool)) (hm : P.follows .mixedOrders = true)
    (hB : ((ord.all fun x => decide (x.1 < os.length)) && (dstOk n os.toArray && (ord.length == os.length) && okOrd os.toArray ord (Array.replicate os.length false))) = true)
    (h : ∀ K : Fram → Store → Prop, (∀ l σ, Q .normal l σ → K l σ) → opsDW P glob os.toArray (pickO os ord) l σ K) : AWp P glob n (.region id os.toArray true) l σ Q := by
  have hB' := Bool.and_eq_true_iff.1 hB
  exact .regD ord (pickO os ord) hm hB'.2 (pickO_spec ord hB'.1) (h _ fun _ _ h => h)

theorem AWp.seqO {id : Nat} {os : List Oper} {y : Code} (ord : List (Nat × Bool)) (hm : P.follows .mixedOrders = true)
    (hB : ((ord.all fun x => decide (x.1 < os.length)) && (dstOk n os.toArray && (ord.length == os.length) && okOrd os.toArray ord (Array.replicate os.length false))) = true)
    (h : ∀ K : Fram → Store → Prop, (∀ l σ, AWp P glob n y l σ Q → K l σ) → opsDW P glob os.toArray (pickO os ord) l σ K) : AWp P glob n (.seq (.region id os.toArray true) y) l σ Q :=
  .seq (.regO ord hm hB fun K hK => h K fun l σ hl => hK l σ hl)

/-- A test. -/
theorem AWp.condK {c : Operand} {x y : Code} (h : ∀ X Y : Prop, (AWp P glob n x l σ Q → X) → (AWp P glob n y l σ Q → Y) → ∃ t, ev glob l c = .lit (.bool t) ∧ (t = true → X) ∧ (t = false → Y)) : AWp P glob n (.cond c x y) l σ Q := by
  obtain ⟨t, h1, h2, h3⟩ := h _ _ id id
  exact .cond h1 h2 h3

theorem AWp.seqC {c : Operand} {x y z : Code} (h : ∀ X Y : Prop, (AWp P glob n x l σ (AThen (fun l σ => AWp P glob n z l σ Q) Q) → X) → (AWp P glob n y l σ (AThen (fun l σ => AWp P glob n z l σ Q) Q) → Y) → ∃ t, ev glob l c = .lit (.bool t) ∧ (t = true → X) ∧ (t = false → Y)) :
    AWp P glob n (.seq (.cond c x y) z) l σ Q :=
  .seq (.condK h)

theorem AWp.narrow {c : Code} (F : Fram) (hl : LeF l F) (h : AWp P glob n c F σ Q) : AWp P glob n c l σ Q := h.weaken hl (.refl _)

theorem Hand.mk {K : PV → Store → Prop} {p : PV} (h : K p σ) : Hand K p σ := .done (.refl _) (.refl _) h
theorem Hand.le {K : PV → Store → Prop} {p q : PV} (hl : Le p q) (h : K q σ) : Hand K p σ := .done hl (.refl _) h

/-- A call whose arguments say more than was asked. -/
theorem Pur.le {f : FuncId} {args args' : List PV} {r : PV} (h : Pur P glob f args' r) (hl : args.length = args'.length) (hq : ∀ (i : Nat) (p q : PV), args[i]? = some p → args'[i]? = some q → Le p q) : Pur P glob f args r :=
  fun σ => (h σ).weaken hl hq (.refl _)

theorem Pur.call {f : FuncId} {args : List PV} {r : PV} {K : PV → Store → Prop} (h : Pur P glob f args r) (hk : K r σ) : ACalls P glob f args σ K :=
  (h σ).mono fun r' σ' ⟨e1, e2⟩ => by rw [e1, e2]; exact hk

/-- Numbers that fit. -/
theorem wrap_i64 {x : Int} (h0 : -9223372036854775808 ≤ x) (h1 : x ≤ 9223372036854775807) : IntKind.i64.wrap x = x := by
  have e : IntKind.i64.wrap x = if x % 18446744073709551616 ≥ 9223372036854775808 then x % 18446744073709551616 - 18446744073709551616 else x % 18446744073709551616 := by
    unfold IntKind.wrap
    simp [IntKind.signed, IntKind.bits]
  rw [e]; split <;> omega
theorem wrap_u8 {x : Int} (h0 : 0 ≤ x) (h1 : x ≤ 255) : IntKind.u8.wrap x = x := by
  have e : IntKind.u8.wrap x = x % 256 := by
    unfold IntKind.wrap
    simp [IntKind.signed, IntKind.bits]
  rw [e]; omega

theorem getD_map {α β : Type} [Inhabited α] {f : α → β} {L : List α} {i : Nat} {d : β} (h : i < L.length) : (L.map f).getD i d = f (L.getD i default) := by
  simp [List.getD_eq_getElem?_getD, h]

/-! One operation at a time, what follows behind a variable. -/

theorem opsW_k {ops : Array Oper} {o : Oper} {r : List Oper} {K : Fram → Store → Prop}
    (h : ∀ K' : Fram → Store → Prop, (∀ l σ, opsW P glob ops r l σ K → K' l σ) → gW ops l o (eW P glob o.op (ev glob l) σ fun p σ' => K' (putF l o.dst p) σ') (K' (putF l o.dst (.lit undef)) σ)) : opsW P glob ops (o :: r) l σ K :=
  h _ fun _ _ h => h
theorem opsW_nil {ops : Array Oper} {K : Fram → Store → Prop} (h : K l σ) : opsW P glob ops [] l σ K := h

theorem opsPW_k {ops : Array Oper} {o : Oper} {r : List Oper} {K : Fram → Prop}
    (h : ∀ K' : Fram → Prop, (∀ l, opsPW P glob ops r l K → K' l) → gW ops l o (pW P glob o.op (ev glob l) fun p => K' (putF l o.dst p)) (K' (putF l o.dst (.lit undef)))) : opsPW P glob ops (o :: r) l K :=
  h _ fun _ h => h
theorem opsPW_nil {ops : Array Oper} {K : Fram → Prop} (h : K l) : opsPW P glob ops [] l K := h

theorem opsDW_kp {os : List Oper} {ops : Array Oper} {i : Nat} {r : List (Nat × Bool)} {K : Fram → Store → Prop}
    (h : ∀ K' : Fram → Store → Prop, (∀ l σ, opsDW P glob ops (pickO os r) l σ K → K' l σ) → gW ops l (os.getD i default) (pW P glob (os.getD i default).op (ev glob l) fun p => K' (putF l (os.getD i default).dst p) σ) (K' (putF l (os.getD i default).dst (.lit undef)) σ)) :
    opsDW P glob ops (pickO os ((i, true) :: r)) l σ K :=
  h _ fun _ _ h => h
theorem opsDW_ke {os : List Oper} {ops : Array Oper} {i : Nat} {r : List (Nat × Bool)} {K : Fram → Store → Prop}
    (h : ∀ K' : Fram → Store → Prop, (∀ l σ, opsDW P glob ops (pickO os r) l σ K → K' l σ) → gW ops l (os.getD i default) (eW P glob (os.getD i default).op (ev glob l) σ fun p σ' => K' (putF l (os.getD i default).dst p) σ') (K' (putF l (os.getD i default).dst (.lit undef)) σ)) :
    opsDW P glob ops (pickO os ((i, false) :: r)) l σ K :=
  h _ fun _ _ h => h
theorem opsDW_nil {os : List Oper} {ops : Array Oper} {K : Fram → Store → Prop} (h : K l σ) : opsDW P glob ops (pickO os []) l σ K := h

end

end Go.Abs
