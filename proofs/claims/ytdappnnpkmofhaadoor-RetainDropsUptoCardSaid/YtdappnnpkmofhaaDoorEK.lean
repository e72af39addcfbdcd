/- errors.As at the numbers of this program: what the model's own entries answer. -/
import Derived.Test.YtdappnnpkmofhaaDoorBA
import Derived.Stop.Asserts
import Derived.RowKitTokens
import Derived.Laws.Externs
set_option linter.unusedSimpArgs false
set_option linter.unusedVariables false
namespace Go.Proofs
open Go Go.Abs Go.RowKit Go.Extern.Stop Go.Stop Go.Extern
variable {glob : Nat → PV} {σ : Store}
set_option maxRecDepth 10000
set_option maxHeartbeats 4000000
def hnd (t : Nat) : PV := .lit (.pointer (some ⟨4, t, none⟩))
def val (t : Nat) (a : PV) (fl : Int) : PV := .agg [hnd t, a, .lit (.int .u64 fl)]
def rty (t : Nat) : PV := .iface 93 (.agg [hnd t])
theorem one_arg {gh : Gh} {w : World} {vs : List Value} {p : PV} (h : RepL gh w vs [p]) : ∃ v, vs = [v] ∧ Rep gh w v p := by
  match vs, h with
  | [v], h => exact ⟨v, rfl, h.2 0 p rfl⟩
theorem two_args {gh : Gh} {w : World} {vs : List Value} {p q : PV} (h : RepL gh w vs [p, q]) : ∃ v u, vs = [v, u] ∧ Rep gh w v p ∧ Rep gh w u q := by
  match vs, h with
  | [v, u], h => exact ⟨v, u, rfl, h.2 0 p rfl, h.2 1 q rfl⟩
theorem rep_hnd {gh : Gh} {w : World} {t : Nat} : Rep gh w (.pointer (some ⟨4, t, none⟩)) (hnd t) := .lit _
theorem of_hnd {gh : Gh} {w : World} {t : Nat} {v : Value} (h : Rep gh w v (hnd t)) : v = .pointer (some ⟨4, t, none⟩) := by
  unfold hnd at h; cases h; rfl
theorem rep_agg1 {gh : Gh} {w : World} {v : Value} {p : PV} (h : Rep gh w v p) : Rep gh w (.agg #[v]) (.agg [p]) :=
  .agg _ _ rfl fun i q hq => by
    match i, hq with
    | 0, hq => simp at hq; subst hq; exact h
theorem of_agg1 {gh : Gh} {w : World} {v : Value} {p : PV} (h : Rep gh w v (.agg [p])) : ∃ u, v = .agg #[u] ∧ Rep gh w u p := by
  cases h with
  | agg vs _ hn hr =>
    obtain ⟨l⟩ := vs
    match l, hn with
    | [u], _ => exact ⟨u, rfl, hr 0 p rfl⟩
theorem rep_agg3 {gh : Gh} {w : World} {v u x : Value} {p q r : PV} (h : Rep gh w v p) (k : Rep gh w u q) (m : Rep gh w x r) : Rep gh w (.agg #[v, u, x]) (.agg [p, q, r]) :=
  .agg _ _ rfl fun i s hs => by
    match i, hs with
    | 0, hs => simp at hs; subst hs; exact h
    | 1, hs => simp at hs; subst hs; exact k
    | 2, hs => simp at hs; subst hs; exact m
theorem of_agg3 {gh : Gh} {w : World} {v : Value} {p q r : PV} (h : Rep gh w v (.agg [p, q, r])) : ∃ a b c, v = .agg #[a, b, c] ∧ Rep gh w a p ∧ Rep gh w b q ∧ Rep gh w c r := by
  cases h with
  | agg vs _ hn hr =>
    obtain ⟨l⟩ := vs
    match l, hn with
    | [a, b, c], _ => exact ⟨a, b, c, rfl, hr 0 p rfl, hr 1 q rfl, hr 2 r rfl⟩
theorem of_val {gh : Gh} {w : World} {v : Value} {t : Nat} {a : PV} {fl : Int} (h : Rep gh w v (val t a fl)) : ∃ b, v = .agg #[.pointer (some ⟨4, t, none⟩), b, .int .u64 fl] ∧ Rep gh w b a := by
  obtain ⟨x, b, c, rfl, h1, h2, h3⟩ := of_agg3 h
  cases of_hnd h1
  cases h3
  exact ⟨b, rfl, h2⟩
theorem of_ptr {gh : Gh} {w : World} {v : Value} {o off : Nat} (h : Rep gh w v (.ptr o off)) : ∃ s, gh.G o = some s ∧ v = .pointer (some ⟨s.b, s.base + off, none⟩) := by
  cases h with
  | ptr _ _ s hG => exact ⟨s, hG, rfl⟩
theorem of_lit {gh : Gh} {w : World} {v u : Value} (h : Rep gh w v (.lit u)) : v = u := by cases h; rfl
theorem of_iface {gh : Gh} {w : World} {v : Value} {t : TypeId} {p : PV} (h : Rep gh w v (.iface t p)) : ∃ u, v = .iface t u ∧ Rep gh w u p := by
  cases h with
  | iface _ u _ hu => exact ⟨u, rfl, hu⟩

/-- ValueOf: a variable of its own that holds the value. -/
theorem val57 (t : Addr) (w : World) : (ReflectliteValue.unpack (.iface 70 (.pointer (some t)))).run Tryd.prog w = .ok (.agg #[.pointer (some ⟨4, 70, none⟩), .pointer (some ⟨w.heap.size, 0, none⟩), .int .u64 150]) (w.alloc (.cells #[.pointer (some t)] 70)) := by kernel_rfl
theorem e45p {o : Nat} : ACalls Tryd.prog glob 49 [.iface 70 (.ptr o 0)] σ (fun r τ => ∃ o1, σ o1 = none ∧ r = val 70 (.ptr o1 0) 150 ∧ τ = σ.set o1 (.cells [.ptr o 0])) := by
  refine .of_extern (fn := Tryd.f49) (e := fun args => ReflectliteValue.unpack (args.getD 0 (.tuple #[]))) (run_callFunc_extern Tryd.func49 (by kernel_rfl) (by kernel_rfl) (by kernel_rfl) (by kernel_rfl)) fun gh w vs hR hv => ?_
  obtain ⟨v, rfl, h0⟩ := one_arg hv
  obtain ⟨u, rfl, hu⟩ := of_iface h0
  obtain ⟨s, hG, rfl⟩ := of_ptr hu
  obtain ⟨o1, ho1, hσ1⟩ := hR.free
  obtain ⟨r1, x1⟩ := hR.newCells ho1 (c := #[.pointer (some ⟨s.b, s.base + 0, none⟩)]) (cs := [.ptr o 0]) ⟨rfl, fun i p hp => by
    match i, hp with
    | 0, hp => simp at hp; subst hp; exact hu⟩ rfl 70 #[]
  exact ⟨_, _, val57 _ w, _, _, _, x1, r1, rep_agg3 (.lit _) (.ptr o1 0 ⟨w.heap.size, 0, 1⟩ (by simp [Gh.give])) (.lit _), o1, hσ1, rfl, rfl⟩
theorem val54 (n : Int) (w : World) : (ReflectliteValue.unpack (.iface 45 (.int .i64 n))).run Tryd.prog w = .ok (.agg #[.pointer (some ⟨4, 45, none⟩), .pointer (some ⟨w.heap.size, 0, none⟩), .int .u64 130]) (w.alloc (.cells #[.int .i64 n] 45)) := by kernel_rfl
theorem e45n {n : Int} : ACalls Tryd.prog glob 49 [.iface 45 (.lit (.int .i64 n))] σ (fun r τ => ∃ o1, σ o1 = none ∧ r = val 45 (.ptr o1 0) 130 ∧ τ = σ.set o1 (.cells [.lit (.int .i64 n)])) := by
  refine .of_extern (fn := Tryd.f49) (e := fun args => ReflectliteValue.unpack (args.getD 0 (.tuple #[]))) (run_callFunc_extern Tryd.func49 (by kernel_rfl) (by kernel_rfl) (by kernel_rfl) (by kernel_rfl)) fun gh w vs hR hv => ?_
  obtain ⟨v, rfl, h0⟩ := one_arg hv
  obtain ⟨u, rfl, hu⟩ := of_iface h0
  cases of_lit hu
  obtain ⟨o1, ho1, hσ1⟩ := hR.free
  obtain ⟨r1, x1⟩ := hR.newCells ho1 (c := #[.int .i64 n]) (cs := [.lit (.int .i64 n)]) ⟨rfl, fun i p hp => by
    match i, hp with
    | 0, hp => simp at hp; subst hp; exact hu⟩ rfl 45 #[]
  exact ⟨_, _, val54 _ w, _, _, _, x1, r1, rep_agg3 (.lit _) (.ptr o1 0 ⟨w.heap.size, 0, 1⟩ (by simp [Gh.give])) (.lit _), o1, hσ1, rfl, rfl⟩
theorem Pur.of_extern {f : FuncId} {e : Array Value → Sem Value} {args : List PV} {r : PV}
    (hx : ∀ (args : Array Value) (w : World), (callFunc f args).run Tryd.prog w = ((e args).run Tryd.prog w).andThen fun v w' => .ok (.value v) w')
    (h : ∀ gh w vs, RepL gh w vs args → ∃ v, (e vs.toArray).run Tryd.prog w = .ok v w ∧ Rep gh w v r) : Pur Tryd.prog glob f args r :=
  fun σ => .of_extern (fn := Tryd.f49) hx fun gh w vs hR hv => by
    obtain ⟨v, h1, h2⟩ := h gh w vs hv
    exact ⟨v, w, h1, gh, r, σ, .refl _ _, hR, h2, rfl, rfl⟩
theorem cell_of {gh : Gh} {w : World} {o : Nat} {s : Spot} {p : PV} {cs : List PV} (hR : R glob gh σ w) (hG : gh.G o = some s) (hσ : σ o = some (.cells (p :: cs))) : ∃ v, w.cell? ⟨s.b, s.base + 0, none⟩ = some v ∧ Rep gh w v p := by
  obtain ⟨s', g1, _, _, g4⟩ := hR.ob o _ hσ
  rw [hG] at g1; cases g1
  obtain ⟨f, f1, f2⟩ := ObOk.read g4
  exact ⟨f 0, f1 0 (by simp), f2 0 p rfl⟩

theorem type57a (a : Addr) (w : World) : (ReflectliteValue.methodAny (ReflectliteValue.valueError "reflectlite.Value.Type" 0) (fun t _ _ _ => ReflectliteType.toType t) #[.agg #[.pointer (some ⟨4, 70, none⟩), .pointer (some a), .int .u64 150]]).run Tryd.prog w = .ok (.iface 93 (.agg #[.pointer (some ⟨4, 70, none⟩)])) w := by kernel_rfl
theorem e46 {o : Nat} : Pur Tryd.prog glob 50 [val 70 (.ptr o 0) 150] (rty 70) :=
  Pur.of_extern (run_callFunc_extern (e := ReflectliteValue.methodAny (ReflectliteValue.valueError "reflectlite.Value.Type" 0) (fun t _ _ _ => ReflectliteType.toType t)) Tryd.func50 (by kernel_rfl) (by kernel_rfl) (by kernel_rfl) (by kernel_rfl)) fun gh w vs hv => by
    obtain ⟨v, rfl, h0⟩ := one_arg hv
    obtain ⟨b, rfl, hb⟩ := of_val h0
    obtain ⟨s, _, rfl⟩ := of_ptr hb
    exact ⟨_, type57a _ w, .iface _ _ _ (rep_agg1 (.lit _))⟩
def kindE : Array Value → Sem Value := ReflectliteType.abiMethod fun t => do pure (.int .u8 (← Rtype.kind t))
theorem kind57 (w : World) : (kindE #[.pointer (some ⟨4, 70, none⟩)]).run Tryd.prog w = .ok (.int .u8 22) w := by kernel_rfl
theorem kind54 (w : World) : (kindE #[.pointer (some ⟨4, 45, none⟩)]).run Tryd.prog w = .ok (.int .u8 2) w := by kernel_rfl
theorem x93 (args : Array Value) (w : World) : (callFunc 100 args).run Tryd.prog w = ((kindE args).run Tryd.prog w).andThen fun v w' => .ok (.value v) w' :=
  run_callFunc_extern (e := kindE) Tryd.func100 (by kernel_rfl) (by kernel_rfl) (by kernel_rfl) (by kernel_rfl) args w
theorem e93p : Pur Tryd.prog glob 100 [hnd 70] (.lit (.int .u8 22)) :=
  Pur.of_extern x93 fun gh w vs hv => by
    obtain ⟨v, rfl, h0⟩ := one_arg hv
    cases of_hnd h0
    exact ⟨_, kind57 w, .lit _⟩
theorem e93n : Pur Tryd.prog glob 100 [hnd 45] (.lit (.int .u8 2)) :=
  Pur.of_extern x93 fun gh w vs hv => by
    obtain ⟨v, rfl, h0⟩ := one_arg hv
    cases of_hnd h0
    exact ⟨_, kind54 w, .lit _⟩
theorem elem57 (w : World) : (ReflectliteType.method ReflectliteType.elem #[.agg #[.pointer (some ⟨4, 70, none⟩)]]).run Tryd.prog w = .ok (.iface 93 (.agg #[.pointer (some ⟨4, 45, none⟩)])) w := by kernel_rfl
theorem e105 : Pur Tryd.prog glob 112 [.agg [hnd 70]] (rty 45) :=
  Pur.of_extern (run_callFunc_extern (e := ReflectliteType.method ReflectliteType.elem) Tryd.func112 (by kernel_rfl) (by kernel_rfl) (by kernel_rfl) (by kernel_rfl)) fun gh w vs hv => by
    obtain ⟨v, rfl, h0⟩ := one_arg hv
    obtain ⟨u, rfl, hu⟩ := of_agg1 h0
    cases of_hnd hu
    exact ⟨_, elem57 w, .iface _ _ _ (rep_agg1 (.lit _))⟩
theorem impl54 (w : World) : (ReflectliteType.relation "Implements" ReflectliteType.implements_ #[.agg #[.pointer (some ⟨4, 45, none⟩)], .iface 93 (.agg #[.pointer (some ⟨4, 31, none⟩)])]).run Tryd.prog w = .ok (.bool true) w := by kernel_rfl
theorem e106 : Pur Tryd.prog glob 113 [.agg [hnd 45], rty 31] (.lit (.bool true)) :=
  Pur.of_extern (run_callFunc_extern (e := ReflectliteType.relation "Implements" ReflectliteType.implements_) Tryd.func113 (by kernel_rfl) (by kernel_rfl) (by kernel_rfl) (by kernel_rfl)) fun gh w vs hv => by
    obtain ⟨v, u, rfl, h0, h1⟩ := two_args hv
    obtain ⟨x, rfl, hx⟩ := of_agg1 h0
    cases of_hnd hx
    obtain ⟨y, rfl, hy⟩ := of_iface h1
    obtain ⟨z, rfl, hz⟩ := of_agg1 hy
    cases of_hnd hz
    exact ⟨_, impl54 w, .lit _⟩
theorem typeOf64 (v : Value) (w : World) : (ReflectliteType.typeOf #[.iface 60 v]).run Tryd.prog w = .ok (.iface 93 (.agg #[.pointer (some ⟨4, 60, none⟩)])) w := by kernel_rfl
theorem typeOf54 (v : Value) (w : World) : (ReflectliteType.typeOf #[.iface 45 v]).run Tryd.prog w = .ok (.iface 93 (.agg #[.pointer (some ⟨4, 45, none⟩)])) w := by kernel_rfl
theorem x55 (args : Array Value) (w : World) : (callFunc 58 args).run Tryd.prog w = ((ReflectliteType.typeOf args).run Tryd.prog w).andThen fun v w' => .ok (.value v) w' :=
  run_callFunc_extern (e := ReflectliteType.typeOf) Tryd.func58 (by kernel_rfl) (by kernel_rfl) (by kernel_rfl) (by kernel_rfl) args w
theorem e55f {p : PV} : Pur Tryd.prog glob 58 [.iface 60 p] (rty 60) :=
  Pur.of_extern x55 fun gh w vs hv => by
    obtain ⟨v, rfl, h0⟩ := one_arg hv
    obtain ⟨u, rfl, _⟩ := of_iface h0
    exact ⟨_, typeOf64 u w, .iface _ _ _ (rep_agg1 (.lit _))⟩
theorem e55n {p : PV} : Pur Tryd.prog glob 58 [.iface 45 p] (rty 45) :=
  Pur.of_extern x55 fun gh w vs hv => by
    obtain ⟨v, rfl, h0⟩ := one_arg hv
    obtain ⟨u, rfl, _⟩ := of_iface h0
    exact ⟨_, typeOf54 u w, .iface _ _ _ (rep_agg1 (.lit _))⟩
theorem ass64 (w : World) : (ReflectliteType.relation "AssignableTo" ReflectliteType.assignableTo #[.agg #[.pointer (some ⟨4, 60, none⟩)], .iface 93 (.agg #[.pointer (some ⟨4, 45, none⟩)])]).run Tryd.prog w = .ok (.bool false) w := by kernel_rfl
theorem ass54 (w : World) : (ReflectliteType.relation "AssignableTo" ReflectliteType.assignableTo #[.agg #[.pointer (some ⟨4, 45, none⟩)], .iface 93 (.agg #[.pointer (some ⟨4, 45, none⟩)])]).run Tryd.prog w = .ok (.bool true) w := by kernel_rfl
theorem x103 (args : Array Value) (w : World) : (callFunc 110 args).run Tryd.prog w = ((ReflectliteType.relation "AssignableTo" ReflectliteType.assignableTo args).run Tryd.prog w).andThen fun v w' => .ok (.value v) w' :=
  run_callFunc_extern (e := ReflectliteType.relation "AssignableTo" ReflectliteType.assignableTo) Tryd.func110 (by kernel_rfl) (by kernel_rfl) (by kernel_rfl) (by kernel_rfl) args w
theorem e103f : Pur Tryd.prog glob 110 [.agg [hnd 60], rty 45] (.lit (.bool false)) :=
  Pur.of_extern x103 fun gh w vs hv => by
    obtain ⟨v, u, rfl, h0, h1⟩ := two_args hv
    obtain ⟨x, rfl, hx⟩ := of_agg1 h0
    cases of_hnd hx
    obtain ⟨y, rfl, hy⟩ := of_iface h1
    obtain ⟨z, rfl, hz⟩ := of_agg1 hy
    cases of_hnd hz
    exact ⟨_, ass64 w, .lit _⟩
theorem e103n : Pur Tryd.prog glob 110 [.agg [hnd 45], rty 45] (.lit (.bool true)) :=
  Pur.of_extern x103 fun gh w vs hv => by
    obtain ⟨v, u, rfl, h0, h1⟩ := two_args hv
    obtain ⟨x, rfl, hx⟩ := of_agg1 h0
    cases of_hnd hx
    obtain ⟨y, rfl, hy⟩ := of_iface h1
    obtain ⟨z, rfl, hz⟩ := of_agg1 hy
    cases of_hnd hz
    exact ⟨_, ass54 w, .lit _⟩
theorem rlm (z : Sem Value) (f : TypeId → Addr → Nat → Nat → Sem Value) (v : Value) :
    ReflectliteValue.method z f #[v] = (do match ← ReflectliteValue.parts v with | none => z | some (t, a, fl) => f t a fl (fl % 32)) := rfl
theorem parts57 (a : Addr) (w : World) : (ReflectliteValue.parts (.agg #[.pointer (some ⟨4, 70, none⟩), .pointer (some a), .int .u64 150])).run Tryd.prog w = .ok (some (70, a, 150)) w := by kernel_rfl
theorem isNil57 (a p : Addr) (W : World) (ha : W.cell? a = some (.pointer (some p))) :
    (ReflectliteValue.method (ReflectliteValue.valueError "reflectlite.Value.IsNil" 0) ReflectliteValue.isNil #[.agg #[.pointer (some ⟨4, 70, none⟩), .pointer (some a), .int .u64 150]]).run Tryd.prog W = .ok (.bool false) W := by
  rw [rlm]
  simp only [Sem.run_bind, parts57, Result.andThen]
  simp [ReflectliteValue.isNil, loadVar, isAgg, underlying, Tryd.underlying70, ha, Result.andThen]
theorem e47 {o o1 : Nat} (hσ : σ o1 = some (.cells [.ptr o 0])) : ACalls Tryd.prog glob 51 [val 70 (.ptr o1 0) 150] σ (fun r τ => r = .lit (.bool false) ∧ τ = σ) := by
  refine .of_extern (fn := Tryd.f51) (run_callFunc_extern (e := ReflectliteValue.method (ReflectliteValue.valueError "reflectlite.Value.IsNil" 0) ReflectliteValue.isNil) Tryd.func51 (by kernel_rfl) (by kernel_rfl) (by kernel_rfl) (by kernel_rfl)) fun gh w vs hR hv => ?_
  obtain ⟨v, rfl, h0⟩ := one_arg hv
  obtain ⟨b, rfl, hb⟩ := of_val h0
  obtain ⟨s, hG, rfl⟩ := of_ptr hb
  obtain ⟨u, hc, hu⟩ := cell_of hR hG hσ
  obtain ⟨s2, hG2, rfl⟩ := of_ptr hu
  exact ⟨_, w, isNil57 _ _ w hc, gh, _, σ, .refl _ _, hR, .lit _, rfl, rfl⟩
theorem elemOf57 (w : World) : (Rtype.elem? 70).run Tryd.prog w = .ok (some 45) w := by kernel_rfl
theorem mk54 (p : Addr) (w : World) : (ReflectliteValue.mk 45 p ReflectliteValue.flagAddr).run Tryd.prog w = .ok (.agg #[.pointer (some ⟨4, 45, none⟩), .pointer (some p), .int .u64 386]) w := by kernel_rfl
theorem elemV57 (a p : Addr) (W : World) (ha : W.cell? a = some (.pointer (some p))) :
    (ReflectliteValue.method (ReflectliteValue.valueError "reflectlite.Value.Elem" 0) ReflectliteValue.elem #[.agg #[.pointer (some ⟨4, 70, none⟩), .pointer (some a), .int .u64 150]]).run Tryd.prog W
      = .ok (.agg #[.pointer (some ⟨4, 45, none⟩), .pointer (some p), .int .u64 386]) W := by
  rw [rlm]
  simp only [Sem.run_bind, parts57, Result.andThen]
  simp [ReflectliteValue.elem, loadVar, isAgg, underlying, Tryd.underlying70, ha, Result.andThen, elemOf57, mk54]
theorem e56 {o o1 : Nat} (hσ : σ o1 = some (.cells [.ptr o 0])) : ACalls Tryd.prog glob 59 [val 70 (.ptr o1 0) 150] σ (fun r τ => r = val 45 (.ptr o 0) 386 ∧ τ = σ) := by
  refine .of_extern (fn := Tryd.f59) (run_callFunc_extern (e := ReflectliteValue.method (ReflectliteValue.valueError "reflectlite.Value.Elem" 0) ReflectliteValue.elem) Tryd.func59 (by kernel_rfl) (by kernel_rfl) (by kernel_rfl) (by kernel_rfl)) fun gh w vs hR hv => ?_
  obtain ⟨v, rfl, h0⟩ := one_arg hv
  obtain ⟨b, rfl, hb⟩ := of_val h0
  obtain ⟨s, hG, rfl⟩ := of_ptr hb
  obtain ⟨u, hc, hu⟩ := cell_of hR hG hσ
  obtain ⟨s2, hG2, rfl⟩ := of_ptr hu
  exact ⟨_, w, elemV57 _ _ w hc, gh, _, σ, .refl _ _, hR, rep_agg3 (.lit _) hu (.lit _), rfl, rfl⟩
theorem rls (v x : Value) : ReflectliteValue.set #[v, x] = (do
    let (some (dst, a, fl), some (src, b, _)) := (← ReflectliteValue.parts v, ← ReflectliteValue.parts x)
      | unsupported (.noEntry "extern/(internal/reflectlite.Value).Set.zeroValue")
    if fl / ReflectliteValue.flagAddr % 2 == 0 then unsupported (.noEntry "extern/(internal/reflectlite.Value).Set.unaddressable")
    let val ← loadVar src b
    if ← Rtype.directlyAssignable dst src then storeVar dst a val
    else if ← Rtype.implements dst src then
      if (← Rtype.kind src) == 20 then
        match val with
        | .nilIface => unsupported (.noEntry "extern/reflectlite: a nil value of one interface type handed on as a value of another")
        | _ => storeVar dst a val
      else storeVar dst a (.iface src val)
    else panicString ("reflectlite.Set: value of type " ++ (← Rtype.spelt src) ++ " is not assignable to type " ++ (← Rtype.spelt dst))
    pure (.tuple #[])) := rfl
theorem parts54a (a : Addr) (w : World) : (ReflectliteValue.parts (.agg #[.pointer (some ⟨4, 45, none⟩), .pointer (some a), .int .u64 386])).run Tryd.prog w = .ok (some (45, a, 386)) w := by kernel_rfl
theorem parts54 (a : Addr) (w : World) : (ReflectliteValue.parts (.agg #[.pointer (some ⟨4, 45, none⟩), .pointer (some a), .int .u64 130])).run Tryd.prog w = .ok (some (45, a, 130)) w := by kernel_rfl
theorem direct54 (w : World) : (Rtype.directlyAssignable 45 45).run Tryd.prog w = .ok true w := by kernel_rfl
theorem size54 (w : World) : (sizeOf 45).run Tryd.prog w = .ok 1 w := by kernel_rfl
theorem set54 (ta b : Addr) (n : Int) (W W' : World) (hb : W.cell? b = some (.int .i64 n)) (hs : (storeCells ta [.int .i64 n]).run Tryd.prog W = .ok () W') :
    (ReflectliteValue.set #[.agg #[.pointer (some ⟨4, 45, none⟩), .pointer (some ta), .int .u64 386], .agg #[.pointer (some ⟨4, 45, none⟩), .pointer (some b), .int .u64 130]]).run Tryd.prog W = .ok (.tuple #[]) W' := by
  rw [rls]
  simp only [Sem.run_bind, parts54a, parts54, Result.andThen]
  simp [ReflectliteValue.flagAddr, loadVar, isAgg, underlying, Tryd.underlying45, hb, Result.andThen, direct54, storeVar, Value.cells, size54, hs]
theorem e57 {o o2 : Nat} {n : Int} {old : PV} (h1 : σ o = some (.cells [old])) (h2 : σ o2 = some (.cells [.lit (.int .i64 n)])) :
    ACalls Tryd.prog glob 60 [val 45 (.ptr o 0) 386, val 45 (.ptr o2 0) 130] σ (fun r τ => r = .any ∧ τ = σ.set o (.cells [.lit (.int .i64 n)])) := by
  refine .of_extern (fn := Tryd.f60) (run_callFunc_extern (e := ReflectliteValue.set) Tryd.func60 (by kernel_rfl) (by kernel_rfl) (by kernel_rfl) (by kernel_rfl)) fun gh w vs hR hv => ?_
  obtain ⟨v, u, rfl, k0, k1⟩ := two_args hv
  obtain ⟨a, rfl, ha⟩ := of_val k0
  obtain ⟨b, rfl, hb⟩ := of_val k1
  obtain ⟨s, hG, rfl⟩ := of_ptr ha
  obtain ⟨s2, hG2, rfl⟩ := of_ptr hb
  obtain ⟨c, hc, hc'⟩ := cell_of hR hG2 h2
  cases of_lit hc'
  have hrep : ∀ i p, [PV.lit (.int .i64 n)][i]? = some p → Rep gh w (([.int .i64 n] : List Value).getD i undef) p := fun i p hp => by
    match i, hp with
    | 0, hp => simp at hp; subst hp; exact .lit _
  obtain ⟨x1, x2⟩ := hR.write h1 hG (off := 0) (vs := [.int .i64 n]) (ps := [.lit (.int .i64 n)]) rfl (by simp) hrep rfl
  have hn : s.base + 1 ≤ s.n := by
    obtain ⟨s', g1, _, _, c, _, _, _, _, c3, _, _⟩ := hR.ob o _ h1
    rw [hG] at g1; cases g1; exact c3
  have hr := run_storeCells_owned (P := Tryd.prog) hR h1 hG (off := 0) (vs := [.int .i64 n]) (by simpa using hn) (fun v hv => by simp at hv; subst hv; rfl)
  refine ⟨_, _, set54 _ _ n w _ hc hr, gh, _, _, x1, x2, .any _, rfl, ?_⟩
  rfl
end Go.Proofs
