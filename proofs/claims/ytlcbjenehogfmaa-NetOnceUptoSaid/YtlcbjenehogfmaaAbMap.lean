/- Maps that are owned: their entries in the order in which they came; keys that are numbers or texts. -/
import Derived.Test.YtlcbjenehogfmaaAbIter
import Derived.Laws.StructEq
import GoSem.Instr.MapUpdate
import GoSem.Instr.MakeMap
import GoSem.Builtin.Delete
set_option linter.unusedSimpArgs false
set_option linter.unusedVariables false
namespace Go.Abs
open Go
section
variable {P : Program} {glob : Nat → PV} {ρ : Operand → PV} {σ : Store} {dst : Option Tmp} {ty : TypeId} {pos : String} {after : Array Edge} {guard : Option (Nat × Bool)}

/-- Is a key another one? -/
def keyEq : PV → PV → Option Bool
  | .lit (.int k a), .lit (.int k' b) => if k = k' then some (a == b) else none
  | .lit (.string a), .lit (.string b) => some (strEq a b)
  | _, _ => none
theorem bytes_eq {a b : ByteArray} (h : (a == b) = true) : a = b := by
  obtain ⟨x⟩ := a
  obtain ⟨y⟩ := b
  have e : x = y := by simpa using (show (x == y) = true from h)
  rw [e]
/-- A key that can be asked for, by the type of keys. -/
def keyOk (P : Program) (KT : TypeId) (k : PV) : Bool :=
  match P.underlying KT, k with
  | some (.int _), .lit (.int _ _) => true
  | some .string, .lit (.string _) => true
  | _, _ => false
abbrev Ent := PV × PV × Nat
/-- The place of a key's entry, and what it holds. -/
def findE (k : PV) : List Ent → Nat → Option (Option (Nat × PV))
  | [], _ => some none
  | e :: r, i => match keyEq k e.1 with
    | some true => some (some (i, e.2.1))
    | some false => findE k r (i + 1)
    | none => none

theorem keyOk_spec {KT : TypeId} {k : PV} (h : keyOk P KT k = true) : ∃ d v, P.underlying KT = some d ∧ k = .lit v ∧ ((∃ ik jk n, d = .int ik ∧ v = .int jk n) ∨ (∃ s, d = .string ∧ v = .string s)) := by
  unfold keyOk at h
  split at h
  · rename_i ik jk n h1; exact ⟨_, _, h1, rfl, .inl ⟨_, _, _, rfl, rfl⟩⟩
  · rename_i s h1; exact ⟨_, _, h1, rfl, .inr ⟨_, rfl, rfl⟩⟩
  · cases h

theorem sameNow_of {d : TypeDesc} {v u : Value} {b : Bool} (hd : (∃ ik jk n, d = .int ik ∧ v = .int jk n) ∨ (∃ s, d = .string ∧ v = .string s)) {gh : Gh} {w : World} {q : PV} (hu : Rep gh w u q) (h : keyEq (.lit v) q = some b) : Instr.sameNow d v u = some b := by
  rcases hd with ⟨ik, jk, n, rfl, rfl⟩ | ⟨s, rfl, rfl⟩
  · unfold keyEq at h
    split at h
    · rename_i k' m he
      cases he
      have := lit_of_rep hu
      subst this
      simpa [Instr.sameNow] using h
    · rename_i he; cases he
    · cases h
  · unfold keyEq at h
    split at h
    · rename_i he; cases he
    · rename_i m he
      cases he
      have := lit_of_rep hu
      subst this
      simpa [Instr.sameNow, beq_toListBytes, strEq] using h
    · cases h

/-- What is found there. -/
def FoundRep (gh : Gh) (w : World) : Option (Nat × PV) → Option (Nat × Value) → Prop
  | none, none => True
  | some (i, p), some (j, v) => i = j ∧ Rep gh w v p
  | _, _ => False

theorem findNow_of {d : TypeDesc} {v : Value} (hd : (∃ ik jk n, d = .int ik ∧ v = .int jk n) ∨ (∃ s, d = .string ∧ v = .string s)) {gh : Gh} {w : World} :
    ∀ (ms : List MapEntry) (es : List Ent) (i : Nat) (r : Option (Nat × PV)), ms.length = es.length → (∀ j k x n, es[j]? = some (k, x, n) → Rep gh w (ms.getD j default).key k ∧ Rep gh w (ms.getD j default).val x) →
      findE (.lit v) es i = some r → ∃ r', Instr.findNow d v ms i = some r' ∧ FoundRep gh w r r'
  | [], [], i, r, _, _, h => by
    unfold findE at h; cases h
    exact ⟨none, rfl, trivial⟩
  | [], _ :: _, _, _, hl, _, _ => by simp at hl
  | _ :: _, [], _, _, hl, _, _ => by simp at hl
  | m :: ms, (k, x, n) :: es, i, r, hl, hr, h => by
    have h0 := hr 0 k x n rfl
    simp only [List.getD_cons_zero] at h0
    unfold findE at h
    split at h
    · rename_i hk
      cases h
      refine ⟨some (i, m.val), ?_, rfl, h0.2⟩
      unfold Instr.findNow; rw [sameNow_of hd h0.1 hk]
    · rename_i hk
      obtain ⟨r', h1, h2⟩ := findNow_of hd ms es (i + 1) r (by simpa using hl) (fun j k x n hj => by have := hr (j + 1) k x n (by simpa using hj); simpa using this) h
      refine ⟨r', ?_, h2⟩
      unfold Instr.findNow; rw [sameNow_of hd h0.1 hk]; exact h1
    · cases h

theorem run_findKey {KT : TypeId} {k : PV} (hk : keyOk P KT k = true) {gh : Gh} {w : World} {kv : Value} (hv : Rep gh w kv k) {ms : List MapEntry} {es : List Ent} {r : Option (Nat × PV)} (hl : ms.length = es.length)
    (hr : ∀ j k x n, es[j]? = some (k, x, n) → Rep gh w (ms.getD j default).key k ∧ Rep gh w (ms.getD j default).val x) (h : findE k es 0 = some r) :
    ∃ r', (Instr.findKey KT kv ms).run P w = .ok r' w ∧ FoundRep gh w r r' := by
  obtain ⟨d, v, h1, rfl, h2⟩ := keyOk_spec hk
  have := lit_of_rep hv
  subst this
  obtain ⟨r', h3, h4⟩ := findNow_of h2 ms es 0 r hl hr h
  exact ⟨r', by simp only [Instr.findKey, Sem.run_bind, run_und h1, Result.andThen_ok, h3, Sem.run_pure], h4⟩

theorem run_checkKey {KT : TypeId} {k : PV} (hk : keyOk P KT k = true) {gh : Gh} {w : World} {kv : Value} (hv : Rep gh w kv k) (b : Bool) : (Instr.checkKey b 10000 KT kv).run P w = .ok () w := by
  obtain ⟨d, v, h1, rfl, h2⟩ := keyOk_spec hk
  have := lit_of_rep hv
  subst this
  show (Instr.checkKey b (9999 + 1) KT kv).run P w = _
  unfold Instr.checkKey
  rcases h2 with ⟨ik, jk, n, rfl, rfl⟩ | ⟨s, rfl, rfl⟩
  · simp only [Sem.run_bind, run_und h1, Result.andThen_ok, Sem.run_pure]
  · simp only [Sem.run_bind, run_und h1, Result.andThen_ok, Sem.run_pure]

def zeroV (P : Program) (E : TypeId) : Option PV := ((P.info? E).bind (·.zero)).map ofV
theorem run_zeroV {w : World} {E : TypeId} {p : PV} (h : zeroV P E = some p) : ∃ zz, (zeroValue E).run P w = .ok zz w ∧ ∀ gh w', Rep gh w' zz p := by
  unfold zeroV at h
  cases hi : P.info? E with
  | none => rw [hi] at h; simp at h
  | some i =>
    rw [hi] at h
    simp only [Option.bind_some, Option.map_eq_some_iff] at h
    obtain ⟨zz, hz, rfl⟩ := h
    exact ⟨zz, by simp [zeroValue, typeInfo, hi, hz], fun gh w' => rep_ofV gh w' zz⟩

theorem R.putExt {gh : Gh} {w : World} (h : R glob gh σ w) {o : Nat} {x : PObj} (hσ : σ o = some x) {s : Spot} (hG : gh.G o = some s) (ob : Obj) : Ext gh w gh (w.putObj s.b ob) := by
  obtain ⟨s', g1, g2, g3, g4⟩ := h.ob o _ hσ
  rw [hG] at g1
  cases g1
  have hoth : ∀ b, b ≠ s.b → (w.putObj s.b ob).heap[b]? = w.heap[b]? := fun b hb => World.putObj_heap_other hb
  have hsz : (w.putObj s.b ob).heap.size = w.heap.size := by simp [World.putObj]
  exact ⟨rfl, rfl, rfl, by omega, fun _ h => h, fun b hb => hoth b (fun e => g3 (e ▸ hb)), fun _ _ h => h⟩

/-! A new one. -/

variable (P) in
def makeMapW (T : TypeId) (r : Option PV) (σ : Store) (K : PV → Store → Prop) : Prop :=
  (match r with | none => True | some p => (∃ k e, P.underlying T = some (.map k e)) ∧ ∃ k n, p = .lit (.int k n)) ∧ ∀ o, σ o = none → K (.mp o) (σ.set o (.map [] 0))

theorem eff_makeMap (T : TypeId) (r : Option Operand) {K : PV → Store → Prop} (h : makeMapW P T (r.map ρ) σ K) : OpOk P glob ⟨dst, .makeMap T r, ty, pos, after, guard⟩ ρ σ K := by
  intro gh w a hR hF
  obtain ⟨h1, h2⟩ := h
  obtain ⟨o, ho, hσ⟩ := hR.free
  have x1 : Ext gh w (gh.give o ⟨w.heap.size, 0, 0⟩) (w.alloc (.map #[] 0)) := .give ho _ (.alloc hR _)
  have r1 := hR.alloc ho (.map [] 0) (.map #[] 0) 0 ⟨#[], heap_new _ _, rfl, fun i k x n h => by simp at h⟩
  unfold Oper.wp
  have : (execOp a.eval ⟨dst, .makeMap T r, ty, pos, after, guard⟩).run P w = .ok (.value (.map (some w.heap.size))) (w.alloc (.map #[] 0)) := by
    cases r with
    | none => simp [execOp, Instr.makeMap]
    | some x =>
      simp only [Option.map_some] at h1
      obtain ⟨⟨k, e, hT⟩, ik, n, hx⟩ := h1
      have e := hF x (by simp [Op.operands, Call.operands])
      rw [hx] at e
      have hv := lit_of_rep e
      simp [execOp, Instr.makeMap, hv, run_und hT, asInt, asIntOf]
  rw [this]
  exact ⟨_, _, _, _, rfl, x1, r1, .mp o ⟨w.heap.size, 0, 0⟩ (by simp [Gh.give]), h2 o hσ⟩

/-! Asking. -/

def lookV (c : Bool) (p : PV) (b : Bool) : PV := if c then .tup [p, .lit (.bool b)] else p

variable (P) in
def lookupW (T : TypeId) (c : Bool) (σ : Store) (m k : PV) (K : PV → Prop) : Prop :=
  match m with
  | .mp o => ∃ KT E es clock, P.underlying T = some (.map KT E) ∧ σ o = some (.map es clock) ∧ keyOk P KT k = true ∧ ∃ r, findE k es 0 = some r ∧
      match r with | some (_, x) => K (lookV c x true) | none => ∃ zz, zeroV P E = some zz ∧ K (lookV c zz false)
  | _ => False

theorem getD_toList {α : Type} [Inhabited α] (c : Array α) (j : Nat) : c.toList.getD j default = c.getD j default := by
  simp [Array.getD_eq_getD_getElem?]

theorem rep_lookV {gh : Gh} {w : World} {v : Value} {p : PV} (c b : Bool) (h : Rep gh w v p) : Rep gh w (if c then .tuple #[v, .bool b] else v) (lookV c p b) := by
  unfold lookV
  cases c
  · simpa using h
  · simp only [if_true]
    exact .tup _ _ rfl fun i s hs => by
      match i, hs with
      | 0, hs => simp at hs; subst hs; exact h
      | 1, hs => simp at hs; subst hs; exact .lit _

theorem eff_lookup (T : TypeId) (m k : Operand) (c : Bool) {K : PV → Prop} (h : lookupW P T c σ (ρ m) (ρ k) K) : ∃ r, OpOk P glob ⟨dst, .lookup T m k c, ty, pos, after, guard⟩ ρ σ (fun r' σ' => r' = r ∧ σ' = σ) ∧ K r := by
  unfold lookupW at h
  split at h
  case h_2 => exact h.elim
  rename_i o hm
  obtain ⟨KT, E, es, clock, hT, hσ, hk, r, hf, hK⟩ := h
  have main : ∀ res : PV, (∀ z' : Option (Nat × PV), z' = r → match z' with | some (_, x) => res = lookV c x true | none => ∃ zz, zeroV P E = some zz ∧ res = lookV c zz false) →
      OpOk P glob ⟨dst, .lookup T m k c, ty, pos, after, guard⟩ ρ σ (fun r' σ' => r' = res ∧ σ' = σ) := by
    intro res hres gh w a hR hF
    have em := hF m (by simp [Op.operands, Call.operands])
    have ek := hF k (by simp [Op.operands, Call.operands])
    rw [hm] at em
    generalize hv : a.eval m = v at em
    cases em with
    | mp _ s hG =>
      obtain ⟨s', g1, g2, g3, cs, c1, c2, c3⟩ := hR.ob o _ hσ
      rw [hG] at g1; cases g1
      have hget : (getObj s.b).run P w = .ok (.map cs clock) w := by simp [getObj, Sem.run, c1]
      obtain ⟨r', f1, f2⟩ := run_findKey hk ek (ms := cs.toList) (es := es) (by simpa using c2) (fun j k x n hj => by
        rw [getD_toList]; exact (c3 j k x n hj).2) hf
      have hck := run_checkKey hk ek cs.isEmpty
      unfold Oper.wp
      have hr := hres r rfl
      cases r with
      | some y =>
        obtain ⟨i, x⟩ := y
        cases r' with
        | none => exact f2.elim
        | some y' =>
          obtain ⟨i', v'⟩ := y'
          have : (execOp a.eval ⟨dst, .lookup T m k c, ty, pos, after, guard⟩).run P w = .ok (.value (if c then .tuple #[v', .bool true] else v')) w := by
            simp only [execOp, hv, Instr.lookup, Sem.run_bind, run_und hT, Result.andThen_ok, hget, hck, f1, Sem.run_pure]
          rw [this]
          simp only at hr
          exact ⟨gh, _, _, _, rfl, .refl _ _, hR, hr ▸ rep_lookV c true f2.2, rfl, rfl⟩
      | none =>
        cases r' with
        | some y' => exact f2.elim
        | none =>
          simp only at hr
          obtain ⟨zz, hz, hr⟩ := hr
          obtain ⟨zv, z1, z2⟩ := run_zeroV (w := w) hz
          have : (execOp a.eval ⟨dst, .lookup T m k c, ty, pos, after, guard⟩).run P w = .ok (.value (if c then .tuple #[zv, .bool false] else zv)) w := by
            simp only [execOp, hv, Instr.lookup, Sem.run_bind, run_und hT, Result.andThen_ok, hget, hck, f1, Sem.run_pure, z1]
          rw [this]
          exact ⟨gh, _, _, _, rfl, .refl _ _, hR, hr ▸ rep_lookV c false (z2 _ _), rfl, rfl⟩
  cases r with
  | some y => obtain ⟨i, x⟩ := y; exact ⟨_, main _ (by rintro _ rfl; rfl), hK⟩
  | none =>
    obtain ⟨zz, hz, hK⟩ := hK
    exact ⟨_, main _ (by rintro _ rfl; exact ⟨zz, hz, rfl⟩), hK⟩

/-! Setting. -/

def putE (es : List Ent) (clock : Nat) (k x : PV) : Option (Nat × PV) → PObj
  | some (i, _) => .map (es.modify i fun e => (k, x, e.2.2)) clock
  | none => .map (es ++ [(k, x, clock)]) (clock + 1)

variable (P) in
def updateW (T : TypeId) (σ : Store) (m k x : PV) (K : PV → Store → Prop) : Prop :=
  match m with
  | .mp o => ∃ KT E es clock, P.underlying T = some (.map KT E) ∧ σ o = some (.map es clock) ∧ keyOk P KT k = true ∧ ∃ r, findE k es 0 = some r ∧ K .any (σ.set o (putE es clock k x r))
  | _ => False

theorem keyEq_true {k k' : PV} (h : keyEq k k' = some true) : k' = k ∧ ∃ v, k = .lit v ∧ Instr.sameBits 10000 v v = true := by
  unfold keyEq at h
  split at h
  · split at h
    · rename_i e
      subst e
      simp only [Option.some.injEq, beq_iff_eq] at h
      subst h
      exact ⟨rfl, _, rfl, by simp [Instr.sameBits]⟩
    · cases h
  · rename_i a b
    simp only [Option.some.injEq] at h
    unfold strEq at h
    rw [← beq_toListBytes] at h
    have e := bytes_eq h
    subst e
    exact ⟨rfl, _, rfl, by simp [Instr.sameBits, h]⟩
  · cases h

theorem findE_some {k : PV} : ∀ {es : List Ent} {s i : Nat} {x : PV}, findE k es s = some (some (i, x)) → ∃ j n, i = s + j ∧ es[j]? = some (k, x, n)
  | [], _, _, _, h => by simp [findE] at h
  | (k', y, n) :: r, s, i, x, h => by
    unfold findE at h
    split at h
    · rename_i hk
      simp only [Option.some.injEq, Prod.mk.injEq] at h
      obtain ⟨rfl, rfl⟩ := h
      have e := (keyEq_true hk).1
      simp only at e
      subst e
      exact ⟨0, n, rfl, rfl⟩
    · obtain ⟨j, n', h1, h2⟩ := findE_some h
      exact ⟨j + 1, n', by omega, by simpa using h2⟩
    · cases h
theorem findE_key {k : PV} : ∀ {es : List Ent} {s i : Nat} {x : PV}, findE k es s = some (some (i, x)) → ∃ v, k = .lit v ∧ Instr.sameBits 10000 v v = true
  | [], _, _, _, h => by simp [findE] at h
  | (k', y, n) :: r, s, i, x, h => by
    unfold findE at h
    split at h
    · rename_i hk; exact (keyEq_true hk).2
    · exact findE_key h
    · cases h

theorem eff_update (T : TypeId) (m k x : Operand) {K : PV → Store → Prop} (h : updateW P T σ (ρ m) (ρ k) (ρ x) K) : OpOk P glob ⟨dst, .mapUpdate T m k x, ty, pos, after, guard⟩ ρ σ K := by
  intro gh w a hR hF
  unfold updateW at h
  split at h
  case h_2 => exact h.elim
  rename_i o hm
  obtain ⟨KT, E, es, clock, hT, hσ, hk, r, hf, hK⟩ := h
  have em := hF m (by simp [Op.operands, Call.operands])
  have ek := hF k (by simp [Op.operands, Call.operands])
  have ex := hF x (by simp [Op.operands, Call.operands])
  rw [hm] at em
  generalize hv : a.eval m = v at em
  cases em with
  | mp _ s hG =>
    obtain ⟨s', g1, g2, g3, cs, c1, c2, c3⟩ := hR.ob o _ hσ
    rw [hG] at g1; cases g1
    have hget : (getObj s.b).run P w = .ok (.map cs clock) w := by simp [getObj, Sem.run, c1]
    have hset : ∀ ob, (setObj s.b ob).run P w = .ok () (w.putObj s.b ob) := fun ob => by simp [setObj, Sem.run, c1, World.putObj]
    obtain ⟨r', f1, f2⟩ := run_findKey hk ek (ms := cs.toList) (es := es) (by simpa using c2) (fun j k x n hj => by
      rw [getD_toList]; exact (c3 j k x n hj).2) hf
    have hck := run_checkKey hk ek false
    unfold Oper.wp
    cases r with
    | some y =>
      obtain ⟨i, y⟩ := y
      cases r' with
      | none => exact f2.elim
      | some y' =>
        obtain ⟨i', v'⟩ := y'
        obtain ⟨rfl, f3⟩ := f2
        obtain ⟨j, n, e1, e2⟩ := findE_some hf
        have e1 : i = j := by omega
        subst e1
        obtain ⟨kv, e3, e4⟩ := findE_key hf
        have hkv : a.eval k = kv := by rw [e3] at ek; exact lit_of_rep ek
        have hlt : i < es.length := (List.getElem?_eq_some_iff.1 e2).1
        have hold : ((cs[i]?).map (·.key)).getD (a.eval k) = kv := by
          have := (c3 i _ _ _ e2).2.1
          rw [e3] at this
          have := lit_of_rep this
          rw [Array.getElem?_eq_getElem (by omega)]
          simpa [Array.getD_eq_getD_getElem?, Array.getElem?_eq_getElem (show i < cs.size by omega)] using this
        have hstay : (Instr.keyThatStays kv kv).run P w = .ok kv w := by
          simp only [Instr.keyThatStays, e4, if_true, Sem.run_pure]
        have : (execOp a.eval ⟨dst, .mapUpdate T m k x, ty, pos, after, guard⟩).run P w = .ok .skip (w.putObj s.b (.map (cs.modify i fun e => { e with key := kv, val := a.eval x }) clock)) := by
          simp only [execOp, hv, Instr.mapUpdate, Sem.run_bind, run_und hT, Result.andThen_ok, hget, hck, f1, Sem.run_pure, hold, hset]
          rw [hkv]
          simp only [hstay, Result.andThen_ok, hset, Sem.run_pure]
        rw [this]
        have hext := hR.putExt hσ hG (.map (cs.modify i fun e => { e with key := kv, val := a.eval x }) clock)
        obtain ⟨x1, r1⟩ := hR.put hσ hG (.map (cs.modify i fun e => { e with key := kv, val := a.eval x }) clock) (putE es clock (ρ k) (ρ x) (some (i, y)))
          ⟨_, World.putObj_heap_same g2, by simp [c2], fun t k1 x1 n1 ht => by
            rw [List.getElem?_modify] at ht
            cases hb : es[t]? with
            | none => rw [hb] at ht; simp at ht
            | some y0 =>
              obtain ⟨k0, x0, n0⟩ := y0
              have h0 := c3 t k0 x0 n0 hb
              have ht2 : t < cs.size := by rw [c2]; exact (List.getElem?_eq_some_iff.1 hb).1
              rw [hb] at ht
              simp only [Option.map_eq_map, Option.map_some, Option.some.injEq] at ht
              simp only [Array.getD_eq_getD_getElem?, Array.getElem?_modify, Array.getElem?_eq_getElem ht2] at h0 ⊢
              by_cases hti : i = t
              · subst hti
                simp only [if_true, Prod.mk.injEq] at ht
                obtain ⟨rfl, rfl, rfl⟩ := ht
                simp only [if_true, Option.map_some, Option.getD_some] at h0 ⊢
                exact ⟨h0.1, by have e := ek.ext hext; rw [hkv] at e; exact e, ex.ext hext⟩
              · simp only [if_neg hti, Prod.mk.injEq] at ht
                obtain ⟨rfl, rfl, rfl⟩ := ht
                simp only [if_neg hti, Option.map_some, Option.getD_some] at h0 ⊢
                exact ⟨h0.1, h0.2.1.ext hext, h0.2.2.ext hext⟩⟩
        exact ⟨_, _, _, _, rfl, x1, r1, .any _, hK⟩
    | none =>
      cases r' with
      | some y' => exact f2.elim
      | none =>
        have : (execOp a.eval ⟨dst, .mapUpdate T m k x, ty, pos, after, guard⟩).run P w = .ok .skip (w.putObj s.b (.map (cs.push { key := a.eval k, val := a.eval x, born := clock }) (clock + 1))) := by
          simp only [execOp, hv, Instr.mapUpdate, Sem.run_bind, run_und hT, Result.andThen_ok, hget, hck, f1, Sem.run_pure, hset]
        rw [this]
        obtain ⟨x1, r1⟩ := hR.put hσ hG (.map (cs.push { key := a.eval k, val := a.eval x, born := clock }) (clock + 1)) (putE es clock (ρ k) (ρ x) none)
          ⟨_, World.putObj_heap_same g2, by simp [c2], fun t k1 x1 n1 ht => by
            have hext := hR.putExt hσ hG (.map (cs.push { key := a.eval k, val := a.eval x, born := clock }) (clock + 1))
            rcases Nat.lt_or_ge t es.length with hl | hl
            · rw [List.getElem?_append_left hl] at ht
              have h0 := c3 t _ _ _ ht
              have ht2 : t < cs.size := by omega
              simp only [Array.getD_eq_getD_getElem?, Array.getElem?_push_lt ht2, Array.getElem?_eq_getElem ht2] at h0 ⊢
              exact ⟨h0.1, h0.2.1.ext hext, h0.2.2.ext hext⟩
            · have hlt := (List.getElem?_eq_some_iff.1 ht).1
              have : t = cs.size := by simp at hlt; omega
              subst this
              rw [List.getElem?_append_right (by omega), c2, Nat.sub_self] at ht
              simp only [List.getElem?_cons_zero, Option.some.injEq, Prod.mk.injEq] at ht
              obtain ⟨rfl, rfl, rfl⟩ := ht
              simp only [Array.getD_eq_getD_getElem?, Array.getElem?_push_size, Option.getD_some]
              exact ⟨trivial, ek.ext hext, ex.ext hext⟩⟩
        exact ⟨_, _, _, _, rfl, x1, r1, .any _, hK⟩

/-! Taking away; how many there are. -/

variable (P) in
def deleteW (T : TypeId) (σ : Store) (m k : PV) (K : PV → Store → Prop) : Prop :=
  match m with
  | .mp o => ∃ KT E es clock, P.underlying T = some (.map KT E) ∧ σ o = some (.map es clock) ∧ keyOk P KT k = true ∧ ∃ r, findE k es 0 = some r ∧
      K .any (σ.set o (.map (match r with | some (i, _) => es.eraseIdx i | none => es) clock))
  | _ => False

variable (P) in
def lenEW (T : TypeId) (σ : Store) (p : PV) (K : PV → Store → Prop) : Prop :=
  match p with
  | .mp o => ∃ KT E es clock, P.underlying T = some (.map KT E) ∧ σ o = some (.map es clock) ∧ K (.lit (.int .i64 es.length)) σ
  | p => lenW P T p fun r => K r σ

theorem eff_len (T : TypeId) (x : Operand) {K : PV → Store → Prop} (h : lenEW P T σ (ρ x) K) : OpOk P glob ⟨dst, .call ⟨.builtin .len, #[x], #[T]⟩, ty, pos, after, guard⟩ ρ σ K := by
  unfold lenEW at h
  split at h
  · rename_i o hm
    obtain ⟨KT, E, es, clock, hT, hσ, hK⟩ := h
    intro gh w a hR hF
    have em := hF x (by simp [Op.operands, Call.operands])
    rw [hm] at em
    generalize hv : a.eval x = v at em
    cases em with
    | mp _ s hG =>
      obtain ⟨s', g1, g2, g3, cs, c1, c2, c3⟩ := hR.ob o _ hσ
      rw [hG] at g1; cases g1
      have hget : (getObj s.b).run P w = .ok (.map cs clock) w := by simp [getObj, Sem.run, c1]
      unfold Oper.wp
      have : (execOp a.eval ⟨dst, .call ⟨.builtin .len, #[x], #[T]⟩, ty, pos, after, guard⟩).run P w = .ok (.value (.int .i64 es.length)) w := by
        simp [execOp, resolve, invoke, builtin, Builtin.len_, hv, run_und hT, goInt, hget, c2]
      rw [this]
      exact ⟨gh, _, _, _, rfl, .refl _ _, hR, .lit _, hK⟩
  · obtain ⟨r, h3, h4⟩ := pure_len T x h; exact h3.ok h4

theorem eff_delete (T : TypeId) (Us : List TypeId) (m k : Operand) {K : PV → Store → Prop} (h : deleteW P T σ (ρ m) (ρ k) K) : OpOk P glob ⟨dst, .call ⟨.builtin .delete, [m, k].toArray, (T :: Us).toArray⟩, ty, pos, after, guard⟩ ρ σ K := by
  intro gh w a hR hF
  unfold deleteW at h
  split at h
  case h_2 => exact h.elim
  rename_i o hm
  obtain ⟨KT, E, es, clock, hT, hσ, hk, r, hf, hK⟩ := h
  have em := hF m (by simp [Op.operands, Call.operands])
  have ek := hF k (by simp [Op.operands, Call.operands])
  rw [hm] at em
  generalize hv : a.eval m = v at em
  cases em with
  | mp _ s hG =>
    obtain ⟨s', g1, g2, g3, cs, c1, c2, c3⟩ := hR.ob o _ hσ
    rw [hG] at g1; cases g1
    have hget : (getObj s.b).run P w = .ok (.map cs clock) w := by simp [getObj, Sem.run, c1]
    have hset : ∀ ob, (setObj s.b ob).run P w = .ok () (w.putObj s.b ob) := fun ob => by simp [setObj, Sem.run, c1, World.putObj]
    obtain ⟨r', f1, f2⟩ := run_findKey hk ek (ms := cs.toList) (es := es) (by simpa using c2) (fun j k x n hj => by
      rw [getD_toList]; exact (c3 j k x n hj).2) hf
    have hck := run_checkKey hk ek cs.isEmpty
    unfold Oper.wp
    cases r with
    | some y =>
      obtain ⟨i, y⟩ := y
      cases r' with
      | none => exact f2.elim
      | some y' =>
        obtain ⟨i', v'⟩ := y'
        obtain ⟨rfl, f3⟩ := f2
        have : (execOp a.eval ⟨dst, .call ⟨.builtin .delete, [m, k].toArray, (T :: Us).toArray⟩, ty, pos, after, guard⟩).run P w = .ok (.value (.tuple #[])) (w.putObj s.b (.map (cs.eraseIdxIfInBounds i) clock)) := by
          simp [execOp, resolve, invoke, builtin, Builtin.delete_, hv, run_und hT, hget, hck, f1, hset]
        rw [this]
        have hext := hR.putExt hσ hG (.map (cs.eraseIdxIfInBounds i) clock)
        have e1 : (cs.eraseIdxIfInBounds i).toList = cs.toList.eraseIdx i := by
          unfold Array.eraseIdxIfInBounds
          split
          · simp [Array.toList_eraseIdx]
          · rw [List.eraseIdx_of_length_le (by simpa using (by omega : cs.size ≤ i))]
        obtain ⟨x1, r1⟩ := hR.put hσ hG (.map (cs.eraseIdxIfInBounds i) clock) (.map (es.eraseIdx i) clock)
          ⟨_, World.putObj_heap_same g2, by
            rw [← Array.length_toList, e1, List.length_eraseIdx, List.length_eraseIdx, Array.length_toList, c2], fun t k1 x1 n1 ht => by
            have hc : (cs.eraseIdxIfInBounds i).getD t default = cs.getD (if t < i then t else t + 1) default := by
              rw [← getD_toList, ← getD_toList, e1, List.getD_eq_getElem?_getD, List.getD_eq_getElem?_getD, List.getElem?_eraseIdx]
              split <;> rfl
            rw [List.getElem?_eraseIdx] at ht
            rw [hc]
            split at ht
            · rename_i hlt; rw [if_pos hlt]; have := c3 _ _ _ _ ht; exact ⟨this.1, this.2.1.ext hext, this.2.2.ext hext⟩
            · rename_i hlt; rw [if_neg hlt]; have := c3 _ _ _ _ ht; exact ⟨this.1, this.2.1.ext hext, this.2.2.ext hext⟩⟩
        exact ⟨_, _, _, _, rfl, x1, r1, .any _, hK⟩
    | none =>
      cases r' with
      | some y' => exact f2.elim
      | none =>
        have : (execOp a.eval ⟨dst, .call ⟨.builtin .delete, [m, k].toArray, (T :: Us).toArray⟩, ty, pos, after, guard⟩).run P w = .ok (.value (.tuple #[])) (w.putObj s.b (.map cs clock)) := by
          simp [execOp, resolve, invoke, builtin, Builtin.delete_, hv, run_und hT, hget, hck, f1, hset]
        rw [this]
        have hext := hR.putExt hσ hG (.map cs clock)
        obtain ⟨x1, r1⟩ := hR.put hσ hG (.map cs clock) (.map es clock)
          ⟨_, World.putObj_heap_same g2, c2, fun t k1 x1 n1 ht => by
            have := c3 _ _ _ _ ht; exact ⟨this.1, this.2.1.ext hext, this.2.2.ext hext⟩⟩
        exact ⟨_, _, _, _, rfl, x1, r1, .any _, hK⟩
end
end Go.Abs
