/- Ranges over strings; strings as bytes; a scope. -/
import Derived.Test.YtlcbjenehogfmaaAbClear
import Derived.Laws.IdiomStrings
import Derived.RangeFuncRecord
import Derived.Scope
set_option linter.unusedSimpArgs false
set_option linter.unusedVariables false
namespace Go.Abs
open Go
section
variable {P : Program} {glob : Nat → PV} {ρ : Operand → PV} {σ : Store} {dst : Option Tmp} {ty : TypeId} {pos : String} {after : Array Edge} {guard : Option (Nat × Bool)}

/-- An owned thing is replaced, where it lies. -/
theorem R.put {gh : Gh} {w : World} (h : R glob gh σ w) {o : Nat} {x : PObj} (hσ : σ o = some x) {s : Spot} (hG : gh.G o = some s) (ob : Obj) (y : PObj) (hy : ObOk gh (w.putObj s.b ob) s y) :
    Ext gh w gh (w.putObj s.b ob) ∧ R glob gh (σ.set o y) (w.putObj s.b ob) := by
  obtain ⟨s', g1, g2, g3, g4⟩ := h.ob o _ hσ
  rw [hG] at g1
  cases g1
  have hoth : ∀ b, b ≠ s.b → (w.putObj s.b ob).heap[b]? = w.heap[b]? := fun b hb => World.putObj_heap_other hb
  have hsz : (w.putObj s.b ob).heap.size = w.heap.size := by simp [World.putObj]
  have ext : Ext gh w gh (w.putObj s.b ob) := ⟨rfl, rfl, rfl, by omega, fun _ h => h, fun b hb => hoth b (fun e => g3 (e ▸ hb)), fun _ _ h => h⟩
  refine ⟨ext, ⟨fun b hb => by rw [hsz]; exact h.fb b hb, fun i z e => ?_, fun i j z t s1 s2 e1 e2 k1 k2 hb => ?_, ?_, fun g => (h.gl g).ext ext⟩⟩
  · by_cases hi : i = o
    · subst hi
      rw [Store.set_same] at e
      cases e
      exact ⟨s, hG, by rw [hsz]; exact g2, g3, hy⟩
    · rw [Store.set_ne hi] at e
      obtain ⟨t, k1, k2, k3, k4⟩ := h.ob i z e
      exact ⟨t, k1, by rw [hsz]; exact k2, k3, k4.ext ext (hoth _ (fun hb => hi (h.inj i o z _ t s e hσ k1 hG hb)))⟩
  · have f : ∀ i y', (σ.set o y) i = some y' → ∃ y', σ i = some y' := fun i y' e => by
      by_cases hi : i = o
      · subst hi; exact ⟨_, hσ⟩
      · rw [Store.set_ne hi] at e; exact ⟨_, e⟩
    obtain ⟨y', f1⟩ := f i z e1
    obtain ⟨z', f2⟩ := f j t e2
    exact h.inj i j y' z' s1 s2 f1 f2 k1 k2 hb
  · obtain ⟨m, hm⟩ := h.fresh
    refine ⟨m, fun i hi => ⟨(hm i hi).1, ?_⟩⟩
    have : i ≠ o := fun e => by rw [← e, (hm i hi).2] at hσ; cases hσ
    rw [Store.set_ne this]; exact (hm i hi).2

variable (P) in
def rangeW (T : TypeId) (σ : Store) (p : PV) (K : PV → Store → Prop) : Prop :=
  match p with
  | .lit (.string s) => P.underlying T = some .string ∧ ∀ o, σ o = none → K (.ptr o 0) (σ.set o (.iterS s 0))
  | _ => False

theorem eff_range (T : TypeId) (x : Operand) {K : PV → Store → Prop} (h : rangeW P T σ (ρ x) K) : OpOk P glob ⟨dst, .range T x, ty, pos, after, guard⟩ ρ σ K := by
  intro gh w a hR hF
  have e := hF x (by simp [Op.operands, Call.operands])
  unfold rangeW at h
  split at h
  case h_2 => exact h.elim
  rename_i s hx
  obtain ⟨hT, hk⟩ := h
  rw [hx] at e
  have hv := lit_of_rep e
  obtain ⟨o, ho, hσ⟩ := hR.free
  have x1 : Ext gh w (gh.give o ⟨w.heap.size, 0, 0⟩) (w.alloc (.stringIter s 0)) := .give ho _ (.alloc hR _)
  have r1 := hR.alloc ho (.iterS s 0) (.stringIter s 0) 0 ⟨rfl, heap_new _ _⟩
  unfold Oper.wp
  have : (execOp a.eval ⟨dst, .range T x, ty, pos, after, guard⟩).run P w = .ok (.value (.pointer (some ⟨w.heap.size, 0, none⟩))) (w.alloc (.stringIter s 0)) := by
    simp [execOp, hv, Instr.range, run_und hT]
  rw [this]
  exact ⟨_, _, _, _, rfl, x1, r1, .ptr o 0 ⟨w.heap.size, 0, 0⟩ (by simp [Gh.give]), hk o hσ⟩

def nextW (σ : Store) (p : PV) (K : PV → Store → Prop) : Prop :=
  match p with
  | .ptr o 0 => ∃ s pos, σ o = some (.iterS s pos) ∧ (pos < s.size → K (.tup [.lit (.bool true), .lit (.int .i64 pos), .lit (.int .i32 (Utf8.decode s pos).1)]) (σ.set o (.iterS s (pos + (Utf8.decode s pos).2)))) ∧ (s.size ≤ pos → K (.tup [.lit (.bool false)]) σ)
  | _ => False

theorem rep_tup1 {gh : Gh} {w : World} {u : Value} {p : PV} (h : Rep gh w u p) : Rep gh w (.tuple #[u]) (.tup [p]) :=
  .tup _ _ rfl fun i q hq => by
    match i, hq with
    | 0, hq => simp at hq; subst hq; exact h
theorem rep_tup3 {gh : Gh} {w : World} {u v x : Value} {p q r : PV} (h1 : Rep gh w u p) (h2 : Rep gh w v q) (h3 : Rep gh w x r) : Rep gh w (.tuple #[u, v, x]) (.tup [p, q, r]) :=
  .tup _ _ rfl fun i s hs => by
    match i, hs with
    | 0, hs => simp at hs; subst hs; exact h1
    | 1, hs => simp at hs; subst hs; exact h2
    | 2, hs => simp at hs; subst hs; exact h3

theorem eff_next (x : Operand) {K : PV → Store → Prop} (h : nextW σ (ρ x) K) : OpOk P glob ⟨dst, .next x true, ty, pos, after, guard⟩ ρ σ K := by
  intro gh w a hR hF
  have e := hF x (by simp [Op.operands, Call.operands])
  unfold nextW at h
  split at h
  case h_2 => exact h.elim
  rename_i o hx
  obtain ⟨s, q, hσ, h1, h2⟩ := h
  rw [hx] at e
  generalize hv : a.eval x = v at e
  cases e with
  | ptr _ _ sp hG =>
    obtain ⟨sp', g1, g2, g3, g4, g5⟩ := hR.ob o _ hσ
    rw [hG] at g1
    cases g1
    have hget : (getObj sp.b).run P w = .ok (.stringIter s q) w := by simp [getObj, Sem.run, g5]
    have hset : ∀ ob, (setObj sp.b ob).run P w = .ok () (w.putObj sp.b ob) := fun ob => by simp [setObj, Sem.run, g5, World.putObj]
    unfold Oper.wp
    by_cases hq : q < s.size
    · have : (execOp a.eval ⟨dst, .next x true, ty, pos, after, guard⟩).run P w = .ok (.value (.tuple #[.bool true, .int .i64 q, .int .i32 (Utf8.decode s q).1])) (w.putObj sp.b (.stringIter s (q + (Utf8.decode s q).2))) := by
        simp only [execOp, hv, Instr.next, g4, Nat.add_zero, Sem.run_bind, hget, Result.andThen_ok, hq, if_true, hset, Sem.run_pure]
        rfl
      rw [this]
      obtain ⟨x1, r1⟩ := hR.put hσ hG (.stringIter s (q + (Utf8.decode s q).2)) (.iterS s (q + (Utf8.decode s q).2)) ⟨g4, World.putObj_heap_same g2⟩
      exact ⟨_, _, _, _, rfl, x1, r1, rep_tup3 (.lit _) (.lit _) (.lit _), h1 hq⟩
    · have : (execOp a.eval ⟨dst, .next x true, ty, pos, after, guard⟩).run P w = .ok (.value (.tuple #[.bool false])) w := by
        simp only [execOp, hv, Instr.next, g4, Nat.add_zero, Sem.run_bind, hget, Result.andThen_ok, hq, if_false, Sem.run_pure]
      rw [this]
      exact ⟨_, _, _, _, rfl, .refl _ _, hR, rep_tup1 (.lit _), h2 (by omega)⟩

/-- What has just been made may be frozen at once. -/
theorem OpOk.freeze {o : Oper} {K : PV → Store → Prop} (h : OpOk P glob o ρ σ fun p τ => ∃ i cs, τ i = some (.cells cs) ∧ K (frz i cs p) (τ.drop i)) : OpOk P glob o ρ σ K := by
  intro gh w a hR hF
  refine Oper.wp_mono ?_ (h gh w a hR hF)
  rintro a' w' ⟨gh1, v, r, σ1, e, x, hR1, hv, i, cs, hi, hk⟩
  obtain ⟨gh2, x2, hR2, hf⟩ := rep_frz hi hR1
  exact ⟨gh2, v, _, _, e, x.trans x2, hR2, hf _ _ hv, hk⟩

theorem set_drop {o : Nat} {x : PObj} (h : σ o = none) : (σ.set o x).drop o = σ := by
  funext t; simp only [Store.set, Store.drop]; split
  · rename_i e; rw [e, h]
  · rfl

theorem frz_rs1' {o : Nat} {α : Type} {g : α → PV} {L : List α} {len cap : Nat} (h : len = L.length) : frz o (L.map g) (.rs 1 o 0 len cap) = .vs 1 (L.map fun x => [g x]) := by
  subst h
  have e : (List.range L.length).map (fun i => ((L.map g).drop (0 + i * 1)).take 1) = L.map fun x => [g x] := by
    apply List.ext_getElem?
    intro i
    simp only [List.getElem?_map, Nat.zero_add, Nat.mul_one]
    by_cases hi : i < L.length
    · rw [List.getElem?_range hi]
      simp only [Option.map_some]
      rw [List.getElem?_eq_getElem hi]
      simp only [Option.map_some]
      congr 1
      rw [← List.map_drop, List.drop_eq_getElem_cons hi]
      rfl
    · simp [Nat.le_of_not_lt hi]
  unfold frz; show (if _ then _ else _) = _; rw [if_pos (by simp), e]

/-! '[]byte(s)'. -/

def bytesL (s : ByteArray) : List Int := s.data.toList.map fun b => (b.toNat : Int)

variable (P) in
def convEW (S T : TypeId) (s : ByteArray) (σ : Store) (K : PV → Store → Prop) : Prop :=
  ∃ e, P.underlying S = some .string ∧ P.underlying T = some (.slice e) ∧ P.underlying e = some (.int .u8) ∧
    ((∀ o, σ o = none → K (.rs 1 o 0 s.size s.size) (σ.set o (.cells (byteCells s)))) ∨ K (.vs 1 ((bytesL s).map fun n => [.lit (.int .u8 n)])) σ)

theorem eff_bytes (S T : TypeId) (x : Operand) {s : ByteArray} (hx : ρ x = .lit (.string s)) {e : TypeId} (hS : P.underlying S = some .string) (hT : P.underlying T = some (.slice e)) (he : P.underlying e = some (.int .u8)) {K : PV → Store → Prop}
    (h : ∀ o, σ o = none → K (.rs 1 o 0 s.size s.size) (σ.set o (.cells (byteCells s)))) : OpOk P glob ⟨dst, .convert S T x, ty, pos, after, guard⟩ ρ σ K := by
  intro gh w a hR hF
  have hv := hF x (by simp [Op.operands, Call.operands])
  rw [hx] at hv
  have hv := lit_of_rep hv
  obtain ⟨o, ho, hσ⟩ := hR.free
  unfold Oper.wp
  have hrun : (execOp a.eval ⟨dst, .convert S T x, ty, pos, after, guard⟩).run P w = .ok (.value (.slice (some ⟨w.heap.size, 0, none⟩) s.size (grownCap w s.size 0 e)))
      (w.drew.alloc (.cells (bytesRow s (grownCap w s.size 0 e)) e ((bytesRow s (grownCap w s.size 0 e)).size, (bytesRow s (grownCap w s.size 0 e)).size + 1))) := by
    simp only [execOp, hv, Sem.run_bind, run_bytes_of_string w S T e s hS hT he, Result.andThen_ok, Sem.run_pure]
  rw [hrun]
  have hcap : s.size ≤ grownCap w s.size 0 e := by simp [grownCap, Question.cut]
  generalize grownCap w s.size 0 e = cap at *
  have hsz : s.data.size = s.size := rfl
  have hrs : (bytesRow s cap).size = cap := by simp [bytesRow, hsz]; omega
  have hRd : R glob gh σ w.drew := hR.drew
  have hob : ObOk (gh.give o ⟨w.heap.size, 0, cap⟩) (w.drew.alloc (.cells (bytesRow s cap) e ((bytesRow s cap).size, (bytesRow s cap).size + 1))) ⟨w.heap.size, 0, cap⟩ (.cells (byteCells s)) := by
    refine ⟨bytesRow s cap, e, _, heap_new w.drew _, hrs, by simp [byteCells, hsz]; omega, fun i hi => by rw [hrs]; simp only at *; omega, fun i p hp => ?_⟩
    simp only [byteCells, List.getElem?_map, Option.map_eq_some_iff] at hp
    obtain ⟨b, hb, rfl⟩ := hp
    have hlt : i < s.data.size := by
      have := (List.getElem?_eq_some_iff.1 hb).1
      simpa using this
    have : (bytesRow s cap).getD (0 + i) undef = .int .u8 b.toNat := by
      have hb' : s.data[i]? = some b := by rw [← Array.getElem?_toList]; exact hb
      simp only [bytesRow, Nat.zero_add]
      simp [Array.getElem?_append, hlt, hb']
      rw [if_pos (by omega)]; rfl
    rw [this]
    exact ⟨rfl, .lit _⟩
  have r1 := hRd.alloc ho (.cells (byteCells s)) _ cap hob
  have x1 : Ext gh w.drew _ _ := .give ho ⟨w.heap.size, 0, cap⟩ (.alloc hRd (.cells (bytesRow s cap) e ((bytesRow s cap).size, (bytesRow s cap).size + 1)))
  have x0 : Ext gh w gh w.drew := ⟨rfl, rfl, rfl, Nat.le_refl _, fun _ h => h, fun _ _ => rfl, fun _ _ h => h⟩
  exact ⟨_, _, _, _, rfl, x0.trans x1, r1,
    .rs 1 o 0 s.size s.size cap ⟨w.heap.size, 0, cap⟩ (by simp [Gh.give]) hcap hcap (by simp), h o hσ⟩

variable (P) in
def sbT (S T : TypeId) : Bool := match P.underlying S, P.underlying T with
  | some .string, some (.slice e) => (match P.underlying e with | some (.int .u8) => true | _ => false)
  | _, _ => false
variable (P) in
def convGW (S T : TypeId) (p : PV) (σ : Store) (K : PV → Store → Prop) : Prop :=
  match p with
  | .lit (.string s) => convEW P S T s σ K ∨ convW P S T p fun r => K r σ
  | _ => convW P S T p fun r => K r σ
theorem convGW_sb {S T : TypeId} {s : ByteArray} {K : PV → Store → Prop} (h : sbT P S T = true) : convGW P S T (.lit (.string s)) σ K = ((∀ o, σ o = none → K (.rs 1 o 0 s.size s.size) (σ.set o (.cells (byteCells s)))) ∨ K (.vs 1 ((bytesL s).map fun n => [.lit (.int .u8 n)])) σ) := by
  unfold sbT at h
  split at h
  · rename_i e h1 h2
    split at h
    · rename_i h3
      apply propext
      constructor
      · rintro (⟨e', _, a2, _, h⟩ | ⟨_, h, _⟩)
        · exact h
        · rw [h2] at h; cases h
      · intro h; exact .inl ⟨e, h1, h2, h3, h⟩
    · cases h
  · cases h
variable (P) in
def ssT (S T : TypeId) : Bool := match P.underlying S, P.underlying T with
  | some .string, some .string => true
  | _, _ => false
theorem convGW_ss {S T : TypeId} {s : ByteArray} {K : PV → Store → Prop} (h : ssT P S T = true) : convGW P S T (.lit (.string s)) σ K = K (.lit (.string s)) σ := by
  unfold ssT at h
  split at h
  · rename_i h1 h2
    apply propext
    constructor
    · rintro (⟨e', _, a2, _, h⟩ | ⟨_, h, k⟩)
      · rw [h2] at a2; cases a2
      · exact k
    · intro h; exact .inr ⟨h1, h2, h⟩
  · cases h
theorem convGW_int {S T : TypeId} {k : IntKind} {a : Int} {K : PV → Store → Prop} : convGW P S T (.lit (.int k a)) σ K = convW P S T (.lit (.int k a)) fun r => K r σ := rfl
theorem convGW_vs {S T : TypeId} {k : Nat} {es : List (List PV)} {K : PV → Store → Prop} : convGW P S T (.vs k es) σ K = convW P S T (.vs k es) fun r => K r σ := rfl
theorem eff_convert (S T : TypeId) (x : Operand) {K : PV → Store → Prop} (h : convGW P S T (ρ x) σ K) : OpOk P glob ⟨dst, .convert S T x, ty, pos, after, guard⟩ ρ σ K := by
  have pur : (convW P S T (ρ x) fun r => K r σ) → OpOk P glob ⟨dst, .convert S T x, ty, pos, after, guard⟩ ρ σ K := fun h => by
    obtain ⟨r, h1, h2⟩ := pure_convert (dst := dst) (ty := ty) (pos := pos) (after := after) (guard := guard) S T x h
    exact h1.ok h2
  unfold convGW at h
  split at h
  · rename_i s hx
    rcases h with ⟨e, h1, h2, h3, h4⟩ | h
    · rcases h4 with h4 | h4
      · exact eff_bytes S T x hx h1 h2 h3 h4
      · refine .freeze (eff_bytes S T x hx h1 h2 h3 fun o ho => ⟨o, _, Store.set_same, ?_⟩)
        rw [set_drop ho]
        have hc : byteCells s = (bytesL s).map fun n => PV.lit (.int .u8 n) := by simp [byteCells, bytesL]
        have hl : s.size = (bytesL s).length := by simp [bytesL]
        rw [hc, hl, frz_rs1' rfl]; exact h4
    · exact pur (hx ▸ h)
  · exact pur h

/-! A scope without jumps. -/
def ANoGoto (Q : Post) : Post
  | .goto _, _, _ => False
  | e, l, σ => Q e l σ
variable {n : Nat} {l : Fram} {Q : Post}
theorem AWp.scope {c : Code} (h : AWp P glob n c l σ (ANoGoto Q)) : AWp P glob n (.scope c) l σ Q := by
  intro gh w a hR hF
  refine wp_scope_straight (wp_mono (h gh w a hR hF) ?_)
  rintro e a' w' ⟨gh', l', σ', h1, h2, h3, h4⟩
  cases e <;> first | exact ⟨gh', l', σ', h1, h2, h3, h4⟩ | exact h4.elim
theorem AWp.label {i : Nat} (h : Q .normal l σ) : AWp P glob n (.label i) l σ Q :=
  fun gh w _ hR hF => wp_label ⟨gh, l, σ, .refl _ _, hR, hF, h⟩
end
end Go.Abs
