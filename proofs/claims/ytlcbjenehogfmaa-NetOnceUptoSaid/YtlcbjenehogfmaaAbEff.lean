/- Operations that make memory or write into it. -/
import Derived.Test.YtlcbjenehogfmaaAbPure3
import Derived.Stop.Asserts
set_option linter.unusedSimpArgs false
set_option linter.unusedVariables false
namespace Go.Abs
open Go

section
variable {P : Program} {glob : Nat → PV} {ρ : Operand → PV} {σ : Store}
variable {dst : Option Tmp} {ty : TypeId} {pos : String} {after : Array Edge} {guard : Option (Nat × Bool)}

theorem ObOk.ext {gh gh' : Gh} {w w' : World} (x : Ext gh w gh' w') {s : Spot} {ob : PObj} (hb : w'.heap[s.b]? = w.heap[s.b]?) (h : ObOk gh w s ob) : ObOk gh' w' s ob := by
  cases ob with
  | cells cs =>
    obtain ⟨c, T, fr, h1, h2, h3, h4, h5⟩ := h
    exact ⟨c, T, fr, hb.trans h1, h2, h3, h4, fun i p hi => ⟨(h5 i p hi).1, ((h5 i p hi).2).ext x⟩⟩
  | map es clock =>
    obtain ⟨c, h1, h2, h3⟩ := h
    exact ⟨c, hb.trans h1, h2, fun i k y m hi => ⟨(h3 i k y m hi).1, (h3 i k y m hi).2.1.ext x, (h3 i k y m hi).2.2.ext x⟩⟩
  | iterS str p => exact ⟨h.1, hb.trans h.2⟩
  | iterM m a b c =>
    obtain ⟨h0, ms, h1, h2⟩ := h
    exact ⟨h0, ms, x.obj _ _ h1, hb.trans h2⟩

/-- A name that is not yet given. -/
theorem R.free {gh : Gh} {w : World} (h : R glob gh σ w) : ∃ o, gh.G o = none ∧ σ o = none := let ⟨m, hm⟩ := h.fresh; ⟨m, hm m (Nat.le_refl _)⟩

def Gh.give (gh : Gh) (o : Nat) (s : Spot) : Gh := ⟨gh.F, fun i => if i = o then some s else gh.G i⟩

/-- Something new under a new name; it lies where nothing else does. -/
theorem R.give {gh : Gh} {w w' : World} (h : R glob gh σ w) {o : Nat} (ho : gh.G o = none) {s : Spot} {ob : PObj}
    (x : Ext gh w (gh.give o s) w') (hb : s.b < w'.heap.size) (hF : ¬ gh.F s.b) (hob : ObOk (gh.give o s) w' s ob)
    (hold : ∀ i y t, σ i = some y → gh.G i = some t → t.b ≠ s.b ∧ w'.heap[t.b]? = w.heap[t.b]?) : R glob (gh.give o s) (σ.set o ob) w' where
  fb b hb' := by
    have h1 := h.fb b hb'
    exact Nat.lt_of_lt_of_le h1 x.size
  ob i y e := by
    by_cases hi : i = o
    · subst hi
      rw [Store.set_same] at e
      cases e
      exact ⟨s, by simp [Gh.give], hb, hF, hob⟩
    · rw [Store.set_ne hi] at e
      obtain ⟨t, h1, h2, h3, h4⟩ := h.ob i y e
      exact ⟨t, by simp [Gh.give, hi, h1], Nat.lt_of_lt_of_le h2 x.size, h3, h4.ext x (hold i y t e h1).2⟩
  inj i j y z s1 s2 e1 e2 g1 g2 hbb := by
    by_cases hi : i = o
    · by_cases hj : j = o
      · rw [hi, hj]
      · subst hi
        rw [Store.set_ne hj] at e2
        simp [Gh.give] at g1
        simp [Gh.give, hj] at g2
        subst g1
        exact absurd hbb.symm (hold j z s2 e2 g2).1
    · by_cases hj : j = o
      · subst hj
        rw [Store.set_ne hi] at e1
        simp [Gh.give] at g2
        simp [Gh.give, hi] at g1
        subst g2
        exact absurd hbb (hold i y s1 e1 g1).1
      · rw [Store.set_ne hi] at e1
        rw [Store.set_ne hj] at e2
        simp [Gh.give, hi] at g1
        simp [Gh.give, hj] at g2
        exact h.inj i j y z s1 s2 e1 e2 g1 g2 hbb
  fresh := by
    obtain ⟨m, hm⟩ := h.fresh
    refine ⟨max m (o + 1), fun i hi => ?_⟩
    have hio : i ≠ o := by omega
    exact ⟨by simp [Gh.give, hio, (hm i (by omega)).1], by rw [Store.set_ne hio]; exact (hm i (by omega)).2⟩
  gl g := (h.gl g).ext x

theorem Ext.give {gh : Gh} {w w' : World} {o : Nat} (ho : gh.G o = none) (s : Spot) (x : Ext gh w gh w') : Ext gh w (gh.give o s) w' :=
  ⟨x.os, x.tape, x.output, x.size, fun b hb => hb, x.same, fun i y hy => by
    have : i ≠ o := fun e => by rw [e, ho] at hy; cases hy
    simp [Gh.give, this, hy]⟩

theorem Ext.alloc {gh : Gh} {w : World} {σ : Store} (h : R glob gh σ w) (ob : Obj) : Ext gh w gh (w.alloc ob) :=
  ⟨rfl, rfl, rfl, by simp, fun b hb => hb, fun b hb => RowKit.Below.heap_alloc _ _ _ (h.fb b hb), fun _ _ h => h⟩

/-- A new block. -/
theorem R.alloc {gh : Gh} {w : World} (h : R glob gh σ w) {o : Nat} (ho : gh.G o = none) (ob : PObj) (cob : Obj) (k : Nat)
    (hob : ObOk (gh.give o ⟨w.heap.size, 0, k⟩) (w.alloc cob) ⟨w.heap.size, 0, k⟩ ob) :
    R glob (gh.give o ⟨w.heap.size, 0, k⟩) (σ.set o ob) (w.alloc cob) := by
  refine h.give ho (.give ho _ (.alloc h cob)) (by simp) (fun hF => ?_) hob (fun i y t e g => ?_)
  · exact Nat.lt_irrefl _ (h.fb _ hF)
  · obtain ⟨t', h1, h2, _, _⟩ := h.ob i y e
    rw [g] at h1
    cases h1
    exact ⟨by show t.b ≠ w.heap.size; omega, RowKit.Below.heap_alloc _ _ _ h2⟩

theorem heap_new (w : World) (ob : Obj) : (w.alloc ob).heap[w.heap.size]? = some ob := by
  show (w.heap.push ob)[w.heap.size]? = some ob
  simp

def allCell (cs : List PV) : Bool := cs.all PV.cell

theorem allCell_get {cs : List PV} (h : allCell cs = true) {i : Nat} {p : PV} (hp : cs[i]? = some p) : p.cell = true := by
  have := List.all_eq_true.1 h p (List.mem_of_getElem? hp)
  exact this

/-- A new block of cells. -/
theorem R.newCells {gh : Gh} {w : World} (h : R glob gh σ w) {o : Nat} (ho : gh.G o = none) {c : Array Value} {cs : List PV} (hc : CellsRep gh w c cs) (ha : allCell cs = true) (T : TypeId) (extra : Array Value) :
    R glob (gh.give o ⟨w.heap.size, 0, (c ++ extra).size⟩) (σ.set o (.cells cs)) (w.alloc (.cells (c ++ extra) T)) ∧
      Ext gh w (gh.give o ⟨w.heap.size, 0, (c ++ extra).size⟩) (w.alloc (.cells (c ++ extra) T)) := by
  have x : Ext gh w (gh.give o ⟨w.heap.size, 0, (c ++ extra).size⟩) (w.alloc (.cells (c ++ extra) T)) := .give ho _ (.alloc h _)
  refine ⟨h.alloc ho _ _ _ ?_, x⟩
  refine ⟨c ++ extra, T, (0, 0), heap_new _ _, rfl, ?_, fun i _ => by omega, fun i p hi => ⟨allCell_get ha hi, ?_⟩⟩
  · have := hc.1; simp; omega
  · have hlt : i < c.size := by rw [hc.1]; exact (List.getElem?_eq_some_iff.1 hi).1
    have : (c ++ extra).getD (0 + i) undef = c.getD i undef := by simp [Array.getElem?_append, hlt]
    rw [this]
    exact (hc.2 i p hi).ext x

def PV.known : PV → Bool | .any => false | _ => true
theorem PV.known_ne {p : PV} (h : p.known = true) : p ≠ .any := fun e => by subst e; cases h

theorem eff_box (T : TypeId) (x : Operand) {K : PV → Store → Prop} (hk : (ρ x).known = true) (ha : allCell (ρ x).cells = true)
    (h : ∀ o, σ o = none → K (.ptr o 0) (σ.set o (.cells (ρ x).cells))) : OpOk P glob ⟨dst, .box T x, ty, pos, after, guard⟩ ρ σ K := by
  intro gh w a hR hF
  obtain ⟨o, ho, hσ⟩ := hR.free
  have hc := rep_cells (hF x (by simp [Op.operands, Call.operands])) (PV.known_ne hk)
  obtain ⟨h1, h2⟩ := hR.newCells ho hc ha T #[]
  simp only [Array.append_empty] at h1 h2
  unfold Oper.wp
  have : (execOp a.eval ⟨dst, .box T x, ty, pos, after, guard⟩).run P w = .ok (.value (.pointer (some ⟨w.heap.size, 0, none⟩))) (w.alloc (.cells (a.eval x).cells T)) := by
    simp [execOp, Instr.box, newVar, newRow]
  rw [this]
  exact ⟨_, _, _, _, rfl, h2, h1, .ptr o 0 ⟨w.heap.size, 0, (a.eval x).cells.size⟩ (by simp [Gh.give]), h o hσ⟩

theorem eff_alloc (T : TypeId) {zc : List PV} {K : PV → Store → Prop} (hz : zeroCells P T = some zc) (ha : allCell zc = true)
    (h : ∀ o, σ o = none → K (.ptr o 0) (σ.set o (.cells zc))) : OpOk P glob ⟨dst, .alloc T, ty, pos, after, guard⟩ ρ σ K := by
  intro gh w a hR hF
  obtain ⟨o, ho, hσ⟩ := hR.free
  obtain ⟨z, z1, z2⟩ := run_zero (w := w) hz
  obtain ⟨h1, h2⟩ := hR.newCells ho (z2 gh w) ha T #[]
  simp only [Array.append_empty] at h1 h2
  unfold Oper.wp
  have : (execOp a.eval ⟨dst, .alloc T, ty, pos, after, guard⟩).run P w = .ok (.value (.pointer (some ⟨w.heap.size, 0, none⟩))) (w.alloc (.cells z.cells T)) := by
    simp [execOp, Instr.alloc, z1, newVar, newRow]
  rw [this]
  exact ⟨_, _, _, _, rfl, h2, h1, .ptr o 0 ⟨w.heap.size, 0, z.cells.size⟩ (by simp [Gh.give]), h o hσ⟩

/-! Reading and writing what is owned. -/

theorem ObOk.read {gh : Gh} {w : World} {s : Spot} {cs : List PV} (h : ObOk gh w s (.cells cs)) : ∃ f : Nat → Value, (∀ i, i < cs.length → w.cell? ⟨s.b, s.base + i, none⟩ = some (f i)) ∧ ∀ i p, cs[i]? = some p → Rep gh w (f i) p := by
  obtain ⟨c, T, fr, h1, h2, h3, _, h5⟩ := h
  refine ⟨fun i => c.getD (s.base + i) undef, fun i hi => ?_, fun i p hi => (h5 i p hi).2⟩
  have hlt : s.base + i < c.size := by omega
  simp [World.cell?, h1, hlt]

theorem eff_load (T : TypeId) (x : Operand) {o off : Nat} {cs : List PV} (hx : ρ x = .ptr o off) (hσ : σ o = some (.cells cs)) (hoff : off ≤ cs.length) {K : PV → Store → Prop} (h : loadC P T (cs.drop off) fun r => K r σ) :
    OpOk P glob ⟨dst, .load T x, ty, pos, after, guard⟩ ρ σ K := by
  intro gh w a hR hF
  have e := hF x (by simp [Op.operands, Call.operands])
  rw [hx] at e
  generalize hv : a.eval x = v at e
  cases e with
  | ptr _ _ s hG =>
    obtain ⟨s', g1, _, _, g4⟩ := hR.ob o _ hσ
    rw [hG] at g1
    cases g1
    obtain ⟨f, f1, f2⟩ := g4.read
    obtain ⟨v, r, r1, r2, r3⟩ := run_loadVar_rep (P := P) (gh := gh) (w := w) (b := s.b) (off := s.base + off) (f := fun i => f (off + i)) (cs := cs.drop off)
      (fun i hi => by simp at hi; rw [Nat.add_assoc]; exact f1 _ (by omega)) (fun i p hi => by rw [List.getElem?_drop] at hi; exact f2 _ _ hi) h
    unfold Oper.wp
    have : (execOp a.eval ⟨dst, .load T x, ty, pos, after, guard⟩).run P w = .ok (.value v) w := by
      simp [execOp, hv, Instr.loadAt, Instr.sureAddr, r1]
    rw [this]
    exact ⟨gh, _, _, _, rfl, .refl _ _, hR, r2, r3⟩

def setAll (c : Array Value) : Nat → List Value → Array Value
  | _, [] => c
  | o, v :: r => setAll (c.setIfInBounds o v) (o + 1) r

theorem setAll_size (c : Array Value) (o : Nat) (vs : List Value) : (setAll c o vs).size = c.size := by
  induction vs generalizing c o with
  | nil => rfl
  | cons v vs ih => simp [setAll, ih]

theorem setAll_get : ∀ (vs : List Value) (c : Array Value) (o : Nat), o + vs.length ≤ c.size → ∀ i, (setAll c o vs).getD i undef = if o ≤ i ∧ i < o + vs.length then vs.getD (i - o) undef else c.getD i undef
  | [], c, o, _, i => by simp only [setAll, List.length_nil]; rw [if_neg (by omega)]
  | v :: vs, c, o, h, i => by
    simp only [List.length_cons] at h
    simp only [setAll]
    rw [setAll_get vs _ (o + 1) (by simp; omega) i]
    by_cases hi : o + 1 ≤ i ∧ i < o + 1 + vs.length
    · rw [if_pos hi, if_pos (by simp; omega), show i - o = (i - (o + 1)) + 1 by omega]
      simp
    · rw [if_neg hi]
      by_cases hk : i = o
      · subst hk
        rw [if_pos (by simp)]
        simp [show i < c.size by omega]
      · rw [if_neg (by simp; omega)]
        simp [Array.getElem?_setIfInBounds_ne (Ne.symm hk)]

theorem heap_setCells (b : Nat) : ∀ (vs : List Value) (o : Nat) (w : World), (∀ c T fr, w.heap[b]? = some (.cells c T fr) → (w.setCells b o vs).heap[b]? = some (.cells (setAll c o vs) T fr)) ∧
    (∀ b', b' ≠ b → (w.setCells b o vs).heap[b']? = w.heap[b']?) ∧ (w.setCells b o vs).heap.size = w.heap.size ∧ (w.setCells b o vs).os = w.os ∧ (w.setCells b o vs).tape = w.tape ∧ (w.setCells b o vs).output = w.output
  | [], o, w => ⟨fun _ _ _ h => h, fun _ _ => rfl, rfl, rfl, rfl, rfl⟩
  | v :: vs, o, w => by
    obtain ⟨h1, h2, h3, h4, h5, h6⟩ := heap_setCells b vs (o + 1) (w.setCell ⟨b, o, none⟩ v)
    refine ⟨fun c T fr h => ?_, fun b' hb => ?_, ?_, h4, h5, h6⟩
    · exact h1 _ T fr (by simp [World.setCell, Array.getElem?_modify, h])
    · rw [World.setCells, h2 b' hb]; exact RowKit.Below.heap_setCell _ _ _ _ hb
    · rw [World.setCells, h3]; simp

/-- Cells of an owned thing are written. -/
theorem R.write {gh : Gh} {w : World} (h : R glob gh σ w) {o : Nat} {cs : List PV} (hσ : σ o = some (.cells cs)) {s : Spot} (hG : gh.G o = some s) {off : Nat} {vs : List Value} {ps : List PV}
    (hl : vs.length = ps.length) (hoff : off + ps.length ≤ cs.length) (hr : ∀ i p, ps[i]? = some p → Rep gh w (vs.getD i undef) p) (ha : allCell ps = true) :
    Ext gh w gh (w.setCells s.b (s.base + off) vs) ∧ R glob gh (σ.set o (.cells (splice cs off ps))) (w.setCells s.b (s.base + off) vs) := by
  obtain ⟨s', g1, g2, g3, c, T, fr, c1, c2, c3, c4, c5⟩ := h.ob o _ hσ
  rw [hG] at g1
  cases g1
  obtain ⟨h1, h2, h3, h4, h5, h6⟩ := heap_setCells s.b vs (s.base + off) w
  have x : Ext gh w gh (w.setCells s.b (s.base + off) vs) := ⟨h4, h5, h6, by omega, fun _ h => h, fun b hb => h2 b (fun e => g3 (e ▸ hb)), fun _ _ h => h⟩
  refine ⟨x, ⟨fun b hb => by rw [h3]; exact h.fb b hb, fun i y e => ?_, fun i j y z s1 s2 e1 e2 k1 k2 hb => ?_, ?_, fun g => (h.gl g).ext x⟩⟩
  · by_cases hi : i = o
    · subst hi
      rw [Store.set_same] at e
      cases e
      refine ⟨s, hG, by rw [h3]; exact g2, g3, setAll c (s.base + off) vs, T, fr, h1 c T fr c1, by rw [setAll_size]; exact c2, by rw [splice_length hoff]; exact c3, c4, fun i p hi => ?_⟩
      rw [splice_get hoff] at hi
      rw [setAll_get _ _ _ (by omega)]
      split at hi
      · rename_i hin
        rw [if_pos (by omega)]
        refine ⟨allCell_get ha hi, ?_⟩
        rw [show s.base + i - (s.base + off) = i - off by omega]
        exact (hr _ _ hi).ext x
      · rename_i hin
        rw [if_neg (by omega)]
        exact ⟨(c5 _ _ hi).1, (c5 _ _ hi).2.ext x⟩
    · rw [Store.set_ne hi] at e
      obtain ⟨t, k1, k2, k3, k4⟩ := h.ob i y e
      refine ⟨t, k1, by rw [h3]; exact k2, k3, k4.ext x (h2 _ (fun hb => hi (h.inj i o y _ t s e hσ k1 hG hb)))⟩
  · have f : ∀ i y, (σ.set o (.cells (splice cs off ps))) i = some y → ∃ y', σ i = some y' := fun i y e => by
      by_cases hi : i = o
      · subst hi; exact ⟨_, hσ⟩
      · rw [Store.set_ne hi] at e; exact ⟨_, e⟩
    obtain ⟨y', f1⟩ := f i y e1
    obtain ⟨z', f2⟩ := f j z e2
    exact h.inj i j y' z' s1 s2 f1 f2 k1 k2 hb
  · obtain ⟨m, hm⟩ := h.fresh
    refine ⟨m, fun i hi => ⟨(hm i hi).1, ?_⟩⟩
    have : i ≠ o := fun e => by rw [← e, (hm i hi).2] at hσ; cases hσ
    rw [Store.set_ne this]; exact (hm i hi).2

theorem rep_oneCell {gh : Gh} {w : World} {v : Value} {p : PV} (h : Rep gh w v p) (hp : p.cell = true) : v.oneCell' = true := by
  cases h <;> first | (simp [PV.cell] at hp; done) | (simp [Value.oneCell']; done) | (cases v <;> simp_all [PV.cell, Value.oneCell'])

/-- The writing of cells, as the model carries it out. -/
theorem run_storeCells_owned {gh : Gh} {w : World} (h : R glob gh σ w) {o : Nat} {cs : List PV} (hσ : σ o = some (.cells cs)) {s : Spot} (hG : gh.G o = some s) {off : Nat} {vs : List Value}
    (hoff : s.base + off + vs.length ≤ s.n) (h1 : ∀ v ∈ vs, v.oneCell' = true) : (storeCells ⟨s.b, s.base + off, none⟩ vs).run P w = .ok () (w.setCells s.b (s.base + off) vs) := by
  obtain ⟨s', g1, g2, g3, c, T, fr, c1, c2, c3, c4, c5⟩ := h.ob o _ hσ
  rw [hG] at g1
  cases g1
  have := run_storeCells_cells (P := P) s.b (s.base + off) vs 0 w (fun j hj => by
    have hlt : s.base + off + 0 + j < c.size := by omega
    simp only [World.cell?, c1]
    simp; omega) (fun j hj => by
    have := c4 (s.base + off + 0 + j) (by omega)
    simp only [World.frozen?, c1]
    cases fr with
    | mk lo hi =>
      simp only at this
      simp only [Bool.and_eq_false_iff, decide_eq_false_iff_not]
      omega) h1
  simpa using this

theorem eff_store (T : TypeId) (x y : Operand) {o off : Nat} {cs : List PV} (hx : ρ x = .ptr o off) (hσ : σ o = some (.cells cs)) {d : TypeDesc} (hT : P.underlying T = some d)
    (hk : (ρ y).known = true) (hs : (ρ y).cells.length = P.cellsOf T) (ha : allCell (ρ y).cells = true) (hoff : off + (ρ y).cells.length ≤ cs.length) {K : PV → Store → Prop}
    (h : K .any (σ.set o (.cells (splice cs off (ρ y).cells)))) : OpOk P glob ⟨dst, .store T x y, ty, pos, after, guard⟩ ρ σ K := by
  intro gh w a hR hF
  have e := hF x (by simp [Op.operands, Call.operands])
  rw [hx] at e
  generalize hv : a.eval x = v at e
  obtain ⟨hc1, hc2⟩ := rep_cells (hF y (by simp [Op.operands, Call.operands])) (PV.known_ne hk)
  cases e with
  | ptr _ _ s hG =>
    have hl : (a.eval y).cells.toList.length = (ρ y).cells.length := by simpa using hc1
    have hc2' : ∀ i p, (ρ y).cells[i]? = some p → Rep gh w ((a.eval y).cells.toList.getD i undef) p := fun i p hi => by
      have := hc2 i p hi
      simpa using this
    have h1 : ∀ v ∈ (a.eval y).cells.toList, v.oneCell' = true := fun v hv => by
      obtain ⟨i, hi⟩ := List.getElem?_of_mem hv
      have hlt : i < (ρ y).cells.length := by rw [← hl]; exact (List.getElem?_eq_some_iff.1 hi).1
      have := hc2' i _ (List.getElem?_eq_getElem hlt)
      rw [List.getD_eq_getElem?_getD, hi, Option.getD_some] at this
      exact rep_oneCell this (allCell_get ha (List.getElem?_eq_getElem hlt))
    obtain ⟨x1, x2⟩ := hR.write hσ hG hl hoff hc2' ha
    have hn : s.base + cs.length ≤ s.n := by
      obtain ⟨s', g1, _, _, c, _, _, _, _, c3, _, _⟩ := hR.ob o _ hσ
      rw [hG] at g1; cases g1; exact c3
    have hr := run_storeCells_owned (P := P) hR hσ hG (off := off) (vs := (a.eval y).cells.toList) (by omega) h1
    unfold Oper.wp
    have : (execOp a.eval ⟨dst, .store T x y, ty, pos, after, guard⟩).run P w = .ok .skip (w.setCells s.b (s.base + off) (a.eval y).cells.toList) := by
      simp only [execOp, hv, Instr.storeAt, Instr.sureAddr, storeVar, Sem.run_bind, Sem.run_pure, Result.andThen_ok, run_size hT]
      rw [if_neg (by rw [hc1, hs]; simp)]
      rw [hr]; rfl
    rw [this]
    exact ⟨gh, _, _, _, rfl, x1, x2, .any _, h⟩

/-! Calls. -/

/-- What an operation does that comes to a call. -/
theorem wp_of_call {gh : Gh} {w : World} {o : Oper} {a : Act} {g : FuncId} {vs : Array Value} {K : PV → Store → Prop}
    (hrun : (execOp a.eval o).run P w = (callFunc g vs).run P w) (h : CallWp P g vs w fun v w' => ∃ gh' r σ', Ext gh w gh' w' ∧ R glob gh' σ' w' ∧ Rep gh' w' v r ∧ K r σ') :
    o.wp P a w (fun a' w' => ∃ gh' v r σ', a' = a.put o.dst v ∧ Ext gh w gh' w' ∧ R glob gh' σ' w' ∧ Rep gh' w' v r ∧ K r σ') (fun _ _ _ => False) := by
  unfold Oper.wp
  rw [hrun]
  rcases h with ⟨⟨fn, e1, e2, e3⟩, hc⟩ | ⟨v, w', h1, gh', r, σ', x, h2, h3, h4⟩
  · have : (callFunc g vs).run P w = .ok (.enter g vs) w := by
      simp only [callFunc, Sem.run_bind, Sem.run_pure, Result.andThen_ok, run_program, e1, e2, e3, Bool.false_eq_true, if_false]
    rw [this]
    refine Calls.mono hc fun e w' ⟨v, h0, gh', r, σ', h1, h2, h3, h4⟩ => ?_
    subst h0
    exact ⟨gh', v, r, σ', rfl, h1, h2, h3, h4⟩
  · rw [h1]
    exact ⟨gh', v, r, σ', rfl, x, h2, h3, h4⟩

theorem eff_call (f : Operand) (args : Array Operand) (Ts : Array TypeId) {g : FuncId} {first cap : List PV} (hf : ρ f = .fn (.func g) first cap) {K : PV → Store → Prop}
    (h : ACalls P glob g (first ++ args.toList.map ρ ++ cap) σ K) : OpOk P glob ⟨dst, .call ⟨.value f, args, Ts⟩, ty, pos, after, guard⟩ ρ σ K := by
  intro gh w a hR hF
  have e := hF f (by simp [Op.operands, Call.operands])
  rw [hf] at e
  generalize hv : a.eval f = v at e
  obtain ⟨m1, m2⟩ := repA_map (ρ := ρ) args (fun x hx => hF x (by simp [Op.operands, Call.operands, hx]))
  cases e with
  | fn _ as bs _ _ hn hm k1 k2 =>
    have hL : RepL gh w ((as ++ args.map a.eval) ++ bs).toList (first ++ args.toList.map ρ ++ cap) := by
      simp only [Array.toList_append]
      refine .append (.append ⟨by simpa using hn, fun i p hi => by simpa using k1 i p hi⟩ ⟨by simp, fun i p hi => ?_⟩) ⟨by simpa using hm, fun i p hi => by simpa using k2 i p hi⟩
      have := m2 i p hi
      simpa using this
    have := h gh w _ hR hL
    rw [Array.toArray_toList] at this
    exact wp_of_call (by simp only [execOp, resolve, hv, Deferred.ofValue, Sem.run_bind, Sem.run_pure, Result.andThen_ok, invoke]) this

/-- The receiver and the function of a method that a dynamic type has. -/
def MethodIs (P : Program) (t : TypeId) (name : String) (g : FuncId) (p p' : PV) : Prop :=
  ∀ gh w v, Rep gh w v p → ∃ v', (method (P.types.size + Made.depth) t v name).run P w = .ok (g, v') w ∧ Rep gh w v' p'

theorem eff_invoke (x : Operand) (name : String) (args : Array Operand) (Ts : Array TypeId) {t : TypeId} {p p' : PV} {g : FuncId} (hx : ρ x = .iface t p) (hm : MethodIs P t name g p p') {K : PV → Store → Prop}
    (h : ACalls P glob g (p' :: args.toList.map ρ) σ K) : OpOk P glob ⟨dst, .call ⟨.invoke x name, args, Ts⟩, ty, pos, after, guard⟩ ρ σ K := by
  intro gh w a hR hF
  have e := hF x (by simp [Op.operands, Call.operands])
  rw [hx] at e
  generalize hv : a.eval x = v at e
  obtain ⟨m1, m2⟩ := repA_map (ρ := ρ) args (fun x hx => hF x (by simp [Op.operands, Call.operands, hx]))
  cases e with
  | iface _ u _ hu =>
    obtain ⟨v', h1, h2⟩ := hm gh w u hu
    have hL : RepL gh w (#[v'] ++ args.map a.eval).toList (p' :: args.toList.map ρ) := by
      simp only [Array.toList_append]
      refine .cons h2 ⟨by simp, fun i p hi => ?_⟩
      have := m2 i p hi
      simpa using this
    have := h gh w _ hR hL
    rw [Array.toArray_toList] at this
    refine wp_of_call ?_ this
    simp only [execOp, resolve, hv, Sem.run_bind, Sem.run_pure, Result.andThen_ok, invoke]
    have e0 : ((#[Value.iface t u] ++ args.map a.eval)[0]?) = some (.iface t u) := by rw [Array.getElem?_append_left (by simp)]; rfl
    have e1 : (#[Value.iface t u] ++ args.map a.eval).extract 1 (#[Value.iface t u] ++ args.map a.eval).size = args.map a.eval := by
      apply Array.ext'
      rw [Array.toList_extract, List.extract_eq_take_drop, Array.toList_append]
      show (args.map a.eval).toList.take _ = _
      apply List.take_of_length_le
      simp
    simp only [e0, e1, callMethod, Sem.run_bind, run_program, Result.andThen_ok, h1]

/-- An entry of the model's own. -/
theorem ACalls.of_extern {f : FuncId} {fn : Func} {e : Array Value → Sem Value} {args : List PV} {K : PV → Store → Prop}
    (hx : ∀ (args : Array Value) (w : World), (callFunc f args).run P w = ((e args).run P w).andThen fun v w' => .ok (.value v) w')
    (h : ∀ gh w vs, R glob gh σ w → RepL gh w vs args → ∃ v w', (e vs.toArray).run P w = .ok v w' ∧ ∃ gh' r σ', Ext gh w gh' w' ∧ R glob gh' σ' w' ∧ Rep gh' w' v r ∧ K r σ') : ACalls P glob f args σ K := by
  intro gh w vs hR hv
  obtain ⟨v, w', h1, h2⟩ := h gh w vs hR hv
  refine .inr ⟨v, w', ?_, h2⟩
  rw [hx, h1]; rfl
/-- Whether a dynamic type has what an interface asks. -/
def asksOf (P : Program) (T t : TypeId) : Option Bool :=
  match P.underlying T, P.info? t with
  | some (.interface want), some i => some (lacking want i.methods).isEmpty
  | _, _ => none
def nilZero (P : Program) (T : TypeId) : Bool := match P.info? T with | some i => (match i.zero with | some .nilIface => true | _ => false) | none => false

/-- An assertion that tells whether it holds: of an interface. -/
def assertW (P : Program) (T : TypeId) (c : Bool) (q : PV) (K : PV → Prop) : Prop :=
  match q with
  | .iface t p => ∃ b, asksOf P T t = some b ∧ c = true ∧ (b = true → K (.tup [.iface t p, .lit (.bool true)])) ∧ (b = false → nilZero P T = true ∧ K (.tup [.lit .nilIface, .lit (.bool false)]))
  | _ => False

theorem run_info {w : World} {t : TypeId} {i : TypeInfo} (h : P.info? t = some i) : (typeInfo t).run P w = .ok i w := by
  simp only [typeInfo, Sem.run_bind, run_program, Result.andThen_ok, h, Sem.run_pure]

theorem pure_assert (x : Operand) (S T : TypeId) (c : Bool) {K : PV → Prop} (h : assertW P T c (ρ x) K) : ∃ r, OpPure P glob ⟨dst, .typeAssert x S T c, ty, pos, after, guard⟩ ρ r ∧ K r := by
  unfold assertW at h
  split at h
  · rename_i t p hx
    obtain ⟨b, h1, rfl, h2, h3⟩ := h
    unfold asksOf at h1
    split at h1
    · rename_i want i hu hi
      simp only [Option.some.injEq] at h1
      have key : ∀ r, (∀ gh w v, Rep gh w v p → ∃ v', (Instr.typeAssert (.iface t v) S T true).run P w = .ok v' w ∧ Rep gh w v' r) → OpPure P glob ⟨dst, .typeAssert x S T true, ty, pos, after, guard⟩ ρ r := by
        intro r hr σ gh w a hR hF
        have e := hF x (by simp [Op.operands])
        rw [hx] at e
        generalize hv : a.eval x = v at e
        cases e with
        | iface _ u _ hu =>
          obtain ⟨v', k1, k2⟩ := hr gh w u hu
          unfold Oper.wp
          have hrun : (execOp a.eval ⟨dst, .typeAssert x S T true, ty, pos, after, guard⟩).run P w = .ok (.value v') w := by
            simp only [execOp, hv, Sem.run_bind, k1, Result.andThen_ok, Sem.run_pure]
          rw [hrun]
          exact ⟨gh, v', r, σ, rfl, .refl _ _, hR, k2, rfl, rfl⟩
      cases hl : lacking want i.methods with
      | nil =>
        rw [hl] at h1
        have hm := missingMethod_none hl
        refine ⟨_, key _ fun gh w v hv => ⟨.tuple #[.iface t v, .bool true], ?_, ?_⟩, h2 h1.symm⟩
        · simp only [Instr.typeAssert, Sem.run_bind, run_und hu, Result.andThen_ok, run_info hi, hm, if_true, Sem.run_pure]
        · exact .tup _ _ rfl fun i q hq => by
            match i, hq with
            | 0, hq => simp at hq; subst hq; exact .iface _ _ _ hv
            | 1, hq => simp at hq; subst hq; exact .lit _
      | cons l0 lr =>
        rw [hl] at h1
        obtain ⟨m, hm⟩ := missingMethod_some (want := want) (got := i.methods) (by rw [hl]; simp)
        obtain ⟨hz, hk⟩ := h3 h1.symm
        unfold nilZero at hz
        split at hz
        · rename_i iT hiT
          split at hz
          · rename_i hzz
            refine ⟨_, key _ fun gh w v hv => ⟨.tuple #[.nilIface, .bool false], ?_, ?_⟩, hk⟩
            · simp only [Instr.typeAssert, Sem.run_bind, run_und hu, Result.andThen_ok, run_info hi, hm, if_true, Sem.run_pure, zeroValue, run_info hiT, hzz]
            · exact .tup _ _ rfl fun i q hq => by
                match i, hq with
                | 0, hq => simp at hq; subst hq; exact .lit _
                | 1, hq => simp at hq; subst hq; exact .lit _
          · cases hz
        · cases hz
    · cases h1
  · exact h.elim
end
end Go.Abs
