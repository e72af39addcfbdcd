/- Lengths, least and greatest; building a struct or an array. -/
import Derived.Test.YtlcbjenehogfmaaAbPure2
set_option linter.unusedSimpArgs false
set_option linter.unusedVariables false
namespace Go.Abs
open Go

section
variable {P : Program} {glob : Nat → PV} {ρ : Operand → PV} {σ : Store}
variable {dst : Option Tmp} {ty : TypeId} {pos : String} {after : Array Edge} {guard : Option (Nat × Bool)}

def lenW (P : Program) (T : TypeId) (p : PV) (K : PV → Prop) : Prop :=
  match p with
  | .vs _ es => (∃ e, P.underlying T = some (.slice e)) ∧ K (.lit (.int .i64 es.length))
  | .rs _ _ _ len _ => (∃ e, P.underlying T = some (.slice e)) ∧ K (.lit (.int .i64 len))
  | .z | .lit (.slice none 0 0) => (∃ e, P.underlying T = some (.slice e)) ∧ K (.lit (.int .i64 0))
  | .lit (.string s) => P.underlying T = some .string ∧ K (.lit (.int .i64 s.size))
  | _ => ∃ m e, P.underlying T = some (.array m e) ∧ K (.lit (.int .i64 m))

theorem pure_len (T : TypeId) (x : Operand) {K : PV → Prop} (h : lenW P T (ρ x) K) :
    ∃ r, OpPure P glob ⟨dst, .call ⟨.builtin .len, #[x], #[T]⟩, ty, pos, after, guard⟩ ρ r ∧ K r := by
  have sl : ∀ {a : Act} {w : World} {e : TypeId} {ad : Option Addr} {len cap : Nat}, P.underlying T = some (.slice e) → a.eval x = .slice ad len cap →
      (execOp a.eval ⟨dst, .call ⟨.builtin .len, #[x], #[T]⟩, ty, pos, after, guard⟩).run P w = .ok (.value (.int .i64 len)) w := fun hT hv => by
    simp [execOp, resolve, invoke, builtin, Builtin.len_, hv, run_und hT, goInt]
  unfold lenW at h
  split at h
  · rename_i k es hx
    obtain ⟨⟨e, hT⟩, h⟩ := h
    refine ⟨_, .of_run fun gh σ w a _ hF => ?_, h⟩
    have e := hF x (by simp [Op.operands, Call.operands])
    rw [hx] at e
    generalize hv : a.eval x = v at e
    cases e with
    | vsE _ ad cap => exact ⟨_, sl hT hv, .lit _⟩
    | vs _ _ b off cap f _ _ hk' hc hr => exact ⟨_, sl hT hv, .lit _⟩
  · rename_i len cap hx
    obtain ⟨⟨e, hT⟩, h⟩ := h
    refine ⟨_, .of_run fun gh σ w a _ hF => ?_, h⟩
    have e := hF x (by simp [Op.operands, Call.operands])
    rw [hx] at e
    generalize hv : a.eval x = v at e
    cases e with
    | rs => exact ⟨_, sl hT hv, .lit _⟩
    | rsZ => exact ⟨_, sl hT hv, .lit _⟩
  · rename_i hx
    obtain ⟨⟨e, hT⟩, h⟩ := h
    refine ⟨_, .of_run fun gh σ w a _ hF => ?_, h⟩
    have e := hF x (by simp [Op.operands, Call.operands])
    rw [hx] at e
    generalize hv : a.eval x = v at e
    cases e with
    | z => exact ⟨_, sl hT hv, .lit _⟩
  · rename_i hx
    obtain ⟨⟨e, hT⟩, h⟩ := h
    refine ⟨_, .of_run fun gh σ w a _ hF => ?_, h⟩
    have e := hF x (by simp [Op.operands, Call.operands])
    rw [hx] at e
    exact ⟨_, sl hT (lit_of_rep e), .lit _⟩
  · rename_i s hx
    obtain ⟨hT, h⟩ := h
    refine ⟨_, .of_run fun gh σ w a _ hF => ⟨_, ?_, .lit _⟩, h⟩
    have e := hF x (by simp [Op.operands, Call.operands])
    rw [hx] at e
    simp [execOp, resolve, invoke, builtin, Builtin.len_, lit_of_rep e, run_und hT, goInt]
  · obtain ⟨m, e, hT, h⟩ := h
    refine ⟨_, .of_run fun gh σ w a _ hF => ⟨_, ?_, .lit _⟩, h⟩
    simp [execOp, resolve, invoke, builtin, Builtin.len_, run_und hT, goInt]

def minW (b : Builtin) (p q : PV) (K : PV → Prop) : Prop :=
  match p, q with
  | .lit (.int k x), .lit (.int _ y) => match b with
    | .min => K (.lit (.int k (if y < x then y else x)))
    | .max => K (.lit (.int k (if y > x then y else x)))
    | _ => False
  | _, _ => False

theorem pure_min (b : Builtin) (Ts : Array TypeId) (x y : Operand) {K : PV → Prop} (h : minW b (ρ x) (ρ y) K) :
    ∃ r, OpPure P glob ⟨dst, .call ⟨.builtin b, #[x, y], Ts⟩, ty, pos, after, guard⟩ ρ r ∧ K r := by
  unfold minW at h
  split at h
  case h_2 => exact h.elim
  rename_i k i k' j hx hy
  split at h
  case h_3 => exact h.elim
  all_goals
    refine ⟨_, .of_run fun gh σ w a _ hF => ⟨_, ?_, .lit _⟩, h⟩
    have e := hF x (by simp [Op.operands, Call.operands])
    rw [hx] at e
    have e2 := hF y (by simp [Op.operands, Call.operands])
    rw [hy] at e2
    simp [execOp, resolve, invoke, builtin, Builtin.min_, Builtin.max_, Builtin.min2, Builtin.max2, lit_of_rep e, lit_of_rep e2]

/-- The cells of a value. -/
theorem rep_cells {gh : Gh} {w : World} {v : Value} {p : PV} (h : Rep gh w v p) (hp : p ≠ .any) : v.cells.size = p.cells.length ∧ ∀ i q, p.cells[i]? = some q → Rep gh w (v.cells.getD i undef) q := by
  have one : ∀ (v : Value) (p : PV), v.cells = #[v] → p.cells = [p] → Rep gh w v p → v.cells.size = p.cells.length ∧ ∀ i q, p.cells[i]? = some q → Rep gh w (v.cells.getD i undef) q := fun v p h1 h2 h3 => by
    rw [h1, h2]
    refine ⟨rfl, fun i q hi => ?_⟩
    cases i with
    | zero => simp at hi; subst hi; simpa using h3
    | succ i => simp at hi
  cases h with
  | any => exact absurd rfl hp
  | lit =>
    cases v with
    | agg cs =>
      refine ⟨by simp [Value.cells, PV.cells], fun i q hi => ?_⟩
      simp only [PV.cells, List.getElem?_map, Option.map_eq_some_iff] at hi
      obtain ⟨u, hu, rfl⟩ := hi
      have : (Value.agg cs).cells.getD i undef = u := by simp at hu; simp [Value.cells, hu]
      rw [this]; exact .lit u
    | _ => exact one _ _ rfl rfl (.lit _)
  | agg vs ps hn h => exact ⟨hn, h⟩
  | tup vs ps hn h => exact one _ _ rfl rfl (.tup vs ps hn h)
  | vsE k a cap => exact one _ _ rfl rfl (.vsE k a cap)
  | vs k es b off cap f hF hcap hk hc hr => exact one _ _ rfl rfl (.vs k es b off cap f hF hcap hk hc hr)
  | vp cs b off f hF hc hr => exact one _ _ rfl rfl (.vp cs b off f hF hc hr)
  | z a => exact one _ _ rfl rfl (.z a)
  | rs k o off len cap cap' s hG hl hcap hn => exact one _ _ rfl rfl (.rs k o off len cap cap' s hG hl hcap hn)
  | rsZ k o off a => exact one _ _ rfl rfl (.rsZ k o off a)
  | ptr o off s hG => exact one _ _ rfl rfl (.ptr o off s hG)
  | mp o s hG => exact one _ _ rfl rfl (.mp o s hG)
  | iface t v p h => exact one _ _ rfl rfl (.iface t v p h)
  | fn f as bs ps qs hn hm h h' => exact one _ _ rfl rfl (.fn f as bs ps qs hn hm h h')

/-- Cells written over, from a place on. -/
def splice (cs : List PV) (off : Nat) (xs : List PV) : List PV := cs.take off ++ xs ++ cs.drop (off + xs.length)

theorem splice_length {cs : List PV} {off : Nat} {xs : List PV} (h : off + xs.length ≤ cs.length) : (splice cs off xs).length = cs.length := by
  simp [splice]; omega

theorem splice_get {cs : List PV} {off : Nat} {xs : List PV} (h : off + xs.length ≤ cs.length) (i : Nat) :
    (splice cs off xs)[i]? = if off ≤ i ∧ i < off + xs.length then xs[i - off]? else cs[i]? := by
  unfold splice
  have h1 : (cs.take off).length = off := by simp; omega
  by_cases ha : i < off
  · rw [List.append_assoc, List.getElem?_append_left (by omega), if_neg (by omega), List.getElem?_take, if_pos ha]
  · rw [List.append_assoc, List.getElem?_append_right (by omega), h1]
    by_cases hb : i < off + xs.length
    · rw [if_pos ⟨by omega, hb⟩, List.getElem?_append_left (by omega)]
    · rw [if_neg (by omega), List.getElem?_append_right (by omega), List.getElem?_drop]
      congr 1; omega

/-- The parts of a struct laid into its cells. -/
def fillW (place : Nat → Option (Nat × Nat)) (cells : List PV) : List (Nat × PV) → Option (List PV)
  | [] => some cells
  | (i, p) :: rest =>
    match place i with
    | none => none
    | some (off, size) =>
      match p with
      | .any => none
      | _ => if p.cells.length = size ∧ off + size ≤ cells.length then fillW place (splice cells off p.cells) rest else none

def CellsRep (gh : Gh) (w : World) (vs : Array Value) (ps : List PV) : Prop := vs.size = ps.length ∧ ∀ i p, ps[i]? = some p → Rep gh w (vs.getD i undef) p

theorem foldl_set (vs : Array Value) (off : Nat) : ∀ (xs : List Value) (k : Nat) (cs : Array Value), off + k + xs.length ≤ cs.size →
    ((xs.zipIdx k).foldl (fun cs (c, j) => cs.setIfInBounds (off + j) c) cs).size = cs.size ∧
    ∀ i, ((xs.zipIdx k).foldl (fun cs (c, j) => cs.setIfInBounds (off + j) c) cs).getD i undef = if off + k ≤ i ∧ i < off + k + xs.length then xs.getD (i - off - k) undef else cs.getD i undef
  | [], k, cs, _ => ⟨rfl, fun i => by simp; intro h1 h2; omega⟩
  | x :: xs, k, cs, h => by
    simp only [List.zipIdx_cons, List.foldl_cons]
    simp only [List.length_cons] at h
    obtain ⟨h1, h2⟩ := foldl_set vs off xs (k + 1) (cs.setIfInBounds (off + k) x) (by simp; omega)
    refine ⟨by simpa using h1, fun i => ?_⟩
    rw [h2]
    by_cases hi : off + (k + 1) ≤ i ∧ i < off + (k + 1) + xs.length
    · rw [if_pos hi, if_pos (by simp; omega), show i - off - k = (i - off - (k + 1)) + 1 by omega]
      simp
    · rw [if_neg hi]
      by_cases hk : i = off + k
      · subst hk
        rw [if_pos (by simp)]
        have : off + k < cs.size := by omega
        simp [this]
      · rw [if_neg (by simp; omega)]
        simp [Array.getElem?_setIfInBounds_ne (Ne.symm hk)]

theorem fill_rep {gh : Gh} {w : World} {place : Nat → Option (Nat × Nat)} : ∀ (vs : List (Nat × Value)) (ps : List (Nat × PV)) (cells : Array Value) (pcells res : List PV),
    vs.length = ps.length → (∀ (j : Nat) i p, ps[j]? = some (i, p) → ∃ v, vs[j]? = some (i, v) ∧ Rep gh w v p) → CellsRep gh w cells pcells → fillW place pcells ps = some res →
    ∃ r, Instr.fill place cells vs = some r ∧ CellsRep gh w r res
  | [], ps, cells, pcells, res, hl, _, hc, h => by
    have : ps = [] := List.eq_nil_of_length_eq_zero hl.symm
    subst this
    simp only [fillW, Option.some.injEq] at h
    subst h
    exact ⟨cells, rfl, hc⟩
  | (i, v) :: vs, [], _, _, _, hl, _, _, _ => by simp at hl
  | (i, v) :: vs, (i', p) :: ps, cells, pcells, res, hl, hr, hc, h => by
    obtain ⟨v', h1, h2⟩ := hr 0 i' p rfl
    simp at h1
    obtain ⟨rfl, rfl⟩ := h1
    simp only [fillW] at h
    split at h
    · cases h
    · rename_i off size hp
      split at h
      · cases h
      · rename_i hany
        split at h
        case isFalse => cases h
        rename_i hs
        obtain ⟨h3, h4⟩ := rep_cells h2 (fun e => hany e)
        have hsz : v.cells.size = size := h3.trans hs.1
        have hcs := hc.1
        obtain ⟨f1, f2⟩ := foldl_set cells off v.cells.toList 0 cells (by simp; omega)
        have hstep : CellsRep gh w (v.cells.zipIdx.foldl (fun cs (c, j) => cs.setIfInBounds (off + j) c) cells) (splice pcells off p.cells) := by
          have e : v.cells.zipIdx.foldl (fun cs (c, j) => cs.setIfInBounds (off + j) c) cells = (v.cells.toList.zipIdx 0).foldl (fun cs (c, j) => cs.setIfInBounds (off + j) c) cells := by
            rw [← Array.foldl_toList, Array.toList_zipIdx]
          rw [e]
          have hle : off + p.cells.length ≤ pcells.length := by omega
          refine ⟨by rw [f1, hc.1, splice_length hle], fun j q hj => ?_⟩
          rw [splice_get hle] at hj
          rw [f2]
          split at hj
          · rename_i hj'
            rw [if_pos (by simp; omega)]
            have := h4 _ _ hj
            simpa using this
          · rename_i hj'
            rw [if_neg (by simp; omega)]
            exact hc.2 _ _ hj
        obtain ⟨r, g1, g2⟩ := fill_rep vs ps _ _ res (by simpa using hl) (fun j i p hj => by simpa using hr (j + 1) i p (by simpa using hj)) hstep h
        refine ⟨r, ?_, g2⟩
        simp only [Instr.fill, hp]
        rw [if_neg (by simp [hsz]; omega)]
        exact g1

def zeroCells (P : Program) (T : TypeId) : Option (List PV) := ((P.info? T).bind (·.zero)).map fun z => (ofV z).cells

theorem run_zero {w : World} {T : TypeId} {zc : List PV} (h : zeroCells P T = some zc) : ∃ z, (zeroValue T).run P w = .ok z w ∧ ∀ gh w', CellsRep gh w' z.cells zc := by
  unfold zeroCells at h
  cases hi : P.info? T with
  | none => rw [hi] at h; simp at h
  | some i =>
    rw [hi] at h
    simp only [Option.bind_some, Option.map_eq_some_iff] at h
    obtain ⟨z, hz, rfl⟩ := h
    refine ⟨z, by simp [zeroValue, typeInfo, hi, hz], fun gh w' => ?_⟩
    have hz : ofV z ≠ .any := by cases z <;> simp [ofV]
    exact rep_cells (rep_ofV gh w' z) hz

def placeS (P : Program) (fs : Array Field) (i : Nat) : Option (Nat × Nat) := (fs[i]?).map fun f => (f.offset, P.cellsOf f.type)

/-- The types of a struct's fields are there. -/
def fieldsThere (P : Program) (fs : Array Field) : Prop := ∀ f ∈ fs, ∃ d, P.underlying f.type = some d

theorem run_places {w : World} (fs : Array Field) (hf : fieldsThere P fs) :
    (fs.mapM fun f => do pure (f.offset, ← sizeOf f.type) : Sem (Array (Nat × Nat))).run P w = .ok (fs.map fun f => (f.offset, P.cellsOf f.type)) w := by
  have key : ∀ (l : List Field), (∀ f ∈ l, ∃ d, P.underlying f.type = some d) → (l.mapM fun f => do pure (f.offset, ← sizeOf f.type) : Sem (List (Nat × Nat))).run P w = .ok (l.map fun f => (f.offset, P.cellsOf f.type)) w := by
    intro l
    induction l with
    | nil => intro _; rfl
    | cons f l ih =>
      intro h
      obtain ⟨d, hd⟩ := h f (by simp)
      simp only [List.mapM_cons, Sem.run_bind, run_size hd, Result.andThen_ok, Sem.run_pure, ih (fun g hg => h g (by simp [hg])), List.map_cons]
  have := key fs.toList (fun f h => hf f (by simpa using h))
  rw [Array.mapM_eq_mapM_toList]
  simp only [Sem.run_map, this, Result.andThen_ok]
  congr 1
  apply Array.ext'
  simp

def buildW (P : Program) (T : TypeId) (parts : List (Nat × PV)) (K : PV → Prop) : Prop :=
  ∃ zc, zeroCells P T = some zc ∧ ((∃ fs, P.underlying T = some (.struct fs) ∧ fieldsThere P fs ∧ ∃ cs, fillW (placeS P fs) zc parts = some cs ∧ K (.agg cs)) ∨
    (∃ m e d, P.underlying T = some (.array m e) ∧ P.underlying e = some d ∧ ∃ cs, fillW (fun i => some (i * P.cellsOf e, P.cellsOf e)) zc parts = some cs ∧ K (.agg cs)))

theorem pure_build (T : TypeId) (parts : Array (Nat × Operand)) {K : PV → Prop} (h : buildW P T (parts.toList.map fun (i, x) => (i, ρ x)) K) :
    ∃ r, OpPure P glob ⟨dst, .build T parts, ty, pos, after, guard⟩ ρ r ∧ K r := by
  obtain ⟨zc, hz, h⟩ := h
  have pr : ∀ {gh : Gh} {w : World} {a : Act}, (∀ x ∈ parts.toList.map (·.2), Rep gh w (a.eval x) (ρ x)) → ((parts.map fun (i, x) => (i, a.eval x)).toList.length = (parts.toList.map fun (i, x) => (i, ρ x)).length ∧
      ∀ (j : Nat) i p, (parts.toList.map fun (i, x) => (i, ρ x))[j]? = some (i, p) → ∃ v, (parts.map fun (i, x) => (i, a.eval x)).toList[j]? = some (i, v) ∧ Rep gh w v p) := fun hF => by
    refine ⟨by simp, fun j i p hj => ?_⟩
    simp only [List.getElem?_map, Option.map_eq_some_iff] at hj
    obtain ⟨⟨i', x⟩, hx, he⟩ := hj
    simp only [Prod.mk.injEq] at he
    obtain ⟨rfl, rfl⟩ := he
    refine ⟨_, ?_, hF x (List.mem_map.2 ⟨_, List.mem_of_getElem? hx, rfl⟩)⟩
    simp only [Array.toList_map, List.getElem?_map, hx, Option.map_some]
  rcases h with ⟨fs, hT, hf, cs, hc, hK⟩ | ⟨m, e, d, hT, he, cs, hc, hK⟩
  · refine ⟨_, .of_run fun gh σ w a _ hF => ?_, hK⟩
    obtain ⟨z, z1, z2⟩ := run_zero (w := w) hz
    obtain ⟨p1, p2⟩ := pr (fun x hx => hF x (by simpa [Op.operands] using hx))
    have hpl : ∀ i, ((fs.map fun f => (f.offset, P.cellsOf f.type))[i]? : Option (Nat × Nat)) = placeS P fs i := fun i => by simp [placeS]
    obtain ⟨r, r1, r2⟩ := fill_rep (place := ((fs.map fun f => (f.offset, P.cellsOf f.type))[·]?)) _ _ z.cells zc cs p1 p2 (z2 gh w) (by
      have : ((fs.map fun f => (f.offset, P.cellsOf f.type))[·]?) = placeS P fs := funext hpl
      rw [this]; exact hc)
    refine ⟨.agg r, ?_, .agg _ _ r2.1 r2.2⟩
    simp only [execOp, Instr.build, Sem.run_bind, z1, Result.andThen_ok, run_und hT, run_places fs hf]
    simp only [r1, Sem.run_pure, Result.andThen_ok]
  · refine ⟨_, .of_run fun gh σ w a _ hF => ?_, hK⟩
    obtain ⟨z, z1, z2⟩ := run_zero (w := w) hz
    obtain ⟨p1, p2⟩ := pr (fun x hx => hF x (by simpa [Op.operands] using hx))
    obtain ⟨r, r1, r2⟩ := fill_rep (place := fun i => some (i * P.cellsOf e, P.cellsOf e)) _ _ z.cells zc cs p1 p2 (z2 gh w) hc
    refine ⟨.agg r, ?_, .agg _ _ r2.1 r2.2⟩
    simp only [execOp, Instr.build, Sem.run_bind, z1, Result.andThen_ok, run_und hT, run_size he]
    simp only [r1, Sem.run_pure, Result.andThen_ok]
end
end Go.Abs
