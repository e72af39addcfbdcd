/- append, copy, make of a slice. -/
import Derived.Test.YtlcbjenehogfmaaAbEff2
set_option linter.unusedSimpArgs false
set_option linter.unusedVariables false
namespace Go.Abs
open Go

section
variable {P : Program} {glob : Nat → PV} {ρ : Operand → PV} {σ : Store}
variable {dst : Option Tmp} {ty : TypeId} {pos : String} {after : Array Edge} {guard : Option (Nat × Bool)}

def byteCells (s : ByteArray) : List PV := s.data.toList.map fun b => .lit (.int .u8 b.toNat)

/-- What is appended or copied: how many elements, their cells. -/
def srcW (k : Nat) (σ : Store) (p : PV) (K : Nat → List PV → Prop) : Prop :=
  match p with
  | .vs k' es => k' = k ∧ K es.length es.flatten
  | .lit (.string s) => k = 1 ∧ K s.size (byteCells s)
  | .lit (.slice none 0 0) | .z => K 0 []
  | .rs k' o off len _ => k' = k ∧ ∃ cs, σ o = some (.cells cs) ∧ Chk (off + len * k ≤ cs.length) ∧ K len ((cs.drop off).take (len * k))
  | _ => False

theorem flatten_length {k : Nat} : ∀ {es : List (List PV)}, (∀ e ∈ es, e.length = k) → es.flatten.length = es.length * k
  | [], _ => by simp
  | e :: es, h => by
    rw [List.flatten_cons, List.length_append, flatten_length (fun e' h' => h e' (by simp [h'])), h e (by simp), List.length_cons, Nat.succ_mul, Nat.add_comm]

/-- The source, as the model reads it: the same in each later world that leaves these cells alone. -/
theorem run_src {gh : Gh} {w : World} (hR : R glob gh σ w) {k : Nat} {p : PV} {v : Value} (hv : Rep gh w v p) {K : Nat → List PV → Prop} (h : srcW k σ p K) :
    ∃ m ps, K m ps ∧ ∃ cs : List Value, cs.length = m * k ∧ ps.length = m * k ∧ (∀ i q, ps[i]? = some q → Rep gh w (cs.getD i undef) q) ∧ (Builtin.lenOf v).run P w = .ok m w ∧
      ∀ w' : World, (∀ b : Nat, w'.heap[b]? = w.heap[b]?) → (Builtin.firstCells k m v).run P w' = .ok cs.toArray w' := by
  have fromCells : ∀ (b off m : Nat) (ps : List PV) (f : Nat → Value), ps.length = m * k → (∀ i, i < ps.length → w.cell? ⟨b, off + i, none⟩ = some (f i)) → (∀ i q, ps[i]? = some q → Rep gh w (f i) q) →
      ∃ cs : List Value, cs.length = m * k ∧ (∀ i q, ps[i]? = some q → Rep gh w (cs.getD i undef) q) ∧ ∀ w' : World, (∀ b : Nat, w'.heap[b]? = w.heap[b]?) → ∀ len cap, (Builtin.firstCells k m (.slice (some ⟨b, off, none⟩) len cap)).run P w' = .ok cs.toArray w' := fun b off m ps f hl hc hr => by
    refine ⟨(List.range (m * k)).map f, by simp, fun i q hi => ?_, fun w' hw len cap => ?_⟩
    · have hlt : i < m * k := by rw [← hl]; exact (List.getElem?_eq_some_iff.1 hi).1
      have : ((List.range (m * k)).map f).getD i undef = f i := by simp [hlt]
      rw [this]; exact hr i q hi
    · refine run_firstCells_some w' k m _ len cap _ (by simp) fun j v hj => ?_
      simp only [List.getElem?_map, Option.map_eq_some_iff] at hj
      obtain ⟨j', hj, rfl⟩ := hj
      obtain ⟨hlt, rfl⟩ := List.getElem?_eq_some_iff.1 hj
      simp at hlt
      rw [addr_add, cell?_congr (hw b), List.getElem_range]
      exact hc j (by omega)
  unfold srcW at h
  split at h
  · rename_i k' es
    obtain ⟨rfl, h⟩ := h
    cases hv with
    | vsE _ ad cap =>
      refine ⟨0, [], h, [], by simp, by simp, fun i q hi => by simp at hi, by simp [Builtin.lenOf], fun w' _ => ?_⟩
      cases ad with
      | none => simp [Builtin.firstCells]
      | some ad => simpa using run_firstCells_some (P := P) w' k' 0 ad 0 cap [] (by simp) (fun j v hj => by simp at hj)
    | vs _ _ b off cap f hF hcap hk hc hr =>
      obtain ⟨cs, h1, h2, h3⟩ := fromCells b off es.length es.flatten f (flatten_length hk) (fun i hi => hc i (by rw [flatten_length hk] at hi; exact hi)) hr
      exact ⟨_, _, h, cs, h1, flatten_length hk, h2, by simp [Builtin.lenOf], fun w' hw => h3 w' hw _ _⟩
  · rename_i s
    obtain ⟨rfl, h⟩ := h
    have := lit_of_rep hv
    subst this
    have hsz : s.data.size = s.size := rfl
    refine ⟨_, _, h, s.data.toList.map fun b => .int .u8 b.toNat, by simp [hsz], by simp [byteCells, hsz], fun i q hi => ?_, by simp [Builtin.lenOf], fun w' _ => ?_⟩
    · simp only [byteCells, List.getElem?_map, Option.map_eq_some_iff] at hi
      obtain ⟨b, hb, rfl⟩ := hi
      have : ((s.data.toList.map fun b => Value.int IntKind.u8 (b.toNat : Int)).getD i undef) = .int .u8 b.toNat := by
        rw [List.getD_eq_getElem?_getD, List.getElem?_map, hb]; rfl
      rw [this]; exact .lit _
    · have hx : s.extract 0 s.size = s := ByteArray.extract_zero_size
      simp only [Builtin.firstCells, hx, Sem.run_pure]
      congr 1
      apply Array.ext'
      simp
  · have := lit_of_rep hv
    subst this
    exact ⟨0, [], h, [], by simp, by simp, fun i q hi => by simp at hi, by simp [Builtin.lenOf], fun w' _ => by simp [Builtin.firstCells]⟩
  · cases hv with
    | z ad =>
      refine ⟨0, [], h, [], by simp, by simp, fun i q hi => by simp at hi, by simp [Builtin.lenOf], fun w' _ => ?_⟩
      cases ad with
      | none => simp [Builtin.firstCells]
      | some ad => simpa using run_firstCells_some (P := P) w' k 0 ad 0 0 [] (by simp) (fun j v hj => by simp at hj)
  · rename_i k' o off len cap
    obtain ⟨rfl, cs, hσ, hoff, h⟩ := h
    have hoff := hoff.out
    cases hv with
    | rs _ _ _ _ _ cap' s hG hl hcap hn =>
      obtain ⟨s', g1, _, _, g4⟩ := hR.ob o _ hσ
      rw [hG] at g1
      cases g1
      obtain ⟨f, f1, f2⟩ := g4.read
      have hpl : ((cs.drop off).take (len * k')).length = len * k' := by simp; omega
      obtain ⟨vs, h1, h2, h3⟩ := fromCells s.b (s.base + off) len ((cs.drop off).take (len * k')) (fun i => f (off + i)) hpl (fun i hi => by rw [Nat.add_assoc]; exact f1 _ (by omega)) (fun i q hi => by
        rw [List.getElem?_take] at hi
        split at hi
        · rw [List.getElem?_drop] at hi; exact f2 _ _ hi
        · cases hi)
      exact ⟨_, _, h, vs, h1, hpl, h2, by simp [Builtin.lenOf], fun w' hw => h3 w' hw _ _⟩
    | rsZ _ _ _ ad =>
      refine ⟨_, _, h, [], by simp, by simp, fun i q hi => by simp at hi, by simp [Builtin.lenOf], fun w' _ => ?_⟩
      cases ad with
      | none => simp [Builtin.firstCells]
      | some ad => simpa using run_firstCells_some (P := P) w' k' 0 ad 0 0 [] (by simp) (fun j v hj => by simp at hj)
  · exact h.elim

/-- What is known of a slice's type and of its elements. -/
structure ElemOk (P : Program) (T e k : Nat) (bytes : Nat) : Prop where
  sl : P.underlying T = some (.slice e)
  el : ∃ d, P.underlying e = some d
  cells : P.cellsOf e = k
  bytes : P.bytesOf e = bytes
  zero : ∃ zc, zeroCells P e = some zc ∧ zc.length = k

theorem run_append_fit {w : World} {T U e k bytes ty : Nat} (hE : ElemOk P T e k bytes) (hU : (∃ e', P.underlying U = some (.slice e')) ∨ P.underlying U = some .string) {base : Option Addr} {sLen sCap m : Nat} {x : Value} {cs : Array Value}
    (hlen : (Builtin.lenOf x).run P w = .ok m w) (hfc : (Builtin.firstCells k m x).run P w = .ok cs w) (hfit : sLen + m ≤ sCap) :
    (Builtin.append_ #[T, U] ty #[.slice base sLen sCap, x]).run P w =
      ((match base with | some a => storeCells (a.add (sLen * k)) cs.toList | none => pure () : Sem Unit).run P w).andThen fun _ w' => .ok (.slice base (sLen + m) sCap) w' := by
  obtain ⟨d, hd⟩ := hE.el
  rcases hU with ⟨e', hUd⟩ | hUd <;>
  · unfold Builtin.append_
    simp only [List.getElem?_toArray, List.getElem?_cons_zero, List.getElem?_cons_succ, Sem.run_bind, run_und hE.sl, Result.andThen_ok, run_size hd, hE.cells, run_und hUd, Sem.run_pure, Bool.false_eq_true, if_false, hlen, hfit, if_true, Bool.not_false, hfc]
    cases base <;> simp only [hlen, Sem.run_bind, Result.andThen_ok, hfit, if_true, hfc, Sem.run_pure] <;> rfl

theorem run_append_new {w : World} {T U e k bytes ty : Nat} (hE : ElemOk P T e k bytes) (hU : (∃ e', P.underlying U = some (.slice e')) ∨ P.underlying U = some .string) {base : Option Addr} {sLen sCap m : Nat} {x : Value} {old cs : Array Value}
    (hlen : (Builtin.lenOf x).run P w = .ok m w) (hfc : ∀ w' : World, (∀ b : Nat, w'.heap[b]? = w.heap[b]?) → (Builtin.firstCells k m x).run P w' = .ok cs w') (hold : ∀ w' : World, (∀ b : Nat, w'.heap[b]? = w.heap[b]?) → (Builtin.firstCells k sLen (.slice base sLen sCap)).run P w' = .ok old w')
    (hfit : sCap < sLen + m) (hsz : (sLen + m) * bytes ≤ 140737488355328) (hb : 0 < bytes) :
    ∃ (newCap : Nat) (rest : Array Value), sLen + m ≤ newCap ∧ rest.size = (newCap - (sLen + m)) * k ∧
      (Builtin.append_ #[T, U] ty #[.slice base sLen sCap, x]).run P w = .ok (.slice (some ⟨w.heap.size, 0, none⟩) (sLen + m) newCap) (w.drew.alloc (.cells (old ++ cs ++ rest) e)) := by
  obtain ⟨d, hd⟩ := hE.el
  obtain ⟨zc, hzc, hzl⟩ := hE.zero
  obtain ⟨z, z1, z2⟩ := run_zero (w := w.drew) hzc
  have hzs : z.cells.size = k := by rw [(z2 ⟨fun _ => False, fun _ => none⟩ w).1, hzl]
  have hby : ∀ w', (typeInfo e).run P w' = .ok ((P.info? e).getD default) w' ∧ ((P.info? e).getD default).bytes = bytes := fun w' => by
    cases hi : P.info? e with
    | none => unfold Program.underlying at hd; rw [hi] at hd; cases hd
    | some i => exact ⟨by simp [typeInfo, hi], by have := hE.bytes; simp [Program.bytesOf, hi] at this; exact this⟩
  have hq : (Question.appendCap (sLen + m) sCap e).forced = false := rfl
  refine ⟨(Question.appendCap (sLen + m) sCap e).cut (w.tape w.drawn (.appendCap (sLen + m) sCap e)), Builtin.zeroCells z.cells ((Question.appendCap (sLen + m) sCap e).cut (w.tape w.drawn (.appendCap (sLen + m) sCap e)) - (sLen + m)), by simp [Question.cut], by rw [size_zeroCells, hzs], ?_⟩
  generalize hnc : (Question.appendCap (sLen + m) sCap e).cut (w.tape w.drawn (.appendCap (sLen + m) sCap e)) = nc
  have hfit' : ¬ (sLen + m ≤ sCap) := by omega
  have h48 : ¬ (281474976710656 < Builtin.nextslicecap (sLen + m) sCap * bytes) := by have := growslice_fits hfit hsz; omega
  have hdr : ∀ b : Nat, w.drew.heap[b]? = w.heap[b]? := fun _ => rfl
  have hb0 : ¬ (bytes = 0) := by omega
  have hch : (choose (.appendCap (sLen + m) sCap e)).run P w = .ok nc w.drew := by
    rw [run_choose, hq, hnc]; rfl
  rcases hU with ⟨e', hUd⟩ | hUd <;>
  · unfold Builtin.append_
    simp only [List.getElem?_toArray, List.getElem?_cons_zero, List.getElem?_cons_succ, Sem.run_bind, run_und hE.sl, Result.andThen_ok, run_size hd, hE.cells, run_und hUd, Sem.run_pure, Bool.false_eq_true, if_false, hlen, hfit',
      (hby _).1, (hby w).2, hb0, or_self, and_false, Sem.run_ite, Nat.reducePow, gt_iff_lt, h48, hch, run_askRoom, Bool.not_false, if_true]
    simp only [false_or, hb0, and_false, if_false, hold _ hdr, hfc _ hdr, Result.andThen_ok, z1, newRow, Sem.run_bind, run_newObj, Sem.run_pure]
    rfl

def appendW (P : Program) (T U : TypeId) (σ : Store) (p q : PV) (K : PV → Store → Prop) : Prop :=
  ∃ e k bytes, ElemOk P T e k bytes ∧ 0 < bytes ∧ ((∃ e', P.underlying U = some (.slice e')) ∨ P.underlying U = some .string) ∧ srcW k σ q fun m news =>
    allCell news = true ∧
    match p with
    | .z | .lit (.slice none 0 0) => Chk (m * bytes ≤ 140737488355328) ∧ if m = 0 then K p σ else ∀ o, σ o = none → K (.rs k o 0 m m) (σ.set o (.cells news))
    | .rs k' o off len cap => k' = k ∧ ∃ cs, σ o = some (.cells cs) ∧
        if len + m ≤ cap then Chk (off + (len + m) * k ≤ cs.length) ∧ K (.rs k o off (len + m) cap) (σ.set o (.cells (splice cs (off + len * k) news)))
        else Chk ((len + m) * bytes ≤ 140737488355328 ∧ off + len * k = cs.length) ∧ ∀ o', σ o' = none → K (.rs k o' 0 (len + m) (len + m)) ((σ.drop o).set o' (.cells (cs.drop off ++ news)))
    | .vs k' es => k' = k ∧ Chk (m = 0) ∧ K (.vs k es) σ
    | _ => False

theorem heap_drew (w : World) (b : Nat) : w.drew.heap[b]? = w.heap[b]? := rfl

theorem R.drew {gh : Gh} {w : World} (hR : R glob gh σ w) : R glob gh σ w.drew :=
  have x0 : Ext gh w gh w.drew := .drew gh w _
  ⟨hR.fb, fun o y e => by
      obtain ⟨s, a1, a2, a3, a4⟩ := hR.ob o y e
      exact ⟨s, a1, a2, a3, a4.ext x0 rfl⟩, hR.inj, hR.fresh, fun g => (hR.gl g).ext x0⟩

theorem R.dropO {gh : Gh} {w : World} (hR : R glob gh σ w) (o : Nat) : R glob gh (σ.drop o) w :=
  hR.sub fun i x e => by
    simp only [Store.drop] at e
    split at e
    · cases e
    · exact e

theorem cellsRep_toArray {gh : Gh} {w : World} {cs : List Value} {ps : List PV} (hl : cs.length = ps.length) (h : ∀ i q, ps[i]? = some q → Rep gh w (cs.getD i undef) q) : CellsRep gh w cs.toArray ps :=
  ⟨by simpa using hl, fun i q hi => by simpa using h i q hi⟩

theorem mem_oneCell {gh : Gh} {w : World} {cs : List Value} {ps : List PV} (hl : cs.length = ps.length) (h : ∀ i q, ps[i]? = some q → Rep gh w (cs.getD i undef) q) (ha : allCell ps = true) : ∀ v ∈ cs, v.oneCell' = true := fun v hv => by
  obtain ⟨i, hi⟩ := List.getElem?_of_mem hv
  have hlt : i < ps.length := by rw [← hl]; exact (List.getElem?_eq_some_iff.1 hi).1
  have := h i _ (List.getElem?_eq_getElem hlt)
  rw [List.getD_eq_getElem?_getD, hi, Option.getD_some] at this
  exact rep_oneCell this (allCell_get ha (List.getElem?_eq_getElem hlt))

theorem CellsRep.append {gh : Gh} {w : World} {c d : Array Value} {ps qs : List PV} (h : CellsRep gh w c ps) (k : CellsRep gh w d qs) : CellsRep gh w (c ++ d) (ps ++ qs) := by
  refine ⟨by simp [h.1, k.1], fun i p hi => ?_⟩
  by_cases hlt : i < ps.length
  · rw [List.getElem?_append_left hlt] at hi
    have : (c ++ d).getD i undef = c.getD i undef := by simp [Array.getElem?_append, h.1, hlt]
    rw [this]; exact h.2 i p hi
  · rw [List.getElem?_append_right (by omega)] at hi
    have : (c ++ d).getD i undef = d.getD (i - ps.length) undef := by simp [Array.getElem?_append, h.1, hlt]
    rw [this]; exact k.2 _ p hi

theorem allCell_append {a b : List PV} : allCell (a ++ b) = (allCell a && allCell b) := by simp [allCell]

theorem eff_append (T U : TypeId) (x y : Operand) {K : PV → Store → Prop} (h : appendW P T U σ (ρ x) (ρ y) K) : OpOk P glob ⟨dst, .call ⟨.builtin .append, #[x, y], #[T, U]⟩, ty, pos, after, guard⟩ ρ σ K := by
  intro gh w a hR hF
  obtain ⟨e, k, bytes, hE, hb, hU, h⟩ := h
  have hx := hF x (by simp [Op.operands, Call.operands])
  have hy := hF y (by simp [Op.operands, Call.operands])
  obtain ⟨m, news, ⟨ha, h⟩, cs, c1, c2, c3, c4, c5⟩ := run_src (P := P) hR hy h
  have c6 := c5 w (fun _ => rfl)
  have hlen : cs.length = news.length := c1.trans c2.symm
  have wpv : ∀ (v : Value) (w' : World), (Builtin.append_ #[T, U] ty #[a.eval x, a.eval y]).run P w = .ok v w' →
      (execOp a.eval ⟨dst, .call ⟨.builtin .append, #[x, y], #[T, U]⟩, ty, pos, after, guard⟩).run P w = .ok (.value v) w' := fun v w' hr => by
    simp only [execOp, resolve, invoke, builtin, Sem.run_bind, Sem.run_pure, Result.andThen_ok, List.map_toArray, List.map_cons, List.map_nil, hr]
  unfold Oper.wp
  -- a new block: what was there, what comes
  have fresh : ∀ (σ' : Store) (base : Option Addr) (sLen sCap : Nat) (old : Array Value) (olds : List PV), a.eval x = .slice base sLen sCap → Sub σ' σ → CellsRep gh w old olds → allCell olds = true → olds.length = sLen * k →
      (∀ w' : World, (∀ b : Nat, w'.heap[b]? = w.heap[b]?) → (Builtin.firstCells k sLen (.slice base sLen sCap)).run P w' = .ok old w') → sCap < sLen + m → (sLen + m) * bytes ≤ 140737488355328 →
      (∀ o, gh.G o = none → σ' o = none → K (.rs k o 0 (sLen + m) (sLen + m)) (σ'.set o (.cells (olds ++ news)))) →
      Oper.upon P ⟨dst, .call ⟨.builtin .append, #[x, y], #[T, U]⟩, ty, pos, after, guard⟩ a (fun a' w' => ∃ gh' v r σ', a' = a.put dst v ∧ Ext gh w gh' w' ∧ R glob gh' σ' w' ∧ Rep gh' w' v r ∧ K r σ') (fun _ _ _ => False)
        ((execOp a.eval ⟨dst, .call ⟨.builtin .append, #[x, y], #[T, U]⟩, ty, pos, after, guard⟩).run P w) := fun σ' base sLen sCap old olds hv hsub hco hao hlo hold hfit hsz hK => by
    obtain ⟨newCap, rest, n1, n2, hr⟩ := run_append_new (P := P) (ty := ty) hE hU (base := base) (sLen := sLen) (sCap := sCap) (old := old) c4 c5 hold hfit hsz hb
    rw [wpv _ _ (by rw [hv]; exact hr)]
    have hR' : R glob gh σ' w.drew := (hR.sub hsub).drew
    obtain ⟨o, ho, hσ⟩ := hR'.free
    have hc : CellsRep gh w.drew (old ++ cs.toArray) (olds ++ news) := by
      have := hco.append (cellsRep_toArray hlen c3)
      exact ⟨this.1, fun i p hi => (this.2 i p hi).ext (.drew gh w _)⟩
    obtain ⟨h1, h2⟩ := hR'.newCells ho hc (by rw [allCell_append, hao, ha]; rfl) e rest
    have hn : (old ++ cs.toArray ++ rest).size = newCap * k := by
      have e1 : old.size = sLen * k := hco.1.trans hlo
      have e2 : newCap * k = (sLen + m) * k + (newCap - (sLen + m)) * k := by rw [← Nat.add_mul]; congr 1; omega
      rw [Nat.add_mul] at e2
      simp only [Array.size_append, List.size_toArray, e1, c1, n2]; omega
    refine ⟨_, _, _, _, rfl, (Ext.drew gh w _).trans h2, h1, .rs k o 0 (sLen + m) (sLen + m) newCap ⟨w.drew.heap.size, 0, (old ++ cs.toArray ++ rest).size⟩ (by simp [Gh.give]) n1 n1 (by show 0 + 0 + newCap * k ≤ (old ++ cs.toArray ++ rest).size; omega), hK o ho hσ⟩
  split at h
  · rename_i hp
    rw [hp] at hx
    generalize hv : a.eval x = v at hx
    cases hx with
    | z ad =>
      obtain ⟨hsz, h⟩ := h
      have hsz := hsz.out
      split at h
      · rename_i hm
        subst hm
        have : news = [] := List.eq_nil_of_length_eq_zero (by omega)
        have hcs : cs = [] := List.eq_nil_of_length_eq_zero (by omega)
        subst hcs
        have hr := run_append_fit (P := P) (ty := ty) hE hU (base := ad) (sLen := 0) (sCap := 0) c4 c6 (Nat.le_refl _)
        rw [wpv (.slice ad 0 0) w (by rw [hv, hr]; cases ad <;> rfl)]
        exact ⟨gh, _, _, _, rfl, .refl _ _, hR, .z ad, hp ▸ h⟩
      · rename_i hm
        have := fresh σ ad 0 0 #[] [] hv (.refl _) ⟨rfl, fun i p hi => by simp at hi⟩ rfl (by simp) (fun w' _ => by
          cases ad with
          | none => simp [Builtin.firstCells]
          | some ad => simpa using run_firstCells_some (P := P) w' k 0 ad 0 0 [] (by simp) (fun j v hj => by simp at hj)) (by omega) (by simpa using hsz) (fun o _ => by simpa using h o)
        simpa using this
  · rename_i hp
    rw [hp] at hx
    have hv := lit_of_rep hx
    obtain ⟨hsz, h⟩ := h
    have hsz := hsz.out
    split at h
    · rename_i hm
      subst hm
      have hcs : cs = [] := List.eq_nil_of_length_eq_zero (by omega)
      subst hcs
      have hr := run_append_fit (P := P) (ty := ty) hE hU (base := none) (sLen := 0) (sCap := 0) c4 c6 (Nat.le_refl _)
      rw [wpv (.slice none 0 0) w (by rw [hv, hr]; rfl)]
      exact ⟨gh, _, _, _, rfl, .refl _ _, hR, .lit _, hp ▸ h⟩
    · rename_i hm
      have := fresh σ none 0 0 #[] [] hv (.refl _) ⟨rfl, fun i p hi => by simp at hi⟩ rfl (by simp) (fun w' _ => by simp [Builtin.firstCells]) (by omega) (by simpa using hsz) (fun o _ => by simpa using h o)
      simpa using this
  · rename_i k' o off len cap hp
    obtain ⟨rfl, os, hσ, h⟩ := h
    rw [hp] at hx
    generalize hv : a.eval x = v at hx
    cases hx with
    | rs _ _ _ _ _ cap' s hG hl hcap hn =>
      obtain ⟨s', g1, g2, g3, g4⟩ := hR.ob o _ hσ
      rw [hG] at g1
      cases g1
      have inPlace : len + m ≤ cap' → (execOp a.eval ⟨dst, .call ⟨.builtin .append, #[x, y], #[T, U]⟩, ty, pos, after, guard⟩).run P w =
          .ok (.value (.slice (some ⟨s.b, s.base + off, none⟩) (len + m) cap')) (w.setCells s.b (s.base + (off + len * k')) cs) := fun hfit => by
        have hr := run_append_fit (P := P) (ty := ty) hE hU (base := some ⟨s.b, s.base + off, none⟩) (sLen := len) (sCap := cap') c4 c6 hfit
        have h2 : (len + m) * k' ≤ cap' * k' := Nat.mul_le_mul_right _ hfit
        rw [Nat.add_mul] at h2
        have hst := run_storeCells_owned (P := P) hR hσ hG (off := off + len * k') (vs := cs) (by omega) (mem_oneCell hlen c3 ha)
        refine wpv _ _ ?_
        rw [hv, hr]
        simp only [addr_add]
        rw [Nat.add_assoc] at *
        rw [hst]; rfl
      split at h
      · rename_i hfit
        obtain ⟨h5, h6⟩ := h
        have h5 := h5.out
        rw [inPlace (by omega)]
        have h5' : off + len * k' + news.length ≤ os.length := by rw [c2, Nat.add_assoc, ← Nat.add_mul]; exact h5
        obtain ⟨x1, x2⟩ := hR.write hσ hG hlen h5' c3 ha
        exact ⟨gh, _, _, _, rfl, x1, x2, .rs k' o off (len + m) cap cap' s hG (by omega) hcap hn, h6⟩
      · rename_i hfit
        obtain ⟨⟨h5, h6⟩, h7⟩ := h
        by_cases hf : len + m ≤ cap'
        · -- it fits after all: the block gets another name
          rw [inPlace hf]
          obtain ⟨c, Tc, fr, d1, d2, d3, d4, d5⟩ := g4
          obtain ⟨e1, e2, e3, e4, e5, e6⟩ := heap_setCells s.b cs (s.base + (off + len * k')) w
          have hRd := hR.dropO o
          obtain ⟨o', ho', hσ'⟩ := hRd.free
          have x : Ext gh w gh (w.setCells s.b (s.base + (off + len * k')) cs) := ⟨e4, e5, e6, by omega, fun _ h => h, fun b hb => e2 b (fun e => g3 (e ▸ hb)), fun _ _ h => h⟩
          have xg := Ext.give ho' ⟨s.b, s.base + off, s.n⟩ x
          have h2 : (len + m) * k' ≤ cap' * k' := Nat.mul_le_mul_right _ hf
          rw [Nat.add_mul] at h2
          have hdl : (os.drop off).length = len * k' := by simp; omega
          have hoo : o' ≠ o := fun e => by rw [e, hG] at ho'; cases ho'
          have hσo : σ o' = none := by simpa [Store.drop, hoo] using hσ'
          refine ⟨gh.give o' ⟨s.b, s.base + off, s.n⟩, _, _, _, rfl, xg, hRd.give ho' xg (by rw [e3]; exact g2) g3 ?_ (fun i y t ei gi => ?_), .rs k' o' 0 (len + m) (len + m) cap' ⟨s.b, s.base + off, s.n⟩ (by simp [Gh.give]) hf hf (by simpa using hn), h7 o' hσo⟩
          · refine ⟨setAll c (s.base + (off + len * k')) cs, Tc, fr, e1 c Tc fr d1, by rw [setAll_size]; exact d2, ?_, d4, fun i p hi => ?_⟩
            · show s.base + off + _ ≤ s.n
              simp only [List.length_append, hdl, c2]; omega
            · show p.cell = true ∧ Rep _ _ ((setAll c (s.base + (off + len * k')) cs).getD (s.base + off + i) undef) p
              rw [setAll_get _ _ _ (by omega)]
              by_cases hlt : i < (os.drop off).length
              · rw [List.getElem?_append_left hlt, List.getElem?_drop] at hi
                rw [if_neg (by omega)]
                have := d5 _ _ hi
                exact ⟨this.1, by rw [← Nat.add_assoc] at this; exact this.2.ext xg⟩
              · rw [List.getElem?_append_right (by omega), hdl] at hi
                have hlt2 := (List.getElem?_eq_some_iff.1 hi).1
                rw [if_pos (by omega)]
                refine ⟨allCell_get ha hi, ?_⟩
                have := (c3 _ _ hi).ext xg
                rw [show s.base + off + i - (s.base + (off + len * k')) = i - len * k' by omega]
                exact this
          · have hio : i ≠ o := fun e => by subst e; simp [Store.drop] at ei
            simp only [Store.drop, if_neg hio] at ei
            have hne : t.b ≠ s.b := fun e => hio (hR.inj i o y _ t s ei hσ gi hG e)
            exact ⟨hne, e2 _ hne⟩
        · obtain ⟨f, f1, f2⟩ := ObOk.read g4
          have hdl : (os.drop off).length = len * k' := by simp; omega
          have hold : ∀ w' : World, (∀ b : Nat, w'.heap[b]? = w.heap[b]?) → (Builtin.firstCells k' len (.slice (some ⟨s.b, s.base + off, none⟩) len cap')).run P w' = .ok ((List.range (len * k')).map fun i => f (off + i)).toArray w' := fun w' hw =>
            run_firstCells_some w' k' len _ len cap' _ (by simp) fun j v hj => by
              simp only [List.getElem?_map, Option.map_eq_some_iff] at hj
              obtain ⟨j', hj, rfl⟩ := hj
              obtain ⟨hlt, rfl⟩ := List.getElem?_eq_some_iff.1 hj
              simp at hlt
              rw [addr_add, cell?_congr (hw s.b), List.getElem_range, Nat.add_assoc]
              exact f1 _ (by omega)
          have hsub : Sub (σ.drop o) σ := fun i x e => by
            simp only [Store.drop] at e
            split at e
            · cases e
            · exact e
          have hao : allCell (os.drop off) = true := by
            obtain ⟨c, Tc, fr, d1, d2, d3, d4, d5⟩ := g4
            refine List.all_eq_true.2 fun p hp => ?_
            obtain ⟨i, hi⟩ := List.getElem?_of_mem hp
            rw [List.getElem?_drop] at hi
            exact (d5 _ _ hi).1
          refine fresh (σ.drop o) (some ⟨s.b, s.base + off, none⟩) len cap' _ (os.drop off) hv hsub ⟨by simp [hdl], fun i p hi => ?_⟩ hao hdl hold (by omega) h5 (fun o' hg' ho' => ?_)
          · have hlt := (List.getElem?_eq_some_iff.1 hi).1
            have : (((List.range (len * k')).map fun i => f (off + i)).toArray).getD i undef = f (off + i) := by simp [show i < len * k' by omega]
            rw [this]
            rw [List.getElem?_drop] at hi
            exact f2 _ _ hi
          · by_cases hoo : o' = o
            · rw [hoo, hG] at hg'; cases hg'
            · exact h7 o' (by simpa [Store.drop, hoo] using ho')
    | rsZ _ _ _ ad =>
      split at h
      · rename_i hm
        have hm : m = 0 := by omega
        subst hm
        have hcs : cs = [] := List.eq_nil_of_length_eq_zero (by omega)
        have hns : news = [] := List.eq_nil_of_length_eq_zero (by omega)
        subst hcs hns
        have hr := run_append_fit (P := P) (ty := ty) hE hU (base := ad) (sLen := 0) (sCap := 0) c4 c6 (Nat.le_refl _)
        rw [wpv (.slice ad 0 0) w (by rw [hv, hr]; cases ad <;> rfl)]
        have hsp : σ.set o (.cells (splice os (off + 0 * k') [])) = σ := by
          funext i
          by_cases hi : i = o
          · subst hi; rw [Store.set_same, hσ]; simp [splice]
          · rw [Store.set_ne hi]
        have h2 := h.2
        rw [hsp] at h2
        exact ⟨gh, _, _, _, rfl, .refl _ _, hR, .rsZ _ _ _ ad, h2⟩
      · rename_i hm
        obtain ⟨⟨h5, h6⟩, h7⟩ := h
        have hsub : Sub (σ.drop o) σ := fun i x e => by
          simp only [Store.drop] at e
          split at e
          · cases e
          · exact e
        obtain ⟨s, hG, _⟩ := hR.ob o _ hσ
        have hdn : os.drop off = [] := List.drop_eq_nil_of_le (by omega)
        refine fresh (σ.drop o) ad 0 0 #[] [] hv hsub ⟨rfl, fun i p hi => by simp at hi⟩ rfl (by simp) (fun w' _ => by
          cases ad with
          | none => simp [Builtin.firstCells]
          | some ad => simpa using run_firstCells_some (P := P) w' k' 0 ad 0 0 [] (by simp) (fun j v hj => by simp at hj)) (by omega) h5 (fun o' hg' ho' => ?_)
        have hoo : o' ≠ o := fun e => by rw [e, hG] at hg'; cases hg'
        have := h7 o' (by simpa [Store.drop, hoo] using ho')
        rw [hdn] at this
        exact this
  · rename_i k' es hp
    obtain ⟨rfl, hm0, h⟩ := h
    have hm0 := hm0.out
    subst hm0
    have hcs : cs = [] := List.eq_nil_of_length_eq_zero (by omega)
    subst hcs
    rw [hp] at hx
    generalize hv : a.eval x = v at hx
    cases hx with
    | vsE _ ad cap =>
      have hr := run_append_fit (P := P) (ty := ty) hE hU (base := ad) (sLen := 0) (sCap := cap) c4 c6 (by omega)
      rw [wpv (.slice ad 0 cap) w (by rw [hv, hr]; cases ad <;> rfl)]
      exact ⟨gh, _, _, _, rfl, .refl _ _, hR, .vsE _ ad cap, h⟩
    | vs _ _ b off cap f hF' hcap hk hc hr' =>
      have hr := run_append_fit (P := P) (ty := ty) hE hU (base := some ⟨b, off, none⟩) (sLen := es.length) (sCap := cap) c4 c6 (by omega)
      rw [wpv (.slice (some ⟨b, off, none⟩) es.length cap) w (by rw [hv, hr]; rfl)]
      exact ⟨gh, _, _, _, rfl, .refl _ _, hR, .vs _ _ b off cap f hF' hcap hk hc hr', h⟩
  · exact h.elim
end
end Go.Abs
