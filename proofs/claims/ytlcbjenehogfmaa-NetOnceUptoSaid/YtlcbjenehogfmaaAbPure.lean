/- Operations that leave memory as it is: what each yields, as an abstract value. -/
import Derived.Test.YtlcbjenehogfmaaAbCore
import Derived.Laws.Append
import Derived.Laws.Slices
import Derived.Laws.IdiomCopy
set_option linter.unusedSimpArgs false
set_option linter.unusedVariables false
namespace Go.Abs
open Go

section
variable (P : Program) (glob : Nat → PV)

/-- What is known of an operation's operands. -/
def OpR (gh : Gh) (w : World) (ρ : Operand → PV) (a : Act) (o : Oper) : Prop := ∀ x ∈ o.op.operands, Rep gh w (a.eval x) (ρ x)

/-- What follows an operation. -/
def OpOk (o : Oper) (ρ : Operand → PV) (σ : Store) (K : PV → Store → Prop) : Prop :=
  ∀ gh w a, R glob gh σ w → OpR gh w ρ a o →
    o.wp P a w (fun a' w' => ∃ gh' v r σ', a' = a.put o.dst v ∧ Ext gh w gh' w' ∧ R glob gh' σ' w' ∧ Rep gh' w' v r ∧ K r σ') (fun _ _ _ => False)

/-- It yields r, whatever is owned, and nothing turns. -/
def OpPure (o : Oper) (ρ : Operand → PV) (r : PV) : Prop := ∀ σ, OpOk P glob o ρ σ fun r' σ' => r' = r ∧ σ' = σ

variable {P glob} {ρ : Operand → PV} {σ : Store}

theorem OpOk.mono {o : Oper} {K K' : PV → Store → Prop} (h : OpOk P glob o ρ σ K) (hk : ∀ r σ, K r σ → K' r σ) : OpOk P glob o ρ σ K' :=
  fun gh w a hR hF => Oper.wp_mono (fun _ _ ⟨gh', v, r, σ', h0, h1, h2, h3, h4⟩ => ⟨gh', v, r, σ', h0, h1, h2, h3, hk _ _ h4⟩) (h gh w a hR hF)

theorem OpPure.ok {o : Oper} {r : PV} {K : PV → Store → Prop} (h : OpPure P glob o ρ r) (hk : K r σ) : OpOk P glob o ρ σ K :=
  (h σ).mono fun r' σ' ⟨e1, e2⟩ => by rw [e1, e2]; exact hk

/-- From what the model's own operation comes to. -/
theorem OpPure.of_run {o : Oper} {r : PV} (h : ∀ gh σ w a, R glob gh σ w → OpR gh w ρ a o → ∃ v, (execOp a.eval o).run P w = .ok (.value v) w ∧ Rep gh w v r) : OpPure P glob o ρ r := by
  intro σ gh w a hR hF
  obtain ⟨v, h1, h2⟩ := h gh σ w a hR hF
  unfold Oper.wp
  rw [h1]
  exact ⟨gh, v, r, σ, rfl, .refl _ _, hR, h2, rfl, rfl⟩

theorem run_und {t : TypeId} {d : TypeDesc} {w : World} (h : P.underlying t = some d) : (underlying t).run P w = .ok d w := by
  simp [underlying, h]
theorem run_size {t : TypeId} {d : TypeDesc} {w : World} (h : P.underlying t = some d) : (sizeOf t).run P w = .ok (P.cellsOf t) w := by
  unfold Program.underlying at h
  cases hi : P.info? t with
  | none => rw [hi] at h; cases h
  | some i => simp [sizeOf, typeInfo, hi, Program.cellsOf]
theorem run_isAgg {t : TypeId} {d : TypeDesc} {w : World} (h : P.underlying t = some d) : (isAgg t).run P w = .ok (match d with | .struct _ | .array _ _ => true | _ => false) w := by
  unfold isAgg
  simp only [Sem.run_bind, run_und h, Result.andThen_ok]
  cases d <;> rfl

def TypeDesc.isAgg : TypeDesc → Bool | .struct _ | .array _ _ => true | _ => false

/-- The value of a variable of type T that lies in these cells. -/
def loadC (P : Program) (T : TypeId) (cs : List PV) (K : PV → Prop) : Prop :=
  ∃ d, P.underlying T = some d ∧ (if TypeDesc.isAgg d then Chk (P.cellsOf T ≤ cs.length) ∧ K (.agg (cs.take (P.cellsOf T))) else ∃ p, cs.head? = some p ∧ K p)

theorem loadC.mono {T : TypeId} {cs : List PV} {K K' : PV → Prop} (h : loadC P T cs K) (hk : ∀ r, K r → K' r) : loadC P T cs K' := by
  obtain ⟨d, h1, h2⟩ := h
  refine ⟨d, h1, ?_⟩
  split <;> rename_i hd <;> simp only [hd, if_true, if_false, Bool.false_eq_true] at h2
  · exact ⟨h2.1, hk _ h2.2⟩
  · obtain ⟨p, h3, h4⟩ := h2; exact ⟨p, h3, hk _ h4⟩

/-- What a load comes to, of whatever memory. -/
theorem run_loadVar_rep {gh : Gh} {w : World} {T : TypeId} {cs : List PV} {b off : Nat} {f : Nat → Value}
    (hc : ∀ i, i < cs.length → w.cell? ⟨b, off + i, none⟩ = some (f i)) (hr : ∀ i p, cs[i]? = some p → Rep gh w (f i) p) {K : PV → Prop} (h : loadC P T cs K) :
    ∃ v r, (loadVar T ⟨b, off, none⟩).run P w = .ok v w ∧ Rep gh w v r ∧ K r := by
  obtain ⟨d, h1, h2⟩ := h
  have hadd : ∀ i, (⟨b, off, none⟩ : Addr).add i = ⟨b, off + i, none⟩ := fun i => by unfold Addr.add; split <;> simp_all
  split at h2
  · rename_i hd
    obtain ⟨h3, h4⟩ := h2
    have h3 := h3.out
    have hl := run_loadCells_list (P := P) w ⟨b, off, none⟩ ((List.range (P.cellsOf T)).map f) (fun j v hv => by
      simp only [List.getElem?_map, Option.map_eq_some_iff] at hv
      obtain ⟨j', hj, rfl⟩ := hv
      obtain ⟨hlt, rfl⟩ := List.getElem?_eq_some_iff.1 hj
      simp at hlt
      rw [hadd, List.getElem_range]
      exact hc j (by omega))
    refine ⟨.agg ((List.range (P.cellsOf T)).map f).toArray, _, ?_, ?_, h4⟩
    · have hag : (isAgg T).run P w = .ok true w := by rw [run_isAgg h1]; cases d <;> simp_all [TypeDesc.isAgg]
      simp only [loadVar, Sem.run_bind, hag, Result.andThen_ok, if_true, run_size h1, Sem.run_pure]
      simp only [List.length_map, List.length_range] at hl
      rw [hl]; rfl
    · refine .agg _ _ (by simp; omega) fun i p hi => ?_
      rw [List.getElem?_take] at hi
      split at hi
      · rename_i hlt
        have : (((List.range (P.cellsOf T)).map f).toArray).getD i undef = f i := by simp [hlt]
        rw [this]; exact hr i p hi
      · cases hi
  · rename_i hd
    obtain ⟨p, h3, h4⟩ := h2
    have h0 : 0 < cs.length := by cases cs <;> simp_all
    have hp : cs[0]? = some p := by rw [← List.head?_eq_getElem?]; exact h3
    refine ⟨f 0, p, ?_, hr 0 p hp, h4⟩
    have hag : (isAgg T).run P w = .ok false w := by rw [run_isAgg h1]; cases d <;> simp_all [TypeDesc.isAgg]
    have := hc 0 h0
    simp only [Nat.add_zero] at this
    simp only [loadVar, Sem.run_bind, hag, Result.andThen_ok, if_false, Bool.false_eq_true]
    simp [this]

/-! The operations one by one. -/

section
variable {dst : Option Tmp} {ty : TypeId} {pos : String} {after : Array Edge} {guard : Option (Nat × Bool)}

theorem pure_move (x : Operand) : OpPure P glob ⟨dst, .move x, ty, pos, after, guard⟩ ρ (ρ x) :=
  .of_run fun _ _ _ _ _ hF => ⟨_, rfl, hF x (by simp [Op.operands, Call.operands])⟩
theorem pure_assign (x : Operand) : OpPure P glob ⟨dst, .assign x, ty, pos, after, guard⟩ ρ (ρ x) :=
  .of_run fun _ _ _ _ _ hF => ⟨_, rfl, hF x (by simp [Op.operands, Call.operands])⟩

theorem lit_of_rep {gh : Gh} {w : World} {u v : Value} (h : Rep gh w v (.lit u)) : v = u := by cases h; rfl

theorem pure_pick (c x y : Operand) {t : Bool} (hc : ρ c = .lit (.bool t)) : OpPure P glob ⟨dst, .pick c x y, ty, pos, after, guard⟩ ρ (if t then ρ x else ρ y) :=
  .of_run fun gh σ w a _ hF => by
    have h := hF c (by simp [Op.operands, Call.operands])
    rw [hc] at h
    have hv := lit_of_rep h
    refine ⟨if t then a.eval x else a.eval y, ?_, ?_⟩
    · cases t <;> simp [execOp, hv, asBool]
    · cases t
      · exact hF y (by simp [Op.operands, Call.operands])
      · exact hF x (by simp [Op.operands, Call.operands])

theorem pure_extract (x : Operand) (i : Nat) {ps : List PV} {p : PV} (hx : ρ x = .tup ps) (hp : ps[i]? = some p) : OpPure P glob ⟨dst, .extract x i, ty, pos, after, guard⟩ ρ p :=
  .of_run fun gh σ w a _ hF => by
    have h := hF x (by simp [Op.operands, Call.operands])
    rw [hx] at h
    generalize hv : a.eval x = v at h
    cases h with
    | tup vs ps hn h =>
      have hlt : i < vs.size := by rw [hn]; exact (List.getElem?_eq_some_iff.1 hp).1
      refine ⟨vs.getD i undef, ?_, h i p hp⟩
      simp [execOp, hv, Instr.extract, hlt]

def notIface : TypeDesc → Bool | .interface _ => false | _ => true

theorem pure_makeInterface (T : TypeId) (x : Operand) {d : TypeDesc} (hd : P.underlying T = some d) (hi : notIface d = true) :
    OpPure P glob ⟨dst, .makeInterface T x, ty, pos, after, guard⟩ ρ (.iface T (ρ x)) :=
  .of_run fun gh σ w a _ hF => by
    refine ⟨.iface T (a.eval x), ?_, .iface _ _ _ (hF x (by simp [Op.operands, Call.operands]))⟩
    simp only [execOp, Instr.makeInterface, Sem.run_bind, run_und hd, Result.andThen_ok]
    cases d <;> first | rfl | simp [notIface] at hi

theorem repA_map {gh : Gh} {w : World} {a : Act} (xs : Array Operand) (hF : ∀ x ∈ xs, Rep gh w (a.eval x) (ρ x)) :
    (xs.map a.eval).size = (xs.toList.map ρ).length ∧ ∀ i p, (xs.toList.map ρ)[i]? = some p → Rep gh w ((xs.map a.eval).getD i undef) p := by
  refine ⟨by simp, fun i p hi => ?_⟩
  simp only [List.getElem?_map, Option.map_eq_some_iff] at hi
  obtain ⟨x, hx, rfl⟩ := hi
  have : (xs.map a.eval).getD i undef = a.eval x := by simp at hx; simp [hx]
  rw [this]; exact hF x (by have := List.mem_of_getElem? hx; simpa using this)

theorem pure_makeFunc (f : Fn) (first cap : Array Operand) : OpPure P glob ⟨dst, .makeFunc f first cap, ty, pos, after, guard⟩ ρ (.fn f (first.toList.map ρ) (cap.toList.map ρ)) :=
  .of_run fun gh σ w a _ hF => by
    obtain ⟨h1, h2⟩ := repA_map (ρ := ρ) first (fun x hx => hF x (by simp [Op.operands, hx]))
    obtain ⟨h3, h4⟩ := repA_map (ρ := ρ) cap (fun x hx => hF x (by simp [Op.operands, hx]))
    exact ⟨.func f (first.map a.eval) (cap.map a.eval), rfl, .fn _ _ _ _ _ h1 h3 h2 h4⟩

/-- What is no nil. -/
def PV.there : PV → Bool
  | .vp _ | .ptr _ _ | .iface _ _ => true
  | .fn f _ _ => match f with | .method _ => false | _ => true
  | _ => false

theorem pure_nilCheck (x : Operand) (hx : (ρ x).there = true) : OpPure P glob ⟨dst, .nilCheck x, ty, pos, after, guard⟩ ρ (ρ x) :=
  .of_run fun gh σ w a _ hF => by
    have h := hF x (by simp [Op.operands, Call.operands])
    generalize ρ x = p at *
    refine ⟨a.eval x, ?_, h⟩
    generalize hv : a.eval x = v at h
    cases h <;> simp [PV.there] at hx <;> simp only [execOp, hv]
    case vp => rfl
    case ptr => rfl
    case iface => rfl
    case fn f _ _ _ _ _ _ _ _ => cases f <;> first | rfl | simp at hx

theorem addr_add (b off k : Nat) : (⟨b, off, none⟩ : Addr).add k = ⟨b, off + k, none⟩ := by unfold Addr.add; split <;> simp_all

theorem rep_vp_drop {gh : Gh} {w : World} {cs : List PV} {b off : Nat} (h : Rep gh w (.pointer (some ⟨b, off, none⟩)) (.vp cs)) (k : Nat) : Rep gh w (.pointer (some ⟨b, off + k, none⟩)) (.vp (cs.drop k)) := by
  cases h with
  | vp _ _ _ f hF hc hr =>
    refine .vp _ _ _ (fun i => f (k + i)) hF (fun i hi => ?_) (fun i p hi => ?_)
    · simp at hi
      rw [Nat.add_assoc]; exact hc (k + i) (by omega)
    · rw [List.getElem?_drop] at hi; exact hr _ _ hi

def fieldAddrW (P : Program) (S : TypeId) (p : PV) (f : Nat) (K : PV → Prop) : Prop :=
  ∃ fs fld, P.underlying S = some (.struct fs) ∧ fs[f]? = some fld ∧ P.cellsOf fld.type ≠ 0 ∧ (∃ d, P.underlying fld.type = some d) ∧
    match p with
    | .vp cs => K (.vp (cs.drop fld.offset))
    | .ptr o off => K (.ptr o (off + fld.offset))
    | _ => False

theorem pure_fieldAddr (S : TypeId) (x : Operand) (f : Nat) {K : PV → Prop} (h : fieldAddrW P S (ρ x) f K) : ∃ r, OpPure P glob ⟨dst, .fieldAddr S x f, ty, pos, after, guard⟩ ρ r ∧ K r := by
  obtain ⟨fs, fld, h1, h2, h3, ⟨d, h4⟩, h5⟩ := h
  have run : ∀ (a : Act) (w : World) b off, a.eval x = .pointer (some ⟨b, off, none⟩) →
      (execOp a.eval ⟨dst, .fieldAddr S x f, ty, pos, after, guard⟩).run P w = .ok (.value (.pointer (some ⟨b, off + fld.offset, none⟩))) w := fun a w b off hv => by
    simp [execOp, hv, Instr.fieldAt, run_und h1, h2, Instr.sureAddr, fieldPlace, run_size h4, h3, addr_add]
  split at h5
  · rename_i cs hx
    refine ⟨_, .of_run fun gh σ w a _ hF => ?_, h5⟩
    have h := hF x (by simp [Op.operands, Call.operands])
    rw [hx] at h
    generalize hv : a.eval x = v at h
    have h' := h
    cases h with
    | vp _ b off g hF hc hr => exact ⟨_, run a w b off hv, rep_vp_drop h' _⟩
  · rename_i o off hx
    refine ⟨_, .of_run fun gh σ w a _ hF => ?_, h5⟩
    have h := hF x (by simp [Op.operands, Call.operands])
    rw [hx] at h
    generalize hv : a.eval x = v at h
    cases h with
    | ptr _ _ s hG => exact ⟨_, run a w s.b _ hv, by rw [Nat.add_assoc]; exact .ptr _ _ s hG⟩
  · exact h5.elim

theorem run_indexAt {T e : TypeId} {a : Act} {x ix : Operand} {w : World} {b off len cap k : Nat} {ik : IntKind} {i : Int} (hT : P.underlying T = some (.slice e)) (hk : P.cellsOf e = k) (he : ∃ d, P.underlying e = some d)
    (hx : a.eval x = .slice (some ⟨b, off, none⟩) len cap) (hi : a.eval ix = .int ik i) (h0 : 0 ≤ i) (h1 : i < len) :
    (execOp a.eval ⟨dst, .indexAddr T x ix, ty, pos, after, guard⟩).run P w = .ok (.value (.pointer (some ⟨b, off + i.toNat * k, none⟩))) w := by
  obtain ⟨d, he⟩ := he
  simp [execOp, hx, hi, Instr.indexAt, asIntOf, run_und hT, h0, h1, run_size he, hk, addr_add]

def indexAddrW (P : Program) (T : TypeId) (p q : PV) (K : PV → Prop) : Prop :=
  match q with
  | .lit (.int _ i) =>
    match p with
    | .vs k es => (∃ e, P.underlying T = some (.slice e) ∧ P.cellsOf e = k ∧ ∃ d, P.underlying e = some d) ∧ Chk (0 ≤ i ∧ i < es.length) ∧ K (.vp (es.getD i.toNat []))
    | .rs k o off len _ => (∃ e, P.underlying T = some (.slice e) ∧ P.cellsOf e = k ∧ ∃ d, P.underlying e = some d) ∧ Chk (0 ≤ i ∧ i < len) ∧ K (.ptr o (off + i.toNat * k))
    | .vp cs => ∃ m e, P.underlying T = some (.array m e) ∧ (∃ d, P.underlying e = some d) ∧ Chk (0 ≤ i ∧ i < m) ∧ K (.vp (cs.drop (i.toNat * P.cellsOf e)))
    | .ptr o off => ∃ m e, P.underlying T = some (.array m e) ∧ (∃ d, P.underlying e = some d) ∧ Chk (0 ≤ i ∧ i < m) ∧ K (.ptr o (off + i.toNat * P.cellsOf e))
    | _ => False
  | _ => False

theorem flatten_get {k : Nat} {es : List (List PV)} (hk : ∀ e ∈ es, e.length = k) {i : Nat} (hi : i < es.length) {j : Nat} {p : PV} (hp : (es.getD i [])[j]? = some p) : es.flatten[i * k + j]? = some p ∧ j < k := by
  have hj : j < k := by
    have := (List.getElem?_eq_some_iff.1 hp).1
    rw [List.getD_eq_getElem?_getD, List.getElem?_eq_getElem hi, Option.getD_some] at this
    rwa [hk _ (List.getElem_mem hi)] at this
  refine ⟨?_, hj⟩
  induction es generalizing i with
  | nil => simp at hi
  | cons e es ih =>
    have he := hk e (by simp)
    cases i with
    | zero =>
      simp only [Nat.zero_mul, Nat.zero_add, List.flatten_cons]
      simp only [List.getD_cons_zero] at hp
      rw [List.getElem?_append_left (by omega)]; exact hp
    | succ i =>
      simp only [List.flatten_cons]
      rw [List.getElem?_append_right (by rw [he]; rw [Nat.succ_mul]; omega)]
      rw [he, show (i + 1) * k + j - k = i * k + j by rw [Nat.succ_mul]; omega]
      exact ih (fun e' h' => hk e' (by simp [h'])) (by simpa using hi) (by simpa using hp)

theorem rep_vs_elem {gh : Gh} {w : World} {k : Nat} {es : List (List PV)} {b off len cap : Nat} (h : Rep gh w (.slice (some ⟨b, off, none⟩) len cap) (.vs k es)) {i : Nat} (hi : i < es.length) :
    Rep gh w (.pointer (some ⟨b, off + i * k, none⟩)) (.vp (es.getD i [])) := by
  cases h with
  | vsE => simp at hi
  | vs _ _ _ _ _ f hF hcap hk hc hr =>
    have hlen : (es.getD i []).length = k := by rw [List.getD_eq_getElem?_getD, List.getElem?_eq_getElem hi, Option.getD_some]; exact hk _ (List.getElem_mem hi)
    refine .vp _ _ _ (fun j => f (i * k + j)) hF (fun j hj => ?_) (fun j p hj => ?_)
    · rw [Nat.add_assoc]
      refine hc _ ?_
      calc i * k + j < i * k + k := by omega
        _ = (i + 1) * k := by rw [Nat.succ_mul]
        _ ≤ es.length * k := Nat.mul_le_mul_right _ hi
    · exact hr _ _ (flatten_get hk hi hj).1

theorem pure_indexAddr (T : TypeId) (x ix : Operand) {K : PV → Prop} (h : indexAddrW P T (ρ x) (ρ ix) K) : ∃ r, OpPure P glob ⟨dst, .indexAddr T x ix, ty, pos, after, guard⟩ ρ r ∧ K r := by
  unfold indexAddrW at h
  split at h
  case h_2 => exact h.elim
  rename_i ik i hi
  have int : ∀ {gh : Gh} {w : World} {a : Act}, Rep gh w (a.eval ix) (ρ ix) → a.eval ix = .int ik i := fun hF => by
    rw [hi] at hF
    exact lit_of_rep hF
  split at h
  · rename_i k es hx
    obtain ⟨⟨e, hT, hk, he⟩, ⟨h0, h1⟩, hK⟩ := h
    refine ⟨_, .of_run fun gh σ w a _ hF => ?_, hK⟩
    have h := hF x (by simp [Op.operands, Call.operands])
    rw [hx] at h
    generalize hv : a.eval x = v at h
    have h' := h
    cases h with
    | vsE => simp at h1; omega
    | vs _ _ b off cap f _ _ hk' hc hr => exact ⟨_, run_indexAt hT hk he hv (int (hF ix (by simp [Op.operands]))) h0 h1, rep_vs_elem h' (by omega)⟩
  · rename_i k o off len cap hx
    obtain ⟨⟨e, hT, hk, he⟩, ⟨h0, h1⟩, hK⟩ := h
    refine ⟨_, .of_run fun gh σ w a _ hF => ?_, hK⟩
    have h := hF x (by simp [Op.operands, Call.operands])
    rw [hx] at h
    generalize hv : a.eval x = v at h
    cases h with
    | rs _ _ _ _ _ cap' s hG hl hcap hn => exact ⟨_, run_indexAt hT hk he hv (int (hF ix (by simp [Op.operands]))) h0 h1, by rw [Nat.add_assoc]; exact .ptr _ _ s hG⟩
    | rsZ => simp at h1; omega
  · rename_i cs hx
    obtain ⟨m, e, hT, ⟨d, he⟩, ⟨h0, h1⟩, hK⟩ := h
    refine ⟨_, .of_run fun gh σ w a _ hF => ?_, hK⟩
    have h := hF x (by simp [Op.operands, Call.operands])
    rw [hx] at h
    generalize hv : a.eval x = v at h
    have h' := h
    cases h with
    | vp _ b off g hF' hc hr =>
      refine ⟨_, ?_, rep_vp_drop h' (i.toNat * P.cellsOf e)⟩
      simp [execOp, hv, int (hF ix (by simp [Op.operands])), Instr.indexAt, asIntOf, run_und hT, h0, h1, run_size he, addr_add, Instr.sureAddr]
  · rename_i o off hx
    obtain ⟨m, e, hT, ⟨d, he⟩, ⟨h0, h1⟩, hK⟩ := h
    refine ⟨_, .of_run fun gh σ w a _ hF => ?_, hK⟩
    have h := hF x (by simp [Op.operands, Call.operands])
    rw [hx] at h
    generalize hv : a.eval x = v at h
    cases h with
    | ptr _ _ s hG =>
      refine ⟨_, ?_, .ptr _ _ s hG⟩
      simp [← Nat.add_assoc, execOp, hv, int (hF ix (by simp [Op.operands])), Instr.indexAt, asIntOf, run_und hT, h0, h1, run_size he, addr_add, Instr.sureAddr]
  · exact h.elim

theorem pure_load (T : TypeId) (x : Operand) {cs : List PV} (hx : ρ x = .vp cs) {K : PV → Prop} (h : loadC P T cs K) : ∃ r, OpPure P glob ⟨dst, .load T x, ty, pos, after, guard⟩ ρ r ∧ K r := by
  obtain ⟨d, h1, h2⟩ := h
  have fin : ∀ r, loadC P T cs (fun r' => r' = r) → OpPure P glob ⟨dst, .load T x, ty, pos, after, guard⟩ ρ r := fun r h => .of_run fun gh σ w a _ hF => by
    have hx' := hF x (by simp [Op.operands, Call.operands])
    rw [hx] at hx'
    generalize hv : a.eval x = v at hx'
    cases hx' with
    | vp _ b off f hF' hc hr =>
      obtain ⟨v, r', h1, h2, h3⟩ := run_loadVar_rep hc hr h
      subst h3
      exact ⟨v, by simp [execOp, hv, Instr.loadAt, Instr.sureAddr, h1], h2⟩
  split at h2
  · rename_i hd; exact ⟨_, fin _ ⟨d, h1, by rw [if_pos hd]; exact ⟨h2.1, rfl⟩⟩, h2.2⟩
  · rename_i hd; obtain ⟨p, h3, h4⟩ := h2; exact ⟨p, fin _ ⟨d, h1, by rw [if_neg hd]; exact ⟨p, h3, rfl⟩⟩, h4⟩

def partW (P : Program) (T : TypeId) (cs : List PV) (off : Nat) (K : PV → Prop) : Prop :=
  ∃ d, P.underlying T = some d ∧ Chk (off + P.cellsOf T ≤ cs.length) ∧ (if TypeDesc.isAgg d then K (.agg ((cs.drop off).take (P.cellsOf T))) else P.cellsOf T = 1 ∧ ∃ p, cs[off]? = some p ∧ K p)

theorem run_part {gh : Gh} {w : World} {T : TypeId} {vs : Array Value} {cs : List PV} {off : Nat} (hn : vs.size = cs.length) (hr : ∀ i p, cs[i]? = some p → Rep gh w (vs.getD i undef) p) {r : PV} (h : partW P T cs off (fun r' => r' = r)) :
    ∃ v, (part T vs off).run P w = .ok v w ∧ Rep gh w v r := by
  obtain ⟨d, h1, h2, h3⟩ := h
  have h2 := h2.out
  split at h3
  · rename_i hd
    subst h3
    have hag : (isAgg T).run P w = .ok true w := by rw [run_isAgg h1]; cases d <;> simp_all [TypeDesc.isAgg]
    refine ⟨.agg (vs.extract off (off + P.cellsOf T)), ?_, ?_⟩
    · simp only [part, Sem.run_bind, hag, Result.andThen_ok, if_true, run_size h1, Sem.run_pure]
    · refine .agg _ _ (by simp; omega) fun i p hi => ?_
      rw [List.getElem?_take] at hi
      split at hi
      · rename_i hlt
        rw [List.getElem?_drop] at hi
        have : (vs.extract off (off + P.cellsOf T)).getD i undef = vs.getD (off + i) undef := by
          have : i < (vs.extract off (off + P.cellsOf T)).size := by simp; omega
          simp [Array.getElem?_extract]
          split <;> first | rfl | omega
        rw [this]; exact hr _ _ hi
      · cases hi
  · rename_i hd
    obtain ⟨_, p, h4, rfl⟩ := h3
    have hag : (isAgg T).run P w = .ok false w := by rw [run_isAgg h1]; cases d <;> simp_all [TypeDesc.isAgg]
    have hlt : off < vs.size := by rw [hn]; exact (List.getElem?_eq_some_iff.1 h4).1
    refine ⟨vs.getD off undef, ?_, hr _ _ h4⟩
    simp only [part, Sem.run_bind, hag, Result.andThen_ok, if_false, Bool.false_eq_true]
    simp [hlt]

theorem partW.one {T : TypeId} {cs : List PV} {off : Nat} {K : PV → Prop} (h : partW P T cs off K) : ∃ r, partW P T cs off (fun r' => r' = r) ∧ K r := by
  obtain ⟨d, h1, h2, h3⟩ := h
  split at h3
  · rename_i hd; exact ⟨_, ⟨d, h1, h2, by rw [if_pos hd]⟩, h3⟩
  · rename_i hd; obtain ⟨h5, p, h3, h4⟩ := h3; exact ⟨p, ⟨d, h1, h2, by rw [if_neg hd]; exact ⟨h5, p, h3, rfl⟩⟩, h4⟩

def fieldW (P : Program) (S : TypeId) (p : PV) (f : Nat) (K : PV → Prop) : Prop :=
  ∃ fs fld, P.underlying S = some (.struct fs) ∧ fs[f]? = some fld ∧ match p with | .agg cs => partW P fld.type cs fld.offset K | _ => False

theorem pure_field (S : TypeId) (x : Operand) (f : Nat) {K : PV → Prop} (h : fieldW P S (ρ x) f K) : ∃ r, OpPure P glob ⟨dst, .field S x f, ty, pos, after, guard⟩ ρ r ∧ K r := by
  obtain ⟨fs, fld, h1, h2, h3⟩ := h
  split at h3
  case h_2 => exact h3.elim
  rename_i cs hx
  obtain ⟨r, h4, h5⟩ := h3.one
  refine ⟨r, .of_run fun gh σ w a _ hF => ?_, h5⟩
  have h := hF x (by simp [Op.operands, Call.operands])
  rw [hx] at h
  generalize hv : a.eval x = v at h
  cases h with
  | agg vs _ hn hr =>
    obtain ⟨v, h6, h7⟩ := run_part hn hr h4
    exact ⟨v, by simp [execOp, hv, Instr.field, run_und h1, h2, asAgg, h6], h7⟩

/-- A byte of a string. -/
def byteAt (s : ByteArray) (i : Int) : Int := ((s.data.getD i.toNat 0).toNat : Int)

def indexW (P : Program) (T : TypeId) (p q : PV) (K : PV → Prop) : Prop :=
  match q with
  | .lit (.int _ i) =>
    match p with
    | .lit (.string s) => P.underlying T = some .string ∧ Chk (0 ≤ i ∧ i < s.size) ∧ K (.lit (.int .u8 (byteAt s i)))
    | .agg cs => ∃ m e, P.underlying T = some (.array m e) ∧ (∃ d, P.underlying e = some d) ∧ Chk (0 ≤ i ∧ i < m) ∧ partW P e cs (i.toNat * P.cellsOf e) K
    | _ => False
  | _ => False

theorem pure_index (T : TypeId) (x ix : Operand) {K : PV → Prop} (h : indexW P T (ρ x) (ρ ix) K) : ∃ r, OpPure P glob ⟨dst, .index T x ix, ty, pos, after, guard⟩ ρ r ∧ K r := by
  unfold indexW at h
  split at h
  case h_2 => exact h.elim
  rename_i ik i hi
  have int : ∀ {gh : Gh} {w : World} {a : Act}, Rep gh w (a.eval ix) (ρ ix) → a.eval ix = .int ik i := fun hF => by
    rw [hi] at hF
    exact lit_of_rep hF
  split at h
  · rename_i s hx
    obtain ⟨hT, ⟨h0, h1⟩, hK⟩ := h
    refine ⟨_, .of_run fun gh σ w a _ hF => ?_, hK⟩
    have h := hF x (by simp [Op.operands, Call.operands])
    rw [hx] at h
    have hv := lit_of_rep h
    have hlt : i.toNat < s.size := by omega
    refine ⟨_, ?_, .lit _⟩
    have hg : s[i.toNat]? = some (s.data.getD i.toNat 0) := by
      have : s.data.size = s.size := rfl
      rw [getElem?_pos s i.toNat hlt]
      congr 1
      simp [Array.getD_getElem?, this, hlt]
      rfl
    simp [execOp, hv, int (hF ix (by simp [Op.operands])), Instr.index, asIntOf, run_und hT, h0, hg, byteAt]
  · rename_i cs hx
    obtain ⟨m, e, hT, ⟨d, he⟩, ⟨h0, h1⟩, hK⟩ := h
    obtain ⟨r, h4, h5⟩ := hK.one
    refine ⟨r, .of_run fun gh σ w a _ hF => ?_, h5⟩
    have h := hF x (by simp [Op.operands, Call.operands])
    rw [hx] at h
    generalize hv : a.eval x = v at h
    cases h with
    | agg vs _ hn hr =>
      obtain ⟨v, h6, h7⟩ := run_part hn hr h4
      exact ⟨v, by simp [execOp, hv, int (hF ix (by simp [Op.operands])), Instr.index, asIntOf, run_und hT, h0, h1, run_size he, h6], h7⟩
  · exact h.elim
end
end
end Go.Abs
