/- The rules by which a walk reckons what an operation gives: each a plain equation. -/
import Derived.Test.YtlcbjenehogfmaaAbRun
set_option linter.unusedSimpArgs false
set_option linter.unusedVariables false
namespace Go.Abs
open Go
section
variable {P : Program} {glob : Nat → PV} {σ : Store} {l : Fram} {ρ : Operand → PV} {K : PV → Store → Prop} {Kp : PV → Prop}

theorem gW_none {ops : Array Oper} {dst : Option Tmp} {op : Op} {ty : TypeId} {pos : String} {after : Array Edge} {run skip : Prop} : gW ops l ⟨dst, op, ty, pos, after, none⟩ run skip = run := rfl
theorem gW_some {ops : Array Oper} {dst : Option Tmp} {op : Op} {ty : TypeId} {pos : String} {after : Array Edge} {j : Nat} {want : Bool} {run skip : Prop} : gW ops l ⟨dst, op, ty, pos, after, some (j, want)⟩ run skip = ∃ d t, (ops[j]?).bind (·.dst) = some d ∧ lk l d = .lit t ∧ (asB t = some want → run) ∧ (asB t ≠ some want → skip) := rfl
theorem lk_cons {d t : Nat} {r : PV} {l : Fram} : lk ((d, r) :: l) t = if t = d then r else lk l t := rfl
theorem lk_nil {t : Nat} : lk [] t = .any := rfl
theorem putF_some {d : Nat} {r : PV} : putF l (some d) r = (d, r) :: l := rfl
theorem putF_none {r : PV} : putF l none r = l := rfl
theorem ev_tmp {t : Tmp} : ev glob l (.tmp t) = lk l t := rfl
theorem ev_bool {b : Bool} : ev glob l (.const (.bool b)) = .lit (.bool b) := rfl
theorem ev_int {k : IntKind} {i : Int} : ev glob l (.const (.int k i)) = .lit (.int k i) := rfl
theorem ev_string {s : ByteArray} : ev glob l (.const (.string s)) = .lit (.string s) := rfl
theorem ev_nilIface  : ev glob l (.const (.nilIface)) = .lit (.nilIface) := rfl
theorem ev_nilFunc  : ev glob l (.const (.nilFunc)) = .lit (.nilFunc) := rfl
theorem ev_pointer {a : Option Addr} : ev glob l (.const (.pointer a)) = .lit (.pointer a) := rfl
theorem ev_slice {a : Option Addr} {x y : Nat} : ev glob l (.const (.slice a x y)) = .lit (.slice a x y) := rfl
theorem ev_map {a : Option Nat} : ev glob l (.const (.map a)) = .lit (.map a) := rfl
theorem ev_agg {cs : Array Value} : ev glob l (.const (.agg cs)) = .agg (cs.toList.map .lit) := rfl
theorem ev_func {f : FuncId} : ev glob l (.func f) = .fn (.func f) [] [] := rfl
theorem ev_global {g : Nat} : ev glob l (.global g) = glob g := rfl
theorem eW_move {x : Operand} : eW P glob (.move x) ρ σ K = K (ρ x) σ := rfl
theorem pW_move {x : Operand} : pW P glob (.move x) ρ Kp = Kp (ρ x) := rfl
theorem eW_assign {x : Operand} : eW P glob (.assign x) ρ σ K = K (ρ x) σ := rfl
theorem pW_assign {x : Operand} : pW P glob (.assign x) ρ Kp = Kp (ρ x) := rfl
theorem eW_pick {c x y : Operand} : eW P glob (.pick c x y) ρ σ K = ∃ t, ρ c = .lit (.bool t) ∧ K (if t then ρ x else ρ y) σ := rfl
theorem pW_pick {c x y : Operand} : pW P glob (.pick c x y) ρ Kp = ∃ t, ρ c = .lit (.bool t) ∧ Kp (if t then ρ x else ρ y) := rfl
theorem eW_extract {x : Operand} {i : Nat} : eW P glob (.extract x i) ρ σ K = ∃ ps p, ρ x = .tup ps ∧ ps[i]? = some p ∧ K p σ := rfl
theorem pW_extract {x : Operand} {i : Nat} : pW P glob (.extract x i) ρ Kp = ∃ ps p, ρ x = .tup ps ∧ ps[i]? = some p ∧ Kp p := rfl
theorem eW_makeInterface {T : TypeId} {x : Operand} : eW P glob (.makeInterface T x) ρ σ K = ((∃ d, P.underlying T = some d ∧ notIface d = true) ∧ K (.iface T (ρ x)) σ) := rfl
theorem pW_makeInterface {T : TypeId} {x : Operand} : pW P glob (.makeInterface T x) ρ Kp = ((∃ d, P.underlying T = some d ∧ notIface d = true) ∧ Kp (.iface T (ρ x))) := rfl
theorem eW_makeFunc {f : Fn} {as bs : Array Operand} : eW P glob (.makeFunc f as bs) ρ σ K = K (.fn f (as.toList.map ρ) (bs.toList.map ρ)) σ := rfl
theorem pW_makeFunc {f : Fn} {as bs : Array Operand} : pW P glob (.makeFunc f as bs) ρ Kp = Kp (.fn f (as.toList.map ρ) (bs.toList.map ρ)) := rfl
theorem eW_nilCheck {x : Operand} : eW P glob (.nilCheck x) ρ σ K = ((ρ x).there = true ∧ K (ρ x) σ) := rfl
theorem pW_nilCheck {x : Operand} : pW P glob (.nilCheck x) ρ Kp = ((ρ x).there = true ∧ Kp (ρ x)) := rfl
theorem eW_fieldAddr {T : TypeId} {x : Operand} {f : Nat} : eW P glob (.fieldAddr T x f) ρ σ K = fieldAddrW P T (ρ x) f (fun r => K r σ) := rfl
theorem pW_fieldAddr {T : TypeId} {x : Operand} {f : Nat} : pW P glob (.fieldAddr T x f) ρ Kp = fieldAddrW P T (ρ x) f Kp := rfl
theorem eW_field {T : TypeId} {x : Operand} {f : Nat} : eW P glob (.field T x f) ρ σ K = fieldW P T (ρ x) f (fun r => K r σ) := rfl
theorem pW_field {T : TypeId} {x : Operand} {f : Nat} : pW P glob (.field T x f) ρ Kp = fieldW P T (ρ x) f Kp := rfl
theorem eW_indexAddr {T : TypeId} {x i : Operand} : eW P glob (.indexAddr T x i) ρ σ K = indexAddrW P T (ρ x) (ρ i) (fun r => K r σ) := rfl
theorem pW_indexAddr {T : TypeId} {x i : Operand} : pW P glob (.indexAddr T x i) ρ Kp = indexAddrW P T (ρ x) (ρ i) Kp := rfl
theorem eW_index {T : TypeId} {x i : Operand} : eW P glob (.index T x i) ρ σ K = indexW P T (ρ x) (ρ i) (fun r => K r σ) := rfl
theorem pW_index {T : TypeId} {x i : Operand} : pW P glob (.index T x i) ρ Kp = indexW P T (ρ x) (ρ i) Kp := rfl
theorem eW_binOp {o : BinOp} {T U : TypeId} {x y : Operand} : eW P glob (.binOp o T x y U) ρ σ K = binW P o T (isConstO x || isConstO y) (ρ x) (ρ y) (fun r => K r σ) := rfl
theorem pW_binOp {o : BinOp} {T U : TypeId} {x y : Operand} : pW P glob (.binOp o T x y U) ρ Kp = binW P o T (isConstO x || isConstO y) (ρ x) (ρ y) Kp := rfl
theorem eW_unOp {o : UnOp} {T : TypeId} {x : Operand} : eW P glob (.unOp o T x) ρ σ K = unW o (ρ x) (fun r => K r σ) := rfl
theorem pW_unOp {o : UnOp} {T : TypeId} {x : Operand} : pW P glob (.unOp o T x) ρ Kp = unW o (ρ x) Kp := rfl
theorem eW_convert {S T : TypeId} {x : Operand} : eW P glob (.convert S T x) ρ σ K = convGW P S T (ρ x) σ K := rfl
theorem eW_range {T : TypeId} {x : Operand} : eW P glob (.range T x) ρ σ K = rangeW P T σ (ρ x) K := rfl
theorem eW_next {x : Operand} : eW P glob (.next x true) ρ σ K = nextW σ (ρ x) K := rfl
theorem rangeW_str {T : TypeId} {s : ByteArray} : rangeW P T σ (.lit (.string s)) K = (P.underlying T = some .string ∧ ∀ o, σ o = none → K (.ptr o 0) (σ.set o (.iterS s 0))) := rfl
def nextV (o : Nat) (σ : Store) (x : Option PObj) (K : PV → Store → Prop) : Prop := match x with
  | some (.iterS s pos) => (pos < s.size → K (.tup [.lit (.bool true), .lit (.int .i64 pos), .lit (.int .i32 (Utf8.decode s pos).1)]) (σ.set o (.iterS s (pos + (Utf8.decode s pos).2)))) ∧ (s.size ≤ pos → K (.tup [.lit (.bool false)]) σ)
  | _ => False
theorem nextV_s {o : Nat} {s : ByteArray} {pos : Nat} : nextV o σ (some (.iterS s pos)) K = ((pos < s.size → K (.tup [.lit (.bool true), .lit (.int .i64 pos), .lit (.int .i32 (Utf8.decode s pos).1)]) (σ.set o (.iterS s (pos + (Utf8.decode s pos).2)))) ∧ (s.size ≤ pos → K (.tup [.lit (.bool false)]) σ)) := rfl
theorem nextW_ptr {o : Nat} : nextW σ (.ptr o 0) K = nextV o σ (σ o) K := by
  apply propext
  constructor
  · rintro ⟨s, pos, h1, h2⟩; rw [h1]; exact h2
  · intro h; unfold nextV at h; split at h
    · rename_i s pos e; exact ⟨s, pos, e, h⟩
    · exact h.elim
theorem pW_convert {S T : TypeId} {x : Operand} : pW P glob (.convert S T x) ρ Kp = convW P S T (ρ x) Kp := rfl
theorem eW_slice {T : TypeId} {x : Operand} {lo hi mx : Option Operand} : eW P glob (.slice T x lo hi mx) ρ σ K = sliceW P T (ρ x) ρ lo hi mx (fun r => K r σ) := rfl
theorem pW_slice {T : TypeId} {x : Operand} {lo hi mx : Option Operand} : pW P glob (.slice T x lo hi mx) ρ Kp = sliceW P T (ρ x) ρ lo hi mx Kp := rfl
theorem eW_build {T : TypeId} {ps : Array (Nat × Operand)} : eW P glob (.build T ps) ρ σ K = buildW P T (ps.toList.map fun (i, x) => (i, ρ x)) (fun r => K r σ) := rfl
theorem pW_build {T : TypeId} {ps : Array (Nat × Operand)} : pW P glob (.build T ps) ρ Kp = buildW P T (ps.toList.map fun (i, x) => (i, ρ x)) Kp := rfl

variable (P) in
def loadEW (T : TypeId) (σ : Store) (p : PV) (K : PV → Store → Prop) : Prop :=
  match p with
  | .vp cs => loadC P T cs fun r => K r σ
  | .ptr o off => ∃ cs, σ o = some (.cells cs) ∧ Chk (off ≤ cs.length) ∧ loadC P T (cs.drop off) fun r => K r σ
  | _ => False
variable (P) in
def loadPW (T : TypeId) (p : PV) (K : PV → Prop) : Prop :=
  match p with
  | .vp cs => loadC P T cs K
  | _ => False
variable (P) in
def storeEW (T : TypeId) (σ : Store) (p q : PV) (K : PV → Store → Prop) : Prop :=
  match p with
  | .ptr o off => ∃ cs, σ o = some (.cells cs) ∧ (∃ d, P.underlying T = some d) ∧ q.known = true ∧ Chk (q.cells.length = P.cellsOf T) ∧ allCell q.cells = true ∧ Chk (off + q.cells.length ≤ cs.length) ∧
        K .any (σ.set o (.cells (splice cs off q.cells)))
  | _ => False

theorem eW_load {T : TypeId} {x : Operand} : eW P glob (.load T x) ρ σ K = loadEW P T σ (ρ x) K := rfl
theorem pW_load {T : TypeId} {x : Operand} : pW P glob (.load T x) ρ Kp = loadPW P T (ρ x) Kp := by
  simp only [pW]; generalize ρ x = p; cases p <;> simp [loadPW]
theorem eW_store {T : TypeId} {x y : Operand} : eW P glob (.store T x y) ρ σ K = storeEW P T σ (ρ x) (ρ y) K := rfl
theorem loadEW_vp {T : TypeId} {cs : List PV} : loadEW P T σ (.vp cs) K = loadC P T cs fun r => K r σ := rfl
theorem loadEW_ptr {T : TypeId} {o off : Nat} : loadEW P T σ (.ptr o off) K = ∃ cs, σ o = some (.cells cs) ∧ Chk (off ≤ cs.length) ∧ loadC P T (cs.drop off) fun r => K r σ := rfl
theorem loadPW_vp {T : TypeId} {cs : List PV} : loadPW P T (.vp cs) Kp = loadC P T cs Kp := rfl
theorem storeEW_ptr {T : TypeId} {o off : Nat} {q : PV} : storeEW P T σ (.ptr o off) q K = ∃ cs, σ o = some (.cells cs) ∧ (∃ d, P.underlying T = some d) ∧ q.known = true ∧ Chk (q.cells.length = P.cellsOf T) ∧ allCell q.cells = true ∧ Chk (off + q.cells.length ≤ cs.length) ∧ K .any (σ.set o (.cells (splice cs off q.cells))) := rfl
def isAggT (P : Program) (T : Nat) : Bool := match P.underlying T with | some d => TypeDesc.isAgg d | none => false
theorem loadC_agg {T : TypeId} {cs : List PV} (h : isAggT P T = true) : loadC P T cs Kp = (Chk (P.cellsOf T ≤ cs.length) ∧ Kp (.agg (cs.take (P.cellsOf T)))) := by
  unfold isAggT at h; split at h <;> simp_all [loadC]
def isOne (P : Program) (T : TypeId) : Bool := match P.underlying T with | some d => !TypeDesc.isAgg d | none => false
theorem loadC_one {T : TypeId} {p : PV} {cs : List PV} (h : isOne P T = true) : loadC P T (p :: cs) Kp = Kp p := by
  unfold isOne at h; split at h <;> simp_all [loadC]
theorem eW_box {T : TypeId} {x : Operand} : eW P glob (.box T x) ρ σ K = ((ρ x).known = true ∧ allCell (ρ x).cells = true ∧ ((∀ o, σ o = none → K (.ptr o 0) (σ.set o (.cells (ρ x).cells))) ∨ K (.vp (ρ x).cells) σ)) := rfl
theorem eW_alloc {T : TypeId} : eW P glob (.alloc T) ρ σ K = ∃ zc, zeroCells P T = some zc ∧ allCell zc = true ∧ ∀ o, σ o = none → K (.ptr o 0) (σ.set o (.cells zc)) := rfl
theorem eW_buildSlice {T : TypeId} {len : Nat} {parts : Array (Nat × Operand)} : eW P glob (.buildSlice T len parts) ρ σ K = ∃ e k d zc, P.underlying T = some (.slice e) ∧ P.underlying e = some d ∧ P.cellsOf e = k ∧ zeroCells P e = some zc ∧ (parts.toList.map fun (i, x) => (i, ρ x)).length = len ∧
      denseW k 0 (parts.toList.map fun (i, x) => (i, ρ x)) = true ∧ Chk (len * k ≤ 16777216) ∧ allCell ((parts.toList.map fun (i, x) => (i, ρ x)).flatMap fun x => x.2.cells) = true ∧
      ((∀ o, σ o = none → K (.rs k o 0 len len) (σ.set o (.cells ((parts.toList.map fun (i, x) => (i, ρ x)).flatMap fun x => x.2.cells)))) ∨ K (.vs k ((parts.toList.map fun (i, x) => (i, ρ x)).map fun x => x.2.cells)) σ) := rfl
variable (P glob) in
def callW (p : PV) (args : List PV) (σ : Store) (K : PV → Store → Prop) : Prop :=
  match p with
  | .fn (.func g) first cap => ACalls P glob g (first ++ args ++ cap) σ K
  | _ => False
variable (P glob) in
def callP (p : PV) (args : List PV) (K : PV → Prop) : Prop :=
  match p with
  | .fn (.func g) first cap => ∃ r, Pur P glob g (first ++ args ++ cap) r ∧ K r
  | _ => False
theorem eW_call {f : Operand} {args : Array Operand} {Ts : Array TypeId} : eW P glob (.call ⟨.value f, args, Ts⟩) ρ σ K = callW P glob (ρ f) (args.toList.map ρ) σ K := by
  apply propext
  constructor
  · rintro ⟨g, first, cap, h1, h2⟩; rw [h1]; exact h2
  · intro h; unfold callW at h; split at h
    · rename_i g first cap e; exact ⟨g, first, cap, e, h⟩
    · exact h.elim
theorem pW_call {f : Operand} {args : Array Operand} {Ts : Array TypeId} : pW P glob (.call ⟨.value f, args, Ts⟩) ρ Kp = callP P glob (ρ f) (args.toList.map ρ) Kp := by
  apply propext
  constructor
  · rintro ⟨g, first, cap, r, h1, h2⟩; rw [h1]; exact ⟨r, h2⟩
  · intro h; unfold callP at h; split at h
    · rename_i g first cap e; obtain ⟨r, h⟩ := h; exact ⟨g, first, cap, r, e, h⟩
    · exact h.elim
theorem callW_fn {g : FuncId} {first cap args : List PV} : callW P glob (.fn (.func g) first cap) args σ K = ACalls P glob g (first ++ args ++ cap) σ K := rfl
theorem callP_fn {g : FuncId} {first cap args : List PV} : callP P glob (.fn (.func g) first cap) args Kp = ∃ r, Pur P glob g (first ++ args ++ cap) r ∧ Kp r := rfl
theorem eW_len {x : Operand} {T : TypeId} : eW P glob (.call ⟨.builtin .len, #[x], #[T]⟩) ρ σ K = lenEW P T σ (ρ x) K := rfl
theorem lenEW_vs {T k : Nat} {es : List (List PV)} : lenEW P T σ (.vs k es) K = lenW P T (.vs k es) (fun r => K r σ) := rfl
theorem lenEW_rs {T k o off len cap : Nat} : lenEW P T σ (.rs k o off len cap) K = lenW P T (.rs k o off len cap) (fun r => K r σ) := rfl
theorem lenEW_z {T : Nat} : lenEW P T σ .z K = lenW P T .z (fun r => K r σ) := rfl
theorem lenEW_lit {T : Nat} {v : Value} : lenEW P T σ (.lit v) K = lenW P T (.lit v) (fun r => K r σ) := rfl
theorem lenEW_vp {T : Nat} {cs : List PV} : lenEW P T σ (.vp cs) K = lenW P T (.vp cs) (fun r => K r σ) := rfl
theorem lenEW_agg {T : Nat} {cs : List PV} : lenEW P T σ (.agg cs) K = lenW P T (.agg cs) (fun r => K r σ) := rfl
theorem lenEW_ptr {T o off : Nat} : lenEW P T σ (.ptr o off) K = lenW P T (.ptr o off) (fun r => K r σ) := rfl
def mapKT (P : Program) (T : TypeId) : TypeId := match P.underlying T with | some (.map k _) => k | _ => 0
def mapET (P : Program) (T : TypeId) : TypeId := match P.underlying T with | some (.map _ e) => e | _ => 0
def isMapT (P : Program) (T : TypeId) : Bool := match P.underlying T with | some (.map _ _) => true | _ => false
theorem isMapT_spec {T : TypeId} (h : isMapT P T = true) : P.underlying T = some (.map (mapKT P T) (mapET P T)) := by
  unfold isMapT at h; unfold mapKT mapET
  split at h
  · rename_i k e h1; simp [h1]
  · cases h
theorem isMapT_of {T k e : TypeId} (h : P.underlying T = some (.map k e)) : isMapT P T = true ∧ mapKT P T = k ∧ mapET P T = e := by
  simp [isMapT, mapKT, mapET, h]
theorem ex_map {E : List Ent} {C : Nat} {p : List Ent → Nat → Prop} : (∃ es clock, (E = es ∧ C = clock) ∧ p es clock) = p E C :=
  propext ⟨fun ⟨_, _, ⟨h1, h2⟩, h⟩ => h1 ▸ h2 ▸ h, fun h => ⟨E, C, ⟨rfl, rfl⟩, h⟩⟩
theorem lenEW_mp {T o : Nat} : lenEW P T σ (.mp o) K = (isMapT P T = true ∧ ∃ es clock, σ o = some (.map es clock) ∧ K (.lit (.int .i64 es.length)) σ) := by
  apply propext; constructor
  · rintro ⟨KT, E, es, clock, h1, h2, h3⟩; exact ⟨(isMapT_of h1).1, es, clock, h2, h3⟩
  · rintro ⟨h1, es, clock, h2, h3⟩; exact ⟨_, _, es, clock, isMapT_spec h1, h2, h3⟩
theorem eW_delete {m k : Operand} {T U : TypeId} : eW P glob (.call ⟨.builtin .delete, #[m, k], #[T, U]⟩) ρ σ K = deleteW P T σ (ρ m) (ρ k) K := rfl
theorem eW_makeSlice {T : TypeId} {l c : Operand} : eW P glob (.makeSlice T l c) ρ σ K = makeSliceW P T σ (ρ l) (ρ c) K := rfl
def mkE (P : Program) (T : TypeId) : TypeId := match P.underlying T with | some (.slice e) => e | _ => 0
def mkZ (P : Program) (T : TypeId) : PV := ((zeroCells P (mkE P T)).bind (·.head?)).getD .any
def mkBytes (P : Program) (T : TypeId) : Int := P.bytesOf (mkE P T)
def mkB (P : Program) (T : TypeId) : Bool := match P.underlying T with
  | some (.slice e) => decide (P.cellsOf e = 1) && (match zeroCells P e with | some [zz] => zz.cell | _ => false)
  | _ => false
theorem makeSliceW_int {T : TypeId} {m : Int} (hb : mkB P T = true) : makeSliceW P T σ (.lit (.int .i64 m)) (.lit (.int .i64 m)) K = (Chk (mkBytes P T * m ≤ 140737488355328 ∧ 0 ≤ m ∧ m ≤ 9223372036854775807) ∧ ∀ o, σ o = none → K (.rs 1 o 0 m.toNat m.toNat) (σ.set o (.cells (List.replicate m.toNat (mkZ P T))))) := by
  unfold mkB at hb
  split at hb
  · rename_i e hT
    simp only [Bool.and_eq_true, decide_eq_true_eq] at hb
    obtain ⟨hk, hz⟩ := hb
    have he : mkE P T = e := by simp [mkE, hT]
    split at hz
    · rename_i zz hzc
      have hmz : mkZ P T = zz := by simp [mkZ, he, hzc]
      unfold mkBytes; rw [he, hmz]
      apply propext; constructor
      · rintro ⟨e', zv, m', h1, h2, h3, h4, h5, h6, h7, h8⟩
        rw [hT] at h1; cases h1
        rw [hzc] at h3; cases h3
        cases h5
        exact ⟨h7, h8⟩
      · rintro ⟨h7, h8⟩
        exact ⟨e, zz, m, hT, hk, hzc, hz, rfl, rfl, h7, h8⟩
    · cases hz
  · cases hb
theorem eW_makeMap {T : TypeId} {r : Option Operand} : eW P glob (.makeMap T r) ρ σ K = makeMapW P T (r.map ρ) σ K := rfl
theorem makeMapW_none {T : TypeId} : makeMapW P T none σ K = ∀ o, σ o = none → K (.mp o) (σ.set o (.map [] 0)) := by simp [makeMapW]
theorem makeMapW_some {T : TypeId} {k : IntKind} {n : Int} : makeMapW P T (some (.lit (.int k n))) σ K = ((∃ k e, P.underlying T = some (.map k e)) ∧ ∀ o, σ o = none → K (.mp o) (σ.set o (.map [] 0))) := by
  unfold makeMapW; simp
theorem eW_lookup {T : TypeId} {m k : Operand} {c : Bool} : eW P glob (.lookup T m k c) ρ σ K = lookupW P T c σ (ρ m) (ρ k) fun r => K r σ := rfl
/-- What asking gives. -/
def lookR (P : Program) (E : TypeId) (c : Bool) (Kp : PV → Prop) (r : Option (Nat × PV)) : Prop :=
  match r with | some (_, x) => Kp (lookV c x true) | none => ∃ zz, zeroV P E = some zz ∧ Kp (lookV c zz false)
theorem lookR_some {E : TypeId} {c : Bool} {i : Nat} {x : PV} : lookR P E c Kp (some (i, x)) = Kp (lookV c x true) := rfl
theorem lookR_none {E : TypeId} {c : Bool} : lookR P E c Kp none = ∃ zz, zeroV P E = some zz ∧ Kp (lookV c zz false) := rfl
theorem lookupW_mp {T : TypeId} {c : Bool} {o : Nat} {k : PV} : lookupW P T c σ (.mp o) k Kp = (isMapT P T = true ∧ ∃ es clock, σ o = some (.map es clock) ∧ keyOk P (mapKT P T) k = true ∧ ∃ r, findE k es 0 = some r ∧ lookR P (mapET P T) c Kp r) := by
  apply propext; constructor
  · rintro ⟨KT, E, es, clock, h1, h2, h3, r, h4, h5⟩
    obtain ⟨e1, e2, e3⟩ := isMapT_of h1
    refine ⟨e1, es, clock, h2, by rw [e2]; exact h3, r, h4, ?_⟩
    rw [e3]; unfold lookR; exact h5
  · rintro ⟨h1, es, clock, h2, h3, r, h4, h5⟩
    exact ⟨_, _, es, clock, isMapT_spec h1, h2, h3, r, h4, h5⟩
theorem eW_update {T : TypeId} {m k x : Operand} : eW P glob (.mapUpdate T m k x) ρ σ K = updateW P T σ (ρ m) (ρ k) (ρ x) K := rfl
theorem updateW_mp {T : TypeId} {o : Nat} {k x : PV} : updateW P T σ (.mp o) k x K = (isMapT P T = true ∧ ∃ es clock, σ o = some (.map es clock) ∧ keyOk P (mapKT P T) k = true ∧ ∃ r, findE k es 0 = some r ∧ K .any (σ.set o (putE es clock k x r))) := by
  apply propext; constructor
  · rintro ⟨KT, E, es, clock, h1, h2, h3, r, h4, h5⟩
    obtain ⟨e1, e2, e3⟩ := isMapT_of h1
    exact ⟨e1, es, clock, h2, by rw [e2]; exact h3, r, h4, h5⟩
  · rintro ⟨h1, es, clock, h2, h3, r, h4, h5⟩
    exact ⟨_, _, es, clock, isMapT_spec h1, h2, h3, r, h4, h5⟩
def delR (es : List Ent) (r : Option (Nat × PV)) : List Ent := match r with | some (i, _) => es.eraseIdx i | none => es
theorem deleteW_mp {T : TypeId} {o : Nat} {k : PV} : deleteW P T σ (.mp o) k K = (isMapT P T = true ∧ ∃ es clock, σ o = some (.map es clock) ∧ keyOk P (mapKT P T) k = true ∧ ∃ r, findE k es 0 = some r ∧ K .any (σ.set o (.map (delR es r) clock))) := by
  apply propext; constructor
  · rintro ⟨KT, E, es, clock, h1, h2, h3, r, h4, h5⟩
    obtain ⟨e1, e2, e3⟩ := isMapT_of h1
    refine ⟨e1, es, clock, h2, by rw [e2]; exact h3, r, h4, ?_⟩
    cases r <;> exact h5
  · rintro ⟨h1, es, clock, h2, h3, r, h4, h5⟩
    refine ⟨_, _, es, clock, isMapT_spec h1, h2, h3, r, h4, ?_⟩
    cases r <;> exact h5
/-- A key of a kind that a map's type asks. -/
def intKey (P : Program) (T : TypeId) : Bool := match P.underlying T with | some (.int _) => true | _ => false
def strKey (P : Program) (T : TypeId) : Bool := match P.underlying T with | some .string => true | _ => false
theorem keyOk_int {T : TypeId} {k : IntKind} {n : Int} : keyOk P T (.lit (.int k n)) = intKey P T := by
  unfold keyOk intKey; split <;> rename_i h <;> simp_all
theorem keyOk_str {T : TypeId} {s : ByteArray} : keyOk P T (.lit (.string s)) = strKey P T := by
  unfold keyOk strKey; split <;> rename_i h <;> simp_all
theorem ex_map' {E : List Ent} {C : Nat} {p : List Ent → Nat → Prop} : (∃ es clock, PObj.map E C = PObj.map es clock ∧ p es clock) = p E C :=
  propext ⟨fun ⟨_, _, h1, h⟩ => by cases h1; exact h, fun h => ⟨E, C, rfl, h⟩⟩
theorem findE_nil {k : PV} {i : Nat} : findE k [] i = some none := rfl
theorem lookV_t {p : PV} {b : Bool} : lookV true p b = .tup [p, .lit (.bool b)] := rfl
theorem lookV_f {p : PV} {b : Bool} : lookV false p b = p := rfl
theorem putE_none {es : List Ent} {clock : Nat} {k x : PV} : putE es clock k x none = .map (es ++ [(k, x, clock)]) (clock + 1) := rfl
theorem putE_some {es : List Ent} {clock i : Nat} {k x y : PV} : putE es clock k x (some (i, y)) = .map (es.modify i fun e => (k, x, e.2.2)) clock := rfl
theorem pW_len {x : Operand} {T : TypeId} : pW P glob (.call ⟨.builtin .len, #[x], #[T]⟩) ρ Kp = lenW P T (ρ x) Kp := rfl
theorem eW_min {x y : Operand} {T U : TypeId} : eW P glob (.call ⟨.builtin .min, #[x, y], #[T, U]⟩) ρ σ K = minW .min (ρ x) (ρ y) (fun r => K r σ) := rfl
theorem pW_min {x y : Operand} {T U : TypeId} : pW P glob (.call ⟨.builtin .min, #[x, y], #[T, U]⟩) ρ Kp = minW .min (ρ x) (ρ y) Kp := rfl
theorem eW_max {x y : Operand} {T U : TypeId} : eW P glob (.call ⟨.builtin .max, #[x, y], #[T, U]⟩) ρ σ K = minW .max (ρ x) (ρ y) (fun r => K r σ) := rfl
theorem pW_max {x y : Operand} {T U : TypeId} : pW P glob (.call ⟨.builtin .max, #[x, y], #[T, U]⟩) ρ Kp = minW .max (ρ x) (ρ y) Kp := rfl
theorem eW_append {x y : Operand} {T U : TypeId} : eW P glob (.call ⟨.builtin .append, #[x, y], #[T, U]⟩) ρ σ K = appendW P T U σ (ρ x) (ρ y) K := rfl
theorem binW_ii {o : BinOp} {T : TypeId} {c : Bool} {k k' : IntKind} {a b : Int} : binW P o T c (.lit (.int k a)) (.lit (.int k' b)) Kp = intW o k a k' b Kp := rfl
theorem binW_ss {o : BinOp} {T : TypeId} {c : Bool} {a b : ByteArray} : binW P o T c (.lit (.string a)) (.lit (.string b)) Kp = strW o a b Kp := rfl
theorem binW_eql_bb {T : TypeId} {c : Bool} {a b : Bool} : binW P .eql T c (.lit (.bool a)) (.lit (.bool b)) Kp = (P.underlying T = some .bool ∧ Kp (.lit (.bool (a == b)))) := propext ⟨fun ⟨_, ⟨h, e⟩, k⟩ => ⟨h, e ▸ k⟩, fun ⟨h, k⟩ => ⟨_, ⟨h, rfl⟩, k⟩⟩
theorem binW_eql_agg {T : TypeId} {c : Bool} {ps qs : List PV} : binW P .eql T c (.agg ps) (.agg qs) Kp = (structEqOk P T = true ∧ EqF P ps qs (P.fieldsOf T).toList fun r => Kp (.lit (.bool r))) := propext ⟨fun ⟨_, ⟨h, e⟩, k⟩ => ⟨h, e.mono fun _ x => by rw [x]; exact k⟩, fun ⟨h, e⟩ => let ⟨t, e1, k⟩ := e.one; ⟨t, ⟨h, e1⟩, k⟩⟩
theorem binW_neq_agg {T : TypeId} {c : Bool} {ps qs : List PV} : binW P .neq T c (.agg ps) (.agg qs) Kp = (structEqOk P T = true ∧ EqF P ps qs (P.fieldsOf T).toList fun r => Kp (.lit (.bool (!r)))) := propext ⟨fun ⟨_, ⟨h, e⟩, k⟩ => ⟨h, e.mono fun _ x => by rw [x]; exact k⟩, fun ⟨h, e⟩ => let ⟨t, e1, k⟩ := e.one; ⟨t, ⟨h, e1⟩, k⟩⟩
theorem EqF_nil {ps qs : List PV} {K : Bool → Prop} : EqF P ps qs [] K = K true := rfl
theorem EqF_cons {ps qs : List PV} {f : Field} {fs : List Field} {K : Bool → Prop} : EqF P ps qs (f :: fs) K = partW P f.type ps f.offset fun p => partW P f.type qs f.offset fun q => eqLW P f.type p q fun b => EqF P ps qs fs fun r => K (b && r) := rfl
theorem eqLW_ii {T : TypeId} {k k' : IntKind} {a b : Int} {K : Bool → Prop} : eqLW P T (.lit (.int k a)) (.lit (.int k' b)) K = (k = k' ∧ (∃ k2, P.underlying T = some (.int k2)) ∧ K (a == b)) := rfl
theorem eqLW_bb {T : TypeId} {a b : Bool} {K : Bool → Prop} : eqLW P T (.lit (.bool a)) (.lit (.bool b)) K = (P.underlying T = some .bool ∧ K (a == b)) := rfl
theorem eqLW_ss {T : TypeId} {a b : ByteArray} {K : Bool → Prop} : eqLW P T (.lit (.string a)) (.lit (.string b)) K = (P.underlying T = some .string ∧ K (strEq a b)) := rfl
attribute [go_sem] binW_eql_agg binW_neq_agg EqF_nil EqF_cons eqLW_ii eqLW_bb eqLW_ss List.toList_toArray
theorem binW_neq_bb {T : TypeId} {c : Bool} {a b : Bool} : binW P .neq T c (.lit (.bool a)) (.lit (.bool b)) Kp = (P.underlying T = some .bool ∧ Kp (.lit (.bool (!(a == b))))) := propext ⟨fun ⟨_, ⟨h, e⟩, k⟩ => ⟨h, e ▸ k⟩, fun ⟨h, k⟩ => ⟨_, ⟨h, rfl⟩, k⟩⟩
theorem binW_eql_nn {T : TypeId} {c : Bool}  : binW P .eql T c (.lit .nilIface) (.lit .nilIface) Kp = ((c = true ∧ (∃ ms, P.underlying T = some (.interface ms))) ∧ Kp (.lit (.bool (true)))) := by
  simp [binW, eqV]
theorem binW_neq_nn {T : TypeId} {c : Bool}  : binW P .neq T c (.lit .nilIface) (.lit .nilIface) Kp = ((c = true ∧ (∃ ms, P.underlying T = some (.interface ms))) ∧ Kp (.lit (.bool (false)))) := by
  simp [binW, eqV]
theorem binW_eql_in {T : TypeId} {c : Bool} {t : TypeId} {p : PV} : binW P .eql T c (.iface t p) (.lit .nilIface) Kp = ((∃ ms, P.underlying T = some (.interface ms)) ∧ Kp (.lit (.bool (false)))) := by
  simp [binW, eqV]
theorem binW_neq_in {T : TypeId} {c : Bool} {t : TypeId} {p : PV} : binW P .neq T c (.iface t p) (.lit .nilIface) Kp = ((∃ ms, P.underlying T = some (.interface ms)) ∧ Kp (.lit (.bool (true)))) := by
  simp [binW, eqV]
theorem binW_eql_ni {T : TypeId} {c : Bool} {t : TypeId} {p : PV} : binW P .eql T c (.lit .nilIface) (.iface t p) Kp = ((∃ ms, P.underlying T = some (.interface ms)) ∧ Kp (.lit (.bool (false)))) := by
  simp [binW, eqV]
theorem binW_neq_ni {T : TypeId} {c : Bool} {t : TypeId} {p : PV} : binW P .neq T c (.lit .nilIface) (.iface t p) Kp = ((∃ ms, P.underlying T = some (.interface ms)) ∧ Kp (.lit (.bool (true)))) := by
  simp [binW, eqV]
theorem binW_eql_pnn {T : TypeId} {c : Bool}  : binW P .eql T c (.lit (.pointer none)) (.lit (.pointer none)) Kp = ((∃ e, P.underlying T = some (.pointer e)) ∧ Kp (.lit (.bool (true)))) := by
  simp [binW, eqV]
theorem binW_neq_pnn {T : TypeId} {c : Bool}  : binW P .neq T c (.lit (.pointer none)) (.lit (.pointer none)) Kp = ((∃ e, P.underlying T = some (.pointer e)) ∧ Kp (.lit (.bool (false)))) := by
  simp [binW, eqV]
theorem binW_eql_vpn {T : TypeId} {c : Bool} {cs : List PV} : binW P .eql T c (.vp cs) (.lit (.pointer none)) Kp = ((∃ e, P.underlying T = some (.pointer e)) ∧ Kp (.lit (.bool (false)))) := by
  simp [binW, eqV]
theorem binW_neq_vpn {T : TypeId} {c : Bool} {cs : List PV} : binW P .neq T c (.vp cs) (.lit (.pointer none)) Kp = ((∃ e, P.underlying T = some (.pointer e)) ∧ Kp (.lit (.bool (true)))) := by
  simp [binW, eqV]
theorem binW_eql_ptn {T : TypeId} {c : Bool} {o f : Nat} : binW P .eql T c (.ptr o f) (.lit (.pointer none)) Kp = ((∃ e, P.underlying T = some (.pointer e)) ∧ Kp (.lit (.bool (false)))) := by
  simp [binW, eqV]
theorem binW_neq_ptn {T : TypeId} {c : Bool} {o f : Nat} : binW P .neq T c (.ptr o f) (.lit (.pointer none)) Kp = ((∃ e, P.underlying T = some (.pointer e)) ∧ Kp (.lit (.bool (true)))) := by
  simp [binW, eqV]
theorem binW_eql_snn {T : TypeId} {c : Bool}  : binW P .eql T c (.lit (.slice none 0 0)) (.lit (.slice none 0 0)) Kp = ((∃ e, P.underlying T = some (.slice e)) ∧ Kp (.lit (.bool (true)))) := by
  simp [binW, eqV]
theorem binW_neq_snn {T : TypeId} {c : Bool}  : binW P .neq T c (.lit (.slice none 0 0)) (.lit (.slice none 0 0)) Kp = ((∃ e, P.underlying T = some (.slice e)) ∧ Kp (.lit (.bool (false)))) := by
  simp [binW, eqV]
theorem binW_eql_mnn {T : TypeId} {c : Bool}  : binW P .eql T c (.lit (.map none)) (.lit (.map none)) Kp = ((∃ k e, P.underlying T = some (.map k e)) ∧ Kp (.lit (.bool (true)))) := by
  simp [binW, eqV]
theorem binW_neq_mnn {T : TypeId} {c : Bool}  : binW P .neq T c (.lit (.map none)) (.lit (.map none)) Kp = ((∃ k e, P.underlying T = some (.map k e)) ∧ Kp (.lit (.bool (false)))) := by
  simp [binW, eqV]
theorem binW_eql_mpn {T : TypeId} {c : Bool} {o : Nat} : binW P .eql T c (.mp o) (.lit (.map none)) Kp = ((∃ k e, P.underlying T = some (.map k e)) ∧ Kp (.lit (.bool (false)))) := by
  simp [binW, eqV]
theorem binW_neq_mpn {T : TypeId} {c : Bool} {o : Nat} : binW P .neq T c (.mp o) (.lit (.map none)) Kp = ((∃ k e, P.underlying T = some (.map k e)) ∧ Kp (.lit (.bool (true)))) := by
  simp [binW, eqV]
theorem binW_eql_fnn {T : TypeId} {c : Bool}  : binW P .eql T c (.lit .nilFunc) (.lit .nilFunc) Kp = ((∃ a b v, P.underlying T = some (.func a b v)) ∧ Kp (.lit (.bool (true)))) := by
  simp [binW, eqV]
theorem binW_neq_fnn {T : TypeId} {c : Bool}  : binW P .neq T c (.lit .nilFunc) (.lit .nilFunc) Kp = ((∃ a b v, P.underlying T = some (.func a b v)) ∧ Kp (.lit (.bool (false)))) := by
  simp [binW, eqV]
theorem binW_eql_fn {T : TypeId} {c : Bool} {f : Fn} {a b : List PV} : binW P .eql T c (.fn f a b) (.lit .nilFunc) Kp = ((∃ a b v, P.underlying T = some (.func a b v)) ∧ Kp (.lit (.bool (false)))) := by
  simp [binW, eqV]
theorem binW_neq_fn {T : TypeId} {c : Bool} {f : Fn} {a b : List PV} : binW P .neq T c (.fn f a b) (.lit .nilFunc) Kp = ((∃ a b v, P.underlying T = some (.func a b v)) ∧ Kp (.lit (.bool (true)))) := by
  simp [binW, eqV]
theorem intW_add {k : IntKind} {a b : Int} : intW .add k a k b Kp = (Kp (.lit (.int k (k.wrap (a + b))))) := by
  simp [intW]
theorem intW_sub {k : IntKind} {a b : Int} : intW .sub k a k b Kp = (Kp (.lit (.int k (k.wrap (a - b))))) := by
  simp [intW]
theorem intW_mul {k : IntKind} {a b : Int} : intW .mul k a k b Kp = (Kp (.lit (.int k (k.wrap (a * b))))) := by
  simp [intW]
theorem intW_quo {k : IntKind} {a b : Int} : intW .quo k a k b Kp = (Chk (b ≠ 0) ∧ Kp (.lit (.int k (k.wrap (a.tdiv b))))) := by
  simp [intW]
theorem intW_rem {k : IntKind} {a b : Int} : intW .rem k a k b Kp = (Chk (b ≠ 0) ∧ Kp (.lit (.int k (a.tmod b)))) := by
  simp [intW]
def andI (k : IntKind) (a b : Int) : Int := k.wrap (BitVec.ofInt k.bits a &&& BitVec.ofInt k.bits b).toNat
def orI (k : IntKind) (a b : Int) : Int := k.wrap (BitVec.ofInt k.bits a ||| BitVec.ofInt k.bits b).toNat
def xorI (k : IntKind) (a b : Int) : Int := k.wrap (BitVec.ofInt k.bits a ^^^ BitVec.ofInt k.bits b).toNat
def andNotI (k : IntKind) (a b : Int) : Int := k.wrap (BitVec.ofInt k.bits a &&& ~~~ BitVec.ofInt k.bits b).toNat
theorem intW_and {k : IntKind} {a b : Int} : intW .and k a k b Kp = (Kp (.lit (.int k (andI k a b)))) := by
  simp only [intW, true_and]; rfl
theorem intW_or {k : IntKind} {a b : Int} : intW .or k a k b Kp = (Kp (.lit (.int k (orI k a b)))) := by
  simp only [intW, true_and]; rfl
theorem intW_xor {k : IntKind} {a b : Int} : intW .xor k a k b Kp = (Kp (.lit (.int k (xorI k a b)))) := by
  simp only [intW, true_and]; rfl
theorem intW_andNot {k : IntKind} {a b : Int} : intW .andNot k a k b Kp = (Kp (.lit (.int k (andNotI k a b)))) := by
  simp only [intW, true_and]; rfl
theorem intW_shl {k k' : IntKind} {a b : Int} : intW .shl k a k' b Kp = (Chk (0 ≤ b) ∧ Kp (.lit (.int k (k.wrap (a * 2 ^ (min b.toNat k.bits)))))) := rfl
theorem intW_shr {k k' : IntKind} {a b : Int} : intW .shr k a k' b Kp = (Chk (0 ≤ b) ∧ Kp (.lit (.int k (a.fdiv (2 ^ (min b.toNat k.bits)))))) := rfl
theorem intW_eql {k : IntKind} {a b : Int} : intW .eql k a k b Kp = Kp (.lit (.bool (a == b))) := by
  simp [intW]
theorem intW_neq {k : IntKind} {a b : Int} : intW .neq k a k b Kp = Kp (.lit (.bool (a != b))) := by
  simp [intW]
theorem intW_lss {k : IntKind} {a b : Int} : intW .lss k a k b Kp = Kp (.lit (.bool (decide (a < b)))) := by
  simp [intW]
theorem intW_leq {k : IntKind} {a b : Int} : intW .leq k a k b Kp = Kp (.lit (.bool (decide (a ≤ b)))) := by
  simp [intW]
theorem intW_gtr {k : IntKind} {a b : Int} : intW .gtr k a k b Kp = Kp (.lit (.bool (decide (b < a)))) := by
  simp [intW]
theorem intW_geq {k : IntKind} {a b : Int} : intW .geq k a k b Kp = Kp (.lit (.bool (decide (b ≤ a)))) := by
  simp [intW]
theorem strW_eql {a b : ByteArray} : strW .eql a b Kp = Kp (.lit (.bool (strEq a b))) := rfl
theorem strW_neq {a b : ByteArray} : strW .neq a b Kp = Kp (.lit (.bool (!strEq a b))) := rfl
theorem strW_lss {a b : ByteArray} : strW .lss a b Kp = Kp (.lit (.bool (strLt a b))) := rfl
theorem strW_leq {a b : ByteArray} : strW .leq a b Kp = Kp (.lit (.bool (strLt a b || strEq a b))) := rfl
theorem strW_gtr {a b : ByteArray} : strW .gtr a b Kp = Kp (.lit (.bool (!(strLt a b || strEq a b)))) := rfl
theorem strW_geq {a b : ByteArray} : strW .geq a b Kp = Kp (.lit (.bool (!strLt a b))) := rfl
theorem strW_add {a b : ByteArray} : strW .add a b Kp = (Chk (a.size + b.size ≤ 9223372036854775807) ∧ Kp (.lit (.string (a ++ b)))) := rfl
theorem unW_not {b : Bool} : unW .not (.lit (.bool b)) Kp = Kp (.lit (.bool (!b))) := rfl
theorem unW_neg {k : IntKind} {a : Int} : unW .neg (.lit (.int k a)) Kp = Kp (.lit (.int k (k.wrap (0 - a)))) := rfl
theorem unW_xor {k : IntKind} {a : Int} : unW .xor (.lit (.int k a)) Kp = Kp (.lit (.int k (k.wrap (BitVec.ofInt k.bits (if k.signed then -1 else k.max) ^^^ BitVec.ofInt k.bits a).toNat))) := rfl
theorem convW_int {S T : TypeId} {k : IntKind} {a : Int} : convW P S T (.lit (.int k a)) Kp = ((∃ d, P.underlying S = some d ∧ d ≠ .unsafePointer) ∧ ((∃ k', P.underlying T = some (.int k') ∧ Kp (.lit (.int k' (k'.wrap a)))) ∨ (P.underlying T = some .string ∧ Kp (.lit (.string (Utf8.encode a)))))) := rfl
theorem convW_str {S T : TypeId} {s : ByteArray} : convW P S T (.lit (.string s)) Kp = (P.underlying S = some .string ∧ P.underlying T = some .string ∧ Kp (.lit (.string s))) := rfl
theorem indexAddrW_vs {T k : Nat} {es : List (List PV)} {ik : IntKind} {i : Int} : indexAddrW P T (.vs k es) (.lit (.int ik i)) Kp = ((∃ e, P.underlying T = some (.slice e) ∧ P.cellsOf e = k ∧ ∃ d, P.underlying e = some d) ∧ Chk (0 ≤ i ∧ i < es.length) ∧ Kp (.vp (es.getD i.toNat []))) := rfl
theorem indexAddrW_rs {T k o off len cap : Nat} {ik : IntKind} {i : Int} : indexAddrW P T (.rs k o off len cap) (.lit (.int ik i)) Kp = ((∃ e, P.underlying T = some (.slice e) ∧ P.cellsOf e = k ∧ ∃ d, P.underlying e = some d) ∧ Chk (0 ≤ i ∧ i < len) ∧ Kp (.ptr o (off + i.toNat * k))) := rfl
theorem indexAddrW_vp {T : Nat} {cs : List PV} {ik : IntKind} {i : Int} : indexAddrW P T (.vp cs) (.lit (.int ik i)) Kp = (∃ m e, P.underlying T = some (.array m e) ∧ (∃ d, P.underlying e = some d) ∧ Chk (0 ≤ i ∧ i < m) ∧ Kp (.vp (cs.drop (i.toNat * P.cellsOf e)))) := rfl
theorem indexAddrW_ptr {T o off : Nat} {ik : IntKind} {i : Int} : indexAddrW P T (.ptr o off) (.lit (.int ik i)) Kp = (∃ m e, P.underlying T = some (.array m e) ∧ (∃ d, P.underlying e = some d) ∧ Chk (0 ≤ i ∧ i < m) ∧ Kp (.ptr o (off + i.toNat * P.cellsOf e))) := rfl
theorem indexW_str {T : Nat} {s : ByteArray} {ik : IntKind} {i : Int} : indexW P T (.lit (.string s)) (.lit (.int ik i)) Kp = (P.underlying T = some .string ∧ Chk (0 ≤ i ∧ i < s.size) ∧ Kp (.lit (.int .u8 (byteAt s i)))) := rfl
theorem indexW_agg {T : Nat} {cs : List PV} {ik : IntKind} {i : Int} : indexW P T (.agg cs) (.lit (.int ik i)) Kp = ∃ m e, P.underlying T = some (.array m e) ∧ (∃ d, P.underlying e = some d) ∧ Chk (0 ≤ i ∧ i < m) ∧ partW P e cs (i.toNat * P.cellsOf e) Kp := rfl
/-- What is known of a field: where it lies, of which type it is. -/
def fldOf (P : Program) (S f : Nat) : Option Field := match P.underlying S with | some (.struct fs) => fs[f]? | _ => none
def offOf (P : Program) (S f : Nat) : Nat := match fldOf P S f with | some x => x.offset | none => 0
def typOf (P : Program) (S f : Nat) : Nat := match fldOf P S f with | some x => x.type | none => 0
def fldOk (P : Program) (S f : Nat) : Bool := match fldOf P S f with | some x => decide (P.cellsOf x.type ≠ 0) && (P.underlying x.type).isSome | none => false

theorem fldOk_spec {S f : Nat} (h : fldOk P S f = true) : ∃ fs fld, P.underlying S = some (.struct fs) ∧ fs[f]? = some fld ∧ fld.offset = offOf P S f ∧ fld.type = typOf P S f ∧ P.cellsOf (typOf P S f) ≠ 0 ∧ ∃ d, P.underlying (typOf P S f) = some d := by
  unfold fldOk at h
  split at h
  · rename_i x hx
    have hx' := hx
    unfold fldOf at hx
    split at hx
    · rename_i fs h0
      simp only [Bool.and_eq_true, decide_eq_true_eq] at h
      refine ⟨fs, x, h0, hx, by simp [offOf, hx'], by simp [typOf, hx'], by simpa [typOf, hx'] using h.1, ?_⟩
      have := h.2
      simp only [typOf, hx']
      exact Option.isSome_iff_exists.1 this
    · cases hx
  · cases h

theorem fieldAddrW_vp {S f : Nat} {cs : List PV} (h : fldOk P S f = true) : fieldAddrW P S (.vp cs) f Kp = Kp (.vp (cs.drop (offOf P S f))) := by
  obtain ⟨fs, fld, h1, h2, h5, h6, h3, h4⟩ := fldOk_spec h
  rw [← h6] at h3 h4
  simp [fieldAddrW, h1, h2, h3, h4, h5]
theorem fieldAddrW_ptr {S f : Nat} {o b : Nat} (h : fldOk P S f = true) : fieldAddrW P S (.ptr o b) f Kp = Kp (.ptr o (b + offOf P S f)) := by
  obtain ⟨fs, fld, h1, h2, h5, h6, h3, h4⟩ := fldOk_spec h
  rw [← h6] at h3 h4
  simp [fieldAddrW, h1, h2, h3, h4, h5]
theorem fieldW_agg {S f : Nat} {cs : List PV} (h : fldOk P S f = true) : fieldW P S (.agg cs) f Kp = partW P (typOf P S f) cs (offOf P S f) Kp := by
  obtain ⟨fs, fld, h1, h2, h5, h6, h3, h4⟩ := fldOk_spec h
  simp [fieldW, h1, h2, h5, h6]
theorem partW_one {T off : Nat} {cs : List PV} (h : isOne P T = true) (h1 : P.cellsOf T = 1) : partW P T cs off Kp = (Chk (off < cs.length) ∧ ∃ p, cs[off]? = some p ∧ Kp p) := by
  unfold isOne at h; split at h <;> simp_all [partW, Chk, Nat.succ_le_iff]
theorem partW_agg {T off : Nat} {cs : List PV} (h : isAggT P T = true) : partW P T cs off Kp = (Chk (off + P.cellsOf T ≤ cs.length) ∧ Kp (.agg ((cs.drop off).take (P.cellsOf T)))) := by
  unfold isAggT at h; split at h <;> simp_all [partW]
theorem ite_litB {t a b : Bool} : (if t = true then PV.lit (.bool a) else PV.lit (.bool b)) = .lit (.bool (bif t then a else b)) := by cases t <;> rfl
theorem lenW_vs {T k : Nat} {es : List (List PV)} : lenW P T (.vs k es) Kp = ((∃ e, P.underlying T = some (.slice e)) ∧ Kp (.lit (.int .i64 es.length))) := rfl
theorem lenW_rs {T k o off len cap : Nat} : lenW P T (.rs k o off len cap) Kp = ((∃ e, P.underlying T = some (.slice e)) ∧ Kp (.lit (.int .i64 len))) := rfl
theorem lenW_z {T : Nat} : lenW P T .z Kp = ((∃ e, P.underlying T = some (.slice e)) ∧ Kp (.lit (.int .i64 0))) := rfl
theorem lenW_nil {T : Nat} : lenW P T (.lit (.slice none 0 0)) Kp = ((∃ e, P.underlying T = some (.slice e)) ∧ Kp (.lit (.int .i64 0))) := rfl
theorem lenW_str {T : Nat} {s : ByteArray} : lenW P T (.lit (.string s)) Kp = (P.underlying T = some .string ∧ Kp (.lit (.int .i64 s.size))) := rfl
theorem minW_min {k k' : IntKind} {x y : Int} : minW .min (.lit (.int k x)) (.lit (.int k' y)) Kp = Kp (.lit (.int k (if y < x then y else x))) := rfl
theorem minW_max {k k' : IntKind} {x y : Int} : minW .max (.lit (.int k x)) (.lit (.int k' y)) Kp = Kp (.lit (.int k (if y > x then y else x))) := rfl
theorem bndW_none {d : Nat} {B : Int → Prop} : bndW ρ d none B = B d := rfl
def bndV (p : PV) (B : Int → Prop) : Prop := match p with | .lit (.int _ i) => B i | _ => False
theorem bndV_int {k : IntKind} {i : Int} {B : Int → Prop} : bndV (.lit (.int k i)) B = B i := rfl
theorem bndW_some {d : Nat} {x : Operand} {B : Int → Prop} : bndW ρ d (some x) B = bndV (ρ x) B := by
  have e : bndW ρ d (some x) B = ∃ k i, ρ x = .lit (.int k i) ∧ B i := rfl
  rw [e]
  apply propext
  constructor
  · rintro ⟨k, i, h1, h2⟩; rw [h1]; exact h2
  · intro h; unfold bndV at h; split at h
    · rename_i k i e; exact ⟨k, i, e, h⟩
    · exact h.elim
theorem sliceW_str {T : Nat} {s : ByteArray} {lo hi mx : Option Operand} : sliceW P T (.lit (.string s)) ρ lo hi mx Kp = (P.underlying T = some .string ∧ mx = none ∧ bndW ρ 0 lo fun i => bndW ρ s.size hi fun j => Chk (0 ≤ i ∧ i ≤ j ∧ j ≤ s.size) ∧ Kp (.lit (.string (s.extract i.toNat j.toNat)))) := rfl
theorem sliceW_vs {T k : Nat} {es : List (List PV)} {lo hi : Option Operand} : sliceW P T (.vs k es) ρ lo hi none Kp = ((∃ e, P.underlying T = some (.slice e) ∧ P.cellsOf e = k ∧ ∃ d, P.underlying e = some d) ∧ bndW ρ 0 lo fun i => bndW ρ es.length hi fun j => Chk (0 ≤ i ∧ i ≤ j ∧ j ≤ es.length) ∧ Kp (.vs k ((es.take j.toNat).drop i.toNat))) := rfl
theorem sliceW_vs3 {T k : Nat} {es : List (List PV)} {lo hi : Option Operand} {m : Operand} : sliceW P T (.vs k es) ρ lo hi (some m) Kp = ((∃ e, P.underlying T = some (.slice e) ∧ P.cellsOf e = k ∧ ∃ d, P.underlying e = some d) ∧ bndW ρ 0 lo fun i => bndW ρ es.length hi fun j => Chk (0 ≤ i ∧ i ≤ j ∧ j ≤ es.length) ∧ hi.isSome = true ∧ (∃ k, ρ m = .lit (.int k i)) ∧ Chk (i = j) ∧ Kp .z) := rfl
theorem sliceW_rs {T k o off len cap : Nat} {lo hi : Option Operand} : sliceW P T (.rs k o off len cap) ρ lo hi none Kp = ((∃ e, P.underlying T = some (.slice e) ∧ P.cellsOf e = k ∧ ∃ d, P.underlying e = some d) ∧ bndW ρ 0 lo fun i => bndW ρ len hi fun j => Chk (0 ≤ i ∧ i ≤ j ∧ j ≤ cap) ∧ Kp (.rs k o (off + i.toNat * k) (j - i).toNat (cap - i.toNat))) := rfl
theorem sliceW_rs3 {T k o off len cap : Nat} {lo hi : Option Operand} {m : Operand} : sliceW P T (.rs k o off len cap) ρ lo hi (some m) Kp = ((∃ e, P.underlying T = some (.slice e) ∧ P.cellsOf e = k ∧ ∃ d, P.underlying e = some d) ∧ bndW ρ 0 lo fun i => bndW ρ len hi fun j => Chk (0 ≤ i ∧ i ≤ j ∧ j ≤ cap) ∧ hi.isSome = true ∧ ∃ k' m', ρ m = .lit (.int k' m') ∧ Chk (j ≤ m' ∧ m' ≤ cap) ∧ (if m' = i then Kp .z else Kp (.rs k o (off + i.toNat * k) (j - i).toNat (m' - i).toNat))) := rfl
theorem sliceW_nil {T : Nat} {lo hi mx : Option Operand} : sliceW P T (.lit (.slice none 0 0)) ρ lo hi mx Kp = ((∃ e, P.underlying T = some (.slice e) ∧ ∃ d, P.underlying e = some d) ∧ bndW ρ 0 lo fun i => bndW ρ 0 hi fun j => bndW ρ 0 mx fun m => Chk (i = 0 ∧ j = 0 ∧ m = 0) ∧ (hi.isSome = true ∨ mx = none) ∧ Kp (.lit (.slice none 0 0))) := rfl
theorem sliceW_z {T : Nat} {lo hi mx : Option Operand} : sliceW P T .z ρ lo hi mx Kp = ((∃ e, P.underlying T = some (.slice e) ∧ ∃ d, P.underlying e = some d) ∧ bndW ρ 0 lo fun i => bndW ρ 0 hi fun j => bndW ρ 0 mx fun m => Chk (i = 0 ∧ j = 0 ∧ m = 0) ∧ (hi.isSome = true ∨ mx = none) ∧ Kp .z) := rfl
theorem there_vp {cs : List PV} : (PV.vp cs).there = true := rfl
theorem there_ptr {o f : Nat} : (PV.ptr o f).there = true := rfl
theorem there_iface {t : TypeId} {p : PV} : (PV.iface t p).there = true := rfl
theorem there_fnf {g : FuncId} {a b : List PV} : (PV.fn (.func g) a b).there = true := rfl
theorem known_lit_int {k : IntKind} {i : Int} : (PV.lit (.int k i)).known = true := rfl
theorem cells_lit_int {k : IntKind} {i : Int} : (PV.lit (.int k i)).cells = [PV.lit (.int k i)] := rfl
theorem cell_lit_int {k : IntKind} {i : Int} : (PV.lit (.int k i)).cell = true := rfl
theorem known_lit_bool {x : Bool} : (PV.lit (.bool x)).known = true := rfl
theorem cells_lit_bool {x : Bool} : (PV.lit (.bool x)).cells = [PV.lit (.bool x)] := rfl
theorem cell_lit_bool {x : Bool} : (PV.lit (.bool x)).cell = true := rfl
theorem known_lit_str {s : ByteArray} : (PV.lit (.string s)).known = true := rfl
theorem cells_lit_str {s : ByteArray} : (PV.lit (.string s)).cells = [PV.lit (.string s)] := rfl
theorem cell_lit_str {s : ByteArray} : (PV.lit (.string s)).cell = true := rfl
theorem known_lit_ni  : (PV.lit .nilIface).known = true := rfl
theorem cells_lit_ni  : (PV.lit .nilIface).cells = [PV.lit .nilIface] := rfl
theorem cell_lit_ni  : (PV.lit .nilIface).cell = true := rfl
theorem known_lit_nf  : (PV.lit .nilFunc).known = true := rfl
theorem cells_lit_nf  : (PV.lit .nilFunc).cells = [PV.lit .nilFunc] := rfl
theorem cell_lit_nf  : (PV.lit .nilFunc).cell = true := rfl
theorem known_lit_ptr {a : Option Addr} : (PV.lit (.pointer a)).known = true := rfl
theorem cells_lit_ptr {a : Option Addr} : (PV.lit (.pointer a)).cells = [PV.lit (.pointer a)] := rfl
theorem cell_lit_ptr {a : Option Addr} : (PV.lit (.pointer a)).cell = true := rfl
theorem known_lit_sl {a : Option Addr} {x y : Nat} : (PV.lit (.slice a x y)).known = true := rfl
theorem cells_lit_sl {a : Option Addr} {x y : Nat} : (PV.lit (.slice a x y)).cells = [PV.lit (.slice a x y)] := rfl
theorem cell_lit_sl {a : Option Addr} {x y : Nat} : (PV.lit (.slice a x y)).cell = true := rfl
theorem known_lit_map {a : Option Nat} : (PV.lit (.map a)).known = true := rfl
theorem cells_lit_map {a : Option Nat} : (PV.lit (.map a)).cells = [PV.lit (.map a)] := rfl
theorem cell_lit_map {a : Option Nat} : (PV.lit (.map a)).cell = true := rfl
theorem known_vs {k : Nat} {es : List (List PV)} : (PV.vs k es).known = true := rfl
theorem cells_vs {k : Nat} {es : List (List PV)} : (PV.vs k es).cells = [PV.vs k es] := rfl
theorem cell_vs {k : Nat} {es : List (List PV)} : (PV.vs k es).cell = true := rfl
theorem known_vp {cs : List PV} : (PV.vp cs).known = true := rfl
theorem cells_vp {cs : List PV} : (PV.vp cs).cells = [PV.vp cs] := rfl
theorem cell_vp {cs : List PV} : (PV.vp cs).cell = true := rfl
theorem known_z  : (PV.z).known = true := rfl
theorem cells_z  : (PV.z).cells = [PV.z] := rfl
theorem cell_z  : (PV.z).cell = true := rfl
theorem known_rs {k o a b c : Nat} : (PV.rs k o a b c).known = true := rfl
theorem cells_rs {k o a b c : Nat} : (PV.rs k o a b c).cells = [PV.rs k o a b c] := rfl
theorem cell_rs {k o a b c : Nat} : (PV.rs k o a b c).cell = true := rfl
theorem known_ptr {o a : Nat} : (PV.ptr o a).known = true := rfl
theorem cells_ptr {o a : Nat} : (PV.ptr o a).cells = [PV.ptr o a] := rfl
theorem cell_ptr {o a : Nat} : (PV.ptr o a).cell = true := rfl
theorem known_mp {o : Nat} : (PV.mp o).known = true := rfl
theorem cells_mp {o : Nat} : (PV.mp o).cells = [PV.mp o] := rfl
theorem cell_mp {o : Nat} : (PV.mp o).cell = true := rfl
theorem known_iface {t : TypeId} {p : PV} : (PV.iface t p).known = true := rfl
theorem cells_iface {t : TypeId} {p : PV} : (PV.iface t p).cells = [PV.iface t p] := rfl
theorem cell_iface {t : TypeId} {p : PV} : (PV.iface t p).cell = true := rfl
theorem known_fn {f : Fn} {a b : List PV} : (PV.fn f a b).known = true := rfl
theorem cells_fn {f : Fn} {a b : List PV} : (PV.fn f a b).cells = [PV.fn f a b] := rfl
theorem cell_fn {f : Fn} {a b : List PV} : (PV.fn f a b).cell = true := rfl
theorem known_agg {cs : List PV} : (PV.agg cs).known = true := rfl
theorem cells_agg {cs : List PV} : (PV.agg cs).cells = cs := rfl
theorem allCell_nil  : allCell [] = true := rfl
theorem allCell_cons {p : PV} {cs : List PV} : allCell (p :: cs) = (p.cell && allCell cs) := rfl
theorem denseW_nil {k s : Nat} : denseW k s [] = true := rfl
theorem denseW_cons {k s i : Nat} {p : PV} {r : List (Nat × PV)} : denseW k s ((i, p) :: r) = (decide (i = s) && p.known && decide (p.cells.length = k) && denseW k (s + 1) r) := rfl
theorem srcW_vs {k k' : Nat} {es : List (List PV)} {B : Nat → List PV → Prop} : srcW k σ (.vs k' es) B = (k' = k ∧ B es.length es.flatten) := rfl
theorem srcW_str {k : Nat} {s : ByteArray} {B : Nat → List PV → Prop} : srcW k σ (.lit (.string s)) B = (k = 1 ∧ B s.size (byteCells s)) := rfl
theorem srcW_nil {k : Nat} {B : Nat → List PV → Prop} : srcW k σ (.lit (.slice none 0 0)) B = B 0 [] := rfl
theorem srcW_z {k : Nat} {B : Nat → List PV → Prop} : srcW k σ .z B = B 0 [] := rfl
theorem srcW_rs {k k' o off len cap : Nat} {B : Nat → List PV → Prop} : srcW k σ (.rs k' o off len cap) B = (k' = k ∧ ∃ cs, σ o = some (.cells cs) ∧ Chk (off + len * k ≤ cs.length) ∧ B len ((cs.drop off).take (len * k))) := rfl

/-- What an append does, the type's facts given. -/
def appW (k bytes : Nat) (σ : Store) (p : PV) (m : Nat) (news : List PV) (K : PV → Store → Prop) : Prop :=
    match p with
    | .z | .lit (.slice none 0 0) => Chk (m * bytes ≤ 140737488355328) ∧ if m = 0 then K p σ else ∀ o, σ o = none → K (.rs k o 0 m m) (σ.set o (.cells news))
    | .rs k' o off len cap => k' = k ∧ ∃ cs, σ o = some (.cells cs) ∧
        if len + m ≤ cap then Chk (off + (len + m) * k ≤ cs.length) ∧ K (.rs k o off (len + m) cap) (σ.set o (.cells (splice cs (off + len * k) news)))
        else Chk ((len + m) * bytes ≤ 140737488355328 ∧ off + len * k = cs.length) ∧ ∀ o', σ o' = none → K (.rs k o' 0 (len + m) (len + m)) ((σ.drop o).set o' (.cells (cs.drop off ++ news)))
    | .vs k' es => k' = k ∧ Chk (m = 0) ∧ K (.vs k es) σ
    | _ => False

def isSlStr (P : Program) (U : TypeId) : Bool := match P.underlying U with | some (.slice _) | some .string => true | _ => false

theorem appendW_eq {T U e k bytes : Nat} {p q : PV} (hE : ElemOk P T e k bytes) (hb : 0 < bytes) (hU : isSlStr P U = true) (h : srcW k σ q fun m news => allCell news = true ∧ appW k bytes σ p m news K) : appendW P T U σ p q K := by
  refine ⟨e, k, bytes, hE, hb, ?_, h⟩
  unfold isSlStr at hU
  split at hU
  · rename_i e' h; exact .inl ⟨e', h⟩
  · rename_i h; exact .inr h
  · cases hU

def elemT (P : Program) (T : Nat) : Nat := match P.underlying T with | some (.slice e) => e | _ => 0
def kOf (P : Program) (T : Nat) : Nat := P.cellsOf (elemT P T)
def bOf (P : Program) (T : Nat) : Nat := P.bytesOf (elemT P T)
def apOk (P : Program) (T : Nat) : Bool := match P.underlying T with
  | some (.slice e) => (P.underlying e).isSome && decide (0 < P.bytesOf e) && (match zeroCells P e with | some zc => decide (zc.length = P.cellsOf e) | none => false)
  | _ => false
theorem apOk_spec {T : Nat} (h : apOk P T = true) : ElemOk P T (elemT P T) (kOf P T) (bOf P T) ∧ 0 < bOf P T := by
  unfold apOk at h
  split at h
  · rename_i e he
    simp only [Bool.and_eq_true, decide_eq_true_eq] at h
    obtain ⟨⟨h1, h2⟩, h3⟩ := h
    have ee : elemT P T = e := by simp [elemT, he]
    split at h3
    · rename_i zc hz
      simp only [kOf, bOf, ee]
      exact ⟨⟨he, Option.isSome_iff_exists.1 h1, rfl, rfl, zc, hz, by simpa using h3⟩, h2⟩
    · cases h3
  · cases h
theorem srcW_mono {k : Nat} {q : PV} {A B : Nat → List PV → Prop} (hab : ∀ m n, A m n → B m n) (h : srcW k σ q A) : srcW k σ q B := by
  unfold srcW at *
  split at h
  · exact ⟨h.1, hab _ _ h.2⟩
  · exact ⟨h.1, hab _ _ h.2⟩
  · exact hab _ _ h
  · exact hab _ _ h
  · obtain ⟨a, cs, b, c, d⟩ := h; exact ⟨a, cs, b, c, hab _ _ d⟩
  · exact h
theorem appendW_app {T U : TypeId} {p q : PV} (h1 : apOk P T = true) (hU : isSlStr P U = true) : appendW P T U σ p q K = srcW (kOf P T) σ q fun m news => allCell news = true ∧ appW (kOf P T) (bOf P T) σ p m news K := by
  apply propext
  constructor
  · rintro ⟨e, k, bytes, hE, hb, _, h⟩
    have hE' := (apOk_spec h1).1
    have e0 : e = elemT P T := by have := hE.sl; rw [hE'.sl] at this; simpa using this.symm
    subst e0
    have e1 := hE.cells; have e2 := hE'.cells
    have e3 := hE.bytes; have e4 := hE'.bytes
    rw [e1] at e2; rw [e3] at e4
    subst e2; subst e4
    exact h
  · exact fun h => appendW_eq (apOk_spec h1).1 (apOk_spec h1).2 hU h
theorem appW_z {k bytes m : Nat} {news : List PV} : appW k bytes σ .z m news K = (Chk (m * bytes ≤ 140737488355328) ∧ if m = 0 then K .z σ else ∀ o, σ o = none → K (.rs k o 0 m m) (σ.set o (.cells news))) := rfl
theorem appW_nil {k bytes m : Nat} {news : List PV} : appW k bytes σ (.lit (.slice none 0 0)) m news K = (Chk (m * bytes ≤ 140737488355328) ∧ if m = 0 then K (.lit (.slice none 0 0)) σ else ∀ o, σ o = none → K (.rs k o 0 m m) (σ.set o (.cells news))) := rfl
theorem appW_rs {k bytes m k' o off len cap : Nat} {news : List PV} : appW k bytes σ (.rs k' o off len cap) m news K = (k' = k ∧ ∃ cs, σ o = some (.cells cs) ∧ if len + m ≤ cap then Chk (off + (len + m) * k ≤ cs.length) ∧ K (.rs k o off (len + m) cap) (σ.set o (.cells (splice cs (off + len * k) news))) else Chk ((len + m) * bytes ≤ 140737488355328 ∧ off + len * k = cs.length) ∧ ∀ o', σ o' = none → K (.rs k o' 0 (len + m) (len + m)) ((σ.drop o).set o' (.cells (cs.drop off ++ news)))) := rfl
theorem fillW_nil {pl : Nat → Option (Nat × Nat)} {cs : List PV} : fillW pl cs [] = some cs := rfl
theorem fillW_cons {pl : Nat → Option (Nat × Nat)} {cs : List PV} {i off size : Nat} {p : PV} {r : List (Nat × PV)} (h : pl i = some (off, size)) (hk : p.known = true) (hs : p.cells.length = size) (hl : off + size ≤ cs.length) : fillW pl cs ((i, p) :: r) = fillW pl (splice cs off p.cells) r := by
  cases p <;> simp [PV.known] at hk <;> simp only [fillW, h] <;> rw [if_pos ⟨hs, hl⟩]
theorem splice_zero {c : PV} {cs : List PV} {x : PV} : splice (c :: cs) 0 [x] = x :: cs := by simp [splice]
theorem splice_succ {c : PV} {cs : List PV} {k : Nat} {xs : List PV} : splice (c :: cs) (k + 1) xs = c :: splice cs k xs := by
  simp only [splice, List.take_succ_cons, List.cons_append]
  congr 1
  rw [show k + 1 + xs.length = (k + xs.length) + 1 by omega, List.drop_succ_cons]
theorem argsF_eq {as : List PV} : argsF as = as.zipIdx.map fun (p, i) => (i, p) := rfl
theorem AThen_n {A : Fram → Store → Prop} {Q : Post} : AThen A Q .normal l σ = A l σ := rfl
theorem AThen_e {A : Fram → Store → Prop} {Q : Post} {i : Nat} : AThen A Q (.exit i) l σ = Q (.exit i) l σ := rfl
theorem AThen_r {A : Fram → Store → Prop} {Q : Post} : AThen A Q .ret l σ = Q .ret l σ := rfl
theorem ABlock_n {i : Nat} {Q : Post} : ABlock i Q .normal l σ = Q .normal l σ := rfl
theorem ABlock_r {i : Nat} {Q : Post} : ABlock i Q .ret l σ = Q .ret l σ := rfl
theorem ABlock_e {i j : Nat} {Q : Post} : ABlock i Q (.exit j) l σ = if j = i then Q .normal l σ else Q (.exit j) l σ := rfl
theorem resOf_one {p : PV} : resOf [p] = p := rfl
theorem resOf_two {p q : PV} {r : List PV} : resOf (p :: q :: r) = .tup (p :: q :: r) := rfl
theorem isConst_c {v : Value} : isConstO (.const v) = true := rfl
theorem isConst_t {t : Tmp} : isConstO (.tmp t) = false := rfl
theorem isConst_g {t : Nat} : isConstO (.global t) = false := rfl
theorem isConst_f {t : Nat} : isConstO (.func t) = false := rfl
end

attribute [go_sem] eW_makeSlice makeSliceW_int ex_map ex_map' lookR_some lookR_none deleteW_mp keyOk_int keyOk_str findE_nil lenEW_vs lenEW_rs lenEW_z lenEW_lit lenEW_vp lenEW_agg lenEW_ptr lenEW_mp eW_delete eW_makeMap makeMapW_none makeMapW_some eW_lookup lookupW_mp eW_update updateW_mp lookV_t lookV_f putE_none putE_some appendW_app fieldAddrW_vp fieldAddrW_ptr fieldW_agg partW_one partW_agg gW_none gW_some lk_cons lk_nil putF_some putF_none ev_tmp ev_bool ev_int ev_string ev_nilIface ev_nilFunc ev_pointer ev_slice ev_map ev_agg ev_func ev_global eW_move pW_move eW_assign pW_assign eW_pick pW_pick eW_extract pW_extract eW_makeInterface pW_makeInterface eW_makeFunc pW_makeFunc eW_nilCheck pW_nilCheck eW_fieldAddr pW_fieldAddr eW_field pW_field eW_indexAddr pW_indexAddr eW_index pW_index eW_binOp pW_binOp eW_unOp pW_unOp eW_convert pW_convert eW_slice pW_slice eW_build pW_build eW_load pW_load eW_store loadEW_vp loadEW_ptr loadPW_vp storeEW_ptr loadC_agg loadC_one eW_box eW_alloc eW_buildSlice eW_call pW_call callW_fn callP_fn eW_len pW_len eW_min pW_min eW_max pW_max eW_append binW_ii binW_ss binW_eql_bb binW_neq_bb binW_eql_nn binW_neq_nn binW_eql_in binW_neq_in binW_eql_ni binW_neq_ni binW_eql_pnn binW_neq_pnn binW_eql_vpn binW_neq_vpn binW_eql_ptn binW_neq_ptn binW_eql_snn binW_neq_snn binW_eql_mnn binW_neq_mnn binW_eql_mpn binW_neq_mpn binW_eql_fnn binW_neq_fnn binW_eql_fn binW_neq_fn intW_add intW_sub intW_mul intW_quo intW_rem intW_and intW_or intW_xor intW_andNot intW_shl intW_shr intW_eql intW_neq intW_lss intW_leq intW_gtr intW_geq strW_eql strW_neq strW_lss strW_leq strW_gtr strW_geq strW_add unW_not unW_neg unW_xor convW_int convW_str convGW_sb convGW_ss convGW_int convGW_vs eW_range eW_next rangeW_str nextW_ptr nextV_s indexAddrW_vs indexAddrW_rs indexAddrW_vp indexAddrW_ptr indexW_str indexW_agg partW_one ite_litB lenW_vs lenW_rs lenW_z lenW_nil lenW_str minW_min minW_max bndW_none bndW_some bndV_int sliceW_str sliceW_vs sliceW_vs3 sliceW_rs sliceW_rs3 sliceW_nil sliceW_z there_vp there_ptr there_iface there_fnf known_lit_int cells_lit_int cell_lit_int known_lit_bool cells_lit_bool cell_lit_bool known_lit_str cells_lit_str cell_lit_str known_lit_ni cells_lit_ni cell_lit_ni known_lit_nf cells_lit_nf cell_lit_nf known_lit_ptr cells_lit_ptr cell_lit_ptr known_lit_sl cells_lit_sl cell_lit_sl known_lit_map cells_lit_map cell_lit_map known_vs cells_vs cell_vs known_vp cells_vp cell_vp known_z cells_z cell_z known_rs cells_rs cell_rs known_ptr cells_ptr cell_ptr known_mp cells_mp cell_mp known_iface cells_iface cell_iface known_fn cells_fn cell_fn known_agg cells_agg allCell_nil allCell_cons denseW_nil denseW_cons srcW_vs srcW_str srcW_nil srcW_z srcW_rs appW_z appW_nil fillW_nil splice_zero splice_succ argsF_eq AThen_n AThen_e AThen_r ABlock_n ABlock_r ABlock_e resOf_one resOf_two isConst_c isConst_t isConst_g isConst_f
attribute [go_sem] List.zipIdx_cons List.zipIdx_nil List.map_cons List.map_nil List.length_cons List.length_nil List.length_map List.append_nil List.nil_append List.cons_append List.getElem?_cons_zero List.getElem?_cons_succ List.getElem?_nil List.head?_cons List.take_succ_cons List.take_zero List.take_nil List.drop_succ_cons List.drop_zero List.drop_nil List.flatMap_cons List.flatMap_nil List.flatten_cons List.flatten_nil List.getD_cons_zero List.getD_cons_succ
attribute [go_sem] Int.toNat_natCast Int.toNat_zero Option.some.injEq Option.bind_some Option.map_some Option.isSome_some Option.isSome_none exists_eq' exists_eq_left' exists_eq_left exists_eq_right exists_and_left exists_const true_and and_true and_false false_and or_true or_false true_or false_or ne_eq not_true_eq_false not_false_eq_true false_implies true_implies forall_const Bool.not_eq_true Bool.not_true Bool.not_false Bool.or_true Bool.or_false Bool.true_or Bool.false_or Bool.true_and Bool.and_true Bool.false_and Bool.and_false Bool.false_eq_true Bool.true_eq_false Bool.or_self Bool.and_self decide_true decide_false if_true if_false and_self
attribute [go_sem] TypeDesc.slice.injEq TypeDesc.pointer.injEq TypeDesc.array.injEq TypeDesc.struct.injEq TypeDesc.int.injEq TypeDesc.map.injEq TypeDesc.interface.injEq PV.lit.injEq PV.fn.injEq PV.vp.injEq PV.tup.injEq PV.agg.injEq PV.ptr.injEq PV.iface.injEq Value.bool.injEq Value.int.injEq Value.string.injEq Fn.func.injEq Chk.yes wrap_i64 getD_map notIface
end Go.Abs
