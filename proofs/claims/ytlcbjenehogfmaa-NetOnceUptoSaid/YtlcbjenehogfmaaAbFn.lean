/- What each operation asks and gives, by one function over its text; what a function's body gives. -/
import Derived.Test.YtlcbjenehogfmaaAbRegion
import Derived.Test.YtlcbjenehogfmaaAbAppend
import Derived.Test.YtlcbjenehogfmaaAbIter
import Derived.Test.YtlcbjenehogfmaaAbMake
set_option linter.unusedSimpArgs false
set_option linter.unusedVariables false
namespace Go.Abs
open Go

section
variable {P : Program} {glob : Nat → PV} {n : Nat} {ρ : Operand → PV} {σ : Store}

theorem eff_boxF {dst : Option Tmp} {ty : TypeId} {pos : String} {after : Array Edge} {guard : Option (Nat × Bool)} (T : TypeId) (x : Operand) {K : PV → Store → Prop} (hk : (ρ x).known = true) (ha : allCell (ρ x).cells = true)
    (h : K (.vp (ρ x).cells) σ) : OpOk P glob ⟨dst, .box T x, ty, pos, after, guard⟩ ρ σ K :=
  .freeze (eff_box T x hk ha fun o ho => ⟨o, _, Store.set_same, by rw [set_drop ho]; simpa [frz] using h⟩)

theorem eff_buildSliceF {dst : Option Tmp} {ty : TypeId} {pos : String} {after : Array Edge} {guard : Option (Nat × Bool)} (T : TypeId) (len : Nat) (parts : Array (Nat × Operand)) {e k : Nat} {d : TypeDesc} (hT : P.underlying T = some (.slice e)) (he : P.underlying e = some d) (hk : P.cellsOf e = k) {zc : List PV} (hz : zeroCells P e = some zc)
    (hlen : (parts.toList.map fun (i, x) => (i, ρ x)).length = len) (hd : denseW k 0 (parts.toList.map fun (i, x) => (i, ρ x)) = true) (hsz : len * k ≤ 16777216)
    (ha : allCell ((parts.toList.map fun (i, x) => (i, ρ x)).flatMap fun x => x.2.cells) = true) {K : PV → Store → Prop}
    (h : K (.vs k ((parts.toList.map fun (i, x) => (i, ρ x)).map fun x => x.2.cells)) σ) :
    OpOk P glob ⟨dst, .buildSlice T len parts, ty, pos, after, guard⟩ ρ σ K := by
  refine .freeze (eff_buildSlice T len parts hT he hk hz hlen hd hsz ha fun o ho => ⟨o, _, Store.set_same, ?_⟩)
  rw [set_drop ho]
  generalize (parts.toList.map fun (i, x) => (i, ρ x)) = ps at *
  have hall : ∀ (qs : List (Nat × PV)) s, denseW k s qs = true → ∀ x ∈ qs, x.2.cells.length = k := by
    intro qs
    induction qs with
    | nil => intro s _ x hx; cases hx
    | cons y qs ih =>
      intro s hd x hx
      obtain ⟨i, p⟩ := y
      simp only [denseW, Bool.and_eq_true, decide_eq_true_eq] at hd
      rcases List.mem_cons.1 hx with rfl | hx
      · exact hd.1.2
      · exact ih _ hd.2 x hx
  have hrows : ∀ (qs : List (Nat × PV)), (∀ x ∈ qs, x.2.cells.length = k) → (qs.flatMap fun x => x.2.cells).length = qs.length * k ∧
      (List.range qs.length).map (fun i => ((qs.flatMap fun x => x.2.cells).drop (i * k)).take k) = qs.map fun x => x.2.cells := by
    intro qs
    induction qs with
    | nil => intro _; simp
    | cons y qs ih =>
      intro hq
      obtain ⟨h1, h2⟩ := ih fun x hx => hq x (by simp [hx])
      have hy := hq y (by simp)
      refine ⟨by simp only [List.flatMap_cons, List.length_append, h1, hy, List.length_cons, Nat.succ_mul]; omega, ?_⟩
      rw [List.length_cons, List.range_succ_eq_map, List.map_cons, List.map_map, List.map_cons, ← h2]
      congr 1
      · simp [hy]
      · apply List.map_congr_left
        intro i _
        simp only [Function.comp_apply, List.flatMap_cons]
        rw [List.drop_append, hy, show (i + 1) * k - k = i * k by rw [Nat.succ_mul]; omega]
        rw [List.drop_of_length_le (by rw [hy, Nat.succ_mul]; omega), List.nil_append]
  obtain ⟨h1, h2⟩ := hrows ps (hall ps 0 hd)
  have : frz o (ps.flatMap fun x => x.2.cells) (.rs k o 0 len len) = .vs k (ps.map fun x => x.2.cells) := by
    unfold frz
    simp only [Nat.zero_add]
    rw [if_pos ⟨trivial, by rw [h1, hlen]; exact Nat.le_refl _⟩, ← h2, hlen]
  rw [this]; exact h

variable (P glob) in
def callPW (ρ : Operand → PV) (c : Call) (K : PV → Prop) : Prop :=
  match c with
  | ⟨.builtin b, args, Ts⟩ => match b, args.toList, Ts.toList with
    | .len, [x], [T] => lenW P T (ρ x) K
    | .min, [x, y], _ => minW .min (ρ x) (ρ y) K
    | .max, [x, y], _ => minW .max (ρ x) (ρ y) K
    | _, _, _ => False
  | ⟨.value f, args, _⟩ => ∃ g first cap r, ρ f = .fn (.func g) first cap ∧ Pur P glob g (first ++ args.toList.map ρ ++ cap) r ∧ K r
  | _ => False

variable (P glob) in
/-- An operation that yields what it yields whatever is owned. -/
def pW (op : Op) (ρ : Operand → PV) (K : PV → Prop) : Prop :=
  match op with
  | .move x | .assign x => K (ρ x)
  | .pick c x y => ∃ t, ρ c = .lit (.bool t) ∧ K (if t then ρ x else ρ y)
  | .extract x i => ∃ ps p, ρ x = .tup ps ∧ ps[i]? = some p ∧ K p
  | .makeInterface T x => (∃ d, P.underlying T = some d ∧ notIface d = true) ∧ K (.iface T (ρ x))
  | .makeFunc f first cap => K (.fn f (first.toList.map ρ) (cap.toList.map ρ))
  | .nilCheck x => (ρ x).there = true ∧ K (ρ x)
  | .fieldAddr S x f => fieldAddrW P S (ρ x) f K
  | .field S x f => fieldW P S (ρ x) f K
  | .indexAddr T x i => indexAddrW P T (ρ x) (ρ i) K
  | .index T x i => indexW P T (ρ x) (ρ i) K
  | .load T x => ∃ cs, ρ x = .vp cs ∧ loadC P T cs K
  | .binOp op T x y _ => binW P op T (isConstO x || isConstO y) (ρ x) (ρ y) K
  | .unOp op _ x => unW op (ρ x) K
  | .convert src dt x => convW P src dt (ρ x) K
  | .slice T x lo hi mx => sliceW P T (ρ x) ρ lo hi mx K
  | .build T parts => buildW P T (parts.toList.map fun (i, x) => (i, ρ x)) K
  | .call c => callPW P glob ρ c K
  | .typeAssert x _ T c => assertW P T c (ρ x) K
  | _ => False

theorem arr2 {α : Type} {a : Array α} {l : List α} (h : a.toList = l) : a = l.toArray := by cases a; simp at h; simp [h]

theorem pW_sound {o : Oper} {K : PV → Prop} (h : pW P glob o.op ρ K) : ∃ r, OpPure P glob o ρ r ∧ K r := by
  obtain ⟨dst, op, ty, pos, after, guard⟩ := o
  cases op <;> simp only [pW] at h <;> first
    | exact h.elim
    | exact ⟨_, pure_move _, h⟩
    | exact ⟨_, pure_assign _, h⟩
    | exact pure_assert _ _ _ _ h
    | (obtain ⟨t, h1, h2⟩ := h; exact ⟨_, pure_pick _ _ _ h1, h2⟩)
    | (obtain ⟨ps, p, h1, h2, h3⟩ := h; exact ⟨_, pure_extract _ _ h1 h2, h3⟩)
    | (obtain ⟨⟨d, h1, h2⟩, h3⟩ := h; exact ⟨_, pure_makeInterface _ _ h1 h2, h3⟩)
    | exact ⟨_, pure_makeFunc _ _ _, h⟩
    | exact ⟨_, pure_nilCheck _ h.1, h.2⟩
    | exact pure_fieldAddr _ _ _ h
    | exact pure_field _ _ _ h
    | exact pure_indexAddr _ _ _ h
    | exact pure_index _ _ _ h
    | (obtain ⟨cs, h1, h2⟩ := h; exact pure_load _ _ h1 h2)
    | exact pure_binOp _ _ _ _ _ h
    | exact pure_unOp _ _ _ h
    | exact pure_convert _ _ _ h
    | exact pure_slice _ _ _ _ _ h
    | exact pure_build _ _ h
    | skip
  rename_i c
  unfold callPW at h
  split at h
  · rename_i b args Ts
    split at h
    · rename_i x T h1 h2
      rw [arr2 h1, arr2 h2]; exact pure_len T x h
    · rename_i x y h1
      rw [arr2 h1]; exact pure_min .min Ts x y h
    · rename_i x y h1
      rw [arr2 h1]; exact pure_min .max Ts x y h
    · exact h.elim
  · rename_i f args Ts
    obtain ⟨g, first, cap, r, h1, h2, h3⟩ := h
    exact ⟨r, fun σ => eff_call f args Ts h1 (h2 σ), h3⟩
  · exact h.elim

variable (P glob) in
def callEW (ρ : Operand → PV) (σ : Store) (c : Call) (K : PV → Store → Prop) : Prop :=
  match c with
  | ⟨.builtin b, args, Ts⟩ => match b, args.toList, Ts.toList with
    | .append, [x, y], [T, U] => appendW P T U σ (ρ x) (ρ y) K
    | .len, [x], [T] => lenEW P T σ (ρ x) K
    | .delete, [m, k], (T :: _) => deleteW P T σ (ρ m) (ρ k) K
    | .min, [x, y], _ => minW .min (ρ x) (ρ y) fun r => K r σ
    | .max, [x, y], _ => minW .max (ρ x) (ρ y) fun r => K r σ
    | .clear, [x], [T] => clearW P T σ (ρ x) K
    | _, _, _ => False
  | ⟨.value f, args, _⟩ => ∃ g first cap, ρ f = .fn (.func g) first cap ∧ ACalls P glob g (first ++ args.toList.map ρ ++ cap) σ K
  | ⟨.invoke x name, args, _⟩ => ∃ t p p' g, ρ x = .iface t p ∧ MethodIs P t name g p p' ∧ ACalls P glob g (p' :: args.toList.map ρ) σ K

variable (P glob) in
/-- Any operation. -/
def eW (op : Op) (ρ : Operand → PV) (σ : Store) (K : PV → Store → Prop) : Prop :=
  match op with
  | .box _ x => (ρ x).known = true ∧ allCell (ρ x).cells = true ∧ ((∀ o, σ o = none → K (.ptr o 0) (σ.set o (.cells (ρ x).cells))) ∨ K (.vp (ρ x).cells) σ)
  | .alloc T => ∃ zc, zeroCells P T = some zc ∧ allCell zc = true ∧ ∀ o, σ o = none → K (.ptr o 0) (σ.set o (.cells zc))
  | .range T x => rangeW P T σ (ρ x) K
  | .next x true => nextW σ (ρ x) K
  | .convert S T x => convGW P S T (ρ x) σ K
  | .load T x => match ρ x with
    | .vp cs => loadC P T cs fun r => K r σ
    | .ptr o off => ∃ cs, σ o = some (.cells cs) ∧ Chk (off ≤ cs.length) ∧ loadC P T (cs.drop off) fun r => K r σ
    | _ => False
  | .store T x y => match ρ x with
    | .ptr o off => ∃ cs, σ o = some (.cells cs) ∧ (∃ d, P.underlying T = some d) ∧ (ρ y).known = true ∧ Chk ((ρ y).cells.length = P.cellsOf T) ∧ allCell (ρ y).cells = true ∧ Chk (off + (ρ y).cells.length ≤ cs.length) ∧
        K .any (σ.set o (.cells (splice cs off (ρ y).cells)))
    | _ => False
  | .buildSlice T len parts => ∃ e k d zc, P.underlying T = some (.slice e) ∧ P.underlying e = some d ∧ P.cellsOf e = k ∧ zeroCells P e = some zc ∧ (parts.toList.map fun (i, x) => (i, ρ x)).length = len ∧
      denseW k 0 (parts.toList.map fun (i, x) => (i, ρ x)) = true ∧ Chk (len * k ≤ 16777216) ∧ allCell ((parts.toList.map fun (i, x) => (i, ρ x)).flatMap fun x => x.2.cells) = true ∧
      ((∀ o, σ o = none → K (.rs k o 0 len len) (σ.set o (.cells ((parts.toList.map fun (i, x) => (i, ρ x)).flatMap fun x => x.2.cells)))) ∨ K (.vs k ((parts.toList.map fun (i, x) => (i, ρ x)).map fun x => x.2.cells)) σ)
  | .call c => callEW P glob ρ σ c K
  | .makeMap T r => makeMapW P T (r.map ρ) σ K
  | .lookup T m k c => lookupW P T c σ (ρ m) (ρ k) fun r => K r σ
  | .mapUpdate T m k x => updateW P T σ (ρ m) (ρ k) (ρ x) K
  | .makeSlice T l c => makeSliceW P T σ (ρ l) (ρ c) K
  | op => pW P glob op ρ fun r => K r σ

theorem OpOk.of_pW {o : Oper} {K : PV → Store → Prop} (h : pW P glob o.op ρ fun r => K r σ) : OpOk P glob o ρ σ K := by
  obtain ⟨r, h1, h2⟩ := pW_sound h
  exact h1.ok h2

theorem eW_sound {o : Oper} {K : PV → Store → Prop} (h : eW P glob o.op ρ σ K) : OpOk P glob o ρ σ K := by
  obtain ⟨dst, op, ty, pos, after, guard⟩ := o
  cases op <;> simp only [eW] at h
  case box T x =>
    rcases h.2.2 with h2 | h2
    · exact eff_box _ _ h.1 h.2.1 h2
    · exact eff_boxF _ _ h.1 h.2.1 h2
  case range => exact eff_range _ _ h
  case convert => exact eff_convert _ _ _ h
  case next x b =>
    cases b
    · exact h.elim
    · exact eff_next _ h
  case alloc => obtain ⟨zc, h1, h2, h3⟩ := h; exact eff_alloc _ h1 h2 h3
  case load T x =>
    split at h
    · rename_i cs hx
      obtain ⟨r, h1, h2⟩ := pure_load T x hx h
      exact h1.ok h2
    · rename_i o off hx
      obtain ⟨cs, h1, h2, h3⟩ := h
      exact eff_load T x hx h1 h2 h3
    · exact h.elim
  case makeMap T r => exact eff_makeMap T r h
  case lookup T m k c =>
    obtain ⟨r, h1, h2⟩ := eff_lookup T m k c h
    exact h1.mono fun _ _ ⟨e1, e2⟩ => by rw [e1, e2]; exact h2
  case mapUpdate T m k x => exact eff_update T m k x h
  case makeSlice T l c => exact eff_makeSlice T l c h
  case store T x y =>
    split at h
    · rename_i o off hx
      obtain ⟨cs, h1, ⟨d, h2⟩, h3, h4, h5, h6, h7⟩ := h
      exact eff_store T x y hx h1 h2 h3 h4 h5 h6 h7
    · exact h.elim
  case buildSlice T len parts =>
    obtain ⟨e, k, d, zc, h1, h2, h3, h4, h5, h6, h7, h8, h9⟩ := h
    rcases h9 with h9 | h9
    · exact eff_buildSlice T len parts h1 h2 h3 h4 h5 h6 h7 h8 h9
    · exact eff_buildSliceF T len parts h1 h2 h3 h4 h5 h6 h7 h8 h9
  case call c =>
    unfold callEW at h
    split at h
    · rename_i b args Ts
      split at h
      · rename_i x y T U h1 h2
        rw [arr2 h1, arr2 h2]; exact eff_append T U x y h
      · rename_i x T h1 h2
        rw [arr2 h1, arr2 h2]; exact eff_len T x h
      · rename_i m k T Us h1 h2
        rw [arr2 h1, arr2 h2]; exact eff_delete T Us m k h
      · rename_i x y h1
        rw [arr2 h1]; obtain ⟨r, h3, h4⟩ := pure_min .min Ts x y h; exact h3.ok h4
      · rename_i x y h1
        rw [arr2 h1]; obtain ⟨r, h3, h4⟩ := pure_min .max Ts x y h; exact h3.ok h4
      · rename_i x T h1 h2
        rw [arr2 h1, arr2 h2]; exact eff_clear T x h
      · exact h.elim
    · rename_i f args Ts
      obtain ⟨g, first, cap, h1, h2⟩ := h
      exact eff_call f args Ts h1 h2
    · rename_i x name args Ts
      obtain ⟨t, p, p', g, h1, h2, h3⟩ := h
      exact eff_invoke x name args Ts h1 h2 h3
  all_goals exact .of_pW h

/-! Lists of operations. -/

variable (P glob) in
/-- The guard, then the operation. -/
def gW (ops : Array Oper) (l : Fram) (o : Oper) (run skip : Prop) : Prop :=
  match o.guard with
  | none => run
  | some (j, want) => ∃ d t, (ops[j]?).bind (·.dst) = some d ∧ lk l d = .lit t ∧ (asB t = some want → run) ∧ (asB t ≠ some want → skip)

theorem gW_gd {ops : Array Oper} {l : Fram} {o : Oper} {run skip : Prop} (h : gW ops l o run skip) : ∃ b, gd ops (lk l) o b ∧ (b = true → run) ∧ (b = false → skip) := by
  unfold gW at h
  unfold gd
  split at h
  · rename_i hg; exact ⟨true, by simp [hg], fun _ => h, fun e => by cases e⟩
  · rename_i j want hg
    obtain ⟨d, t, h1, h2, h3, h4⟩ := h
    refine ⟨asB t == some want, by simp only [hg]; exact ⟨d, t, h1, h2, rfl⟩, fun e => h3 (by simpa using e), fun e => h4 (by simpa using e)⟩

variable (P glob) in
def opsW (ops : Array Oper) : List Oper → Fram → Store → (Fram → Store → Prop) → Prop
  | [], l, σ, K => K l σ
  | o :: r, l, σ, K => gW ops l o (eW P glob o.op (ev glob l) σ fun p σ' => opsW ops r (putF l o.dst p) σ' K) (opsW ops r (putF l o.dst (.lit undef)) σ K)

theorem opsW_AL {ops : Array Oper} {K : Fram → Store → Prop} : ∀ (r : List Oper) (l : Fram) (σ : Store), opsW P glob ops r l σ K → AL P glob ops K r l σ
  | [], _, _, h => h
  | o :: r, l, σ, h => by
    obtain ⟨b, h1, h2, h3⟩ := gW_gd h
    exact ⟨b, h1, fun e => (eW_sound (h2 e)).mono fun p σ' hk => opsW_AL r _ σ' hk, fun e => opsW_AL r _ σ (h3 e)⟩

variable (P glob) in
def opsDW (ops : Array Oper) : List (Oper × Bool) → Fram → Store → (Fram → Store → Prop) → Prop
  | [], l, σ, K => K l σ
  | (o, true) :: r, l, σ, K => gW ops l o (pW P glob o.op (ev glob l) fun p => opsDW ops r (putF l o.dst p) σ K) (opsDW ops r (putF l o.dst (.lit undef)) σ K)
  | (o, false) :: r, l, σ, K => gW ops l o (eW P glob o.op (ev glob l) σ fun p σ' => opsDW ops r (putF l o.dst p) σ' K) (opsDW ops r (putF l o.dst (.lit undef)) σ K)

theorem opsDW_ALD {ops : Array Oper} {K : Fram → Store → Prop} : ∀ (r : List (Oper × Bool)) (l : Fram) (σ : Store), opsDW P glob ops r l σ K → ALD P glob ops K r l σ
  | [], _, _, h => h
  | (o, true) :: r, l, σ, h => by
    obtain ⟨b, h1, h2, h3⟩ := gW_gd h
    refine ⟨b, h1, fun e => ?_, fun e => opsDW_ALD r _ σ (h3 e)⟩
    obtain ⟨p, hp, hk⟩ := pW_sound (h2 e)
    exact ⟨p, hp, opsDW_ALD r _ σ hk⟩
  | (o, false) :: r, l, σ, h => by
    obtain ⟨b, h1, h2, h3⟩ := gW_gd h
    exact ⟨b, h1, fun e => (eW_sound (h2 e)).mono fun p σ' hk => opsDW_ALD r _ σ' hk, fun e => opsDW_ALD r _ σ (h3 e)⟩

theorem AWp.reg {id : Nat} {os : List Oper} {l : Fram} {Q : Post} (hd : dstOk n os.toArray = true) (h : opsW P glob os.toArray os l σ (fun l σ => Q .normal l σ)) : AWp P glob n (.region id os.toArray false) l σ Q :=
  .region hd (opsW_AL os l σ h)

theorem AWp.regD {id : Nat} {os : List Oper} {l : Fram} {Q : Post} (ord : List (Nat × Bool)) (r : List (Oper × Bool)) (hm : P.follows .mixedOrders = true) (hB : (dstOk n os.toArray && (ord.length == os.length) && okOrd os.toArray ord (Array.replicate os.length false)) = true)
    (hr : ord.map (fun x => (os.toArray[x.1]?, x.2)) = r.map (fun x => (some x.1, x.2))) (h : opsDW P glob os.toArray r l σ (fun l σ => Q .normal l σ)) : AWp P glob n (.region id os.toArray true) l σ Q := by
  simp only [Bool.and_eq_true, beq_iff_eq] at hB
  exact .regionD hm hB.1.1 ord hB.1.2 hB.2 r hr (opsDW_ALD r l σ h)

/-! The end of a function. -/

variable (P) in
def resW (l : Fram) (σ : Store) : List ResultVar → (List PV → Prop) → Prop
  | [], K => K []
  | .tmp t :: rs, K => resW l σ rs fun ps => K (lk l t :: ps)
  | .cell a T :: rs, K => ∃ o off cs, lk l a = .ptr o off ∧ σ o = some (.cells cs) ∧ Chk (off ≤ cs.length) ∧ loadC P T (cs.drop off) fun r => resW l σ rs fun ps => K (r :: ps)

/-- What is handed back: what is owned may be frozen, forgotten; less may be said. -/
inductive Hand (K : PV → Store → Prop) : PV → Store → Prop
  | done {p q : PV} {σ σ' : Store} (hl : Le p q) (hs : Sub σ' σ) (h : K q σ') : Hand K p σ
  | freeze {p : PV} {σ : Store} {o : Nat} {cs : List PV} (hσ : σ o = some (.cells cs)) (h : Hand K (frz o cs p) (σ.drop o)) : Hand K p σ

theorem Hand.give {K : PV → Store → Prop} {p : PV} {σ : Store} (h : Hand K p σ) : ∀ {gh : Gh} {w : World} {v : Value}, R glob gh σ w → Rep gh w v p → ∃ gh' r σ', Ext gh w gh' w ∧ R glob gh' σ' w ∧ Rep gh' w v r ∧ K r σ' := by
  induction h with
  | done hl hs h => exact fun {gh w v} hR hv => ⟨gh, _, _, .refl _ _, hR.sub hs, hl _ _ _ hv, h⟩
  | freeze hσ _ ih =>
    intro gh w v hR hv
    obtain ⟨gh1, x1, hR1, hf⟩ := rep_frz hσ hR
    obtain ⟨gh2, r, σ2, x2, hR2, hv2, hk⟩ := ih hR1 (hf _ _ hv)
    exact ⟨gh2, r, σ2, x1.trans x2, hR2, hv2, hk⟩

theorem run_results {gh : Gh} {w : World} {l : Fram} {a : Act} (hR : R glob gh σ w) (hF : Fr gh w n l a) : ∀ (rs : List ResultVar) (K : List PV → Prop), resW P l σ rs K →
    ∃ vs ps, (rs.mapM (fun | .tmp t => pure (a.tmps.getD t undef) | .cell x t => do loadVar t (← asAddr (a.tmps.getD x undef)) : ResultVar → Sem Value)).run P w = .ok vs w ∧ vs.length = ps.length ∧ (∀ i p, ps[i]? = some p → Rep gh w (vs.getD i undef) p) ∧ K ps
  | [], K, h => ⟨[], [], rfl, rfl, fun i p hi => by simp at hi, h⟩
  | .tmp t :: rs, K, h => by
    obtain ⟨vs, ps, h1, h2, h3, h4⟩ := run_results hR hF rs _ h
    refine ⟨a.tmps.getD t undef :: vs, lk l t :: ps, ?_, by simp [h2], fun i p hi => ?_, h4⟩
    · simp only [List.mapM_cons, Sem.run_bind, Sem.run_pure, Result.andThen_ok, h1]
    · cases i with
      | zero => simp at hi; subst hi; simpa using hF.2.2 t
      | succ i => simp at hi; simpa using h3 i p hi
  | .cell x T :: rs, K, h => by
    obtain ⟨o, off, cs, hx, hσ, hoff, h⟩ := h
    have hoff := hoff.out
    have e := hF.2.2 x
    rw [hx] at e
    generalize hv : a.tmps.getD x undef = v at e
    cases e with
    | ptr _ _ s hG =>
      obtain ⟨s', g1, _, _, g4⟩ := hR.ob o _ hσ
      rw [hG] at g1
      cases g1
      obtain ⟨f, f1, f2⟩ := ObOk.read g4
      obtain ⟨v, r, r1, r2, r3⟩ := run_loadVar_rep (P := P) (gh := gh) (w := w) (b := s.b) (off := s.base + off) (f := fun i => f (off + i)) (cs := cs.drop off)
        (fun i hi => by simp at hi; rw [Nat.add_assoc]; exact f1 _ (by omega)) (fun i p hi => by rw [List.getElem?_drop] at hi; exact f2 _ _ hi) h
      obtain ⟨vs, ps, h1, h2, h3, h4⟩ := run_results hR hF rs _ r3
      refine ⟨v :: vs, r :: ps, ?_, by simp [h2], fun i p hi => ?_, h4⟩
      · have ha : (asAddr (a.tmps.getD x undef)).run P w = .ok ⟨s.b, s.base + off, none⟩ w := by rw [hv]; rfl
        simp only [List.mapM_cons, Sem.run_bind, ha, Result.andThen_ok, r1, h1, Sem.run_pure]
      · cases i with
        | zero => simp at hi; subst hi; simpa using r2
        | succ i => simp at hi; simpa using h3 i p hi

variable (P) in
/-- The end of a body. -/
def endW (rs : List ResultVar) (l : Fram) (σ : Store) (K : PV → Store → Prop) : Prop := resW P l σ rs fun ps => Hand K (resOf ps) σ

variable (P) in
def retPost (rs : List ResultVar) (K : PV → Store → Prop) : Post
  | .normal, l, σ | .ret, l, σ => endW P rs l σ K
  | _, _, _ => False

def argsF (args : List PV) : Fram := args.zipIdx.map fun (p, i) => (i, p)

theorem look_args (args : List PV) (k t : Nat) : lk ((args.zipIdx k).map fun (p, i) => (i, p)) t = if k ≤ t then (args[t - k]?).getD .any else .any := by
  induction args generalizing k with
  | nil => simp [lk]
  | cons p args ih =>
    simp only [List.zipIdx_cons, List.map_cons, lk]
    rw [ih (k + 1)]
    by_cases h : t = k
    · subst h; simp
    · rw [if_neg h]
      by_cases h2 : k + 1 ≤ t
      · rw [if_pos h2, if_pos (by omega), show t - k = (t - (k + 1)) + 1 by omega, List.getElem?_cons_succ]
      · rw [if_neg h2, if_neg (by omega)]

theorem ACalls.of_body {f : FuncId} {fn : Func} {c : Code} {args : List PV} {K : PV → Store → Prop} (hf : P.funcs[f]? = some fn) (hb : fn.body = some c) (hname : (fn.name == "runtime.NumGoroutine") = false) (hn : fn.ntmps = n) (hargs : args.length ≤ n)
    (h : AWp P glob n c (argsF args) σ (retPost P fn.results.toList K)) : ACalls P glob f args σ K := by
  intro gh w vs hR hv
  refine .inl ⟨⟨fn, hf, by simp [hb], hname⟩, ?_⟩
  have hF : Fr gh w n (argsF args) { tmps := vs.toArray ++ Array.replicate (fn.ntmps - vs.toArray.size) undef, defers := [] } := by
    refine ⟨by have := hv.1; simp; omega, rfl, fun t => ?_⟩
    unfold argsF
    rw [look_args args 0 t]
    simp only [Nat.zero_le, if_true, Nat.sub_zero]
    cases ht : args[t]? with
    | none => exact .any _
    | some p =>
      have hlt : t < vs.length := by rw [hv.1]; exact (List.getElem?_eq_some_iff.1 ht).1
      have : (vs.toArray ++ Array.replicate (fn.ntmps - vs.toArray.size) undef).getD t undef = vs.getD t undef := by
        simp [Array.getElem?_append, hlt]
      rw [this]
      exact hv.2 t p ht
  refine calls_of_wp hf hb (wp_mono (h gh w _ hR hF) ?_)
  rintro e a' w' ⟨gh', l', σ', x, hR', hF', hq⟩
  have fin : endW P fn.results.toList l' σ' K → a'.defers = [] ∧ ∃ v, (results fn a'.tmps).run P w' = .ok v w' ∧ ∃ u, Ending.returned v = .returned u ∧ ∃ gh' r σ', Ext gh w gh' w' ∧ R glob gh' σ' w' ∧ Rep gh' w' u r ∧ K r σ' := fun hq => by
    refine ⟨hF'.2.1, ?_⟩
    obtain ⟨us, ps, r1, r2, r3, r4⟩ := run_results hR' hF' fn.results.toList _ hq
    have hrun : (results fn a'.tmps).run P w' = .ok (if h : us.toArray.size = 1 then us.toArray[0] else .tuple us.toArray) w' := by
      unfold results
      rw [Sem.run_bind, Array.mapM_eq_mapM_toList, Sem.run_map]
      refine (congrArg (fun z => (Result.andThen z _).andThen _) r1).trans ?_
      simp only [Result.andThen_ok, Sem.run_pure]
    refine ⟨_, hrun, ?_⟩
    have hrep : Rep gh' w' (if h : us.toArray.size = 1 then us.toArray[0] else .tuple us.toArray) (resOf ps) := by
      cases ps with
      | nil =>
        have : us = [] := List.eq_nil_of_length_eq_zero r2
        subst this
        exact .tup _ _ rfl (fun i p hi => by simp at hi)
      | cons p ps =>
        cases ps with
        | nil =>
          have h0 := r3 0 p rfl
          obtain ⟨u, rfl⟩ : ∃ u, us = [u] := by
            match us, r2 with
            | [u], _ => exact ⟨u, rfl⟩
          simpa [resOf] using h0
        | cons q ps =>
          rw [dif_neg (by simp [r2])]
          exact .tup _ _ (by simpa using r2) (fun i p hi => by simpa using r3 i p hi)
    obtain ⟨gh2, r, σ2, x2, hR2, hv2, hk⟩ := r4.give hR' hrep
    exact ⟨_, rfl, gh2, r, σ2, x.trans x2, hR2, hv2, hk⟩
  cases e with
  | normal => exact fin hq
  | ret => exact fin hq
  | exit id => exact hq.elim
  | goto lb => exact hq.elim
  | panic ch => exact hq.elim
  | outgrown => exact hq.elim
end
end Go.Abs
