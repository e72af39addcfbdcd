/- Freezing in the middle of a walk; frames that say less. -/
import Derived.Test.YtlcbjenehogfmaaAbSimp
set_option linter.unusedSimpArgs false
set_option linter.unusedVariables false
namespace Go.Abs
open Go
section
variable {P : Program} {glob : Nat → PV} {n : Nat} {σ : Store} {l : Fram} {Q : Post}

theorem lk_frz (o : Nat) (cs : List PV) : ∀ (l : Fram) (t : Nat), lk (l.map fun x => (x.1, frz o cs x.2)) t = frz o cs (lk l t)
  | [], _ => rfl
  | (d, p) :: l, t => by
    simp only [List.map_cons, lk]
    split
    · rfl
    · exact lk_frz o cs l t

theorem ACalls.freeze {f : FuncId} {args : List PV} {K : PV → Store → Prop} {o : Nat} {cs : List PV} (hσ : σ o = some (.cells cs)) (h : ACalls P glob f (args.map (frz o cs)) (σ.drop o) K) : ACalls P glob f args σ K := by
  intro gh w vs hR hv
  obtain ⟨gh1, x1, hR1, hf⟩ := rep_frz hσ hR
  refine (h gh1 w vs hR1 ⟨by simpa using hv.1, fun i p hi => ?_⟩).mono ?_
  · simp only [List.getElem?_map, Option.map_eq_some_iff] at hi
    obtain ⟨q, hq, rfl⟩ := hi
    exact hf _ _ (hv.2 i q hq)
  · rintro v w' ⟨gh', r, σ', h1, h2, h3, h4⟩
    exact ⟨gh', r, σ', x1.trans h1, h2, h3, h4⟩

theorem AWp.freeze {c : Code} (o : Nat) {cs : List PV} (hσ : σ o = some (.cells cs)) (h : AWp P glob n c (l.map fun x => (x.1, frz o cs x.2)) (σ.drop o) Q) : AWp P glob n c l σ Q := by
  intro gh w a hR hF
  obtain ⟨gh1, x1, hR1, hf⟩ := rep_frz hσ hR
  refine wp_mono (h gh1 w a hR1 ⟨hF.1, hF.2.1, fun t => ?_⟩) ?_
  · rw [lk_frz]; exact hf _ _ (hF.2.2 t)
  · rintro e a' w' ⟨gh', l', σ', x, h1, h2, h3⟩
    exact ⟨gh', l', σ', x1.trans x, h1, h2, h3⟩

theorem AWp.forget {c : Code} {σ' : Store} (hs : Sub σ' σ) (h : AWp P glob n c l σ' Q) : AWp P glob n c l σ Q := h.weaken (.refl _) hs

theorem Pur.fz {f : FuncId} {args args' : List PV} {r : PV} {o : Nat} {cs : List PV} (hσ : σ o = some (.cells cs)) (h : Pur P glob f args' r) (ha : args.map (frz o cs) = args') {K : PV → Store → Prop} (hk : K r (σ.drop o)) : ACalls P glob f args σ K :=
  .freeze hσ (ha ▸ h.call hk)

theorem frz_rs1 {o : Nat} {α : Type} {g : α → PV} {L : List α} {len cap : Nat} (h : len = L.length) : frz o (L.map g) (.rs 1 o 0 len cap) = .vs 1 (L.map fun x => [g x]) := by
  subst h
  have e : (List.range L.length).map (fun i => ((L.map g).drop (0 + i * 1)).take 1) = L.map fun x => [g x] := by
    apply List.ext_getElem?
    intro i
    simp only [List.getElem?_map, Nat.zero_add, Nat.mul_one]
    by_cases hi : i < L.length
    · rw [List.getElem?_range hi]
      simp only [Option.map_some]
      rw [List.getElem?_eq_getElem hi]
      simp only [Option.map_some]
      congr 1
      rw [← List.map_drop, List.drop_eq_getElem_cons hi]
      rfl
    · simp [Nat.le_of_not_lt hi]
  unfold frz; show (if _ then _ else _) = _; rw [if_pos (by simp), e]
theorem frz_lit {o : Nat} {cs : List PV} {v : Value} : frz o cs (.lit v) = .lit v := rfl
theorem frz_vs {o : Nat} {cs : List PV} {k : Nat} {es : List (List PV)} : frz o cs (.vs k es) = .vs k es := rfl
theorem frz_vp {o : Nat} {cs : List PV} {es : List PV} : frz o cs (.vp es) = .vp es := rfl
theorem frz_any {o : Nat} {cs : List PV} : frz o cs .any = .any := rfl
theorem ACalls.of_body' {f : FuncId} {fn : Func} {c : Code} {args : List PV} {K : PV → Store → Prop} (rs : List ResultVar) (hf : P.funcs[f]? = some fn) (hb : fn.body = some c) (hname : (fn.name == "runtime.NumGoroutine") = false) (hn : fn.ntmps = n) (hargs : args.length ≤ n)
    (hr : fn.results.toList = rs) (h : AWp P glob n c (argsF args) σ (retPost P rs K)) : ACalls P glob f args σ K :=
  .of_body hf hb hname hn hargs (hr ▸ h)

theorem AWp.seqRet (h : Q .ret l σ) {y : Code} : AWp P glob n (.seq .ret y) l σ Q := .seq (.ret h)
theorem AWp.seqExit {i : Nat} (h : Q (.exit i) l σ) {y : Code} : AWp P glob n (.seq (.exit i) y) l σ Q := .seq (.exit h)
theorem AWp.seqSkip {y : Code} (h : AWp P glob n y l σ Q) : AWp P glob n (.seq .skip y) l σ Q := .seq (.skip h)
theorem AWp.seqBlock {i : Nat} {x y : Code} (h : AWp P glob n x l σ (ABlock i (AThen (fun l σ => AWp P glob n y l σ Q) Q))) : AWp P glob n (.seq (.block i x) y) l σ Q := .seq (.block h)
theorem AWp.seqScope {x y : Code} (h : AWp P glob n x l σ (ANoGoto (AThen (fun l σ => AWp P glob n y l σ Q) Q))) : AWp P glob n (.seq (.scope x) y) l σ Q := .seq (.scope h)
theorem AWp.seqLabel {i : Nat} {y : Code} (h : AWp P glob n y l σ Q) : AWp P glob n (.seq (.label i) y) l σ Q := .seq (.label h)
theorem ANoGoto_n : ANoGoto Q .normal l σ = Q .normal l σ := rfl
theorem ANoGoto_r : ANoGoto Q .ret l σ = Q .ret l σ := rfl
theorem ANoGoto_e {i : Nat} : ANoGoto Q (.exit i) l σ = Q (.exit i) l σ := rfl
attribute [go_sem] ANoGoto_n ANoGoto_r ANoGoto_e
theorem AWp.seqSeq {x y z : Code} (h : AWp P glob n (.seq x y) l σ (AThen (fun l σ => AWp P glob n z l σ Q) Q)) : AWp P glob n (.seq (.seq x y) z) l σ Q := .seq h
theorem retPost_r {rs : List ResultVar} {K : PV → Store → Prop} : retPost P rs K .ret l σ = endW P rs l σ K := rfl
theorem retPost_n {rs : List ResultVar} {K : PV → Store → Prop} : retPost P rs K .normal l σ = endW P rs l σ K := rfl
theorem endW_eq {rs : List ResultVar} {K : PV → Store → Prop} : endW P rs l σ K = resW P l σ rs fun ps => Hand K (resOf ps) σ := rfl
theorem resW_nil {K : List PV → Prop} : resW P l σ [] K = K [] := rfl
theorem resW_tmp {t : Tmp} {rs : List ResultVar} {K : List PV → Prop} : resW P l σ (.tmp t :: rs) K = resW P l σ rs fun ps => K (lk l t :: ps) := rfl
theorem resW_cell {a : Tmp} {T : TypeId} {rs : List ResultVar} {K : List PV → Prop} : resW P l σ (.cell a T :: rs) K = ∃ o off cs, lk l a = .ptr o off ∧ σ o = some (.cells cs) ∧ Chk (off ≤ cs.length) ∧ loadC P T (cs.drop off) fun r => resW P l σ rs fun ps => K (r :: ps) := rfl
theorem resOf_none : resOf [] = .tup [] := rfl
attribute [go_sem] retPost_r retPost_n endW_eq resW_nil resW_tmp resW_cell resOf_none
theorem Le.of_eq {p q : PV} (h : p = q) : Le p q := h ▸ .refl p
theorem LeF.eq {l l' : Fram} {t : Nat} {p q : PV} (hp : lk l t = p) (hq : p = q) (h : LeF l l') : LeF l ((t, q) :: l') := .cons hp (.of_eq hq) h
theorem litI {k : IntKind} {a b : Int} (h : a = b) : PV.lit (.int k a) = PV.lit (.int k b) := h ▸ rfl
theorem litD {a b : Prop} [Decidable a] [Decidable b] (h : a ↔ b) : PV.lit (.bool (decide a)) = PV.lit (.bool (decide b)) := by rw [decide_eq_decide.2 h]
theorem litD' {a : Prop} [Decidable a] {b : Bool} (h : a ↔ b = true) : PV.lit (.bool (decide a)) = PV.lit (.bool b) := by
  cases b <;> simp_all
theorem litB {a b : Bool} (h : a = b) : PV.lit (.bool a) = PV.lit (.bool b) := h ▸ rfl
theorem litS {a b : ByteArray} (h : a = b) : PV.lit (.string a) = PV.lit (.string b) := h ▸ rfl

/-! One operation, its guard apart. -/
theorem opsW_kn {ops : Array Oper} {dst : Option Tmp} {op : Op} {ty : TypeId} {pos : String} {after : Array Edge} {r : List Oper} {K : Fram → Store → Prop}
    (h : ∀ K' : Fram → Store → Prop, (∀ l σ, opsW P glob ops r l σ K → K' l σ) → eW P glob op (ev glob l) σ fun p σ' => K' (putF l dst p) σ') : opsW P glob ops (⟨dst, op, ty, pos, after, none⟩ :: r) l σ K :=
  h _ fun _ _ h => h
theorem opsW_kg {ops : Array Oper} {dst : Option Tmp} {op : Op} {ty : TypeId} {pos : String} {after : Array Edge} {j d : Nat} {want : Bool} {r : List Oper} {K : Fram → Store → Prop} (hj : (ops[j]?).bind (·.dst) = some d)
    (h : ∀ K' : Fram → Store → Prop, (∀ l σ, opsW P glob ops r l σ K → K' l σ) → ∃ t, lk l d = .lit t ∧ (asB t = some want → eW P glob op (ev glob l) σ fun p σ' => K' (putF l dst p) σ') ∧ (asB t ≠ some want → K' (putF l dst (.lit undef)) σ)) : opsW P glob ops (⟨dst, op, ty, pos, after, some (j, want)⟩ :: r) l σ K :=
  let ⟨t, h1, h2, h3⟩ := h _ fun _ _ h => h
  ⟨d, t, hj, h1, h2, h3⟩
theorem opsPW_kn {ops : Array Oper} {dst : Option Tmp} {op : Op} {ty : TypeId} {pos : String} {after : Array Edge} {r : List Oper} {K : Fram → Prop}
    (h : ∀ K' : Fram → Prop, (∀ l, opsPW P glob ops r l K → K' l) → pW P glob op (ev glob l) fun p => K' (putF l dst p)) : opsPW P glob ops (⟨dst, op, ty, pos, after, none⟩ :: r) l K :=
  h _ fun _ h => h
theorem opsPW_kg {ops : Array Oper} {dst : Option Tmp} {op : Op} {ty : TypeId} {pos : String} {after : Array Edge} {j d : Nat} {want : Bool} {r : List Oper} {K : Fram → Prop} (hj : (ops[j]?).bind (·.dst) = some d)
    (h : ∀ K' : Fram → Prop, (∀ l, opsPW P glob ops r l K → K' l) → ∃ t, lk l d = .lit t ∧ (asB t = some want → pW P glob op (ev glob l) fun p => K' (putF l dst p)) ∧ (asB t ≠ some want → K' (putF l dst (.lit undef)))) : opsPW P glob ops (⟨dst, op, ty, pos, after, some (j, want)⟩ :: r) l K :=
  let ⟨t, h1, h2, h3⟩ := h _ fun _ h => h
  ⟨d, t, hj, h1, h2, h3⟩
theorem opsDW_kpn {os : List Oper} {ops : Array Oper} {i : Nat} {dst : Option Tmp} {op : Op} {ty : TypeId} {pos : String} {after : Array Edge} {r : List (Nat × Bool)} {K : Fram → Store → Prop} (ho : os.getD i default = ⟨dst, op, ty, pos, after, none⟩)
    (h : ∀ K' : Fram → Store → Prop, (∀ l σ, opsDW P glob ops (pickO os r) l σ K → K' l σ) → pW P glob op (ev glob l) fun p => K' (putF l dst p) σ) : opsDW P glob ops (pickO os ((i, true) :: r)) l σ K := by
  simp only [pickO, opsDW, ho]
  exact h _ fun _ _ h => h
theorem opsDW_kpg {os : List Oper} {ops : Array Oper} {i : Nat} {dst : Option Tmp} {op : Op} {ty : TypeId} {pos : String} {after : Array Edge} {j d : Nat} {want : Bool} {r : List (Nat × Bool)} {K : Fram → Store → Prop} (ho : os.getD i default = ⟨dst, op, ty, pos, after, some (j, want)⟩) (hj : (ops[j]?).bind (·.dst) = some d)
    (h : ∀ K' : Fram → Store → Prop, (∀ l σ, opsDW P glob ops (pickO os r) l σ K → K' l σ) → ∃ t, lk l d = .lit t ∧ (asB t = some want → pW P glob op (ev glob l) fun p => K' (putF l dst p) σ) ∧ (asB t ≠ some want → K' (putF l dst (.lit undef)) σ)) : opsDW P glob ops (pickO os ((i, true) :: r)) l σ K := by
  simp only [pickO, opsDW, ho]
  obtain ⟨t, h1, h2, h3⟩ := h _ fun _ _ h => h
  exact ⟨d, t, hj, h1, h2, h3⟩
theorem opsDW_ken {os : List Oper} {ops : Array Oper} {i : Nat} {dst : Option Tmp} {op : Op} {ty : TypeId} {pos : String} {after : Array Edge} {r : List (Nat × Bool)} {K : Fram → Store → Prop} (ho : os.getD i default = ⟨dst, op, ty, pos, after, none⟩)
    (h : ∀ K' : Fram → Store → Prop, (∀ l σ, opsDW P glob ops (pickO os r) l σ K → K' l σ) → eW P glob op (ev glob l) σ fun p σ' => K' (putF l dst p) σ') : opsDW P glob ops (pickO os ((i, false) :: r)) l σ K := by
  simp only [pickO, opsDW, ho]
  exact h _ fun _ _ h => h
theorem opsDW_keg {os : List Oper} {ops : Array Oper} {i : Nat} {dst : Option Tmp} {op : Op} {ty : TypeId} {pos : String} {after : Array Edge} {j d : Nat} {want : Bool} {r : List (Nat × Bool)} {K : Fram → Store → Prop} (ho : os.getD i default = ⟨dst, op, ty, pos, after, some (j, want)⟩) (hj : (ops[j]?).bind (·.dst) = some d)
    (h : ∀ K' : Fram → Store → Prop, (∀ l σ, opsDW P glob ops (pickO os r) l σ K → K' l σ) → ∃ t, lk l d = .lit t ∧ (asB t = some want → eW P glob op (ev glob l) σ fun p σ' => K' (putF l dst p) σ') ∧ (asB t ≠ some want → K' (putF l dst (.lit undef)) σ)) : opsDW P glob ops (pickO os ((i, false) :: r)) l σ K := by
  simp only [pickO, opsDW, ho]
  obtain ⟨t, h1, h2, h3⟩ := h _ fun _ _ h => h
  exact ⟨d, t, hj, h1, h2, h3⟩
theorem ex_pair {α β : Type} {a : α} {b : β} {p : α → β → Prop} : (∃ m e, (a = m ∧ b = e) ∧ p m e) = p a b :=
  propext ⟨fun ⟨_, _, ⟨h1, h2⟩, h⟩ => h1 ▸ h2 ▸ h, fun h => ⟨a, b, ⟨rfl, rfl⟩, h⟩⟩
attribute [go_sem] ex_pair
theorem beq_dec {a b : Int} : (a == b) = decide (a = b) := by rw [Bool.eq_iff_iff, beq_iff_eq, decide_eq_true_eq]
theorem bne_dec {a b : Int} : (a != b) = !decide (a = b) := by rw [bne, beq_dec]
attribute [go_sem] beq_dec
theorem asB_b {b : Bool} : asB (.bool b) = some b := rfl
theorem asB_u : asB undef = none := rfl
attribute [go_sem] asB_b asB_u
theorem toNat_sub1 {i : Nat} : ((i : Int) - 1).toNat = i - 1 := by omega
attribute [go_sem] toNat_sub1
theorem set_same {o : Nat} {x : PObj} : (σ.set o x) o = some x := by simp [Store.set]
theorem set_other {o o' : Nat} {x : PObj} (h : ¬ o' = o) : (σ.set o x) o' = σ o' := by simp [Store.set, h]
theorem set_set {o : Nat} {x y : PObj} : (σ.set o x).set o y = σ.set o y := by
  funext t; simp only [Store.set]; split <;> rfl
theorem set_none {o o' : Nat} {x : PObj} : (σ.set o x) o' = none ↔ (¬ o' = o ∧ ¬ o = o') ∧ σ o' = none := by
  simp only [Store.set]
  by_cases h : o' = o
  · simp [h]
  · simp [h, Ne.symm h]
theorem Sub.new {o : Nat} {x : PObj} (h : σ o = none) : Sub σ (σ.set o x) := fun t y e => by
  simp only [Store.set]
  by_cases ht : t = o
  · subst ht; rw [h] at e; cases e
  · rw [if_neg ht]; exact e
theorem Sub.then {a b c : Store} (h : Sub a b) (k : Sub b c) : Sub a c := fun t y e => k t y (h t y e)
attribute [go_sem] PObj.cells.injEq PObj.map.injEq set_same set_other set_set
theorem ne_of_some {o : Nat} {y : PObj} (h : σ o = some y) : ∀ t, σ t = none → ¬ (o = t) := fun t ht e => by subst e; rw [h] at ht; cases ht
theorem appW_fit {k bytes m k' o off len cap : Nat} {news : List PV} {K : PV → Store → Prop} (h : len + m ≤ cap) : appW k bytes σ (.rs k' o off len cap) m news K = (k' = k ∧ ∃ cs, σ o = some (.cells cs) ∧ Chk (off + (len + m) * k ≤ cs.length) ∧ K (.rs k o off (len + m) cap) (σ.set o (.cells (splice cs (off + len * k) news)))) := by
  rw [appW_rs]; simp only [h, if_true]
theorem appW_grow {k bytes m k' o off len cap : Nat} {news : List PV} {K : PV → Store → Prop} (h : cap < len + m) : appW k bytes σ (.rs k' o off len cap) m news K = (k' = k ∧ ∃ cs, σ o = some (.cells cs) ∧ Chk ((len + m) * bytes ≤ 140737488355328 ∧ off + len * k = cs.length) ∧ ∀ o', σ o' = none → K (.rs k o' 0 (len + m) (len + m)) ((σ.drop o).set o' (.cells (cs.drop off ++ news)))) := by
  rw [appW_rs]; simp only [Nat.not_le.2 h, if_false]
attribute [go_sem] appW_fit appW_grow
theorem Sub.none {σ τ : Store} (h : Sub σ τ) {o : Nat} (ho : τ o = none) : σ o = none := by
  cases e : σ o with
  | none => rfl
  | some x => rw [h o x e] at ho; cases ho
theorem frz_rs_ne {o o' k off len cap : Nat} {cs : List PV} (h : ¬ o' = o) : frz o cs (.rs k o' off len cap) = .rs k o' off len cap := by
  unfold frz; simp [h]
theorem frz_ptr {o off : Nat} {cs : List PV} : frz o cs (.ptr o off) = .vp (cs.drop off) := by unfold frz; simp
theorem frz_ptr_ne {o o' off : Nat} {cs : List PV} (h : ¬ o' = o) : frz o cs (.ptr o' off) = .ptr o' off := by unfold frz; simp [h]
theorem frz_fn {o : Nat} {cs : List PV} {f : Fn} {a b : List PV} : frz o cs (.fn f a b) = .fn f a b := rfl
theorem frz_z {o : Nat} {cs : List PV} : frz o cs .z = .z := rfl
attribute [go_sem] frz_ptr frz_ptr_ne frz_fn frz_z
/-- What was there is there still. -/
theorem Sub.by {σ τ : Store} (h : ∀ t y, (∀ i, σ i = Option.none → ¬ t = i) → σ t = Option.some y → τ t = Option.some y) : Sub σ τ := fun t y e => h t y (fun i hi e' => by rw [e', hi] at e; cases e) e
attribute [go_sem] frz_lit frz_vs frz_vp frz_any frz_rs_ne
/-- A call that is handed a row that is owned: it may be frozen ahead of the call. -/
theorem ACalls.rs1 {α : Type} {f : FuncId} (pre post : List PV) {o len cap : Nat} (g : α → PV) (L : List α) {K : PV → Store → Prop} (hσ : σ o = some (.cells (L.map g))) (hl : len = L.length)
    (hpre : pre.map (frz o (L.map g)) = pre) (hpost : post.map (frz o (L.map g)) = post) (h : ACalls P glob f (pre ++ .vs 1 (L.map fun x => [g x]) :: post) (σ.drop o) K) : ACalls P glob f (pre ++ .rs 1 o 0 len cap :: post) σ K := by
  refine .freeze hσ ?_
  rw [List.map_append, List.map_cons, hpre, hpost, frz_rs1 hl]
  exact h
theorem drop_other {o o' : Nat} (h : ¬ o' = o) : (σ.drop o) o' = σ o' := by simp [Store.drop, h]
attribute [go_sem] drop_other
theorem drop_map_cons {α : Type} [Inhabited α] {g : α → PV} {L : List α} {k : Nat} (h : k < L.length) : (L.map g).drop k = g (L.getD k default) :: (L.map g).drop (k + 1) := by
  rw [List.drop_eq_getElem_cons (by simpa using h)]
  simp [List.getD_eq_getElem?_getD, h]
theorem loadC_drop {T : TypeId} {α : Type} [Inhabited α] {g : α → PV} {L : List α} {k : Nat} {Kp : PV → Prop} (h : isOne P T = true) (hk : k < L.length) : loadC P T ((L.map g).drop k) Kp = Kp (g (L.getD k default)) := by
  rw [drop_map_cons hk, loadC_one h]
attribute [go_sem] loadC_drop Nat.zero_add Nat.mul_one
variable (P glob) in
def invokeW (q : PV) (name : String) (args : List PV) (σ : Store) (K : PV → Store → Prop) : Prop :=
  match q with
  | .iface t p => ∃ p' g, MethodIs P t name g p p' ∧ ACalls P glob g (p' :: args) σ K
  | _ => False
theorem eW_invoke {x : Operand} {name : String} {args : Array Operand} {Ts : Array TypeId} {ρ : Operand → PV} {K : PV → Store → Prop} : eW P glob (.call ⟨.invoke x name, args, Ts⟩) ρ σ K = invokeW P glob (ρ x) name (args.toList.map ρ) σ K := by
  apply propext
  constructor
  · rintro ⟨t, p, p', g, h1, h2⟩; rw [h1]; exact ⟨p', g, h2⟩
  · intro h; unfold invokeW at h; split at h
    · rename_i t p e; obtain ⟨p', g, h⟩ := h; exact ⟨t, p, p', g, e, h⟩
    · exact h.elim
theorem invokeW.mk {t : TypeId} {p p' : PV} {name : String} {args : List PV} {g : FuncId} {K : PV → Store → Prop} (h : MethodIs P t name g p p') (hc : ACalls P glob g (p' :: args) σ K) : invokeW P glob (.iface t p) name args σ K := ⟨p', g, h, hc⟩
theorem eW_assert {x : Operand} {S T : TypeId} {c : Bool} {ρ : Operand → PV} {K : PV → Store → Prop} : eW P glob (.typeAssert x S T c) ρ σ K = assertW P T c (ρ x) fun r => K r σ := rfl
theorem pW_assert {x : Operand} {S T : TypeId} {c : Bool} {ρ : Operand → PV} {K : PV → Prop} : pW P glob (.typeAssert x S T c) ρ K = assertW P T c (ρ x) K := rfl
theorem assertW_iface {T t : TypeId} {c : Bool} {p : PV} {K : PV → Prop} : assertW P T c (.iface t p) K = ∃ b, asksOf P T t = some b ∧ c = true ∧ (b = true → K (.tup [.iface t p, .lit (.bool true)])) ∧ (b = false → nilZero P T = true ∧ K (.tup [.lit .nilIface, .lit (.bool false)])) := rfl
attribute [go_sem] eW_invoke eW_assert pW_assert assertW_iface
theorem Sub.drop_self {o : Nat} : Sub (σ.drop o) σ := fun t y e => by
  simp only [Store.drop] at e
  split at e
  · cases e
  · exact e
theorem drop_none {o o' : Nat} (h : σ o' = none) : (σ.drop o) o' = none := by simp [Store.drop, h]
theorem drop_same {o : Nat} : (σ.drop o) o = none := by simp [Store.drop]
theorem splice_cons {c x : PV} {cs xs : List PV} : splice (c :: cs) 0 (x :: xs) = x :: splice cs 0 xs := by
  simp [splice]
theorem splice_nil {cs : List PV} {k : Nat} : splice cs k [] = cs := by simp [splice]
attribute [go_sem] splice_cons splice_nil
variable (P) in
/-- A struct laid together, field by field. -/
def buildS (T : TypeId) : List PV → List (Nat × PV) → (PV → Prop) → Prop
  | cs, [], K => K (.agg cs)
  | cs, (i, p) :: r, K => fldOk P T i = true ∧ p.known = true ∧ Chk (p.cells.length = P.cellsOf (typOf P T i)) ∧ Chk (offOf P T i + P.cellsOf (typOf P T i) ≤ cs.length) ∧ buildS T (splice cs (offOf P T i) p.cells) r K
theorem buildS_nil {T : TypeId} {cs : List PV} {K : PV → Prop} : buildS P T cs [] K = K (.agg cs) := rfl
theorem buildS_cons {T : TypeId} {cs : List PV} {i : Nat} {p : PV} {r : List (Nat × PV)} {K : PV → Prop} : buildS P T cs ((i, p) :: r) K = (fldOk P T i = true ∧ p.known = true ∧ Chk (p.cells.length = P.cellsOf (typOf P T i)) ∧ Chk (offOf P T i + P.cellsOf (typOf P T i) ≤ cs.length) ∧ buildS P T (splice cs (offOf P T i) p.cells) r K) := rfl
def structB (P : Program) (T : TypeId) : Bool := match P.underlying T with | some (.struct fs) => fs.all fun f => (P.underlying f.type).isSome | _ => false
theorem buildW_mk {T : TypeId} {zc : List PV} {parts : List (Nat × PV)} {K : PV → Prop} (hs : structB P T = true) (hz : zeroCells P T = some zc) (h : buildS P T zc parts K) : buildW P T parts K := by
  unfold structB at hs
  split at hs
  · rename_i fs hfs
    refine ⟨zc, hz, .inl ⟨fs, hfs, ?_, ?_⟩⟩
    · intro f hf
      have := Array.all_eq_true'.1 hs f hf
      exact Option.isSome_iff_exists.1 this
    · clear hz
      induction parts generalizing zc with
      | nil => exact ⟨zc, rfl, h⟩
      | cons x r ih =>
        obtain ⟨i, p⟩ := x
        obtain ⟨h1, h2, h3, h4, h5⟩ := h
        obtain ⟨cs, k1, k2⟩ := ih h5
        obtain ⟨fs', fld, e1, e2, e3, e4, _, _⟩ := fldOk_spec h1
        rw [hfs] at e1; cases e1
        refine ⟨cs, ?_, k2⟩
        rw [fillW_cons (off := offOf P T i) (size := P.cellsOf (typOf P T i)) ?_ h2 h3.out h4.out, k1]
        simp only [placeS, e2, Option.map_some, e3, e4]
  · cases hs
attribute [go_sem] buildS_nil buildS_cons
def bytesT (P : Program) (S T : TypeId) : Bool := match P.underlying S, P.underlying T with
  | some (.slice e), some .string => (match P.underlying e with | some (.int .u8) => true | _ => false)
  | _, _ => false
theorem convW_bytes {S T : TypeId} {L : List Int} {K : PV → Prop} (h : bytesT P S T = true) : convW P S T (.vs 1 (L.map fun n => [.lit (.int .u8 n)])) K = K (.lit (.string (strOfNums L))) := by
  unfold bytesT at h
  split at h
  · rename_i e h1 h2
    split at h
    · rename_i h3
      apply propext
      constructor
      · rintro ⟨e', L', a1, a2, a3, a4, a5⟩
        have : L = L' := by
          refine (List.map_inj_right (f := fun n : Int => [PV.lit (.int .u8 n)]) fun x y hxy => ?_).1 a4
          simpa using hxy
        subst this; exact a5
      · intro k; exact ⟨e, L, h1, h3, h2, rfl, k⟩
    · cases h
  · cases h
attribute [go_sem] convW_bytes wrap_u8
theorem binW_eql_vsn {T : TypeId} {c : Bool} {k : Nat} {e : List PV} {es : List (List PV)} {K : PV → Prop} : binW P .eql T c (.vs k (e :: es)) (.lit (.slice none 0 0)) K = ((∃ e, P.underlying T = some (.slice e)) ∧ K (.lit (.bool false))) := by
  simp [binW, eqV]
theorem binW_neq_vsn {T : TypeId} {c : Bool} {k : Nat} {e : List PV} {es : List (List PV)} {K : PV → Prop} : binW P .neq T c (.vs k (e :: es)) (.lit (.slice none 0 0)) K = ((∃ e, P.underlying T = some (.slice e)) ∧ K (.lit (.bool true))) := by
  simp [binW, eqV]
theorem binW_eql_vsm {T : TypeId} {c : Bool} {k : Nat} {α : Type} {f : α → List PV} {L : List α} {K : PV → Prop} (h : L ≠ []) : binW P .eql T c (.vs k (L.map f)) (.lit (.slice none 0 0)) K = ((∃ e, P.underlying T = some (.slice e)) ∧ K (.lit (.bool false))) := by
  cases L with
  | nil => exact absurd rfl h
  | cons a r => exact binW_eql_vsn
attribute [go_sem] binW_eql_vsn binW_neq_vsn binW_eql_vsm
theorem eW_clear {x : Operand} {T : TypeId} {ρ : Operand → PV} {K : PV → Store → Prop} : eW P glob (.call ⟨.builtin .clear, #[x], #[T]⟩) ρ σ K = clearW P T σ (ρ x) K := rfl
theorem clearW_rs {T : TypeId} {k o off len cap : Nat} {K : PV → Store → Prop} : clearW P T σ (.rs k o off len cap) K = ∃ e zv cs, P.underlying T = some (.slice e) ∧ zeroCells P e = some [zv] ∧ zv.cell = true ∧ k = 1 ∧ σ o = some (.cells cs) ∧ Chk (off + len ≤ cs.length) ∧ K .any (σ.set o (.cells (splice cs off (List.replicate len zv)))) := rfl
theorem clearW_nil {T : TypeId} {K : PV → Store → Prop} : clearW P T σ (.lit (.slice none 0 0)) K = ((∃ e, P.underlying T = some (.slice e)) ∧ K .any σ) := rfl
attribute [go_sem] eW_clear clearW_rs clearW_nil List.cons.injEq
end
end Go.Abs
