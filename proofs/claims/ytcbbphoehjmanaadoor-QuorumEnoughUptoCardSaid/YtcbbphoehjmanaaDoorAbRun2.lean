/- Freezing in the middle of a walk; frames that say less. -/
import Derived.Test.YtcbbphoehjmanaaDoorAbSimp
set_option linter.unusedSimpArgs false
set_option linter.unusedVariables false
namespace Go.Abs
open Go
section
variable {P : Program} {glob : Nat → PV} {n : Nat} {σ : Store} {l : Fram} {Q : Post}

theorem lk_frz (o : Nat) (cs : List PV) : ∀ (l : Fram) (t : Nat), lk (l.map fun x => (x.1, frz o cs x.2)) t = frz o cs (lk l t)
  | [], _ => rfl
  | (d, p) :: l, t => by
    simp only [List.map_cons, lk]
    split
    · rfl
    · exact lk_frz o cs l t

theorem ACalls.freeze {f : FuncId} {args : List PV} {K : PV → Store → Prop} {o : Nat} {cs : List PV} (hσ : σ o = some (.cells cs)) (h : ACalls P glob f (args.map (frz o cs)) (σ.drop o) K) : ACalls P glob f args σ K := by
  refine ⟨h.1, fun gh w vs hR hv => ?_⟩
  obtain ⟨gh1, x1, hR1, hf⟩ := rep_frz hσ hR
  refine (h.2 gh1 w vs hR1 ⟨by simpa using hv.1, fun i p hi => ?_⟩).mono ?_
  · simp only [List.getElem?_map, Option.map_eq_some_iff] at hi
    obtain ⟨q, hq, rfl⟩ := hi
    exact hf _ _ (hv.2 i q hq)
  · rintro e w' ⟨v, gh', r, σ', h0, h1, h2, h3, h4⟩
    exact ⟨v, gh', r, σ', h0, x1.trans h1, h2, h3, h4⟩

theorem AWp.freeze {c : Code} (o : Nat) {cs : List PV} (hσ : σ o = some (.cells cs)) (h : AWp P glob n c (l.map fun x => (x.1, frz o cs x.2)) (σ.drop o) Q) : AWp P glob n c l σ Q := by
  intro gh w a hR hF
  obtain ⟨gh1, x1, hR1, hf⟩ := rep_frz hσ hR
  refine wp_mono (h gh1 w a hR1 ⟨hF.1, hF.2.1, fun t => ?_⟩) ?_
  · rw [lk_frz]; exact hf _ _ (hF.2.2 t)
  · rintro e a' w' ⟨gh', l', σ', x, h1, h2, h3⟩
    exact ⟨gh', l', σ', x1.trans x, h1, h2, h3⟩

theorem AWp.forget {c : Code} {σ' : Store} (hs : Sub σ' σ) (h : AWp P glob n c l σ' Q) : AWp P glob n c l σ Q := h.weaken (.refl _) hs

theorem Pur.fz {f : FuncId} {args args' : List PV} {r : PV} {o : Nat} {cs : List PV} (hσ : σ o = some (.cells cs)) (h : Pur P glob f args' r) (ha : args.map (frz o cs) = args') {K : PV → Store → Prop} (hk : K r (σ.drop o)) : ACalls P glob f args σ K :=
  .freeze hσ (ha ▸ h.call hk)

theorem frz_rs1 {o : Nat} {α : Type} {g : α → PV} {L : List α} {len cap : Nat} (h : len = L.length) : frz o (L.map g) (.rs 1 o 0 len cap) = .vs 1 (L.map fun x => [g x]) := by
  subst h
  have e : (List.range L.length).map (fun i => ((L.map g).drop (0 + i * 1)).take 1) = L.map fun x => [g x] := by
    apply List.ext_getElem?
    intro i
    simp only [List.getElem?_map, Nat.zero_add, Nat.mul_one]
    by_cases hi : i < L.length
    · rw [List.getElem?_range hi]
      simp only [Option.map_some]
      rw [List.getElem?_eq_getElem hi]
      simp only [Option.map_some]
      congr 1
      rw [← List.map_drop, List.drop_eq_getElem_cons hi]
      rfl
    · simp [Nat.le_of_not_lt hi]
  unfold frz; show (if _ then _ else _) = _; rw [if_pos (by simp), e]
theorem frz_lit {o : Nat} {cs : List PV} {v : Value} : frz o cs (.lit v) = .lit v := rfl
theorem frz_vs {o : Nat} {cs : List PV} {k : Nat} {es : List (List PV)} : frz o cs (.vs k es) = .vs k es := rfl
theorem frz_vp {o : Nat} {cs : List PV} {es : List PV} : frz o cs (.vp es) = .vp es := rfl
theorem frz_any {o : Nat} {cs : List PV} : frz o cs .any = .any := rfl
theorem ACalls.of_body' {f : FuncId} {fn : Func} {c : Code} {args : List PV} {K : PV → Store → Prop} (rs : List ResultVar) (hf : P.funcs[f]? = some fn) (hb : fn.body = some c) (hname : (fn.name == "runtime.NumGoroutine") = false) (hn : fn.ntmps = n) (hargs : args.length ≤ n)
    (hr : fn.results.toList = rs) (h : AWp P glob n c (argsF args) σ (retPost P rs K)) : ACalls P glob f args σ K :=
  .of_body hf hb hname hn hargs (hr ▸ h)

theorem AWp.seqRet (h : Q .ret l σ) {y : Code} : AWp P glob n (.seq .ret y) l σ Q := .seq (.ret h)
theorem AWp.seqExit {i : Nat} (h : Q (.exit i) l σ) {y : Code} : AWp P glob n (.seq (.exit i) y) l σ Q := .seq (.exit h)
theorem AWp.seqSkip {y : Code} (h : AWp P glob n y l σ Q) : AWp P glob n (.seq .skip y) l σ Q := .seq (.skip h)
theorem AWp.seqBlock {i : Nat} {x y : Code} (h : AWp P glob n x l σ (ABlock i (AThen (fun l σ => AWp P glob n y l σ Q) Q))) : AWp P glob n (.seq (.block i x) y) l σ Q := .seq (.block h)
theorem AWp.seqSeq {x y z : Code} (h : AWp P glob n (.seq x y) l σ (AThen (fun l σ => AWp P glob n z l σ Q) Q)) : AWp P glob n (.seq (.seq x y) z) l σ Q := .seq h
theorem retPost_r {rs : List ResultVar} {K : PV → Store → Prop} : retPost P rs K .ret l σ = endW P rs l σ K := rfl
theorem retPost_n {rs : List ResultVar} {K : PV → Store → Prop} : retPost P rs K .normal l σ = endW P rs l σ K := rfl
theorem endW_eq {rs : List ResultVar} {K : PV → Store → Prop} : endW P rs l σ K = resW P l σ rs fun ps => Hand K (resOf ps) σ := rfl
theorem resW_nil {K : List PV → Prop} : resW P l σ [] K = K [] := rfl
theorem resW_tmp {t : Tmp} {rs : List ResultVar} {K : List PV → Prop} : resW P l σ (.tmp t :: rs) K = resW P l σ rs fun ps => K (lk l t :: ps) := rfl
theorem resW_cell {a : Tmp} {T : TypeId} {rs : List ResultVar} {K : List PV → Prop} : resW P l σ (.cell a T :: rs) K = ∃ o off cs, lk l a = .ptr o off ∧ σ o = some (.cells cs) ∧ Chk (off ≤ cs.length) ∧ loadC P T (cs.drop off) fun r => resW P l σ rs fun ps => K (r :: ps) := rfl
theorem resOf_none : resOf [] = .tup [] := rfl
attribute [go_sem] retPost_r retPost_n endW_eq resW_nil resW_tmp resW_cell resOf_none
theorem Le.of_eq {p q : PV} (h : p = q) : Le p q := h ▸ .refl p
theorem LeF.eq {l l' : Fram} {t : Nat} {p q : PV} (hp : lk l t = p) (hq : p = q) (h : LeF l l') : LeF l ((t, q) :: l') := .cons hp (.of_eq hq) h
theorem litI {k : IntKind} {a b : Int} (h : a = b) : PV.lit (.int k a) = PV.lit (.int k b) := h ▸ rfl
theorem litD {a b : Prop} [Decidable a] [Decidable b] (h : a ↔ b) : PV.lit (.bool (decide a)) = PV.lit (.bool (decide b)) := by rw [decide_eq_decide.2 h]
theorem litD' {a : Prop} [Decidable a] {b : Bool} (h : a ↔ b = true) : PV.lit (.bool (decide a)) = PV.lit (.bool b) := by
  cases b <;> simp_all
theorem litB {a b : Bool} (h : a = b) : PV.lit (.bool a) = PV.lit (.bool b) := h ▸ rfl
theorem litS {a b : ByteArray} (h : a = b) : PV.lit (.string a) = PV.lit (.string b) := h ▸ rfl

/-! One operation, its guard apart. -/
theorem opsW_kn {ops : Array Oper} {dst : Option Tmp} {op : Op} {ty : TypeId} {pos : String} {after : Array Edge} {r : List Oper} {K : Fram → Store → Prop}
    (h : ∀ K' : Fram → Store → Prop, (∀ l σ, opsW P glob ops r l σ K → K' l σ) → eW P glob op (ev glob l) σ fun p σ' => K' (putF l dst p) σ') : opsW P glob ops (⟨dst, op, ty, pos, after, none⟩ :: r) l σ K :=
  h _ fun _ _ h => h
theorem opsW_kg {ops : Array Oper} {dst : Option Tmp} {op : Op} {ty : TypeId} {pos : String} {after : Array Edge} {j d : Nat} {want : Bool} {r : List Oper} {K : Fram → Store → Prop} (hj : (ops[j]?).bind (·.dst) = some d)
    (h : ∀ K' : Fram → Store → Prop, (∀ l σ, opsW P glob ops r l σ K → K' l σ) → ∃ t, lk l d = .lit t ∧ (asB t = some want → eW P glob op (ev glob l) σ fun p σ' => K' (putF l dst p) σ') ∧ (asB t ≠ some want → K' (putF l dst (.lit undef)) σ)) : opsW P glob ops (⟨dst, op, ty, pos, after, some (j, want)⟩ :: r) l σ K :=
  let ⟨t, h1, h2, h3⟩ := h _ fun _ _ h => h
  ⟨d, t, hj, h1, h2, h3⟩
theorem opsPW_kn {ops : Array Oper} {dst : Option Tmp} {op : Op} {ty : TypeId} {pos : String} {after : Array Edge} {r : List Oper} {K : Fram → Prop}
    (h : ∀ K' : Fram → Prop, (∀ l, opsPW P glob ops r l K → K' l) → pW P glob op (ev glob l) fun p => K' (putF l dst p)) : opsPW P glob ops (⟨dst, op, ty, pos, after, none⟩ :: r) l K :=
  h _ fun _ h => h
theorem opsPW_kg {ops : Array Oper} {dst : Option Tmp} {op : Op} {ty : TypeId} {pos : String} {after : Array Edge} {j d : Nat} {want : Bool} {r : List Oper} {K : Fram → Prop} (hj : (ops[j]?).bind (·.dst) = some d)
    (h : ∀ K' : Fram → Prop, (∀ l, opsPW P glob ops r l K → K' l) → ∃ t, lk l d = .lit t ∧ (asB t = some want → pW P glob op (ev glob l) fun p => K' (putF l dst p)) ∧ (asB t ≠ some want → K' (putF l dst (.lit undef)))) : opsPW P glob ops (⟨dst, op, ty, pos, after, some (j, want)⟩ :: r) l K :=
  let ⟨t, h1, h2, h3⟩ := h _ fun _ h => h
  ⟨d, t, hj, h1, h2, h3⟩
theorem opsDW_kpn {os : List Oper} {ops : Array Oper} {i : Nat} {dst : Option Tmp} {op : Op} {ty : TypeId} {pos : String} {after : Array Edge} {r : List (Nat × Bool)} {K : Fram → Store → Prop} (ho : os.getD i default = ⟨dst, op, ty, pos, after, none⟩)
    (h : ∀ K' : Fram → Store → Prop, (∀ l σ, opsDW P glob ops (pickO os r) l σ K → K' l σ) → pW P glob op (ev glob l) fun p => K' (putF l dst p) σ) : opsDW P glob ops (pickO os ((i, true) :: r)) l σ K := by
  simp only [pickO, opsDW, ho]
  exact h _ fun _ _ h => h
theorem opsDW_kpg {os : List Oper} {ops : Array Oper} {i : Nat} {dst : Option Tmp} {op : Op} {ty : TypeId} {pos : String} {after : Array Edge} {j d : Nat} {want : Bool} {r : List (Nat × Bool)} {K : Fram → Store → Prop} (ho : os.getD i default = ⟨dst, op, ty, pos, after, some (j, want)⟩) (hj : (ops[j]?).bind (·.dst) = some d)
    (h : ∀ K' : Fram → Store → Prop, (∀ l σ, opsDW P glob ops (pickO os r) l σ K → K' l σ) → ∃ t, lk l d = .lit t ∧ (asB t = some want → pW P glob op (ev glob l) fun p => K' (putF l dst p) σ) ∧ (asB t ≠ some want → K' (putF l dst (.lit undef)) σ)) : opsDW P glob ops (pickO os ((i, true) :: r)) l σ K := by
  simp only [pickO, opsDW, ho]
  obtain ⟨t, h1, h2, h3⟩ := h _ fun _ _ h => h
  exact ⟨d, t, hj, h1, h2, h3⟩
theorem opsDW_ken {os : List Oper} {ops : Array Oper} {i : Nat} {dst : Option Tmp} {op : Op} {ty : TypeId} {pos : String} {after : Array Edge} {r : List (Nat × Bool)} {K : Fram → Store → Prop} (ho : os.getD i default = ⟨dst, op, ty, pos, after, none⟩)
    (h : ∀ K' : Fram → Store → Prop, (∀ l σ, opsDW P glob ops (pickO os r) l σ K → K' l σ) → eW P glob op (ev glob l) σ fun p σ' => K' (putF l dst p) σ') : opsDW P glob ops (pickO os ((i, false) :: r)) l σ K := by
  simp only [pickO, opsDW, ho]
  exact h _ fun _ _ h => h
theorem opsDW_keg {os : List Oper} {ops : Array Oper} {i : Nat} {dst : Option Tmp} {op : Op} {ty : TypeId} {pos : String} {after : Array Edge} {j d : Nat} {want : Bool} {r : List (Nat × Bool)} {K : Fram → Store → Prop} (ho : os.getD i default = ⟨dst, op, ty, pos, after, some (j, want)⟩) (hj : (ops[j]?).bind (·.dst) = some d)
    (h : ∀ K' : Fram → Store → Prop, (∀ l σ, opsDW P glob ops (pickO os r) l σ K → K' l σ) → ∃ t, lk l d = .lit t ∧ (asB t = some want → eW P glob op (ev glob l) σ fun p σ' => K' (putF l dst p) σ') ∧ (asB t ≠ some want → K' (putF l dst (.lit undef)) σ)) : opsDW P glob ops (pickO os ((i, false) :: r)) l σ K := by
  simp only [pickO, opsDW, ho]
  obtain ⟨t, h1, h2, h3⟩ := h _ fun _ _ h => h
  exact ⟨d, t, hj, h1, h2, h3⟩
theorem asB_b {b : Bool} : asB (.bool b) = some b := rfl
theorem asB_u : asB undef = none := rfl
attribute [go_sem] asB_b asB_u
theorem toNat_sub1 {i : Nat} : ((i : Int) - 1).toNat = i - 1 := by omega
attribute [go_sem] toNat_sub1
theorem set_same {o : Nat} {x : PObj} : (σ.set o x) o = some x := by simp [Store.set]
theorem set_other {o o' : Nat} {x : PObj} (h : ¬ o' = o) : (σ.set o x) o' = σ o' := by simp [Store.set, h]
theorem set_set {o : Nat} {x y : PObj} : (σ.set o x).set o y = σ.set o y := by
  funext t; simp only [Store.set]; split <;> rfl
theorem set_none {o o' : Nat} {x : PObj} : (σ.set o x) o' = none ↔ (¬ o' = o ∧ ¬ o = o') ∧ σ o' = none := by
  simp only [Store.set]
  by_cases h : o' = o
  · simp [h]
  · simp [h, Ne.symm h]
theorem Sub.new {o : Nat} {x : PObj} (h : σ o = none) : Sub σ (σ.set o x) := fun t y e => by
  simp only [Store.set]
  by_cases ht : t = o
  · subst ht; rw [h] at e; cases e
  · rw [if_neg ht]; exact e
theorem Sub.then {a b c : Store} (h : Sub a b) (k : Sub b c) : Sub a c := fun t y e => k t y (h t y e)
attribute [go_sem] PObj.cells.injEq PObj.map.injEq set_same set_other set_set
theorem ne_of_some {o : Nat} {y : PObj} (h : σ o = some y) : ∀ t, σ t = none → ¬ (o = t) := fun t ht e => by subst e; rw [h] at ht; cases ht
theorem appW_fit {k bytes m k' o off len cap : Nat} {news : List PV} {K : PV → Store → Prop} (h : len + m ≤ cap) : appW k bytes σ (.rs k' o off len cap) m news K = (k' = k ∧ ∃ cs, σ o = some (.cells cs) ∧ Chk (off + (len + m) * k ≤ cs.length) ∧ K (.rs k o off (len + m) cap) (σ.set o (.cells (splice cs (off + len * k) news)))) := by
  rw [appW_rs]; simp only [h, if_true]
theorem appW_grow {k bytes m k' o off len cap : Nat} {news : List PV} {K : PV → Store → Prop} (h : cap < len + m) : appW k bytes σ (.rs k' o off len cap) m news K = (k' = k ∧ ∃ cs, σ o = some (.cells cs) ∧ Chk ((len + m) * bytes ≤ 140737488355328 ∧ off + len * k = cs.length) ∧ ∀ o', σ o' = none → K (.rs k o' 0 (len + m) (len + m)) ((σ.drop o).set o' (.cells (cs.drop off ++ news)))) := by
  rw [appW_rs]; simp only [Nat.not_le.2 h, if_false]
attribute [go_sem] appW_fit appW_grow
theorem Sub.none {σ τ : Store} (h : Sub σ τ) {o : Nat} (ho : τ o = none) : σ o = none := by
  cases e : σ o with
  | none => rfl
  | some x => rw [h o x e] at ho; cases ho
theorem frz_rs_ne {o o' k off len cap : Nat} {cs : List PV} (h : ¬ o' = o) : frz o cs (.rs k o' off len cap) = .rs k o' off len cap := by
  unfold frz; simp [h]
attribute [go_sem] frz_lit frz_vs frz_vp frz_any frz_rs_ne
/-- A call that is handed a row that is owned: it may be frozen ahead of the call. -/
theorem ACalls.rs1 {α : Type} {f : FuncId} (pre post : List PV) {o len cap : Nat} (g : α → PV) (L : List α) {K : PV → Store → Prop} (hσ : σ o = some (.cells (L.map g))) (hl : len = L.length)
    (hpre : pre.map (frz o (L.map g)) = pre) (hpost : post.map (frz o (L.map g)) = post) (h : ACalls P glob f (pre ++ .vs 1 (L.map fun x => [g x]) :: post) (σ.drop o) K) : ACalls P glob f (pre ++ .rs 1 o 0 len cap :: post) σ K := by
  refine .freeze hσ ?_
  rw [List.map_append, List.map_cons, hpre, hpost, frz_rs1 hl]
  exact h
theorem drop_other {o o' : Nat} (h : ¬ o' = o) : (σ.drop o) o' = σ o' := by simp [Store.drop, h]
attribute [go_sem] drop_other
theorem drop_map_cons {α : Type} [Inhabited α] {g : α → PV} {L : List α} {k : Nat} (h : k < L.length) : (L.map g).drop k = g (L.getD k default) :: (L.map g).drop (k + 1) := by
  rw [List.drop_eq_getElem_cons (by simpa using h)]
  simp [List.getD_eq_getElem?_getD, h]
theorem loadC_drop {T : TypeId} {α : Type} [Inhabited α] {g : α → PV} {L : List α} {k : Nat} {Kp : PV → Prop} (h : isOne P T = true) (hk : k < L.length) : loadC P T ((L.map g).drop k) Kp = Kp (g (L.getD k default)) := by
  rw [drop_map_cons hk, loadC_one h]
attribute [go_sem] loadC_drop Nat.zero_add Nat.mul_one
end
end Go.Abs
