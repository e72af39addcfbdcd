/- Slices that are made, appended to, copied into; what is owned becomes frozen. -/
import Derived.Test.YtlcbjenehogfmaaAbEff
set_option linter.unusedSimpArgs false
set_option linter.unusedVariables false
namespace Go.Abs
open Go

section
variable {P : Program} {glob : Nat → PV} {ρ : Operand → PV} {σ : Store}
variable {dst : Option Tmp} {ty : TypeId} {pos : String} {after : Array Edge} {guard : Option (Nat × Bool)}

/-- Parts 0, 1, 2 .. one behind the other, each of k cells. -/
def denseW (k : Nat) : Nat → List (Nat × PV) → Bool
  | _, [] => true
  | s, (i, p) :: r => decide (i = s) && p.known && decide (p.cells.length = k) && denseW k (s + 1) r

theorem dense_fill (k : Nat) : ∀ (ps : List (Nat × PV)) (s : Nat) (pre : List PV), pre.length = s * k → denseW k s ps = true →
    fillW (fun i => some (i * k, k)) (pre ++ List.replicate (ps.length * k) .any) ps = some (pre ++ ps.flatMap fun x => x.2.cells)
  | [], s, pre, _, _ => by simp [fillW]
  | (i, p) :: ps, s, pre, hp, hd => by
    simp only [denseW, Bool.and_eq_true, decide_eq_true_eq] at hd
    obtain ⟨⟨⟨rfl, hk⟩, hl⟩, hr⟩ := hd
    simp only [fillW]
    have hs : splice (pre ++ List.replicate ((ps.length + 1) * k) PV.any) (i * k) p.cells = (pre ++ p.cells) ++ List.replicate (ps.length * k) PV.any := by
      unfold splice
      rw [← hp, List.take_left, List.append_assoc, List.append_assoc]
      congr 2
      rw [List.drop_append, List.drop_eq_nil_of_le (by omega), List.nil_append, List.drop_replicate]
      congr 1
      rw [hl, Nat.succ_mul]; omega
    have hc : p.cells.length = k ∧ i * k + k ≤ (pre ++ List.replicate (((i, p) :: ps).length * k) PV.any).length := by
      refine ⟨hl, ?_⟩
      simp only [List.length_append, List.length_replicate, List.length_cons, hp, Nat.succ_mul]; omega
    have ih := dense_fill k ps (i + 1) (pre ++ p.cells) (by simp [hp, hl, Nat.succ_mul]) hr
    cases p with
    | any => simp [PV.known] at hk
    | _ =>
      simp only
      rw [if_pos hc]
      simp only [List.length_cons]
      rw [hs, ih]
      simp

theorem run_buildSlice {gh : Gh} {w : World} {a : Act} (T : TypeId) (len : Nat) (parts : Array (Nat × Operand)) (hF : ∀ x ∈ parts.toList.map (·.2), Rep gh w (a.eval x) (ρ x)) {e k : Nat} {d : TypeDesc} (hT : P.underlying T = some (.slice e)) (he : P.underlying e = some d) (hk : P.cellsOf e = k) {zc : List PV} (hz : zeroCells P e = some zc)
    (hlen : (parts.toList.map fun (i, x) => (i, ρ x)).length = len) (hd : denseW k 0 (parts.toList.map fun (i, x) => (i, ρ x)) = true) (hsz : len * k ≤ 16777216) :
    ∃ c, CellsRep gh w c ((parts.toList.map fun (i, x) => (i, ρ x)).flatMap fun x => x.2.cells) ∧
      (execOp a.eval ⟨dst, .buildSlice T len parts, ty, pos, after, guard⟩).run P w = .ok (.value (.slice (some ⟨w.heap.size, 0, none⟩) len len)) (w.alloc (.cells c e)) := by
  obtain ⟨z, z1, z2⟩ := run_zero (w := w) hz
  have hfill := dense_fill k _ 0 [] (by simp) hd
  simp only [List.nil_append, hlen] at hfill
  have pr : (parts.map fun (i, x) => (i, a.eval x)).toList.length = (parts.toList.map fun (i, x) => (i, ρ x)).length ∧
      ∀ (j : Nat) i p, (parts.toList.map fun (i, x) => (i, ρ x))[j]? = some (i, p) → ∃ v, (parts.map fun (i, x) => (i, a.eval x)).toList[j]? = some (i, v) ∧ Rep gh w v p := by
    refine ⟨by simp, fun j i p hj => ?_⟩
    simp only [List.getElem?_map, Option.map_eq_some_iff] at hj
    obtain ⟨⟨i', x⟩, hx, he⟩ := hj
    simp only [Prod.mk.injEq] at he
    obtain ⟨rfl, rfl⟩ := he
    refine ⟨_, ?_, hF x (List.mem_map.2 ⟨_, List.mem_of_getElem? hx, rfl⟩)⟩
    simp only [Array.toList_map, List.getElem?_map, hx, Option.map_some]
  have key : ∀ zero : Array Value, ∃ r, Instr.fill (fun i => some (i * k, k)) ((Array.range (len * k)).map (zero[· % zero.size]!)) (parts.map fun (i, x) => (i, a.eval x)).toList = some r ∧
      CellsRep gh w r ((parts.toList.map fun (i, x) => (i, ρ x)).flatMap fun x => x.2.cells) := fun zero => by
    refine fill_rep _ _ _ (List.replicate (len * k) .any) _ pr.1 pr.2 ⟨by simp, fun i p hi => ?_⟩ hfill
    rw [List.getElem?_replicate] at hi
    split at hi
    · cases hi; exact .any _
    · cases hi
  by_cases h0 : len * k = 0
  · obtain ⟨r, r1, r2⟩ := key #[]
    refine ⟨r, r2, ?_⟩
    simp only [execOp, Instr.buildSlice, Sem.run_bind, run_und hT, Result.andThen_ok, run_size he, hk]
    rw [if_neg (by omega)]
    simp only [h0, if_true, Sem.run_bind, Sem.run_pure, Result.andThen_ok]
    rw [h0] at r1
    simp only [r1, Sem.run_bind, newRow, run_newObj, Result.andThen_ok, Sem.run_pure]
    rfl
  · obtain ⟨r, r1, r2⟩ := key z.cells
    refine ⟨r, r2, ?_⟩
    simp only [execOp, Instr.buildSlice, Sem.run_bind, run_und hT, Result.andThen_ok, run_size he, hk]
    rw [if_neg (by omega)]
    simp only [h0, if_false, Sem.run_bind, Sem.run_pure, Result.andThen_ok, z1]
    simp only [r1, Sem.run_bind, newRow, run_newObj, Result.andThen_ok, Sem.run_pure]
    rfl

/-- A slice out of its parts, owned. -/
theorem eff_buildSlice (T : TypeId) (len : Nat) (parts : Array (Nat × Operand)) {e k : Nat} {d : TypeDesc} (hT : P.underlying T = some (.slice e)) (he : P.underlying e = some d) (hk : P.cellsOf e = k) {zc : List PV} (hz : zeroCells P e = some zc)
    (hlen : (parts.toList.map fun (i, x) => (i, ρ x)).length = len) (hd : denseW k 0 (parts.toList.map fun (i, x) => (i, ρ x)) = true) (hsz : len * k ≤ 16777216)
    (ha : allCell ((parts.toList.map fun (i, x) => (i, ρ x)).flatMap fun x => x.2.cells) = true) {K : PV → Store → Prop}
    (h : ∀ o, σ o = none → K (.rs k o 0 len len) (σ.set o (.cells ((parts.toList.map fun (i, x) => (i, ρ x)).flatMap fun x => x.2.cells)))) :
    OpOk P glob ⟨dst, .buildSlice T len parts, ty, pos, after, guard⟩ ρ σ K := by
  intro gh w a hR hF
  obtain ⟨c, hc, hr⟩ := run_buildSlice (dst := dst) (ty := ty) (pos := pos) (after := after) (guard := guard) T len parts (fun x hx => hF x (by simpa [Op.operands] using hx)) hT he hk hz hlen hd hsz
  obtain ⟨o, ho, hσ⟩ := hR.free
  obtain ⟨h1, h2⟩ := hR.newCells ho hc ha e #[]
  simp only [Array.append_empty] at h1 h2
  unfold Oper.wp
  rw [hr]
  have hlc : c.size = len * k := by
    rw [hc.1]
    have : ∀ (ps : List (Nat × PV)) s, denseW k s ps = true → (ps.flatMap fun x => x.2.cells).length = ps.length * k := fun ps => by
      induction ps with
      | nil => intro s _; simp
      | cons x ps ih =>
        intro s hd
        obtain ⟨i, p⟩ := x
        simp only [denseW, Bool.and_eq_true, decide_eq_true_eq] at hd
        simp only [List.flatMap_cons, List.length_append, ih _ hd.2, hd.1.2, List.length_cons, Nat.succ_mul]
        omega
    rw [this _ _ hd, hlen]
  exact ⟨_, _, _, _, rfl, h2, h1, .rs k o 0 len len len ⟨w.heap.size, 0, c.size⟩ (by simp [Gh.give]) (Nat.le_refl _) (Nat.le_refl _) (by simp [hlc]), h o hσ⟩

/-- What is owned may become frozen: then it is known by value. -/
def frz (o : Nat) (cs : List PV) : PV → PV
  | .rs k o' off len cap => if o' = o ∧ off + len * k ≤ cs.length then .vs k ((List.range len).map fun i => (cs.drop (off + i * k)).take k) else .rs k o' off len cap
  | .ptr o' off => if o' = o then .vp (cs.drop off) else .ptr o' off
  | .iface t p => .iface t (match p with | .ptr o' off => if o' = o then .vp (cs.drop off) else .ptr o' off | p => p)
  | .agg ps => .agg (ps.map fun p => match p with
    | .rs k o' off len cap => if o' = o ∧ off + len * k ≤ cs.length then .vs k ((List.range len).map fun i => (cs.drop (off + i * k)).take k) else .rs k o' off len cap
    | p => p)
  | p => p

def Gh.freeze (gh : Gh) (b : Nat) : Gh := ⟨fun x => gh.F x ∨ x = b, gh.G⟩

theorem rows_flatten {cs : List PV} {k off : Nat} : ∀ (len : Nat), off + len * k ≤ cs.length → ((List.range len).map fun i => (cs.drop (off + i * k)).take k).flatten = (cs.drop off).take (len * k)
  | 0, _ => by simp
  | len + 1, h => by
    rw [List.range_succ, List.map_append, List.flatten_append, rows_flatten len (by rw [Nat.succ_mul] at h; omega)]
    simp only [List.map_cons, List.map_nil, List.flatten_cons, List.flatten_nil, List.append_nil]
    rw [show (len + 1) * k = len * k + k by rw [Nat.succ_mul], List.take_add, List.drop_drop]

theorem R.freeze {gh : Gh} {w : World} (h : R glob gh σ w) {o : Nat} {cs : List PV} (hσ : σ o = some (.cells cs)) : ∃ s, gh.G o = some s ∧ Ext gh w (gh.freeze s.b) w ∧ R glob (gh.freeze s.b) (σ.drop o) w ∧
    (∀ off, off ≤ cs.length → Rep (gh.freeze s.b) w (.pointer (some ⟨s.b, s.base + off, none⟩)) (.vp (cs.drop off))) ∧
    (∀ k off len cap, len ≤ cap → off + len * k ≤ cs.length → Rep (gh.freeze s.b) w (.slice (some ⟨s.b, s.base + off, none⟩) len cap) (.vs k ((List.range len).map fun i => (cs.drop (off + i * k)).take k))) := by
  obtain ⟨s, g1, g2, g3, g4⟩ := h.ob o _ hσ
  have x : Ext gh w (gh.freeze s.b) w := ⟨rfl, rfl, rfl, Nat.le_refl _, fun _ h => .inl h, fun _ _ => rfl, fun _ _ h => h⟩
  obtain ⟨f, f1, f2⟩ := g4.read
  refine ⟨s, g1, x, ⟨fun b hb => ?_, fun i y e => ?_, fun i j y z s1 s2 e1 e2 k1 k2 hb => ?_, ?_, fun g => (h.gl g).ext x⟩, fun off hoff => ?_, fun k off len cap hl hoff => ?_⟩
  · rcases hb with hb | rfl
    · exact h.fb b hb
    · exact g2
  · by_cases hi : i = o
    · subst hi; simp [Store.drop] at e
    · simp only [Store.drop, if_neg hi] at e
      obtain ⟨t, k1, k2, k3, k4⟩ := h.ob i y e
      refine ⟨t, k1, k2, fun hf => ?_, k4.ext x rfl⟩
      rcases hf with hf | hf
      · exact k3 hf
      · exact hi (h.inj i o y _ t s e hσ k1 g1 hf)
  · by_cases hi : i = o
    · subst hi; simp [Store.drop] at e1
    · by_cases hj : j = o
      · subst hj; simp [Store.drop] at e2
      · simp only [Store.drop, if_neg hi] at e1
        simp only [Store.drop, if_neg hj] at e2
        exact h.inj i j y z s1 s2 e1 e2 k1 k2 hb
  · obtain ⟨m, hm⟩ := h.fresh
    refine ⟨m, fun i hi => ⟨(hm i hi).1, ?_⟩⟩
    simp only [Store.drop]
    split
    · rfl
    · exact (hm i hi).2
  · refine .vp _ _ _ (fun i => f (off + i)) (.inr rfl) (fun i hi => ?_) (fun i p hi => ?_)
    · simp at hi; rw [Nat.add_assoc]; exact f1 _ (by omega)
    · rw [List.getElem?_drop] at hi; exact (f2 _ _ hi).ext x
  · have hlen : ((List.range len).map fun i => (cs.drop (off + i * k)).take k).length = len := by simp
    have hfl := rows_flatten len hoff
    generalize hes : ((List.range len).map fun i => (cs.drop (off + i * k)).take k) = es at *
    rw [← hlen]
    refine .vs _ _ _ _ _ (fun i => f (off + i)) (.inr rfl) (by omega) (fun e he => ?_) (fun i hi => ?_) (fun i p hi => ?_)
    · rw [← hes] at he
      simp only [List.mem_map, List.mem_range] at he
      obtain ⟨i, hi, rfl⟩ := he
      have : i * k + k ≤ len * k := by rw [← Nat.succ_mul]; exact Nat.mul_le_mul_right _ hi
      simp; omega
    · rw [Nat.add_assoc]; exact f1 _ (by rw [hlen] at hi; omega)
    · rw [hfl, List.getElem?_take] at hi
      split at hi
      · rw [List.getElem?_drop] at hi; exact (f2 _ _ hi).ext x
      · cases hi

theorem rep_frz {gh : Gh} {w : World} {o : Nat} {cs : List PV} (hσ : σ o = some (.cells cs)) (h : R glob gh σ w) : ∃ gh', Ext gh w gh' w ∧ R glob gh' (σ.drop o) w ∧ ∀ v p, Rep gh w v p → Rep gh' w v (frz o cs p) := by
  obtain ⟨s, g1, x, hR, hp, hs⟩ := h.freeze hσ
  have hrs : ∀ v k o' off len cap, Rep gh w v (.rs k o' off len cap) → o' = o ∧ off + len * k ≤ cs.length → Rep (gh.freeze s.b) w v (.vs k ((List.range len).map fun i => (cs.drop (off + i * k)).take k)) := fun v k o' off len cap hv hc => by
    obtain ⟨rfl, hoff⟩ := hc
    cases hv with
    | rs _ _ _ _ _ cap' s' hG hl hcap hn => rw [g1] at hG; cases hG; exact hs k off len cap' hl hoff
    | rsZ _ _ _ ad => simp; exact .vsE _ _ _
  have hpt : ∀ v o' off, Rep gh w v (.ptr o' off) → o' = o → Rep (gh.freeze s.b) w v (.vp (cs.drop off)) := fun v o' off hv hc => by
    subst hc
    cases hv with
    | ptr _ _ s' hG =>
      rw [g1] at hG; cases hG
      by_cases hoff : off ≤ cs.length
      · exact hp off hoff
      · have h1 := hp cs.length (Nat.le_refl _)
        have e0 : cs.drop off = [] := List.drop_eq_nil_of_le (by omega)
        rw [e0]
        exact .vp _ _ _ (fun _ => undef) (.inr rfl) (fun i hi => by simp at hi) (fun i p hi => by simp at hi)
  refine ⟨_, x, hR, fun v p hv => ?_⟩
  unfold frz
  split
  · rename_i k o' off len cap
    split
    · rename_i hc; exact hrs _ _ _ _ _ _ hv hc
    · exact hv.ext x
  · rename_i o' off
    split
    · rename_i hc; exact hpt _ _ _ hv hc
    · exact hv.ext x
  · rename_i t p
    cases hv with
    | iface _ v _ hv =>
      refine .iface _ _ _ ?_
      split
      · split
        · rename_i hc; exact hpt _ _ _ hv hc
        · exact hv.ext x
      · exact hv.ext x
  · rename_i ps
    cases hv with
    | agg vs _ hn hr =>
      refine .agg _ _ (by simpa using hn) fun i q hi => ?_
      simp only [List.getElem?_map, Option.map_eq_some_iff] at hi
      obtain ⟨p, hp', rfl⟩ := hi
      have := hr i p hp'
      split
      · split
        · rename_i hc; exact hrs _ _ _ _ _ _ this hc
        · exact this.ext x
      · exact this.ext x
  · exact hv.ext x
end
end Go.Abs
