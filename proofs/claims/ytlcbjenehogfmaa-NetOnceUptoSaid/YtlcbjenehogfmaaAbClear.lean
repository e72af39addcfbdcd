/- clear, of a row of one-cell things that is owned. -/
import Derived.Test.YtlcbjenehogfmaaAbAppend
import GoSem.Builtin.Clear
set_option linter.unusedSimpArgs false
set_option linter.unusedVariables false
namespace Go.Abs
open Go
section
variable {P : Program} {glob : Nat → PV} {ρ : Operand → PV} {σ : Store} {dst : Option Tmp} {ty : TypeId} {pos : String} {after : Array Edge} {guard : Option (Nat × Bool)}

theorem set_id {o : Nat} {x : PObj} (h : σ o = some x) : σ.set o x = σ := by
  funext t; simp only [Store.set]; split
  · rename_i e; rw [e, h]
  · rfl

variable (P) in
/-- What clear does. -/
def clearW (T : TypeId) (σ : Store) (p : PV) (K : PV → Store → Prop) : Prop :=
  match p with
  | .lit (.slice none 0 0) | .z => (∃ e, P.underlying T = some (.slice e)) ∧ K .any σ
  | .rs k o off len _ => ∃ e zv cs, P.underlying T = some (.slice e) ∧ zeroCells P e = some [zv] ∧ zv.cell = true ∧ k = 1 ∧ σ o = some (.cells cs) ∧ Chk (off + len ≤ cs.length) ∧ K .any (σ.set o (.cells (splice cs off (List.replicate len zv))))
  | _ => False

theorem eff_clear (T : TypeId) (x : Operand) {K : PV → Store → Prop} (h : clearW P T σ (ρ x) K) : OpOk P glob ⟨dst, .call ⟨.builtin .clear, #[x], #[T]⟩, ty, pos, after, guard⟩ ρ σ K := by
  intro gh w a hR hF
  have hx := hF x (by simp [Op.operands, Call.operands])
  have wpv : ∀ w', (Builtin.clear_ #[T] ty #[a.eval x]).run P w = .ok (.tuple #[]) w' → (execOp a.eval ⟨dst, .call ⟨.builtin .clear, #[x], #[T]⟩, ty, pos, after, guard⟩).run P w = .ok (.value (.tuple #[])) w' := fun w' h => by
    simp only [execOp, resolve, invoke, builtin, Sem.run_bind, Sem.run_pure, Result.andThen_ok, List.map_toArray, List.map_cons, List.map_nil, h]
  unfold Oper.wp
  unfold clearW at h
  split at h
  · rename_i hp
    obtain ⟨⟨e, hT⟩, hk⟩ := h
    rw [hp] at hx
    have hv := lit_of_rep hx
    rw [wpv w (by rw [hv]; simp only [Builtin.clear_, List.getElem?_toArray, List.getElem?_cons_zero, Sem.run_bind, run_und hT, Result.andThen_ok, Sem.run_pure])]
    exact ⟨gh, _, _, _, rfl, .refl _ _, hR, .any _, hk⟩
  · rename_i hp
    obtain ⟨⟨e, hT⟩, hk⟩ := h
    rw [hp] at hx
    generalize hv : a.eval x = v at hx
    cases hx with
    | z ad =>
      rw [wpv w (by rw [hv]; cases ad <;> simp only [Builtin.clear_, List.getElem?_toArray, List.getElem?_cons_zero, Sem.run_bind, run_und hT, Result.andThen_ok, Sem.run_pure])]
      exact ⟨gh, _, _, _, rfl, .refl _ _, hR, .any _, hk⟩
  · rename_i k o off len cap hp
    obtain ⟨e, zp, cs, hT, hz, hzc, rfl, hσ, hoff, hk⟩ := h
    have hoff := hoff.out
    rw [hp] at hx
    generalize hv : a.eval x = v at hx
    have zero : len = 0 → K .any σ := fun h0 => by
      subst h0
      simp only [List.replicate_zero, splice, List.length_nil, Nat.add_zero, List.append_nil, List.take_append_drop] at hk
      rwa [set_id hσ] at hk
    cases hx with
    | rsZ _ _ _ ad =>
      rw [wpv w (by rw [hv]; cases ad <;> simp only [Builtin.clear_, List.getElem?_toArray, List.getElem?_cons_zero, Sem.run_bind, run_und hT, Result.andThen_ok, Sem.run_pure])]
      exact ⟨gh, _, _, _, rfl, .refl _ _, hR, .any _, zero rfl⟩
    | rs _ _ _ _ _ cap' s hG hl hcap hn =>
      cases len with
      | zero =>
        rw [wpv w (by rw [hv]; simp only [Builtin.clear_, List.getElem?_toArray, List.getElem?_cons_zero, Sem.run_bind, run_und hT, Result.andThen_ok, Sem.run_pure])]
        exact ⟨gh, _, _, _, rfl, .refl _ _, hR, .any _, zero rfl⟩
      | succ m =>
        obtain ⟨zv, z1, z2⟩ := run_zero (w := w) hz
        have zr := z2 gh w
        have zs : zv.cells.size = 1 := zr.1
        have zrep : Rep gh w (zv.cells.getD 0 undef) zp := zr.2 0 zp rfl
        have hlist : (Builtin.zeroCells zv.cells (m + 1)).toList = List.replicate (m + 1) (zv.cells.getD 0 undef) := by
          unfold Builtin.zeroCells
          rw [zs]
          apply List.ext_getElem?
          intro i
          by_cases hi : i < m + 1
          · have h0 : zv.cells[0]! = zv.cells.getD 0 undef := by rw [getElem!_pos zv.cells 0 (by omega)]; simp [zs]
            simp [hi, Nat.mod_one, h0]
          · simp [Nat.le_of_not_lt hi]
        have hlen : (List.replicate (m + 1) (zv.cells.getD 0 undef)).length = (List.replicate (m + 1) zp).length := by simp
        have hreps : ∀ i p, (List.replicate (m + 1) zp)[i]? = some p → Rep gh w ((List.replicate (m + 1) (zv.cells.getD 0 undef)).getD i undef) p := fun i p hi => by
          rw [List.getElem?_replicate] at hi
          split at hi
          · rename_i hlt
            cases hi
            rw [List.getD_eq_getElem?_getD, List.getElem?_replicate, if_pos hlt]; exact zrep
          · cases hi
        have ha : allCell (List.replicate (m + 1) zp) = true := by
          unfold allCell; rw [List.all_eq_true]; intro p hp; rw [List.eq_of_mem_replicate hp]; exact hzc
        have hst := run_storeCells_owned (P := P) hR hσ hG (off := off) (vs := List.replicate (m + 1) (zv.cells.getD 0 undef)) (by simp; omega) (mem_oneCell hlen hreps ha)
        obtain ⟨x1, x2⟩ := hR.write hσ hG hlen (by simpa using hoff) hreps ha
        rw [wpv (w.setCells s.b (s.base + off) (List.replicate (m + 1) (zv.cells.getD 0 undef))) (by
          rw [hv]
          simp only [Builtin.clear_, List.getElem?_toArray, List.getElem?_cons_zero, Sem.run_bind, run_und hT, Result.andThen_ok, z1, hlist, hst, Sem.run_pure])]
        exact ⟨gh, _, _, _, rfl, x1, x2, .any _, hk⟩
  · exact h.elim
end
end Go.Abs
