/- Votes: that both ways of counting count alike. Plain, without a program. -/
import Derived.Test.YtcbbphoehjmanaaDoorQD
set_option linter.unusedSimpArgs false
set_option linter.unusedVariables false
namespace Go.Proofs
open Go Go.Abs
theorem cnt_full {L V : List Int} : cnt L V L.length = (L.filter fun v => decide (v ∈ V)).length := by simp [cnt]
theorem may_lt {M : List Int} (h : MayL M) : ∀ j i, i < j → j < M.length → M.getD i default < M.getD j default
  | 0, i, hi, _ => by omega
  | j + 1, i, hi, hj => by
    have h1 := (h (j + 1) hj).2.2 (by omega)
    rw [show j + 1 - 1 = j by omega] at h1
    by_cases e : i = j
    · subst e; exact h1
    · have := may_lt h j i (by omega) (by omega); omega
theorem may_nodup {M : List Int} (h : MayL M) : M.Nodup := by
  refine List.pairwise_iff_getElem.2 fun i j hi hj hij e => ?_
  have := may_lt h j i hij hj
  rw [List.getD_eq_getElem?_getD, List.getD_eq_getElem?_getD, List.getElem?_eq_getElem hi, List.getElem?_eq_getElem hj] at this
  simp at this; omega
theorem may_le {M : List Int} (h : MayL M) {x : Int} (hx : x ∈ M) : 1 ≤ x ∧ x ≤ 7 := by
  obtain ⟨i, hi, rfl⟩ := List.getElem_of_mem hx
  have := h i hi
  simp only [mayAt, List.getD_eq_getElem?_getD, List.getElem?_eq_getElem hi, Option.getD_some] at this
  exact ⟨this.1, this.2.1⟩
theorem set_nodup {a : Int} {i : Nat} : (setL a i).Nodup := by
  unfold setL
  refine List.pairwise_map.2 ?_
  refine List.Pairwise.imp (R := fun x y : Nat => x < y) (fun h e => by omega) ?_
  exact List.Pairwise.sublist List.filter_sublist List.pairwise_lt_range
theorem cnt_swap {A B B' : List Int} (hA : A.Nodup) (hB : B.Nodup) (h : ∀ x, x ∈ A → (x ∈ B' ↔ x ∈ B)) : (A.filter fun v => decide (v ∈ B')).length = (B.filter fun v => decide (v ∈ A)).length := by
  refine List.Perm.length_eq ((List.perm_ext_iff_of_nodup (List.Pairwise.sublist List.filter_sublist hA) (List.Pairwise.sublist List.filter_sublist hB)).2 fun x => ?_)
  simp only [List.mem_filter, decide_eq_true_eq]
  exact ⟨fun ⟨h1, h2⟩ => ⟨(h x h1).1 h2, h1⟩, fun ⟨h1, h2⟩ => ⟨h2, (h x h2).2 h1⟩⟩
theorem votes_alike {M : List Int} {a : Int} {i : Nat} (h : MayL M) : mostOf M (setL a i ++ [99]) = decide (2 * cnt (setL a i) M (setL a i).length > M.length) := by
  unfold mostOf
  rw [cnt_full, cnt_full, cnt_swap (may_nodup h) set_nodup (B := setL a i) fun x hx => ?_]
  have := may_le h hx
  simp only [List.mem_append, List.mem_singleton]
  exact ⟨fun h => h.elim id fun e => by omega, .inl⟩
end Go.Proofs
