/- What is a change: both ways of asking agree. Plain, without a program. -/
import Derived.Test.YtcbbphoehjmanaaDoorQS
set_option linter.unusedSimpArgs false
set_option linter.unusedVariables false
namespace Go.Proofs
open Go Go.Abs
def pool : List Int := [1, 2, 3, 4, 5, 6, 7]
theorem may_pair {M : List Int} (h : MayL M) : M.Pairwise (· < ·) := by
  refine List.pairwise_iff_getElem.2 fun i j hi hj hij => ?_
  have := may_lt h j i hij hj
  rwa [List.getD_eq_getElem?_getD, List.getD_eq_getElem?_getD, List.getElem?_eq_getElem hi, List.getElem?_eq_getElem hj] at this
theorem pair_may {M : List Int} (h : M.Pairwise (· < ·)) (hb : ∀ x ∈ M, 1 ≤ x ∧ x ≤ 7) : MayL M := by
  intro i hi
  have h1 := hb _ (List.getElem_mem hi)
  have e : ∀ j (hj : j < M.length), M.getD j default = M[j] := fun j hj => by rw [List.getD_eq_getElem?_getD, List.getElem?_eq_getElem hj]; rfl
  refine ⟨by rw [e i hi]; exact h1.1, by rw [e i hi]; exact h1.2, fun h0 => ?_⟩
  rw [e i hi, e (i - 1) (by omega)]
  exact List.pairwise_iff_getElem.1 h (i - 1) i (by omega) hi (by omega)
theorem set_may {a : Int} : MayL (setL a 7) := by
  refine pair_may ?_ ?_
  · unfold setL
    refine List.pairwise_map.2 ?_
    refine List.Pairwise.imp (R := fun x y : Nat => x < y) (fun h => by omega) ?_
    exact List.Pairwise.sublist List.filter_sublist List.pairwise_lt_range
  · intro x hx
    unfold setL at hx
    obtain ⟨k, hk, rfl⟩ := List.mem_map.1 hx
    have := List.mem_range.1 (List.mem_filter.1 hk).1
    omega
theorem eq_of_rising {A B : List Int} (hA : A.Pairwise (· < ·)) (hB : B.Pairwise (· < ·)) (h : ∀ x, x ∈ A ↔ x ∈ B) : A = B := by
  induction A generalizing B with
  | nil => cases B with
    | nil => rfl
    | cons b B => exact absurd ((h b).2 (by simp)) (by simp)
  | cons a A ih =>
    cases B with
    | nil => exact absurd ((h a).1 (by simp)) (by simp)
    | cons b B =>
      rw [List.pairwise_cons] at hA hB
      have e : a = b := by
        rcases List.mem_cons.1 ((h a).1 (by simp)) with e | e
        · exact e
        · rcases List.mem_cons.1 ((h b).2 (by simp)) with e' | e'
          · exact e'.symm
          · have := hA.1 b e'; have := hB.1 a e; omega
      subst e
      congr 1
      refine ih hA.2 hB.2 fun x => ?_
      have hx := h x
      simp only [List.mem_cons] at hx
      constructor
      · intro k
        rcases hx.1 (.inr k) with e | e
        · subst e; have := hA.1 _ k; omega
        · exact e
      · intro k
        rcases hx.2 (.inr k) with e | e
        · subst e; have := hB.1 _ k; omega
        · exact e
theorem may_pool {M : List Int} (h : MayL M) : M = pool.filter fun k => decide (k ∈ M) := by
  refine eq_of_rising (may_pair h) (List.Pairwise.sublist List.filter_sublist (by decide)) fun x => ?_
  simp only [List.mem_filter, decide_eq_true_eq]
  refine ⟨fun hx => ⟨?_, hx⟩, fun hx => hx.2⟩
  have := may_le h hx
  simp only [pool, List.mem_cons, List.not_mem_nil, or_false]
  omega
variable (p q : Int → Bool)
theorem bal (P : List Int) : (P.filter q).length + (P.filter fun x => p x && !q x).length = (P.filter p).length + (P.filter fun x => q x && !p x).length ∧
    (P.filter fun x => q x != p x).length = (P.filter fun x => p x && !q x).length + (P.filter fun x => q x && !p x).length := by
  induction P with
  | nil => simp
  | cons a P ih =>
    simp only [List.filter_cons]
    cases hp : p a <;> cases hq : q a <;> simp <;> omega
/-- One more: the pieces. -/
theorem more_iff {P : List Int} (hn : P.Nodup) : oneMore (P.filter p) (P.filter q) = true ↔ (P.filter fun x => q x && !p x).length = 1 ∧ (P.filter fun x => p x && !q x).length = 0 := by
  unfold oneMore
  simp only [List.any_eq_true, decide_eq_true_eq]
  constructor
  · rintro ⟨k, hk, he⟩
    have hm : ∀ x ∈ P, p x = (q x && !(x == k)) := fun x hx => by
      have : x ∈ (P.filter q).filter (fun v => !(v == k)) ↔ x ∈ P.filter p := by rw [he]
      simp only [List.mem_filter, hx, true_and] at this
      cases hp : p x <;> cases hq : q x <;> cases hk : (x == k) <;> simp_all
    have hkP := List.mem_filter.1 hk
    have e1 : (P.filter fun x => q x && !p x) = P.filter (fun x => x == k) := List.filter_congr fun x hx => by
      rw [hm x hx]
      cases hxk : (x == k)
      · simp
      · have : x = k := by simpa using hxk
        subst this; simp [hkP.2]
    have e2 : (P.filter fun x => p x && !q x) = [] := List.filter_eq_nil_iff.2 fun x hx => by
      rw [hm x hx]; cases q x <;> simp
    rw [e1, e2]
    refine ⟨?_, rfl⟩
    rw [← List.countP_eq_length_filter]
    have : P.count k = 1 := by rw [hn.count, if_pos hkP.1]
    exact this
  · rintro ⟨h1, h2⟩
    obtain ⟨k, hk⟩ := List.length_eq_one_iff.1 h1
    have h2 := List.eq_nil_of_length_eq_zero h2
    have hkm : k ∈ P.filter fun x => q x && !p x := by rw [hk]; simp
    simp only [List.mem_filter, Bool.and_eq_true, Bool.not_eq_true'] at hkm
    refine ⟨k, List.mem_filter.2 ⟨hkm.1, hkm.2.1⟩, ?_⟩
    rw [List.filter_filter]
    refine List.filter_congr fun x hx => ?_
    have a1 : x ∈ (P.filter fun x => q x && !p x) ↔ x = k := by rw [hk]; simp
    have a2 : ¬ x ∈ (P.filter fun x => p x && !q x) := by rw [h2]; simp
    simp only [List.mem_filter, hx, true_and] at a1 a2
    cases hxk : (x == k)
    · have : ¬ x = k := by simpa using hxk
      cases hp : p x <;> cases hq : q x <;> simp_all
    · have : x = k := by simpa using hxk
      subst this; simp [hkm.2.2]
theorem differs_iff {P : List Int} (hn : P.Nodup) : differs (P.filter p) (P.filter q) = (decide ((P.filter fun x => q x != p x).length = 1) && decide (0 < (P.filter q).length)) := by
  obtain ⟨b1, b2⟩ := bal p q P
  have m1 := more_iff p q hn
  have m2 := more_iff q p hn
  have hne : decide (P.filter q ≠ []) = decide (0 < (P.filter q).length) := decide_eq_decide.2 List.length_pos_iff.symm
  unfold differs
  rw [hne]
  generalize oneMore (P.filter p) (P.filter q) = u1 at *
  generalize oneMore (P.filter q) (P.filter p) = u2 at *
  split
  · rw [Bool.and_comm]
    congr 1
    cases u2
    · exact (decide_eq_false fun h => by have : false = true := m2.2 (by omega); cases this).symm
    · exact (decide_eq_true (by have := m2.1 rfl; omega)).symm
  · split
    · have : decide (0 < (P.filter q).length) = true := decide_eq_true (by omega)
      rw [this, Bool.and_true]
      cases u1
      · exact (decide_eq_false fun h => by have : false = true := m1.2 (by omega); cases this).symm
      · exact (decide_eq_true (by have := m1.1 rfl; omega)).symm
    · rw [show decide ((P.filter fun x => q x != p x).length = 1) = false from decide_eq_false (by omega)]
      rfl
/-- How many of the first i numbers are in one alone. -/
def unlike (M V : List Int) (i : Nat) : Nat := ((List.range i).filter fun k : Nat => decide (((k : Int) + 1) ∈ V) != decide (((k : Int) + 1) ∈ M)).length
theorem unlike_succ {M V : List Int} {i : Nat} : unlike M V (i + 1) = if decide (((i : Int) + 1) ∈ V) != decide (((i : Int) + 1) ∈ M) then unlike M V i + 1 else unlike M V i := by
  unfold unlike
  rw [List.range_succ, List.filter_append, List.length_append]
  split
  · rename_i h; simp [List.filter_cons, h]
  · rename_i h; simp [List.filter_cons, h]
theorem unlike_le {M V : List Int} {i : Nat} : unlike M V i ≤ i := by
  unfold unlike
  exact Nat.le_trans (List.length_filter_le _ _) (by simp)
theorem changes_alike {M V : List Int} (hM : MayL M) (hV : MayL V) : differs M V = (decide (unlike M V 7 = 1) && decide (0 < V.length)) := by
  have h := differs_iff (fun k => decide (k ∈ M)) (fun k => decide (k ∈ V)) (P := pool) (by decide)
  rw [← may_pool hM, ← may_pool hV] at h
  rw [h]
  congr 2
  have : pool = (List.range 7).map fun k : Nat => (k : Int) + 1 := by decide
  unfold unlike
  rw [this, List.filter_map, List.length_map]
  rfl
end Go.Proofs
