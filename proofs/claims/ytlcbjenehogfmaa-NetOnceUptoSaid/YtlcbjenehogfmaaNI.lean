/- NetOnce: what its picks put in, and how often each comes. -/
import Derived.Test.YtlcbjenehogfmaaNH
set_option linter.unusedSimpArgs false
set_option linter.unusedVariables false
namespace Go.Proofs
open Go Go.Abs
variable {glob : Nat → PV}
set_option maxRecDepth 10000
set_option maxHeartbeats 4000000
def item (k : Nat) (pick : Int) : List WayD :=
  if pick % 4 = 3 then [⟨101, 4, k⟩, ⟨102 + pick / 4 % 8, 4, k⟩] else if pick % 4 = 2 then [⟨102 + pick / 4 % 8, 4, k⟩] else if pick % 4 = 0 then [⟨101, 4, k⟩] else []
def full (P : Nat → Int) : Nat → List WayD
  | 0 => []
  | n + 1 => full P n ++ item n (P n)
theorem item_len (k : Nat) (p : Int) : (item k p).length ≤ 2 := by
  unfold item
  repeat' split
  all_goals simp
theorem full_len (P : Nat → Int) : ∀ n, (full P n).length ≤ 2 * n
  | 0 => by simp [full]
  | n + 1 => by
    have := full_len P n
    have := item_len n (P n)
    simp only [full, List.length_append]; omega
theorem put_full (P : Nat → Int) (n : Nat) (hn : n < 1000) : putL (full P n) 4 n 100 (P n % 4) (P n / 4 % 8) = full P (n + 1) := by
  have hl := full_len P n
  have s1 : ∀ w, sent (full P n) w = full P n ++ [w] := fun w => by unfold sent; rw [if_pos (by omega)]
  have s2 : ∀ w v, sent (full P n ++ [w]) v = full P n ++ [w, v] := fun w v => by
    unfold sent; rw [if_pos (by simp; omega)]; simp
  unfold putL
  simp only [full, item, s1, s2]
  have e1 : (100 : Int) + 1 = 101 := rfl
  have e2 : (100 : Int) + 2 = 102 := rfl
  rw [e1, e2]
  repeat' split
  all_goals first | rfl | simp
theorem item_mem {k : Nat} {p : Int} {w : WayD} (h : w ∈ item k p) : w.kind = 4 ∧ w.term = k ∧ 101 ≤ w.at_ ∧ w.at_ ≤ 109 := by
  have h8 : 0 ≤ p / 4 % 8 ∧ p / 4 % 8 < 8 := by omega
  unfold item at h
  split at h
  · simp only [List.mem_cons, List.not_mem_nil, or_false] at h
    rcases h with rfl | rfl
    · exact ⟨rfl, rfl, by simp, by simp⟩
    · exact ⟨rfl, rfl, by simp only; omega, by simp only; omega⟩
  · split at h
    · simp only [List.mem_cons, List.not_mem_nil, or_false] at h
      subst h; exact ⟨rfl, rfl, by simp only; omega, by simp only; omega⟩
    · split at h
      · simp only [List.mem_cons, List.not_mem_nil, or_false] at h
        subst h; exact ⟨rfl, rfl, by simp, by simp⟩
      · simp at h
theorem full_mem (P : Nat → Int) : ∀ {n : Nat} {w : WayD}, w ∈ full P n → w.kind = 4 ∧ (∃ j, j < n ∧ w.term = (j : Int)) ∧ 101 ≤ w.at_ ∧ w.at_ ≤ 109
  | 0, w, h => by simp [full] at h
  | n + 1, w, h => by
    simp only [full, List.mem_append] at h
    rcases h with h | h
    · obtain ⟨h1, ⟨j, h2, h3⟩, h4⟩ := full_mem P h
      exact ⟨h1, ⟨j, by omega, h3⟩, h4⟩
    · obtain ⟨h1, h2, h3⟩ := item_mem h
      exact ⟨h1, ⟨n, by omega, h2⟩, h3⟩
/-- How many have a number. -/
def cnt (X : List WayD) (j : Nat) : Int := (X.countP fun w => decide (w.term = (j : Int)) : Nat)
theorem cnt_app (X Y : List WayD) (j : Nat) : cnt (X ++ Y) j = cnt X j + cnt Y j := by simp [cnt]
theorem cnt_item (k j : Nat) (p : Int) : cnt (item k p) j = if j = k then ((item k p).length : Int) else 0 := by
  unfold cnt
  split
  · rename_i h; subst h
    rw [List.countP_eq_length.2]
    intro w hw; simp [(item_mem hw).2.1]
  · rename_i h
    rw [List.countP_eq_zero.2]
    · rfl
    · intro w hw; rw [(item_mem hw).2.1]; simp; omega
theorem cnt_full (P : Nat → Int) (j : Nat) : ∀ n, cnt (full P n) j = if j < n then ((item j (P j)).length : Int) else 0
  | 0 => by simp [full, cnt]
  | n + 1 => by
    simp only [full]
    rw [cnt_app, cnt_full P j n, cnt_item]
    by_cases h1 : j = n
    · subst h1; simp
    · by_cases h2 : j < n
      · rw [if_pos h2, if_neg h1, if_pos (by omega)]; omega
      · rw [if_neg h2, if_neg h1, if_neg (by omega)]; rfl
/-- What is still there at a time; what has come ahead of it. -/
def rest (t : Int) (X : List WayD) : List WayD := X.filter fun w => decide (t ≤ w.at_)
def gone (t : Int) (X : List WayD) : List WayD := X.filter fun w => decide (w.at_ < t)
theorem left_rest (t : Int) (X : List WayD) : left t (rest t X) = rest (t + 1) X := by
  unfold left rest comeB
  rw [List.filter_filter]
  apply List.filter_congr
  intro w _
  rw [Bool.eq_iff_iff]; simp only [Bool.and_eq_true, Bool.not_eq_true', decide_eq_true_eq, decide_eq_false_iff_not]; omega
theorem cnt_step (t : Int) (j : Nat) : ∀ X : List WayD, cnt (gone t X) j + cnt (come t (rest t X)) j = cnt (gone (t + 1) X) j
  | [] => by simp [gone, rest, cnt]
  | w :: X => by
    have ih := cnt_step t j X
    unfold gone rest come comeB at *
    simp only [List.filter_cons]
    by_cases h1 : w.at_ < t
    · rw [if_pos (by simpa using h1), if_neg (by simp; omega), if_pos (by simp; omega)]
      have e : ∀ Y : List WayD, cnt (w :: Y) j = cnt [w] j + cnt Y j := fun Y => by rw [← cnt_app]; rfl
      rw [e, e (List.filter _ X)]; omega
    · by_cases h2 : w.at_ ≤ t
      · rw [if_neg (by simpa using h1), if_pos (by simp; omega), List.filter_cons, if_pos (by simpa using h2), if_pos (by simp; omega)]
        have e : ∀ Y : List WayD, cnt (w :: Y) j = cnt [w] j + cnt Y j := fun Y => by rw [← cnt_app]; rfl
        rw [e, e (List.filter _ X)]; omega
      · rw [if_neg (by simpa using h1), if_pos (by simp; omega), List.filter_cons, if_neg (by simpa using h2), if_neg (by simp; omega)]
        exact ih
theorem eqAll_rest (t : Int) (X : List WayD) : EqAll (come t (rest t X)) := by
  have h : ∀ w ∈ come t (rest t X), w.at_ = t := fun w hw => by
    unfold come rest comeB at hw
    simp only [List.mem_filter, decide_eq_true_eq] at hw
    omega
  intro i j hi hj
  rw [h _ (getD_mem hi), h _ (getD_mem hj)]
theorem rest_all {P : Nat → Int} {n : Nat} : rest 101 (full P n) = full P n := by
  unfold rest; rw [List.filter_eq_self]
  intro w hw; have := (full_mem P hw).2.2; simp; omega
theorem gone_none {P : Nat → Int} {n : Nat} : gone 101 (full P n) = [] := by
  unfold gone; rw [List.filter_eq_nil_iff]
  intro w hw; have := (full_mem P hw).2.2; simp; omega
theorem rest_none {P : Nat → Int} {n : Nat} : rest 111 (full P n) = [] := by
  unfold rest; rw [List.filter_eq_nil_iff]
  intro w hw; have := (full_mem P hw).2.2; simp; omega
theorem gone_all {P : Nat → Int} {n : Nat} : gone 111 (full P n) = full P n := by
  unfold gone; rw [List.filter_eq_self]
  intro w hw; have := (full_mem P hw).2.2; simp; omega
theorem come_100 {P : Nat → Int} {n : Nat} : come 100 (full P n) = [] := by
  unfold come comeB; rw [List.filter_eq_nil_iff]
  intro w hw; have := (full_mem P hw).2.2; simp; omega
theorem left_100 {P : Nat → Int} {n : Nat} : left 100 (full P n) = full P n := by
  unfold left comeB; rw [List.filter_eq_self]
  intro w hw; have := (full_mem P hw).2.2; simp; omega
end Go.Proofs
