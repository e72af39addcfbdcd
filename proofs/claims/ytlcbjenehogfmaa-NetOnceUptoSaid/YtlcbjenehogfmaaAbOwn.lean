/- Rows that grow: nil, or a thing of its own; one rule for both. -/
import Derived.Test.YtlcbjenehogfmaaAbRun2
set_option linter.unusedSimpArgs false
set_option linter.unusedVariables false
namespace Go.Abs
open Go
section
variable {P : Program} {glob : Nat → PV} {n : Nat} {l : Fram} {Q : Post}

/-- A row that grows, over what was there (σ): nil, or a thing of its own. f: the cells of an element. -/
inductive Grow {α : Type} (k : Nat) (f : α → List PV) (σ : Store) : List α → PV → Store → Prop
  | nil : Grow k f σ [] (.lit (.slice none 0 0)) σ
  | some (o : Nat) (L : List α) (hL : L ≠ []) (τ : Store) (hs : Sub σ τ) (hn : σ o = none) (h : τ o = some (.cells (L.flatMap f))) : Grow k f σ L (.rs k o 0 L.length L.length) τ

theorem flatMap_len {α : Type} {k : Nat} {f : α → List PV} (hk : ∀ x, (f x).length = k) : ∀ (L : List α), (L.flatMap f).length = L.length * k
  | [] => by simp
  | a :: L => by simp only [List.flatMap_cons, List.length_append, flatMap_len hk L, hk, List.length_cons, Nat.succ_mul]; omega

theorem frz_rows {α : Type} {k o : Nat} {f : α → List PV} (hk : ∀ x, (f x).length = k) (L : List α) : frz o (L.flatMap f) (.rs k o 0 L.length L.length) = .vs k (L.map f) := by
  have h2 : ∀ (L : List α), (List.range L.length).map (fun i => ((L.flatMap f).drop (i * k)).take k) = L.map f := by
    intro L
    induction L with
    | nil => simp
    | cons y L ih =>
      rw [List.length_cons, List.range_succ_eq_map, List.map_cons, List.map_map, List.map_cons, ← ih]
      congr 1
      · simp [hk]
      · apply List.map_congr_left
        intro i _
        simp only [Function.comp_apply, List.flatMap_cons]
        rw [List.drop_append, hk, show (i + 1) * k - k = i * k by rw [Nat.succ_mul]; omega]
        rw [List.drop_of_length_le (by rw [hk, Nat.succ_mul]; omega), List.nil_append]
  unfold frz
  simp only [Nat.zero_add]
  rw [if_pos ⟨trivial, by rw [flatMap_len hk]; exact Nat.le_refl _⟩, h2]

theorem Grow.sub {α : Type} {k : Nat} {f : α → List PV} {σ τ : Store} {L : List α} {p : PV} (h : Grow k f σ L p τ) : Sub σ τ := by
  cases h with
  | nil => exact .refl _
  | some o L hL τ hs hn h => exact hs

/-- What is said of the row's slot where it may be frozen. -/
theorem Grow.freeze {α : Type} {k : Nat} {f : α → List PV} {σ τ : Store} {L : List α} {p : PV} (h : Grow k f σ L p τ) (hk : ∀ x, (f x).length = k) {c : Code} (F : PV → Fram) (hl : LeF l (F p)) (hc : ∀ o, (F (.rs k o 0 L.length L.length)).map (fun x => (x.1, frz o (L.flatMap f) x.2)) = F (frz o (L.flatMap f) (.rs k o 0 L.length L.length)))
    (hm : LeF (F (.lit (.slice none 0 0))) (F (.vs k []))) (hw : AWp P glob n c (F (.vs k (L.map f))) σ Q) : AWp P glob n c l τ Q := by
  cases h with
  | nil => exact hw.weaken (fun t gh w v h => hm t gh w v (hl t gh w v h)) (.refl _)
  | some o L hL τ hs hn h =>
    refine .narrow _ hl (.freeze o h ?_)
    rw [hc o, frz_rows hk]
    refine .forget ?_ hw
    exact hs.drop hn

/-- The end of a function that gives the row back. -/
theorem Grow.hand {α : Type} {k : Nat} {f : α → List PV} {σ τ : Store} {L : List α} {p : PV} (h : Grow k f σ L p τ) (hk : ∀ x, (f x).length = k) {K : PV → Store → Prop} (hw : K (.vs k (L.map f)) σ) : Hand K p τ := by
  cases h with
  | nil => exact .done (Le.nil_vs k) (.refl _) hw
  | some o L hL τ hs hn h =>
    refine .freeze h ?_
    rw [frz_rows hk]
    exact .done (.refl _) (hs.drop hn) hw

/-- One more. -/
theorem Grow.app1 {α : Type} {k : Nat} {f : α → List PV} {σ τ : Store} {L : List α} {p : PV} (h : Grow k f σ L p τ) (hk : ∀ x, (f x).length = k) (x : α) {K : PV → Store → Prop} {bytes : Nat}
    (hsz : (L.length + 1) * bytes ≤ 140737488355328) (hkk : ∀ p' τ', Grow k f σ (L ++ [x]) p' τ' → K p' τ') : appW k bytes τ p 1 (f x) K := by
  cases h with
  | nil =>
    rw [appW_nil]
    refine ⟨by simpa [Chk] using hsz, ?_⟩
    rw [if_neg (by decide)]
    intro o ho
    exact hkk _ _ (.some o [x] (by simp) _ (Sub.new ho) ho (by simp [set_same]))
  | some o L hL τ hs hn h =>
    rw [appW_grow (by omega)]
    refine ⟨rfl, _, h, ⟨hsz, by simp [flatMap_len hk]⟩, fun o' ho' => ?_⟩
    have a := hs.none ho'
    have := hkk (.rs k o' 0 (L.length + 1) (L.length + 1)) ((τ.drop o).set o' (.cells (L.flatMap f ++ f x)))
    simp only [List.drop_zero]
    refine this ?_
    have e : L.length + 1 = (L ++ [x]).length := by simp
    rw [e]
    exact .some o' _ (by simp) _ ((hs.drop hn).set a) a (by simp [set_same])

/-- Several more. -/
theorem Grow.apps {α : Type} {k : Nat} {f : α → List PV} {σ τ : Store} {L : List α} {p : PV} (h : Grow k f σ L p τ) (hk : ∀ x, (f x).length = k) (M : List α) {K : PV → Store → Prop} {bytes m : Nat} {news : List PV} (hm : m = M.length) (hn : news = M.flatMap f)
    (hsz : (L.length + m) * bytes ≤ 140737488355328) (hkk : ∀ p' τ', Grow k f σ (L ++ M) p' τ' → K p' τ') : appW k bytes τ p m news K := by
  subst hm hn
  cases h with
  | nil =>
    rw [appW_nil]
    refine ⟨by simpa [Chk] using hsz, ?_⟩
    split
    · rename_i h0
      have : M = [] := List.eq_nil_of_length_eq_zero h0
      subst this
      exact hkk _ _ .nil
    · rename_i h0
      intro o ho
      exact hkk _ _ (.some o M (by rintro rfl; simp at h0) _ (Sub.new ho) ho (by simp [set_same]))
  | some o L hL τ hs hn h =>
    rw [appW_rs]
    refine ⟨rfl, _, h, ?_⟩
    split
    · rename_i h0
      have : M = [] := List.eq_nil_of_length_eq_zero (by omega)
      subst this
      refine ⟨by simp [Chk, flatMap_len hk], ?_⟩
      have e := hkk (.rs k o 0 L.length L.length) τ (by rw [List.append_nil]; exact .some o L hL τ hs hn h)
      have e2 : τ.set o (.cells (splice (L.flatMap f) (0 + L.length * k) (List.flatMap f []))) = τ := by
        rw [List.flatMap_nil, splice_nil]; exact set_id h
      rw [e2]; exact e
    · refine ⟨⟨hsz, by simp [flatMap_len hk]⟩, fun o' ho' => ?_⟩
      have a := hs.none ho'
      have := hkk (.rs k o' 0 (L.length + M.length) (L.length + M.length)) ((τ.drop o).set o' (.cells (L.flatMap f ++ M.flatMap f)))
      simp only [List.drop_zero]
      refine this ?_
      have e : L.length + M.length = (L ++ M).length := by simp
      rw [e]
      exact .some o' _ (by simp [hL]) _ ((hs.drop hn).set a) a (by simp [set_same])

theorem Grow.len {α : Type} {k : Nat} {f : α → List PV} {σ τ : Store} {L : List α} {p : PV} (h : Grow k f σ L p τ) {T : TypeId} (hT : ∃ e, P.underlying T = Option.some (.slice e)) {K : PV → Prop} (hk : K (.lit (.int .i64 (L.length : Int)))) : lenW P T p K := by
  cases h with
  | nil => rw [lenW_nil]; exact ⟨hT, hk⟩
  | some o L hL τ hs hn h => rw [lenW_rs]; exact ⟨hT, hk⟩
end
end Go.Abs
