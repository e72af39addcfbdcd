/- Plain: filters with groups, levels without marks, texts cut at a slash. -/
import Derived.Test.YtefjmcoecidfnaaDoorTD
set_option linter.unusedSimpArgs false
set_option linter.unusedVariables false
namespace Go.Proofs
open Go Go.Abs
set_option maxRecDepth 10000
theorem okBytes_pre : ∀ (p l : List UInt8), (∀ b ∈ p, 0 < b.toNat ∧ b.toNat < 128) → okBytes (p ++ l) = okBytes l
  | [], _, _ => rfl
  | b :: p, l, h => by
    have hb := h b (by simp)
    rw [← okBytes_pre p l fun x hx => h x (by simp [hx])]
    unfold okBytes
    rw [List.cons_append, Lib.validD_cons _ _ hb.2, zero_cons hb.1]
def shB : List UInt8 := [36, 115, 104, 97, 114, 101, 47]
theorem shareS_data : shareS.data.toList = shB := rfl
theorem share_pre (r : List UInt8) : isShare (bs (shB ++ r)) = true ∧ restL (bs (shB ++ r)) = r := by
  have h : Lib.hasPrefix (bs (shB ++ r)).data.toList shareS.data.toList = true := by
    rw [bs_data, shareS_data, ← Lib.hasPrefix_of_take]
    simp
  refine ⟨h, ?_⟩
  unfold restL Lib.trimPrefix
  rw [if_pos h, bs_data, shareS_data]
  simp
theorem cut_pre (g l : List UInt8) (hg : ∀ b ∈ g, b ≠ 47) : Lib.cut (g ++ 47 :: l) [47] = (g, l, true) := by
  have hat : (g ++ 47 :: l)[g.length]? = some 47 := by simp
  rcases Lib.index_spec (g ++ 47 :: l) [47] with ⟨h1, _⟩ | ⟨j, h1, _⟩
  · rw [Lib.index_one] at h1
    exact absurd hat (Lib.indexByte_none h1 _)
  · have h2 := h1
    rw [Lib.index_one] at h2
    obtain ⟨a1, a2⟩ := Lib.indexByte_some h2
    have hj : j = g.length := by
      rcases Nat.lt_trichotomy j g.length with hl | he | hg'
      · rw [List.getElem?_append_left hl, List.getElem?_eq_getElem hl] at a1
        exact absurd (by simpa using a1) (hg _ (List.getElem_mem hl))
      · exact he
      · exact absurd hat (a2 _ hg')
    subst hj
    unfold Lib.cut
    rw [if_pos (by rw [h1]; omega), h1]
    simp
/-- A filter with a group, as it is put together. -/
theorem filt_group (g l : List UInt8) (hg : ∀ b ∈ g, b ≠ 47) :
    filtG (bs (shB ++ (g ++ 47 :: l))) = bs g ∧ filtF (bs (shB ++ (g ++ 47 :: l))) = bs l ∧ filtOk (bs (shB ++ (g ++ 47 :: l))) = ((okText (bs (shB ++ (g ++ 47 :: l))) && (!strEq (bs g) ⟨#[]⟩ && !hasPm (bs g))) && plainB (bs l)) := by
  obtain ⟨h1, h2⟩ := share_pre (g ++ 47 :: l)
  have hG : filtG (bs (shB ++ (g ++ 47 :: l))) = bs g := by unfold filtG; rw [h1, h2, cut_pre g l hg]; rfl
  have hF : filtF (bs (shB ++ (g ++ 47 :: l))) = bs l := by unfold filtF; rw [h1, h2, cut_pre g l hg]; rfl
  refine ⟨hG, hF, ?_⟩
  unfold filtOk
  rw [hG, hF, h1, h2, cut_pre g l hg]
  simp
theorem okText_pre (p l : List UInt8) (hp : ∀ b ∈ p, 0 < b.toNat ∧ b.toNat < 128) (hl : p.length + l.length ≤ 65535) : okText (bs (p ++ l)) = okBytes l := by
  unfold okText
  rw [bs_data, okBytes_pre p l hp, bs_size, List.length_append, decide_eq_true hl, Bool.and_true]
/-! Levels without marks. -/
theorem pm_sub {a b : ByteArray} (h : hasPm b = false) (hs : ∀ x ∈ a.data.toList, x ∈ b.data.toList) : hasPm a = false := by
  unfold hasPm at *
  rw [List.any_eq_false] at *
  exact fun x hx => h x (hs x hx)
theorem split_sub : ∀ (l : List UInt8), ∀ p ∈ splitL l, ∀ x ∈ p, x ∈ l
  | [], p, h, x, hx => by simp [splitL] at h; subst h; exact hx
  | b :: l, p, h, x, hx => by
    have ih := split_sub l
    unfold splitL at h
    split at h
    · rcases List.mem_cons.1 h with rfl | h
      · cases hx
      · exact .tail _ (ih p h x hx)
    · split at h
      · simp at h; subst h; simp at hx; subst hx; simp
      · rename_i q r hq
        rw [hq] at ih
        rcases List.mem_cons.1 h with rfl | h
        · rcases List.mem_cons.1 hx with rfl | hx
          · simp
          · exact .tail _ (ih q (by simp) x hx)
        · exact .tail _ (ih p (by simp [h]) x hx)
theorem levels_pm {s : ByteArray} (h : hasPm s = false) : ∀ x ∈ levels s, hasPm x = false := by
  intro x hx
  unfold levels at hx
  obtain ⟨p, hp, rfl⟩ := List.mem_map.1 hx
  exact pm_sub h fun y hy => by rw [bs_data] at hy; exact split_sub _ _ hp y hy
theorem strEq_refl (s : ByteArray) : strEq s s = true := by rw [strEq_iff]; simp
theorem not_hash {x : ByteArray} (h : hasPm x = false) : strEq x hashS = false ∧ strEq x plusS = false := by
  rw [strEq_iff, strEq_iff, decide_eq_false_iff_not, decide_eq_false_iff_not]
  constructor <;> (rintro rfl; revert h; decide)
theorem levelB_no {x : ByteArray} {b : Bool} (h : hasPm x = false) : levelB x b = true := by
  unfold levelB; rw [(not_hash h).1, h]; simp
theorem levelsB_no : ∀ {L : List ByteArray}, (∀ x ∈ L, hasPm x = false) → levelsB L = true
  | [], _ => rfl
  | x :: L, h => by
    unfold levelsB
    rw [levelB_no (h x (by simp)), levelsB_no fun y hy => h y (by simp [hy])]; rfl
theorem levelsB_hash : ∀ {L : List ByteArray}, (∀ x ∈ L, hasPm x = false) → levelsB (L ++ [hashS]) = true
  | [], _ => by kernel_rfl
  | x :: L, h => by
    rw [List.cons_append]
    unfold levelsB
    rw [levelB_no (h x (by simp)), levelsB_hash fun y hy => h y (by simp [hy])]; rfl
theorem fits_self : ∀ (L : List ByteArray), fitsB L L = true
  | [] => rfl
  | x :: L => by unfold fitsB; simp only [strEq_refl, fits_self L, Bool.or_true, Bool.and_true]
theorem fits_hash : ∀ (L M : List ByteArray), fitsB (L ++ [hashS]) (L ++ M) = true
  | [], M => by
    show fitsB [hashS] M = true
    unfold fitsB; rw [strEq_refl]; rfl
  | x :: L, M => by
    rw [List.cons_append, List.cons_append]
    unfold fitsB
    simp only [strEq_refl, fits_hash L M, Bool.or_true, Bool.and_true]
theorem splitL_app : ∀ (l r : List UInt8), splitL (l ++ 47 :: r) = splitL l ++ splitL r
  | [], r => by simp [splitL]
  | b :: l, r => by
    by_cases h : b = 47
    · subst h; rw [List.cons_append]; simp only [splitL, if_true, splitL_app l r, List.cons_append]
    · obtain ⟨p, q, h1, h2⟩ := splitL_cons (l := l) h
      obtain ⟨p', q', h1', h2'⟩ := splitL_cons (l := l ++ 47 :: r) h
      rw [List.cons_append, h2', h2]
      rw [splitL_app l r, h1, List.cons_append] at h1'
      injection h1' with e1 e2
      rw [← e1, ← e2, List.cons_append]
theorem levels_app (l r : List UInt8) : levels (bs (l ++ 47 :: r)) = levels (bs l) ++ levels (bs r) := by
  unfold levels
  rw [bs_data, bs_data, bs_data, splitL_app, List.map_append]
/-! A text cut at a slash. -/
theorem ok_drop : ∀ (n : Nat) (l : List UInt8) (k : Nat), l.length ≤ n → okBytes l = true → k ≤ l.length → (k < l.length → l[k]? = some 47) → okBytes (l.drop k) = true := by
  intro n
  induction n with
  | zero =>
    intro l k hn hok hk _
    have : l = [] := List.eq_nil_of_length_eq_zero (by omega)
    subst this
    simpa using hok
  | succ n ih =>
    intro l k hn hok hk h47
    rcases Nat.eq_zero_or_pos k with rfl | hk0
    · simpa using hok
    have hne : l ≠ [] := by rintro rfl; simp at hk; omega
    obtain ⟨s0, s1⟩ := step_point l hne
    have hp : pointN (nums l) ≠ 0 := fun h => by rw [s0 h] at hok; cases hok
    obtain ⟨hpl, he⟩ := s1 hp
    have hpk : pointN (nums l) ≤ k := by
      rcases Nat.lt_or_ge k (pointN (nums l)) with hlt | hge
      · exfalso
        have hc : ContN (nums l) (pointN (nums l)) := by
          generalize hP : pointN (nums l) = P at *
          unfold pointN at hP
          split at hP
          · omega
          · unfold tailN at hP
            split at hP
            · omega
            · split at hP
              · rename_i hc
                split at hP
                · omega
                · rw [← hP]; exact hc
              · omega
        have h1 := hc k hk0 hlt
        have h2 := h47 (by omega)
        have h3 : (nums l).getD k 0 = 47 := by
          rw [List.getD_eq_getElem?_getD, List.getElem?_map, h2]; rfl
        rw [h3] at h1
        omega
      · exact hge
    rw [he] at hok
    have := ih (l.drop (pointN (nums l))) (k - pointN (nums l)) (by rw [List.length_drop]; omega) hok (by rw [List.length_drop]; omega) (fun h => by
      rw [List.length_drop] at h
      rw [List.getElem?_drop, show pointN (nums l) + (k - pointN (nums l)) = k by omega]
      exact h47 (by omega))
    rwa [List.drop_drop, show pointN (nums l) + (k - pointN (nums l)) = k by omega] at this
end Go.Proofs
