/- Plain: what TopicLaws asks. -/
import Derived.Test.YtefjmcoecidfnaaDoorTK
set_option linter.unusedSimpArgs false
set_option linter.unusedVariables false
namespace Go.Proofs
open Go Go.Abs
set_option maxRecDepth 10000
theorem share_is (s : ByteArray) : isShare s = (decide (7 ≤ s.size) && strEq (s.extract 0 7) shareS) := by
  unfold isShare
  rw [← Lib.hasPrefix_of_take, strEq_iff]
  have h7 : shareS.data.toList.length = 7 := rfl
  rw [h7, ← size_data]
  congr 1
  rw [Bool.eq_iff_iff, beq_iff_eq, decide_eq_true_eq]
  constructor
  · intro h
    apply data_inj
    rw [extract_data, List.drop_zero]; exact h
  · intro h
    rw [← h, extract_data, List.drop_zero]
theorem nameB_parts {s : ByteArray} (h : nameB s = true) : bareB s = true ∧ hasPm s = false := by
  unfold nameB at h
  simpa [Bool.and_eq_true, Bool.not_eq_true'] using h
theorem name_plain {s : ByteArray} (h : nameB s = true) (hs : isShare s = false) : plainB s = true := by
  obtain ⟨h1, h2⟩ := nameB_parts h
  unfold isShare at hs
  unfold plainB
  rw [levelsB_no (levels_pm h2), h1, hs]; rfl
theorem first_no {L : List ByteArray} (hL : ∀ x ∈ L, hasPm x = false) (hne : L ≠ []) : ([plusS, hashS].any fun x => strEq (L.getD 0 default) x) = false := by
  have hm : L.getD 0 default ∈ L := getD_mem (List.length_pos_iff.2 hne)
  have := not_hash (hL _ hm)
  simp only [List.any_cons, List.any_nil, this.1, this.2, Bool.or_false]
theorem match_self {s : ByteArray} (h : nameB s = true) : matchB s s = true := by
  obtain ⟨h1, h2⟩ := nameB_parts h
  unfold matchB
  rw [first_no (levels_pm h2) (levels_ne s), fits_self]; simp
theorem hash_levels : levels hashS = [hashS] := by kernel_rfl
theorem plus_levels : levels (bs [43]) = [plusS] := by kernel_rfl
theorem hash_plain : plainB hashS = true := by kernel_rfl
theorem match_hash (s : ByteArray) : matchB hashS s = !decide (byteN s 0 = 36) := by
  unfold matchB
  rw [hash_levels]
  have h1 : ([plusS, hashS].any fun x => strEq (([hashS] : List ByteArray).getD 0 default) x) = true := by kernel_rfl
  have h2 : fitsB [hashS] (levels s) = true := by unfold fitsB; rw [strEq_refl]; rfl
  rw [h1, h2]; simp
theorem app_bs (F : ByteArray) (p : List UInt8) : F ++ (⟨p.toArray⟩ : ByteArray) = bs (F.data.toList ++ p) := by
  refine data_inj ?_
  rw [bs_data, ByteArray.data_append]
  simp
theorem match_below {s : ByteArray} (h : nameB s = true) : matchB (s ++ ⟨#[47, 35]⟩) s = true ∧ matchB (s ++ ⟨#[47, 35]⟩) (s ++ ⟨#[47, 120, 47, 121]⟩) = true := by
  obtain ⟨h1, h2⟩ := nameB_parts h
  have e1 : levels (s ++ ⟨#[47, 35]⟩) = levels s ++ [hashS] := by
    rw [show s ++ (⟨#[47, 35]⟩ : ByteArray) = bs (s.data.toList ++ 47 :: [35]) from app_bs s [47, 35], levels_app, bs_of]
    exact congrArg _ hash_levels
  have e2 : levels (s ++ ⟨#[47, 120, 47, 121]⟩) = levels s ++ levels (bs [120, 47, 121]) := by
    rw [show s ++ (⟨#[47, 120, 47, 121]⟩ : ByteArray) = bs (s.data.toList ++ 47 :: [120, 47, 121]) from app_bs s [47, 120, 47, 121], levels_app, bs_of]
  have hl := levels_ne s
  have hp := levels_pm h2
  unfold matchB
  rw [e1, e2]
  generalize levels s = L at *
  have hd : (L ++ [hashS]).getD 0 default = L.getD 0 default := by
    cases L with
    | nil => exact absurd rfl hl
    | cons x L => rfl
  rw [hd, first_no hp hl]
  have f1 := fits_hash L []
  rw [List.append_nil] at f1
  rw [f1, fits_hash]
  simp
/-- The levels of a text cut at its first slash. -/
theorem cut_levels {l : List UInt8} {k : Nat} (hk : k ≤ l.length) (hno : ∀ j, j < k → l[j]? ≠ some 47) (h47 : k < l.length → l[k]? = some 47) :
    ∃ R, (∀ x ∈ R, x ∈ levels (bs l)) ∧ levels (bs l) = bs (l.take k) :: R ∧ levels (bs (43 :: l.drop k)) = plusS :: R := by
  have ht : levels (bs (l.take k)) = [bs (l.take k)] := by
    unfold levels; rw [bs_data, splitL_none (take_no hno)]; rfl
  rcases Nat.lt_or_ge k l.length with hl | hl
  · have hb : l[k] = 47 := by
      have := h47 hl
      rw [List.getElem?_eq_getElem hl] at this
      simpa using this
    have hd : l.drop k = 47 :: l.drop (k + 1) := by rw [← hb, ← List.drop_eq_getElem_cons hl]
    have e : l = l.take k ++ 47 :: l.drop (k + 1) := by rw [← hd, List.take_append_drop]
    have e1 : levels (bs l) = bs (l.take k) :: levels (bs (l.drop (k + 1))) := by
      conv => lhs; rw [e]
      rw [levels_app, ht]; rfl
    refine ⟨levels (bs (l.drop (k + 1))), fun x hx => by rw [e1]; exact .tail _ hx, e1, ?_⟩
    rw [hd]
    have := levels_app [43] (l.drop (k + 1))
    rw [plus_levels] at this
    exact this
  · have : k = l.length := by omega
    subst this
    rw [List.take_length] at ht ⊢
    refine ⟨[], (fun x hx => by cases hx), ht, ?_⟩
    rw [List.drop_length]; exact plus_levels
theorem plus_filter {s : ByteArray} {k : Nat} (h : nameB s = true) (hz : s.size < 65535) (hk : k ≤ s.data.toList.length) (hno : ∀ j, j < k → s.data.toList[j]? ≠ some 47) (h47 : k < s.data.toList.length → s.data.toList[k]? = some 47) :
    plainB (bs (43 :: s.data.toList.drop k)) = true ∧ matchB (bs (43 :: s.data.toList.drop k)) s = !decide (byteN s 0 = 36) := by
  obtain ⟨h1, h2⟩ := nameB_parts h
  obtain ⟨R, r1, r2, r3⟩ := cut_levels hk hno h47
  rw [bs_of] at r1 r2
  have hR : ∀ x ∈ R, hasPm x = false := fun x hx => levels_pm h2 x (r1 x hx)
  constructor
  · unfold plainB bareB
    rw [r3]
    unfold bareB okText at h1
    simp only [Bool.and_eq_true, decide_eq_true_eq] at h1
    obtain ⟨⟨a1, a2⟩, a3, a4⟩ := h1
    have hlen : R.length + 1 ≤ 32 := by rw [r2] at a4; simpa using a4
    have hok : okText (bs (43 :: s.data.toList.drop k)) = true := by
      have := okText_pre [43] (s.data.toList.drop k) (by decide) (by rw [List.length_drop, ← size_data]; simp; omega)
      refine Eq.trans this ?_
      exact ok_drop _ _ k (Nat.le_refl _) a1 hk h47
    have hne : strEq (bs (43 :: s.data.toList.drop k)) ⟨#[]⟩ = false := by
      rw [strEq_iff, decide_eq_false_iff_not]
      intro e
      have := congrArg ByteArray.size e
      rw [bs_size, show (⟨#[]⟩ : ByteArray).size = 0 from rfl] at this
      simp at this
    have hpre : Lib.hasPrefix (bs (43 :: s.data.toList.drop k)).data.toList shareS.data.toList = false := by
      rw [bs_data, shareS_data, ← Lib.hasPrefix_of_take]
      simp [shB]
    have hlv : levelsB (plusS :: R) = true := by
      unfold levelsB
      rw [levelsB_no hR]
      have : levelB plusS R.isEmpty = true := by
        unfold levelB
        rw [show strEq plusS hashS = false by kernel_rfl, strEq_refl]; rfl
      rw [this]; rfl
    rw [hlv, hok, hne, hpre]
    simp; omega
  · unfold matchB
    rw [r3, r2]
    have e1 : ([plusS, hashS].any fun x => strEq ((plusS :: R).getD 0 default) x) = true := by
      have : (plusS :: R).getD 0 default = plusS := rfl
      rw [this]
      simp [strEq_refl]
    have e2 : fitsB (plusS :: R) (bs (s.data.toList.take k) :: R) = true := by
      unfold fitsB
      simp only [strEq_refl, fits_self R, Bool.true_or, Bool.or_true, Bool.and_true]
    rw [e1, e2]; simp
end Go.Proofs
