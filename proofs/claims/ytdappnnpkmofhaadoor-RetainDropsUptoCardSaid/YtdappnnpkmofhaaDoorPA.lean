/- Plain: texts as lists of bytes; levels. -/
import Derived.Test.YtdappnnpkmofhaaDoorAbOwn
import Derived.Lib.Split
import Derived.Lib.SplitLaws
import Derived.Lib.IndexLaws
import Derived.Lib.IndexBytes
import Derived.Lib.ValidLaws
set_option linter.unusedSimpArgs false
set_option linter.unusedVariables false
namespace Go.Proofs
open Go Go.Abs
def bs (l : List UInt8) : ByteArray := ⟨l.toArray⟩
theorem bs_data (l : List UInt8) : (bs l).data.toList = l := by simp [bs]
theorem bs_of (s : ByteArray) : bs s.data.toList = s := by cases s; simp [bs]
theorem bs_inj {a b : List UInt8} (h : bs a = bs b) : a = b := by rw [← bs_data a, h, bs_data]
theorem data_inj {a b : ByteArray} (h : a.data.toList = b.data.toList) : a = b := by rw [← bs_of a, h, bs_of]
theorem size_data (s : ByteArray) : s.size = s.data.toList.length := Lib.size_eq s
theorem bs_size (l : List UInt8) : (bs l).size = l.length := by rw [size_data, bs_data]
theorem extract_data (s : ByteArray) (a b : Nat) : (s.extract a b).data.toList = (s.data.toList.drop a).take (b - a) := Lib.extract_data s a b
/-- What stands between the bytes 47. -/
def splitL : List UInt8 → List (List UInt8)
  | [] => [[]]
  | b :: l => if b = 47 then [] :: splitL l else match splitL l with | [] => [[b]] | p :: r => (b :: p) :: r
theorem splitL_ne (l : List UInt8) : splitL l ≠ [] := by
  cases l with
  | nil => simp [splitL]
  | cons b l =>
    unfold splitL
    split
    · simp
    · split <;> simp
theorem splitL_cons {b : UInt8} {l : List UInt8} (h : b ≠ 47) : ∃ p r, splitL l = p :: r ∧ splitL (b :: l) = (b :: p) :: r := by
  cases hs : splitL l with
  | nil => exact absurd hs (splitL_ne l)
  | cons p r => exact ⟨p, r, rfl, by simp [splitL, h, hs]⟩
theorem splitL_none : ∀ {p : List UInt8}, (∀ b ∈ p, b ≠ 47) → splitL p = [p]
  | [], _ => rfl
  | b :: p, h => by
    have hb : b ≠ 47 := h b (by simp)
    have := splitL_none (p := p) fun x hx => h x (by simp [hx])
    simp [splitL, hb, this]
theorem splitL_pre : ∀ {p : List UInt8} (r : List UInt8), (∀ b ∈ p, b ≠ 47) → splitL (p ++ 47 :: r) = p :: splitL r
  | [], r, _ => by simp [splitL]
  | b :: p, r, h => by
    have hb : b ≠ 47 := h b (by simp)
    have := splitL_pre (p := p) r fun x hx => h x (by simp [hx])
    simp only [List.cons_append, splitL, hb, if_false, this]
def levels (s : ByteArray) : List ByteArray := (splitL s.data.toList).map bs
def slash : ByteArray := ⟨#[47]⟩
theorem take_no {l : List UInt8} {i : Nat} (h : ∀ k, k < i → l[k]? ≠ some 47) : ∀ b ∈ l.take i, b ≠ 47 := by
  intro b hb e
  subst e
  obtain ⟨k, hk, he⟩ := List.getElem_of_mem hb
  have hk' : k < i := by simp at hk; omega
  refine h k hk' ?_
  rw [List.getElem?_eq_getElem (by simp at hk; omega)]
  simpa using he
theorem splitK_all : ∀ (k : Nat) (l : List UInt8), l.count 47 = k → Lib.splitK [47] 0 k l = splitL l := by
  intro k
  induction k with
  | zero =>
    intro l h
    have hn : ∀ b ∈ l, b ≠ 47 := fun b hb e => by
      subst e
      have := List.count_pos_iff.2 hb
      omega
    rw [splitL_none hn]; rfl
  | succ k ih =>
    intro l h
    have hm : (47 : UInt8) ∈ l := List.count_pos_iff.1 (by omega)
    rcases Lib.index_spec l [47] with ⟨h1, _⟩ | ⟨i, h1, _⟩
    · rw [Lib.index_one] at h1
      obtain ⟨j, hj, he⟩ := List.getElem_of_mem hm
      exact absurd (by rw [List.getElem?_eq_getElem hj, he]) (Lib.indexByte_none h1 j)
    · have h2 := h1
      rw [Lib.index_one] at h2
      obtain ⟨a1, a2⟩ := Lib.indexByte_some h2
      have hi : i < l.length := (List.getElem?_eq_some_iff.1 a1).1
      have hl : l = l.take i ++ 47 :: l.drop (i + 1) := by
        rw [List.getElem?_eq_getElem hi] at a1
        have : l[i] = 47 := by simpa using a1
        rw [← this, ← List.drop_eq_getElem_cons hi, List.take_append_drop]
      have hno := take_no a2
      have hc : (l.drop (i + 1)).count 47 = k := by
        rw [hl, List.count_append] at h
        have : (l.take i).count 47 = 0 := List.count_eq_zero.2 fun hm => hno _ hm rfl
        rw [this, List.count_cons_self] at h
        omega
      rw [hl, splitL_pre _ hno, ← ih _ hc, ← hl]
      simp only [Lib.splitK]
      rw [if_neg (by rw [h1]; simp)]
      simp [h1]
theorem split_levels (s : ByteArray) : Lib.splitB slash 0 (Lib.countB s slash) s = levels s ∧ Lib.countB s slash + 1 = (levels s).length := by
  have hc : Lib.countB s slash = s.data.toList.count 47 := Lib.count_one 47 s.data.toList
  have h := Lib.splitB_data slash 0 (Lib.countB s slash) s
  rw [show slash.data.toList = [47] from rfl, splitK_all _ _ hc.symm] at h
  have h1 : Lib.splitB slash 0 (Lib.countB s slash) s = levels s := by
    unfold levels
    rw [← h, List.map_map]
    conv => lhs; rw [← List.map_id (Lib.splitB slash 0 (Lib.countB s slash) s)]
    exact List.map_congr_left fun x _ => (bs_of x).symm
  exact ⟨h1, by rw [← h1, Lib.splitB_all slash (by decide) 0 _ s rfl]⟩
end Go.Proofs
