/- Plain: the reference's look at bytes and the library's agree. -/
import Derived.Test.YtdappnnpkmofhaaDoorTR
set_option linter.unusedSimpArgs false
set_option linter.unusedVariables false
namespace Go.Proofs
open Go Go.Abs
def okBytes (l : List UInt8) : Bool := Lib.validD l && !(l.contains 0)
abbrev nums (l : List UInt8) : List Nat := l.map (·.toNat)
theorem nums_get (l : List UInt8) (i : Nat) : (nums l).getD i 0 = byteN (bs l) i := by
  unfold byteN bs
  simp only [List.getD_eq_getElem?_getD, List.getElem?_map]
  rw [Array.getD_eq_getD_getElem?, List.getElem?_toArray]
  cases l[i]? <;> rfl
theorem decodeL_eq (l : List UInt8) : Lib.decodeL l = Utf8.decode (bs l) 0 := rfl
theorem zero_cons {b : UInt8} {l : List UInt8} (h : 0 < b.toNat) : (b :: l).contains 0 = l.contains 0 := by
  have : ¬ (0 : UInt8) = b := fun e => by subst e; simp at h
  simp [this]
theorem zero_drop : ∀ (n : Nat) (l : List UInt8), n ≤ l.length → (∀ k, k < n → 0 < (nums l).getD k 0) → l.contains 0 = (l.drop n).contains 0
  | 0, _, _, _ => rfl
  | n + 1, [], h, _ => by simp at h
  | n + 1, b :: l, h, hk => by
    have h0 := hk 0 (by omega)
    simp at h0
    rw [zero_cons h0, List.drop_succ_cons]
    exact zero_drop n l (by simpa using h) fun k hk' => by
      have := hk (k + 1) (by omega)
      simpa using this
theorem cont3 {m : List Nat} {n : Nat} : ContN m n ↔ (1 < n → m.getD 1 0 / 64 = 2) ∧ (2 < n → m.getD 2 0 / 64 = 2) ∧ (3 < n → m.getD 3 0 / 64 = 2) ∧ (4 < n → ∀ j, 4 ≤ j → j < n → m.getD j 0 / 64 = 2) := by
  constructor
  · intro h; exact ⟨fun k => h 1 (by omega) k, fun k => h 2 (by omega) k, fun k => h 3 (by omega) k, fun _ j h1 h2 => h j (by omega) h2⟩
  · rintro ⟨h1, h2, h3, h4⟩ j a b
    match j, a, b with
    | 1, _, b => exact h1 b
    | 2, _, b => exact h2 b
    | 3, _, b => exact h3 b
    | j + 4, _, b => exact h4 (by omega) _ (by omega) b
/-- One step: both ways. -/
theorem step_point (l : List UInt8) (hne : l ≠ []) : (pointN (nums l) = 0 → okBytes l = false) ∧ (pointN (nums l) ≠ 0 → pointN (nums l) ≤ l.length ∧ okBytes l = okBytes (l.drop (pointN (nums l)))) := by
  have hlen : (nums l).length = l.length := by simp
  have hl0 : 0 < l.length := List.length_pos_iff.2 hne
  have hv := Lib.validD_step l hne
  rw [decodeL_eq] at hv
  have hb : ∀ k, (nums l).getD k 0 < 256 := fun k => by rw [nums_get]; exact byteN_lt _ _
  have hz := zero_drop
  have hsz : (bs l).size = l.length := bs_size l
  have key : ∀ n, n ≠ 0 → n ≤ l.length → pointN (nums l) = n → (∀ k, k < n → 0 < (nums l).getD k 0) → Lib.validD l = Lib.validD (l.drop n) → (pointN (nums l) = 0 → okBytes l = false) ∧ (pointN (nums l) ≠ 0 → pointN (nums l) ≤ l.length ∧ okBytes l = okBytes (l.drop (pointN (nums l)))) := by
    intro n h0 h1 h2 h3 h4
    rw [h2]
    refine ⟨fun e => absurd e h0, fun _ => ⟨h1, ?_⟩⟩
    unfold okBytes
    rw [h4, zero_drop n l h1 h3]
  have bad : pointN (nums l) = 0 → okBytes l = false → (pointN (nums l) = 0 → okBytes l = false) ∧ (pointN (nums l) ≠ 0 → pointN (nums l) ≤ l.length ∧ okBytes l = okBytes (l.drop (pointN (nums l)))) := fun h1 h2 => ⟨fun _ => h2, fun h => absurd h1 h⟩
  have hbf : Lib.validD l = false → okBytes l = false := fun h => by unfold okBytes; rw [h]; rfl
  have hd : Utf8.decode (bs l) 0 = Utf8.decode (bs l) 0 := rfl
  conv at hd => rhs; unfold Utf8.decode
  simp only [get!_nat, Nat.zero_add, ← nums_get, hsz] at hd
  have hb0 := hb 0
  have hb1 := hb 1
  have hb2 := hb 2
  have hb3 := hb 3
  generalize h0e : (nums l).getD 0 0 = b0 at *
  generalize h1e : (nums l).getD 1 0 = b1 at *
  generalize h2e : (nums l).getD 2 0 = b2 at *
  generalize h3e : (nums l).getD 3 0 = b3 at *
  have hk : ∀ n, n ≤ 4 → (0 < n → 0 < b0) → (1 < n → 0 < b1) → (2 < n → 0 < b2) → (3 < n → 0 < b3) → ∀ k, k < n → 0 < (nums l).getD k 0 := by
    intro n hn a b c d k hk
    match k, hk with
    | 0, h => rw [h0e]; exact a h
    | 1, h => rw [h1e]; exact b h
    | 2, h => rw [h2e]; exact c h
    | 3, h => rw [h3e]; exact d h
    | k + 4, h => omega
  have hpt : ∀ n p least, headN b0 = (n, p, least) → pointN (nums l) = if n = 0 then 0 else tailN (nums l) n p least := fun n p least e => by unfold pointN; rw [h0e, e]
  have htl : ∀ n p least, n ≤ l.length → tailN (nums l) n p least = if ContN (nums l) n then (if badN (pv (nums l) p n) least then 0 else n) else 0 := fun n p least h => by unfold tailN; rw [hlen, if_neg (by omega)]
  have hts : ∀ n p least, l.length < n → tailN (nums l) n p least = 0 := fun n p least h => by unfold tailN; rw [hlen, if_pos h]
  rcases Nat.lt_or_ge b0 128 with h | h
  · rw [if_pos h] at hd
    have hp := hpt 1 b0 1 (by unfold headN; (repeat' split) <;> first | rfl | (exfalso; omega))
    rw [if_neg (by decide), htl 1 b0 1 (by omega), if_pos (cont3.2 ⟨fun h => by omega, fun h => by omega, fun h => by omega, fun h => by omega⟩)] at hp
    rw [show pv (nums l) b0 1 = b0 from rfl] at hp
    by_cases hz0 : b0 = 0
    · rw [if_pos (by simp only [badN]; omega)] at hp
      refine bad hp ?_
      unfold okBytes
      have : l.contains 0 = true := by
        match l, hne with
        | x :: r, _ =>
          have : x.toNat = 0 := by have := h0e; simp at this; omega
          have : x = 0 := UInt8.toNat_inj.1 this
          simp [this]
      rw [this]; simp
    · rw [if_neg (by simp only [badN]; omega)] at hp
      refine key 1 (by omega) (by omega) hp (hk 1 (by omega) (fun _ => by omega) (fun h => by omega) (fun h => by omega) (fun h => by omega)) ?_
      rw [hv, hd, if_neg (by simp only; omega)]
  · rw [if_neg (by omega)] at hd
    have no : Utf8.decode (bs l) 0 = (Utf8.runeError, 1) → okBytes l = false := fun h => hbf (by rw [hv, h, if_pos ⟨rfl, rfl⟩])
    rcases Nat.lt_or_ge b0 192 with h1 | h1
    · have hp := hpt 0 0 0 (by unfold headN; (repeat' split) <;> first | rfl | (exfalso; omega))
      rw [if_pos rfl] at hp
      rw [if_neg (by simp only [Bool.and_eq_true, beq_iff_eq, decide_eq_true_eq]; omega), if_neg (by simp only [Bool.and_eq_true, beq_iff_eq, decide_eq_true_eq]; omega), if_neg (by simp only [Bool.and_eq_true, beq_iff_eq, decide_eq_true_eq]; omega)] at hd
      exact bad hp (no hd)
    rcases Nat.lt_or_ge b0 224 with h2 | h2
    · have hp := hpt 2 (b0 % 32) 128 (by unfold headN; (repeat' split) <;> first | rfl | (exfalso; omega))
      rw [if_neg (by decide)] at hp
      by_cases hl2 : l.length < 2
      · rw [hts _ _ _ hl2] at hp
        rw [if_neg (by simp only [Bool.and_eq_true, beq_iff_eq, decide_eq_true_eq]; omega), if_neg (by simp only [Bool.and_eq_true, beq_iff_eq, decide_eq_true_eq]; omega), if_neg (by simp only [Bool.and_eq_true, beq_iff_eq, decide_eq_true_eq]; omega)] at hd
        exact bad hp (no hd)
      rw [htl _ _ _ (by omega)] at hp
      have hpv : pv (nums l) (b0 % 32) 2 = b0 % 32 * 64 + b1 % 64 := by rw [← h1e]; rfl
      rw [hpv] at hp
      by_cases hc : b1 / 64 = 2
      · rw [if_pos (cont3.2 ⟨fun _ => by rw [h1e]; exact hc, fun h => by omega, fun h => by omega, fun h => by omega⟩)] at hp
        rw [if_pos (by simp only [Bool.and_eq_true, beq_iff_eq, decide_eq_true_eq]; omega)] at hd
        by_cases hbd : b0 % 32 * 64 + b1 % 64 < 128
        · rw [if_pos (by simp only [badN]; omega)] at hp
          rw [if_neg (by omega)] at hd
          exact bad hp (no hd)
        · rw [if_neg (by simp only [badN]; omega)] at hp
          rw [if_pos (by omega)] at hd
          refine key 2 (by omega) (by omega) hp (hk 2 (by omega) (fun _ => by omega) (fun _ => by omega) (fun h => by omega) (fun h => by omega)) ?_
          rw [hv, hd, if_neg (by simp only; omega)]
      · rw [if_neg (fun h => hc (by have := (cont3.1 h).1 (by omega); rwa [h1e] at this))] at hp
        rw [if_neg (by simp only [Bool.and_eq_true, beq_iff_eq, decide_eq_true_eq]; omega), if_neg (by simp only [Bool.and_eq_true, beq_iff_eq, decide_eq_true_eq]; omega), if_neg (by simp only [Bool.and_eq_true, beq_iff_eq, decide_eq_true_eq]; omega)] at hd
        exact bad hp (no hd)
    rcases Nat.lt_or_ge b0 240 with h3 | h3
    · have hp := hpt 3 (b0 % 16) 2048 (by unfold headN; (repeat' split) <;> first | rfl | (exfalso; omega))
      rw [if_neg (by decide)] at hp
      rw [if_neg (by simp only [Bool.and_eq_true, beq_iff_eq, decide_eq_true_eq]; omega)] at hd
      by_cases hl2 : l.length < 3
      · rw [hts _ _ _ hl2] at hp
        rw [if_neg (by simp only [Bool.and_eq_true, beq_iff_eq, decide_eq_true_eq]; omega), if_neg (by simp only [Bool.and_eq_true, beq_iff_eq, decide_eq_true_eq]; omega)] at hd
        exact bad hp (no hd)
      rw [htl _ _ _ (by omega)] at hp
      have hpv : pv (nums l) (b0 % 16) 3 = (b0 % 16 * 64 + b1 % 64) * 64 + b2 % 64 := by rw [← h1e, ← h2e]; rfl
      rw [hpv] at hp
      by_cases hc : b1 / 64 = 2 ∧ b2 / 64 = 2
      · rw [if_pos (cont3.2 ⟨fun _ => by rw [h1e]; exact hc.1, fun h => by rw [h2e]; exact hc.2, fun h => by omega, fun h => by omega⟩)] at hp
        rw [if_pos (by simp only [Bool.and_eq_true, beq_iff_eq, decide_eq_true_eq]; omega)] at hd
        by_cases hbd : badN ((b0 % 16 * 64 + b1 % 64) * 64 + b2 % 64) 2048
        · rw [if_pos hbd] at hp
          simp only [badN] at hbd
          rw [if_neg (by simp only [Bool.and_eq_true, decide_eq_true_eq, Utf8.valid, Bool.or_eq_true]; omega)] at hd
          exact bad hp (no hd)
        · rw [if_neg hbd] at hp
          simp only [badN] at hbd
          rw [if_pos (by simp only [Bool.and_eq_true, decide_eq_true_eq, Utf8.valid, Bool.or_eq_true]; omega)] at hd
          refine key 3 (by omega) (by omega) hp (hk 3 (by omega) (fun _ => by omega) (fun _ => by omega) (fun _ => by omega) (fun h => by omega)) ?_
          rw [hv, hd, if_neg (by simp only; omega)]
      · rw [if_neg (fun h => hc ⟨by have := (cont3.1 h).1 (by omega); rwa [h1e] at this, by have := (cont3.1 h).2.1 (by omega); rwa [h2e] at this⟩)] at hp
        rw [if_neg (by simp only [Bool.and_eq_true, beq_iff_eq, decide_eq_true_eq]; omega), if_neg (by simp only [Bool.and_eq_true, beq_iff_eq, decide_eq_true_eq]; omega)] at hd
        exact bad hp (no hd)
    rcases Nat.lt_or_ge b0 248 with h4 | h4
    · have hp := hpt 4 (b0 % 8) 65536 (by unfold headN; (repeat' split) <;> first | rfl | (exfalso; omega))
      rw [if_neg (by decide)] at hp
      rw [if_neg (by simp only [Bool.and_eq_true, beq_iff_eq, decide_eq_true_eq]; omega), if_neg (by simp only [Bool.and_eq_true, beq_iff_eq, decide_eq_true_eq]; omega)] at hd
      by_cases hl2 : l.length < 4
      · rw [hts _ _ _ hl2] at hp
        rw [if_neg (by simp only [Bool.and_eq_true, beq_iff_eq, decide_eq_true_eq]; omega)] at hd
        exact bad hp (no hd)
      rw [htl _ _ _ (by omega)] at hp
      have hpv : pv (nums l) (b0 % 8) 4 = ((b0 % 8 * 64 + b1 % 64) * 64 + b2 % 64) * 64 + b3 % 64 := by rw [← h1e, ← h2e, ← h3e]; rfl
      rw [hpv] at hp
      by_cases hc : b1 / 64 = 2 ∧ b2 / 64 = 2 ∧ b3 / 64 = 2
      · rw [if_pos (cont3.2 ⟨fun _ => by rw [h1e]; exact hc.1, fun h => by rw [h2e]; exact hc.2.1, fun h => by rw [h3e]; exact hc.2.2, fun h => by omega⟩)] at hp
        rw [if_pos (by simp only [Bool.and_eq_true, beq_iff_eq, decide_eq_true_eq]; omega)] at hd
        by_cases hbd : badN (((b0 % 8 * 64 + b1 % 64) * 64 + b2 % 64) * 64 + b3 % 64) 65536
        · rw [if_pos hbd] at hp
          simp only [badN] at hbd
          rw [if_neg (by simp only [Bool.and_eq_true, decide_eq_true_eq, Utf8.valid, Bool.or_eq_true]; omega)] at hd
          exact bad hp (no hd)
        · rw [if_neg hbd] at hp
          simp only [badN] at hbd
          rw [if_pos (by simp only [Bool.and_eq_true, decide_eq_true_eq, Utf8.valid, Bool.or_eq_true]; omega)] at hd
          refine key 4 (by omega) (by omega) hp (hk 4 (by omega) (fun _ => by omega) (fun _ => by omega) (fun _ => by omega) (fun h => by omega)) ?_
          rw [hv, hd, if_neg (by simp only; omega)]
      · rw [if_neg (fun h => hc ⟨by have := (cont3.1 h).1 (by omega); rwa [h1e] at this, by have := (cont3.1 h).2.1 (by omega); rwa [h2e] at this, by have := (cont3.1 h).2.2.1 (by omega); rwa [h3e] at this⟩)] at hp
        rw [if_neg (by simp only [Bool.and_eq_true, beq_iff_eq, decide_eq_true_eq]; omega)] at hd
        exact bad hp (no hd)
    · have hp := hpt 0 0 0 (by unfold headN; (repeat' split) <;> first | rfl | (exfalso; omega))
      rw [if_pos rfl] at hp
      rw [if_neg (by simp only [Bool.and_eq_true, beq_iff_eq, decide_eq_true_eq]; omega), if_neg (by simp only [Bool.and_eq_true, beq_iff_eq, decide_eq_true_eq]; omega), if_neg (by simp only [Bool.and_eq_true, beq_iff_eq, decide_eq_true_eq]; omega)] at hd
      exact bad hp (no hd)
end Go.Proofs
