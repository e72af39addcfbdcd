/- From what a reading says of an argument to what is known of it, by its type; from the end of a call to what a row asks. -/
import Derived.Test.YtlcbjenehogfmaaAbRun2
import Derived.ProofKit
import Derived.OpenShut
set_option linter.unusedSimpArgs false
set_option linter.unusedVariables false
namespace Go.Abs
open Go
section
variable {H : Type} {P : Program} {gh : Gh} {W : World}

/-- How a measure of readings goes up. -/
structure Bulk (b : DataW H → Nat) (ba : List (DataW H) → Nat) : Prop where
  str : ∀ s, b (.lit (.string s)) = s.length + 1
  slice : ∀ e s, b (.slice e s) = ba e + ba s + 1
  agg : ∀ e, b (.agg e) = ba e + 1
  ptr : ∀ d, b (.ptr d) = b d + 1
  nil : ba [] = 0
  cons : ∀ d r, ba (d :: r) = b d + ba r
  one : ∀ d, 1 ≤ b d

theorem Bulk.le_of_mem {b : DataW H → Nat} {ba : List (DataW H) → Nat} (hb : Bulk b ba) {d : DataW H} : ∀ {l : List (DataW H)}, d ∈ l → b d ≤ ba l
  | [], h => by cases h
  | x :: r, h => by
    rw [hb.cons]
    rcases List.mem_cons.1 h with rfl | h
    · omega
    · have := hb.le_of_mem h; omega
theorem Bulk.length {b : DataW H → Nat} {ba : List (DataW H) → Nat} (hb : Bulk b ba) : ∀ (l : List (DataW H)), l.length ≤ ba l
  | [] => Nat.zero_le _
  | x :: r => by rw [hb.cons, List.length_cons]; have := hb.length r; have := hb.one x; omega

variable (P gh W) in
/-- What the cells of a type read as. -/
def Opens (b : DataW H → Nat) (t : TypeId) {α : Type} (G : Nat → α → Prop) (f : α → List PV) : Prop :=
  ∀ (enc : TypeId × Value → H) (base : Nat) (sp : Nat → Bool) (held : Bool) (fuel : Nat) (cs : List Value) (x : DataW H × List MemPlace), DataW.trod enc P W base sp held fuel t cs = some x → ∃ a, G (b x.1) a ∧ RepL gh W cs (f a)

theorem RepL.single {v : Value} {p : PV} (h : Rep gh W v p) : RepL gh W [v] [p] := .cons h .nil

theorem Opens.bool {b : DataW H → Nat} {t : TypeId} (ht : P.underlying t = some .bool) : Opens P gh W b t (fun _ _ => True) (fun a : Bool => [.lit (.bool a)]) := by
  intro enc base sp held fuel cs x h
  obtain ⟨a, rfl, rfl⟩ := DataW.trod_bool ht h
  exact ⟨a, trivial, .single (.lit _)⟩
theorem Opens.int {b : DataW H → Nat} {t : TypeId} {k : IntKind} (ht : P.underlying t = some (.int k)) : Opens P gh W b t (fun _ n => (Lit.int k n).wf = true) (fun n : Int => [.lit (.int k n)]) := by
  intro enc base sp held fuel cs x h
  obtain ⟨a, rfl, rfl, hw⟩ := DataW.trod_int ht h
  exact ⟨a, hw, .single (.lit _)⟩
theorem Opens.string {b : DataW H → Nat} {ba : List (DataW H) → Nat} (hb : Bulk b ba) {t : TypeId} (ht : P.underlying t = some .string) : Opens P gh W b t (fun n s => s.size < n) (fun s : ByteArray => [.lit (.string s)]) := by
  intro enc base sp held fuel cs x h
  obtain ⟨s, rfl, rfl, hw⟩ := DataW.trod_string ht h
  refine ⟨s, ?_, .single (.lit _)⟩
  simp only [hb.str]
  have : s.data.toList.length = s.size := Array.length_toList
  omega

theorem cells?_get {w : World} {base : Nat} {a : Addr} {n : Nat} {cs : List Value} (h : w.cells? base a n = some cs) : cs.length = n ∧ ∀ j, j < n → w.cell? (a.add j) = some (cs.getD j undef) := by
  unfold World.cells? at h
  split at h
  · have hl : cs.length = n := (mapM_some_length h).trans List.length_range
    refine ⟨hl, fun j hj => ?_⟩
    have := mapM_some_get h j j (by simp [hj])
    rw [this]
    simp [hl, hj]
  · cases h

theorem list_of {α : Type} [Inhabited α] {p : Nat → α → Prop} : ∀ (n : Nat), (∀ i, i < n → ∃ a, p i a) → ∃ L : List α, L.length = n ∧ ∀ i, i < n → p i (L.getD i default)
  | 0, _ => ⟨[], rfl, fun i h => by omega⟩
  | n + 1, h => by
    obtain ⟨L, h1, h2⟩ := list_of n fun i hi => h i (by omega)
    obtain ⟨a, ha⟩ := h n (by omega)
    refine ⟨L ++ [a], by simp [h1], fun i hi => ?_⟩
    rw [List.getD_eq_getElem?_getD]
    by_cases e : i < n
    · rw [List.getElem?_append_left (by omega), ← List.getD_eq_getElem?_getD]; exact h2 i e
    · have : i = n := by omega
      subst this
      rw [List.getElem?_append_right (by omega)]; simpa [h1] using ha

theorem spot_none {w : World} {a : Addr} {v : Value} (h : w.cell? a = some v) : a.spot = none := by
  unfold World.cell? at h
  split at h
  · split at h
    · cases h
    · rename_i hs; simpa using hs
  · cases h

theorem Opens.slice {b : DataW H → Nat} {ba : List (DataW H) → Nat} (hb : Bulk b ba) (hF : ∀ x, x < W.heap.size → gh.F x) {t e k : TypeId} (ht : P.underlying t = some (.slice e)) (hk : P.cellsOf e = k) (hk0 : 0 < k) {α : Type} [Inhabited α] {G : Nat → α → Prop} {f : α → List PV}
    (hG : ∀ m n a, m ≤ n → G m a → G n a) (hf : ∀ a, (f a).length = k) (he : Opens P gh W b e G f) : Opens P gh W b t (fun n L => L.length < n ∧ ∀ a ∈ L, G n a) (fun L : List α => [.vs k (L.map f)]) := by
  intro enc base sp held fuel cs x h
  rcases DataW.trod_slice ht h with ⟨rfl, rfl⟩ | ⟨a, len, cap, elems, rest, n, _, rfl, rfl, hbase, hl, hm, hlen, hel, hsp, hns⟩
  · exact ⟨[], ⟨hb.one _, fun a h => by cases h⟩, .single (.vsE k none 0)⟩
  · rw [hk] at hel
    have each : ∀ i, i < len → ∃ a', (∃ cs y, W.cells? base (a.add (i * k)) k = some cs ∧ elems[i]? = some y ∧ G (b y.1) a' ∧ RepL gh W cs (f a')) := fun i hi => by
      have h1 := hel i hi
      have hi' : i < elems.length := by omega
      rw [List.getElem?_eq_getElem hi', Option.bind_eq_some_iff] at h1
      obtain ⟨cs, h2, h3⟩ := h1
      obtain ⟨a', h4, h5⟩ := he _ _ _ _ _ _ _ h3
      exact ⟨a', cs, _, h2, List.getElem?_eq_getElem hi', h4, h5⟩
    obtain ⟨L, hL, hLp⟩ := list_of len each
    refine ⟨L, ?_, ?_⟩
    · simp only [hb.slice]
      refine ⟨by have := hb.length (elems.map (·.1)); simp at this; omega, fun a' ha' => ?_⟩
      obtain ⟨i, hi, rfl⟩ := List.getElem_of_mem ha'
      obtain ⟨cs, y, _, h2, h3, _⟩ := hLp i (by omega)
      rw [List.getD_eq_getElem?_getD, List.getElem?_eq_getElem hi, Option.getD_some] at h3
      have hm : y.1 ∈ elems.map (·.1) := List.mem_map_of_mem (List.mem_of_getElem? h2)
      exact hG _ _ _ (by have := hb.le_of_mem hm; omega) h3
    · refine .single ?_
      by_cases h0 : len = 0
      · have : L = [] := List.eq_nil_of_length_eq_zero (by omega)
        subst this
        rw [h0]; exact .vsE k (some a) cap
      · have hsp0 : a.spot = none := by
          obtain ⟨cs, y, h1, _⟩ := hLp 0 (by omega)
          have := (cells?_get h1).2 0 hk0
          have h2 := spot_none this
          simpa [Addr.add] using h2
        obtain ⟨blk, off, spt⟩ := a
        simp only at hsp0
        subst hsp0
        have hadd : ∀ m, (⟨blk, off, none⟩ : Addr).add m = ⟨blk, off + m, none⟩ := fun m => by
          unfold Addr.add; split
          · rename_i h; simp [h]
          · rfl
        have hcell : ∀ i j, i < len → j < k → ∃ p, (f (L.getD i default))[j]? = some p ∧ ∃ v, W.cell? ⟨blk, off + (i * k + j), none⟩ = some v ∧ Rep gh W v p := fun i j hi hj => by
          obtain ⟨cs, y, h1, _, _, h4⟩ := hLp i hi
          have h5 := (cells?_get h1).2 j hj
          rw [hadd, show (⟨blk, off + i * k, none⟩ : Addr).add j = ⟨blk, off + (i * k + j), none⟩ by unfold Addr.add; split <;> simp_all [Nat.add_assoc]] at h5
          have hj' : j < (f (L.getD i default)).length := by rw [hf]; exact hj
          exact ⟨_, List.getElem?_eq_getElem hj', _, h5, h4.2 j _ (List.getElem?_eq_getElem hj')⟩
        have hes : (L.map f).length = len := by simp [hL]
        have huni : ∀ e ∈ L.map f, e.length = k := fun e he => by
          obtain ⟨a', _, rfl⟩ := List.mem_map.1 he
          exact hf a'
        have hdm : ∀ i, i < len * k → i / k < len ∧ i % k < k ∧ i / k * k + i % k = i := fun i hi => ⟨(Nat.div_lt_iff_lt_mul hk0).2 hi, Nat.mod_lt _ hk0, by rw [Nat.mul_comm]; exact Nat.div_add_mod i k⟩
        have hblk : blk < W.heap.size := by
          obtain ⟨p, _, v, hv, _⟩ := hcell 0 0 (by omega) hk0
          unfold World.cell? at hv
          split at hv
          · rename_i h1; exact (Array.getElem?_eq_some_iff.1 h1).1
          · cases hv
        rw [← hes]
        refine .vs k (L.map f) blk off cap (fun i => (W.cell? ⟨blk, off + i, none⟩).getD undef) (hF _ hblk) (by omega) huni (fun i hi => ?_) (fun i p hp => ?_)
        · rw [hes] at hi
          obtain ⟨d1, d2, d3⟩ := hdm i hi
          obtain ⟨p, _, v, hv, _⟩ := hcell _ _ d1 d2
          rw [d3] at hv
          rw [hv]; rfl
        · have hi : i < len * k := by
            have := (List.getElem?_eq_some_iff.1 hp).1
            rw [flatten_length huni, hes] at this; exact this
          obtain ⟨d1, d2, d3⟩ := hdm i hi
          obtain ⟨q, hq, v, hv, hr⟩ := hcell _ _ d1 d2
          rw [d3] at hv
          have hrow : ((L.map f).getD (i / k) [])[i % k]? = some q := by
            rw [List.getD_eq_getElem?_getD, List.getElem?_map, List.getElem?_eq_getElem (by omega : i / k < L.length)]
            rw [List.getD_eq_getElem?_getD, List.getElem?_eq_getElem (by omega : i / k < L.length)] at hq
            exact hq
          have h1 := (flatten_get huni (by omega) hrow).1
          rw [d3, hp] at h1
          cases h1
          rw [hv]; exact hr

theorem Opens.map {b : DataW H → Nat} {t : TypeId} {α β : Type} {G : Nat → α → Prop} {f : α → List PV} {G' : Nat → β → Prop} {f' : β → List PV} (he : Opens P gh W b t G f) (g : α → β) (hg : ∀ n a, G n a → G' n (g a)) (hf : ∀ a, f a = f' (g a)) : Opens P gh W b t G' f' := by
  intro enc base sp held fuel cs x h
  obtain ⟨a, h1, h2⟩ := he _ _ _ _ _ _ _ h
  exact ⟨g a, hg _ _ h1, hf a ▸ h2⟩

/-! Structs, field by field. -/

variable (P gh W) in
def OpensF (b : DataW H → Nat) (ba : List (DataW H) → Nat) (fs : List Field) (o : Nat) {α : Type} (G : Nat → α → Prop) (f : α → List PV) : Prop :=
  ∀ (enc : TypeId × Value → H) (base : Nat) (sp : Nat → Bool) (held : Bool) (fuel : Nat) (cs : List Value) (xs : List (DataW H × List MemPlace)),
    (∀ (i : Nat) (fld : Field), fs[i]? = some fld → DataW.trod enc P W base sp held fuel fld.type ((cs.drop fld.offset).take (P.cellsOf fld.type)) = xs[i]?) → xs.length = fs.length → o + (fs.map fun x => P.cellsOf x.type).sum = cs.length →
    ∃ a, G (ba (xs.map (·.1))) a ∧ RepL gh W (cs.drop o) (f a)

theorem OpensF.nil {b : DataW H → Nat} {ba : List (DataW H) → Nat} {o : Nat} : OpensF P gh W b ba [] o (fun _ (_ : Unit) => True) (fun _ => []) := by
  intro enc base sp held fuel cs xs _ _ h
  refine ⟨(), trivial, ?_⟩
  have : cs.drop o = [] := List.drop_eq_nil_of_le (by simp at h; omega)
  rw [this]; exact .nil

theorem OpensF.cons {b : DataW H → Nat} {ba : List (DataW H) → Nat} (hb : Bulk b ba) {fld : Field} {fs : List Field} {o n : Nat} {α β : Type} {G : Nat → α → Prop} {f : α → List PV} {G' : Nat → β → Prop} {f' : β → List PV}
    (ho : fld.offset = o) (hn : P.cellsOf fld.type = n) (hG : ∀ m k a, m ≤ k → G m a → G k a) (hG' : ∀ m k a, m ≤ k → G' m a → G' k a) (he : Opens P gh W b fld.type G f) (hr : OpensF P gh W b ba fs (o + n) G' f') :
    OpensF P gh W b ba (fld :: fs) o (fun m (a : α × β) => G m a.1 ∧ G' m a.2) (fun a => f a.1 ++ f' a.2) := by
  intro enc base sp held fuel cs xs h1 h2 h3
  cases xs with
  | nil => simp at h2
  | cons x xs =>
    have e0 := h1 0 fld rfl
    rw [ho, hn] at e0
    obtain ⟨a, g1, r1⟩ := he _ _ _ _ _ _ _ e0
    obtain ⟨c, g2, r2⟩ := hr enc base sp held fuel cs xs (fun i fl hi => by simpa using h1 (i + 1) fl (by simpa using hi)) (by simpa using h2) (by simp [hn] at h3; omega)
    refine ⟨(a, c), ⟨hG _ _ _ ?_ g1, hG' _ _ _ ?_ g2⟩, ?_⟩
    · simp only [List.map_cons, hb.cons]; omega
    · simp only [List.map_cons, hb.cons]; omega
    · have := RepL.append r1 r2
      rwa [show (cs.drop o).take n ++ cs.drop (o + n) = cs.drop o by rw [← List.drop_drop, List.take_append_drop]] at this

theorem Opens.struct {b : DataW H → Nat} {ba : List (DataW H) → Nat} (hb : Bulk b ba) {t : TypeId} {fs : List Field} {α : Type} {G : Nat → α → Prop} {f : α → List PV} (ht : P.underlying t = some (.struct fs.toArray)) (hs : (fs.map fun x => P.cellsOf x.type).sum = P.cellsOf t)
    (hG : ∀ m k a, m ≤ k → G m a → G k a) (h : OpensF P gh W b ba fs 0 G f) : Opens P gh W b t G f := by
  intro enc base sp held fuel cs x hx
  obtain ⟨xs, n, _, rfl, hl, hlen, hel⟩ := DataW.trod_struct ht hx
  obtain ⟨a, g1, r1⟩ := h enc base sp held n cs xs (fun i fld hi => hel i fld (by simpa using hi)) (by simpa using hlen) (by rw [hs, hl]; omega)
  refine ⟨a, hG _ _ _ ?_ g1, by simpa using r1⟩
  simp only [hb.agg]; omega

/-! From the end of a call to the row. -/

/-- All that there is, frozen. -/
def ghAll (W : World) : Gh := ⟨fun x => x < W.heap.size, fun _ => none⟩
theorem ghAll_R {glob : Nat → PV} (W : World) (hgl : ∀ g, Rep (ghAll W) W (.pointer (some ⟨g, 0, none⟩)) (glob g)) : R glob (ghAll W) (fun _ => none) W where
  fb := fun _ h => h
  ob := fun o x e => by cases e
  inj := fun o o' x x' s s' e => by cases e
  fresh := ⟨0, fun o _ => ⟨rfl, rfl⟩⟩
  gl := hgl

theorem Ext.below {gh' : Gh} {W w' : World} (h : Ext (ghAll W) W gh' w') : RowKit.Below W.heap.size W w' := ⟨h.os, h.tape, h.output, h.size, fun i hi => h.same i hi⟩

/-- A whole call out of what is known of it by its parts. -/
theorem ACalls.run {f : FuncId} {glob : Nat → PV} {args : List PV} {Q : PV → Store → Prop} (h : ACalls P glob f args (fun _ => none) Q) (he : Enters P f) {W : World} (hgl : ∀ g, Rep (ghAll W) W (.pointer (some ⟨g, 0, none⟩)) (glob g)) {vs : List Value} (hv : RepL (ghAll W) W vs args) :
    Calls P f vs.toArray W fun e w' => ∃ v gh' r σ', e = .returned v ∧ RowKit.Below W.heap.size W w' ∧ Rep gh' w' v r ∧ Q r σ' := by
  rcases h (ghAll W) W vs (ghAll_R W hgl) hv with ⟨_, h⟩ | ⟨v, w', h1, _⟩
  · exact h.mono fun _ _ ⟨v, h0, gh', r, σ', h1, _, h3, h4⟩ => ⟨v, gh', r, σ', h0, h1.below, h3, h4⟩
  · obtain ⟨fn, e1, e2, e3⟩ := he
    simp only [callFunc, Sem.run_bind, Sem.run_pure, Result.andThen_ok, run_program, e1, e2, e3, Bool.false_eq_true, if_false] at h1
    cases h1

theorem ACalls.run_bool {f : FuncId} {glob : Nat → PV} {args : List PV} {b : Bool} {S : Store → Prop} (h : ACalls P glob f args (fun _ => none) (fun r σ => r = .lit (.bool b) ∧ S σ)) (he : Enters P f) {W : World} (hgl : ∀ g, Rep (ghAll W) W (.pointer (some ⟨g, 0, none⟩)) (glob g)) {vs : List Value} (hv : RepL (ghAll W) W vs args) :
    Calls P f vs.toArray W fun e w' => e = .returned (.bool b) ∧ RowKit.Below W.heap.size W w' :=
  (h.run he hgl hv).mono fun _ _ ⟨v, gh', r, σ', h0, h1, h3, h4, _⟩ => by
    subst h4
    cases h3
    exact ⟨h0, h1⟩
end
end Go.Abs
