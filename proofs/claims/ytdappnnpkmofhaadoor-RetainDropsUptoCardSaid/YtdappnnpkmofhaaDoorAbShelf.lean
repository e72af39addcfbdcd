/- Contracts of the kit's shelf, as contracts of calls here. -/
import Derived.Test.YtdappnnpkmofhaaDoorAbOwn
import Derived.Below
set_option linter.unusedSimpArgs false
set_option linter.unusedVariables false
namespace Go.Abs
open Go Go.RowKit
section
variable {P : Program} {glob : Nat → PV} {σ : Store}

theorem R.below {gh : Gh} {w w' : World} (h : R glob gh σ w) (b : Below w.heap.size w w') : Ext gh w gh w' ∧ R glob gh σ w' := by
  have x : Ext gh w gh w' := ⟨b.os, b.tape, b.output, b.size, fun _ h => h, fun k hk => b.block k (h.fb k hk), fun _ _ h => h⟩
  refine ⟨x, ⟨fun k hk => Nat.lt_of_lt_of_le (h.fb k hk) b.size, fun o y e => ?_, h.inj, h.fresh, fun g => (h.gl g).ext x⟩⟩
  obtain ⟨s, h1, h2, h3, h4⟩ := h.ob o y e
  exact ⟨s, h1, Nat.lt_of_lt_of_le h2 b.size, h3, h4.ext x (b.block _ h2)⟩

theorem ACalls.of_calls {f : FuncId} {args : List PV} {K : PV → Store → Prop} (hE : Enters P f)
    (h : ∀ gh w vs, R glob gh σ w → RepL gh w vs args → Calls P f vs.toArray w fun e w' => ∃ v, e = .returned v ∧ ∃ gh' r σ', Ext gh w gh' w' ∧ R glob gh' σ' w' ∧ Rep gh' w' v r ∧ K r σ') : ACalls P glob f args σ K :=
  fun gh w vs hR hv => .inl ⟨hE, h gh w vs hR hv⟩

theorem repL_lits {gh : Gh} {w : World} : ∀ {us vs : List Value}, RepL gh w vs (us.map .lit) → vs = us
  | [], vs, h => by
    have := h.1
    simp at this; exact this
  | u :: us, vs, h => by
    match vs, h with
    | v :: vs, h =>
      have h0 := h.2 0 (.lit u) rfl
      have e : v = u := by simp at h0; cases h0; rfl
      rw [e, repL_lits (us := us) (vs := vs) ⟨by simpa using h.1, fun i p hp => by simpa using h.2 (i + 1) p (by simpa using hp)⟩]
    | [], h => exact absurd h.1 (by simp)

/-- A call on plain values that leaves what was there. -/
theorem Pur.of_below {f : FuncId} (us : List Value) {v : Value} (hE : Enters P f) (h : ∀ w, Calls P f us.toArray w fun e w' => e = .returned v ∧ Below w.heap.size w w') : Pur P glob f (us.map .lit) (ofV v) :=
  fun σ => .of_calls hE fun gh w vs hR hv => by
    rw [repL_lits hv]
    refine Calls.mono (h w) fun e w' ⟨h1, h2⟩ => ?_
    obtain ⟨x, r⟩ := hR.below h2
    exact ⟨v, h1, gh, _, σ, x, r, rep_ofV _ _ _, rfl, rfl⟩

theorem Pur.of_same {f : FuncId} (us : List Value) {v : Value} (hE : Enters P f) (h : ∀ w, Calls P f us.toArray w fun e w' => e = .returned v ∧ w' = w) : Pur P glob f (us.map .lit) (ofV v) :=
  .of_below us hE fun w => Calls.mono (h w) fun e w' ⟨h1, h2⟩ => ⟨h1, h2 ▸ Below.refl _ _⟩

/-- The same where something must be known of the world. -/
theorem Pur.of_belowW {f : FuncId} (us : List Value) {v : Value} (W : World → Prop) (hW : ∀ gh σ w, R glob gh σ w → W w) (hE : Enters P f) (h : ∀ w, W w → Calls P f us.toArray w fun e w' => e = .returned v ∧ Below w.heap.size w w') : Pur P glob f (us.map .lit) (ofV v) :=
  fun σ => .of_calls hE fun gh w vs hR hv => by
    rw [repL_lits hv]
    refine Calls.mono (h w (hW gh σ w hR)) fun e w' ⟨h1, h2⟩ => ?_
    obtain ⟨x, r⟩ := hR.below h2
    exact ⟨v, h1, gh, _, σ, x, r, rep_ofV _ _ _, rfl, rfl⟩

theorem flatten_lits : ∀ (L : List Value), (L.map fun v => [PV.lit v]).flatten = L.map .lit
  | [] => rfl
  | a :: L => by rw [List.map_cons, List.flatten_cons, flatten_lits L]; rfl

/-- A call on plain values that gives a slice of one-cell things in a new block. -/
theorem Pur.of_newRow {f : FuncId} (us : List Value) (L : List Value) (cap : Nat) (T : TypeId) (W : World → Prop) (hW : ∀ gh σ w, R glob gh σ w → W w) (hE : Enters P f) (hcap : L.length ≤ cap)
    (h : ∀ w, W w → Calls P f us.toArray w fun e w' => e = .returned (.slice (some ⟨w.heap.size, 0, none⟩) L.length cap) ∧ w' = w.alloc (.cells L.toArray T)) : Pur P glob f (us.map .lit) (.vs 1 (L.map fun v => [.lit v])) :=
  fun σ => .of_calls hE fun gh w vs hR hv => by
    rw [repL_lits hv]
    refine Calls.mono (h w (hW gh σ w hR)) fun e w' ⟨h1, h2⟩ => ?_
    subst h2
    have hb : Below w.heap.size w (w.alloc (.cells L.toArray T)) := (Below.refl _ _).alloc (Nat.le_refl _) _
    obtain ⟨x, r⟩ := hR.below hb
    have hnew : (w.alloc (.cells L.toArray T)).heap[w.heap.size]? = some (.cells L.toArray T) := heap_new w _
    let gh' : Gh := ⟨fun b => gh.F b ∨ b = w.heap.size, gh.G⟩
    have x' : Ext gh w gh' (w.alloc (.cells L.toArray T)) := ⟨x.os, x.tape, x.output, x.size, fun b hb => .inl hb, x.same, x.obj⟩
    have x2 : Ext gh (w.alloc (.cells L.toArray T)) gh' (w.alloc (.cells L.toArray T)) := ⟨rfl, rfl, rfl, Nat.le_refl _, fun b hb => .inl hb, fun _ _ => rfl, fun _ _ h => h⟩
    refine ⟨_, h1, gh', _, σ, x', ⟨?_, ?_, r.inj, r.fresh, fun g => (r.gl g).ext x2⟩, ?_, rfl, rfl⟩
    · rintro b (hb | rfl)
      · exact r.fb b hb
      · simp
    · intro o y e
      obtain ⟨s, g1, g2, g3, g4⟩ := r.ob o y e
      obtain ⟨s', k1, k2, _, _⟩ := hR.ob o y e
      rw [g1] at k1; cases k1
      refine ⟨s, g1, g2, ?_, g4.ext x2 rfl⟩
      rintro (hb | hb)
      · exact g3 hb
      · omega
    · have hlen : L.length = (L.map fun v => [PV.lit v]).length := by simp
      rw [hlen]
      refine .vs 1 _ w.heap.size 0 cap (fun i => L.getD i undef) (.inr rfl) (by simpa using hcap) (fun e he => ?_) (fun i hi => ?_) (fun i p hp => ?_)
      · obtain ⟨v, _, rfl⟩ := List.mem_map.1 he; rfl
      · have hi : i < L.length := by simpa using hi
        unfold World.cell?
        simp only [Nat.zero_add, hnew]
        simp [hi]
      · have hf := flatten_lits L
        rw [hf, List.getElem?_map, Option.map_eq_some_iff] at hp
        obtain ⟨v, hv, rfl⟩ := hp
        have : L.getD i undef = v := by rw [List.getD_eq_getElem?_getD, hv]; rfl
        rw [this]; exact .lit v
end
end Go.Abs
