/- What a row's listed tables say of the world's cells: the tables of UTF-8, the handle, MaxLen; a world that holds them. -/
import Derived.Test.YtdappnnpkmofhaaDoorTC
import Derived.Test.YtdappnnpkmofhaaDoorAbOpen
import Derived.Test.YtdappnnpkmofhaaDoorCards
import Derived.Test.YtdappnnpkmofhaaDoorTie
import Derived.WalkKit
import Derived.ProofKit
import Derived.OpenShut
import Derived.Deep.DeepHandedRow
import Derived.Deep.DeepLaidRun
import Derived.Lib.LaidTab
import Derived.Lib.LaidU8
import Derived.PinnedBridge
import Derived.LaidSub
import Derived.Shelf.Vars
set_option linter.unusedSimpArgs false
set_option linter.unusedVariables false
namespace Go.Proofs.YtdappnnpkmofhaaDoor
open Go Go.Abs Go.Proofs Go.Lib
open Go.ChangeShapes Go.WideShapes Go.ChangeAt Go.RowKit

theorem one_le {H : Type} (d : DataW H) : 1 ≤ Rows.uptoBulk d := by
  cases d with
  | lit l => cases l <;> simp [Rows.uptoBulk]
  | nil => simp [Rows.uptoBulk]
  | ptr d => simp [Rows.uptoBulk]
  | slice elems spare => simp [Rows.uptoBulk]
  | agg parts => simp [Rows.uptoBulk]
  | iface t d => simp [Rows.uptoBulk]
  | map entries => simp [Rows.uptoBulk]
  | held h => simp [Rows.uptoBulk]
theorem bulk (H : Type) : Bulk (H := H) Rows.uptoBulk Rows.uptoBulkAll where
  str := fun s => by simp [Rows.uptoBulk]
  slice := fun e s => by simp [Rows.uptoBulk]
  agg := fun e => by simp [Rows.uptoBulk]
  ptr := fun e => by simp [Rows.uptoBulk]
  nil := by simp [Rows.uptoBulkAll]
  cons := fun d r => by simp [Rows.uptoBulkAll]
  one := one_le
theorem own : ownKnob Tryd.prog.godebug = none := by kernel_rfl
theorem laidOut : laidOutB Tryd.prog = true := by kernel_rfl
theorem bound {H : Type} {l : List (DataW H)} (hk : Rows.uptoSmall H l = true) : Rows.uptoBulkAll l ≤ 1048576 := of_decide_eq_true hk

theorem et : Tryd.prog.globalNamed "errors.errorType" = some 1 := by kernel_rfl
theorem rt : (Tryd.prog.cutTypes.find? (·.1 == "internal/reflectlite.rtype")).map (·.2) = some 93 := by kernel_rfl
theorem oneRow : ((List.range Tryd.prog.types.size).filter fun t => Tryd.prog.rowNamed t [101, 114, 114, 111, 114]) = [31] := by kernel_rfl
theorem handle_of_met {l : List (String × DataW Unit)} {W : World} (h : laidMetH Tryd.prog l W) (hm : ("errors.errorType", Rows.laid_errors_errorType) ∈ l) : W.cell? ⟨1, 0, none⟩ = some (.iface 93 (.agg #[.pointer (some ⟨4, 31, none⟩)])) := by
  obtain ⟨name, u, ty, e1, e2, e3, e4, e5⟩ := (laidMetH_iff.1 h).2 _ (List.mem_filter.2 ⟨hm, rfl⟩)
  have en : name = [101, 114, 114, 111, 114] := (Option.some.inj e1).symm
  subst en
  obtain rfl := Option.some.inj (rt.symm.trans e2)
  have hm : ty ∈ (List.range Tryd.prog.types.size).filter fun t => Tryd.prog.rowNamed t [101, 114, 114, 111, 114] := List.mem_filter.2 ⟨List.mem_range.2 e3, e4⟩
  rw [oneRow] at hm
  obtain rfl := List.mem_singleton.1 hm
  have hh : typeHandle Tryd.prog 31 = .pointer (some ⟨4, 31, none⟩) := by kernel_rfl
  rw [hh] at e5
  simpa using World.var?_cell et e5 0
theorem accept_eq : Rows.laid_unicode_utf8_acceptRanges = (acceptData : DataW Unit) := by kernel_rfl
theorem first_eq : Rows.laid_unicode_utf8_first = firstData := Go.Pinned.utf8First_eq
theorem n3 : Tryd.prog.globalNamed "unicode/utf8.first" = some 2 := by kernel_rfl
theorem n4 : Tryd.prog.globalNamed "unicode/utf8.acceptRanges" = some 3 := by kernel_rfl
theorem y3 : (Tryd.prog.globals[2]?).map (·.type) = some 120 := by kernel_rfl
theorem y4 : (Tryd.prog.globals[3]?).map (·.type) = some 123 := by kernel_rfl
theorem tabs_of_met {l : List (String × DataW Unit)} {W : World} (h : laidMetH Tryd.prog l W) (m3 : ("unicode/utf8.first", Rows.laid_unicode_utf8_first) ∈ l) (m4 : ("unicode/utf8.acceptRanges", Rows.laid_unicode_utf8_acceptRanges) ∈ l) : Lib.Utf8Tabs 2 3 W := by
  have h3 := laidMet.reads (laidMetH_iff.1 h).1 (List.mem_filter.2 ⟨m3, by kernel_rfl⟩)
  have h4 := laidMet.reads (laidMetH_iff.1 h).1 (List.mem_filter.2 ⟨m4, by kernel_rfl⟩)
  rw [first_eq] at h3
  rw [accept_eq] at h4
  refine ⟨fun c hc => ?_, fun i hi => ?_⟩
  · obtain ⟨g, t, cs, fuel, p, hg, hty, hvar, hd⟩ := h3
    obtain rfl := Option.some.inj (n3.symm.trans hg)
    obtain rfl := Option.some.inj (y3.symm.trans hty)
    have hcs := cells_of_tab Tryd.underlying120 Tryd.underlying5 fc5 fc120 hd
    have := World.var?_cell hg hvar c
    rw [this, ← Array.getElem?_toList, hcs]
    simp [firstTab, hc]
  · obtain ⟨g, t, cs, fuel, p, hg, hty, hvar, hd⟩ := h4
    obtain rfl := Option.some.inj (n4.symm.trans hg)
    obtain rfl := Option.some.inj (y4.symm.trans hty)
    obtain ⟨fuel', d, q, hdi, he⟩ := array_elem Tryd.underlying123 hd i hi
    simp only [List.getElem?_map, List.getElem?_range hi, Option.map_some, Option.some.injEq] at hdi
    subst hdi
    rw [fc122] at he
    have hcs := ints_of_struct Tryd.underlying122 (fun j f hj => by
      match j, hj with
      | 0, hj => simp at hj; subst hj; exact ⟨Tryd.underlying5, rfl, fc5⟩
      | 1, hj => simp at hj; subst hj; exact ⟨Tryd.underlying5, rfl, fc5⟩
      | j + 2, hj => simp at hj) (by rw [fc122]; rfl) he
    have e0 := congrArg (·[0]?) hcs
    have e1 := congrArg (·[1]?) hcs
    simp only [List.getElem?_take, List.getElem?_drop] at e0 e1
    constructor
    · rw [World.var?_cell hg hvar (2 * i), ← Array.getElem?_toList]
      simpa [Nat.mul_comm] using e0
    · rw [World.var?_cell hg hvar (2 * i + 1), ← Array.getElem?_toList]
      simpa [Nat.mul_comm] using e1
theorem maxlen {W : World} (hsh : W.ShapedOpen Tryd.prog) : ∃ m, W.cell? ⟨0, 0, none⟩ = some (.int .i64 m) :=
  cell_of_shapedOpen_int (zero := #[.int .i64 0]) (t := 3) hsh (of_decide_eq_true (by kernel_rfl)) (by kernel_rfl) rfl (by kernel_rfl) (by kernel_rfl) Tryd.underlying3
theorem lt_heap {W : World} {g o : Nat} {v : Value} (h : W.cell? ⟨g, o, none⟩ = some v) : g < W.heap.size := by
  unfold World.cell? at h
  split at h
  · rename_i h1; exact (Array.getElem?_eq_some_iff.1 h1).1
  · cases h
theorem rep_row {W : World} {g : Nat} {L : List PV} (f : Nat → Value) (h0 : 0 < L.length) (hc : ∀ i, i < L.length → W.cell? ⟨g, i, none⟩ = some (f i)) (hr : ∀ i p, L[i]? = some p → Rep (ghAll W) W (f i) p) : Rep (ghAll W) W (.pointer (some ⟨g, 0, none⟩)) (.vp L) :=
  .vp L g 0 f (lt_heap (hc 0 h0)) (fun i hi => by rw [Nat.zero_add]; exact hc i hi) hr
def globs (m : Int) (g : Nat) : PV := if g = 2 then gFirst else if g = 3 then gAcc else if g = 0 then .vp [.lit (.int .i64 m)] else if g = 1 then .vp [rty 31] else .any
theorem globs_is (m : Int) : Globs (globs m) := ⟨rfl, rfl, ⟨m, rfl⟩, rfl⟩
theorem globs_ok {W : World} {m : Int} (hT : Lib.Utf8Tabs 2 3 W) (hm : W.cell? ⟨0, 0, none⟩ = some (.int .i64 m)) (h : W.cell? ⟨1, 0, none⟩ = some (.iface 93 (.agg #[.pointer (some ⟨4, 31, none⟩)]))) (g : Nat) : Rep (ghAll W) W (.pointer (some ⟨g, 0, none⟩)) (globs m g) := by
  unfold globs
  split
  · rename_i hg
    subst hg
    refine rep_row (fun c => .int .u8 (Lib.firstT c)) (by simp) (fun i hi => hT.1 i (by simpa using hi)) fun i p hp => ?_
    simp only [List.getElem?_map, Option.map_eq_some_iff] at hp
    obtain ⟨c, hc, rfl⟩ := hp
    rw [List.getElem?_eq_some_iff] at hc
    obtain ⟨hl, hc⟩ := hc
    rw [List.getElem_range] at hc
    subst hc
    exact .lit _
  split
  · rename_i hg
    subst hg
    refine rep_row (fun i => .int .u8 (if i % 2 = 0 then Lib.accLo (i / 2) else Lib.accHi (i / 2))) (by simp) (fun i hi => ?_) fun i p hp => ?_
    · have hi' : i < 32 := by simpa using hi
      have := hT.2 (i / 2) (by omega)
      split
      · have e : i = 2 * (i / 2) := by omega
        rw [← this.1, ← e]
      · have e : i = 2 * (i / 2) + 1 := by omega
        rw [← this.2, ← e]
    · simp only [List.getElem?_map, Option.map_eq_some_iff] at hp
      obtain ⟨c, hc, rfl⟩ := hp
      rw [List.getElem?_eq_some_iff] at hc
      obtain ⟨hl, hc⟩ := hc
      rw [List.getElem_range] at hc
      subst hc
      exact .lit _
  split
  · rename_i hg
    subst hg
    refine rep_row (fun _ => .int .i64 m) (by simp) (fun i hi => ?_) fun i p hp => ?_
    · have : i = 0 := by simp at hi; omega
      subst this; exact hm
    · match i, hp with
      | 0, hp => simp at hp; subst hp; exact .lit _
  split
  · rename_i hg
    subst hg
    refine rep_row (fun _ => .iface 93 (.agg #[.pointer (some ⟨4, 31, none⟩)])) (by simp) (fun i hi => ?_) fun i p hp => ?_
    · have : i = 0 := by simp at hi; omega
      subst this; exact h
    · match i, hp with
      | 0, hp => simp at hp; subst hp; exact .iface _ _ _ (rep_agg1 (.lit _))
  · exact .any _
def putRow (h : Array Obj) (g : Nat) (cs : Array Value) : Array Obj := h.modify g fun
  | .cells _ t frozen => .cells cs t frozen
  | o => o
noncomputable def laidWorld (os : Os) : World :=
  { World.holding Tryd.prog os ⟨#[], #[], []⟩ with heap := putRow (putRow (putRow (World.holding Tryd.prog os ⟨#[], #[], []⟩).heap 1 #[.iface 93 (.agg #[typeHandle Tryd.prog 31])])
      2 ((List.range 256).map fun c => .int .u8 (Lib.firstT c)).toArray) 3 ((List.range 32).map fun i => .int .u8 (if i % 2 = 0 then Lib.accLo (i / 2) else Lib.accHi (i / 2))).toArray }
theorem laid_met (os : Os) (args : Array Value) : laidMetH Tryd.prog [("unicode/utf8.acceptRanges", Rows.laid_unicode_utf8_acceptRanges), ("errors.errorType", Rows.laid_errors_errorType), ("unicode/utf8.first", Rows.laid_unicode_utf8_first)] ((laidWorld os).forCall (fun _ _ => 0) ⟨#[], args, []⟩).memory :=
  laidMetH_of_parts (laidMet_of_run3 8 (by kernel_rfl) (by kernel_rfl) (by kernel_rfl)) (by kernel_rfl)
end Go.Proofs.YtdappnnpkmofhaaDoor
