/- QuorumChanges: the statement, out of the walk. -/
import Derived.Test.YtcbbphoehjmanaaDoorQV
import Derived.Test.YtcbbphoehjmanaaDoorAbOpen
import Derived.Test.YtcbbphoehjmanaaDoorCards
import Derived.Test.YtcbbphoehjmanaaDoorTie
import Derived.WalkKit
import Derived.ProofKit
import Derived.OpenShut
import Derived.Deep.DeepHandedRow
import Derived.Lib.LaidTab
set_option linter.unusedSimpArgs false
set_option linter.unusedVariables false
namespace Go.Proofs.YtcbbphoehjmanaaDoor
open Go Go.Abs Go.Proofs
open Go.ChangeShapes Go.WideShapes Go.ChangeAt Go.RowKit

theorem one_le {H : Type} (d : DataW H) : 1 ≤ Rows.uptoBulk d := by
  cases d with
  | lit l => cases l <;> simp [Rows.uptoBulk]
  | nil => simp [Rows.uptoBulk]
  | ptr d => simp [Rows.uptoBulk]
  | slice elems spare => simp [Rows.uptoBulk]
  | agg parts => simp [Rows.uptoBulk]
  | iface t d => simp [Rows.uptoBulk]
  | map entries => simp [Rows.uptoBulk]
  | held h => simp [Rows.uptoBulk]
theorem bulk (H : Type) : Bulk (H := H) Rows.uptoBulk Rows.uptoBulkAll where
  str := fun s => by simp [Rows.uptoBulk]
  slice := fun e s => by simp [Rows.uptoBulk]
  agg := fun e => by simp [Rows.uptoBulk]
  ptr := fun e => by simp [Rows.uptoBulk]
  nil := by simp [Rows.uptoBulkAll]
  cons := fun d r => by simp [Rows.uptoBulkAll]
  one := one_le
theorem own : ownKnob Tryd.prog.godebug = none := by kernel_rfl
theorem laidOut : laidOutB Tryd.prog = true := by kernel_rfl

theorem opens_ints {H : Type} {W : World} : Opens Tryd.prog (ghAll W) W (H := H) Rows.uptoBulk 24 (fun n L => L.length < n) (fun L : List Int => [ints L]) :=
  (Opens.slice (bulk H) (fun _ h => h) Tryd.underlying24 fc3 (by decide) (f := fun n : Int => [.lit (.int .i64 n)]) (fun _ _ _ _ h => h) (fun _ => rfl) (Opens.int Tryd.underlying3)).map id (fun _ _ h => h.1) (fun _ => rfl)
structure AskOk (n : Nat) (p : AskD) : Prop where
  b1 : p.M.length < n
  b2 : p.O.length < n
  b3 : p.V.length < n
  b4 : p.X.length < n
  b5 : p.S.size < n
theorem opens_ask {H : Type} {W : World} : Opens Tryd.prog (ghAll W) W (H := H) Rows.uptoBulk 26 AskOk askC := by
  have mono : ∀ (m k : Nat) (L : List Int), m ≤ k → L.length < m → L.length < k := fun m k L h1 h2 => Nat.lt_of_lt_of_le h2 h1
  have monoS : ∀ (m k : Nat) (L : ByteArray), m ≤ k → L.size < m → L.size < k := fun m k L h1 h2 => Nat.lt_of_lt_of_le h2 h1
  have h5 := OpensF.cons (bulk H) (P := Tryd.prog) (gh := ghAll W) (W := W) (fld := ⟨ "S", 9, 4, false, "", "", 96⟩) (fs := []) (o := 4) (n := 1) rfl fc9 monoS (fun _ _ _ _ h => h) (Opens.string (bulk H) Tryd.underlying9) OpensF.nil
  have h4 := OpensF.cons (bulk H) (P := Tryd.prog) (gh := ghAll W) (W := W) (fld := ⟨ "Match", 24, 3, false, "", "", 72⟩) (o := 3) (n := 1) rfl fc24 mono (fun m k a h1 h2 => ⟨monoS _ _ _ h1 h2.1, trivial⟩) opens_ints h5
  have h3 := OpensF.cons (bulk H) (P := Tryd.prog) (gh := ghAll W) (W := W) (fld := ⟨ "Votes", 24, 2, false, "", "", 48⟩) (o := 2) (n := 1) rfl fc24 mono (fun m k a h1 h2 => ⟨mono _ _ _ h1 h2.1, monoS _ _ _ h1 h2.2.1, trivial⟩) opens_ints h4
  have h2 := OpensF.cons (bulk H) (P := Tryd.prog) (gh := ghAll W) (W := W) (fld := ⟨ "O", 24, 1, false, "", "", 24⟩) (o := 1) (n := 1) rfl fc24 mono (fun m k a h1 h2 => ⟨mono _ _ _ h1 h2.1, mono _ _ _ h1 h2.2.1, monoS _ _ _ h1 h2.2.2.1, trivial⟩) opens_ints h3
  have h1 := OpensF.cons (bulk H) (P := Tryd.prog) (gh := ghAll W) (W := W) (fld := ⟨ "M", 24, 0, false, "", "", 0⟩) (o := 0) (n := 1) rfl fc24 mono (fun m k a h1 h2 => ⟨mono _ _ _ h1 h2.1, mono _ _ _ h1 h2.2.1, mono _ _ _ h1 h2.2.2.1, monoS _ _ _ h1 h2.2.2.2.1, trivial⟩) opens_ints h2
  have h0 := Opens.struct (bulk H) (P := Tryd.prog) (gh := ghAll W) (W := W) (t := 26) Tryd.underlying26 (by simp only [List.map_cons, List.map_nil, fc24, fc9, fc26]; rfl) (fun m k a h1 h2 => ⟨mono _ _ _ h1 h2.1, mono _ _ _ h1 h2.2.1, mono _ _ _ h1 h2.2.2.1, mono _ _ _ h1 h2.2.2.2.1, monoS _ _ _ h1 h2.2.2.2.2.1, trivial⟩) h1
  exact h0.map (fun a => ⟨a.1, a.2.1, a.2.2.1, a.2.2.2.1, a.2.2.2.2.1⟩) (fun n a h => ⟨h.1, h.2.1, h.2.2.1, h.2.2.2.1, h.2.2.2.2.1⟩) (fun a => rfl)
theorem opens_asks {H : Type} {W : World} : Opens Tryd.prog (ghAll W) W (H := H) Rows.uptoBulk 22 (fun n A => A.length < n ∧ ∀ a ∈ A, AskOk n a) (fun A : List AskD => [.vs 5 (A.map askC)]) :=
  Opens.slice (bulk H) (fun _ h => h) Tryd.underlying22 fc26 (by decide) (fun m n a h1 h => ⟨by have := h.b1; omega, by have := h.b2; omega, by have := h.b3; omega, by have := h.b4; omega, by have := h.b5; omega⟩) (fun _ => rfl) opens_ask

theorem bound {H : Type} {l : List (DataW H)} (hk : Rows.uptoSmall H l = true) : Rows.uptoBulkAll l ≤ 1048576 := of_decide_eq_true hk

set_option maxRecDepth 100000 in
theorem contract (H : Type) (enc : TypeId × Value → H) (W : World) (base : Nat) (args : Array Value) (ds gs : List (DataW H)) (before : List MemPlace)
    (hval : ∀ (j : Nat) t v, Tryd.f5.params[j]? = some t → args[j]? = some v → Value.okWide Tryd.prog W .any base t v)
    (hW : DataW.Whole enc Tryd.prog Tryd.f5.params.toList Rows.quorumChangesSpec.vars false W args.toList ds gs before) (hk : Rows.uptoSmall H (ds ++ gs) = true) :
    Calls Tryd.prog 5 args W fun e W' => ∃ v, e = .returned v ∧ Rows.quorumChangesSpec.post enc Tryd.prog Tryd.f5 false true false false W args v W' := by
  have hW' := hW
  obtain ⟨p, q, hA0, hV, rfl, hfz, hnd⟩ := hW
  have hA : DataW.TrodAll enc Tryd.prog W 0 (fun _ => true) true Tryd.f5.params.toList args.toList ds p := hA0
  rw [Tryd.params5] at hA hval
  obtain ⟨v0, vs0, d0, ds0, p0, q0, hargs, rfl, rfl, h0, r0⟩ := trodAll_cons hA
  obtain ⟨rfl, rfl, rfl⟩ := trodAll_nil r0
  obtain rfl : args = #[v0] := by cases args; simp_all
  obtain ⟨rfl, rfl⟩ := trodVars_none hV
  simp only [List.append_nil] at hW' hk
  have h0k := h0
  obtain ⟨fuel, h0⟩ := h0
  obtain ⟨A, ⟨hA1, hA2⟩, hrep⟩ := opens_asks enc 0 (fun _ => true) true fuel _ _ h0
  have hbd := bound hk
  rw [(bulk H).cons, (bulk H).nil] at hbd
  simp only at hA1 hA2
  obtain ⟨a0, len0, cap0, rfl⟩ := Go.WideShapes.okWide_slice Tryd.underlying22 (hval 0 22 v0 rfl rfl)
  have hrep : RepL (ghAll W) W [_] _ := hrep
  refine ((law5 (glob := fun _ => .any) A (by omega) (fun i hi => ?_) (fun i hi => ?_) _).run_bool ⟨Tryd.f5, Tryd.func5, by kernel_rfl, by kernel_rfl⟩ (fun _ => .any _) hrep).mono fun e W' ⟨he, hb⟩ => ?_
  · have hm : A.getD i default ∈ A := by rw [List.getD_eq_getElem?_getD, List.getElem?_eq_getElem hi]; exact List.getElem_mem hi
    have := hA2 _ hm
    exact ⟨by have := this.b1; omega, by have := this.b2; omega, by have := this.b3; omega, by have := this.b4; omega, by have := this.b5; omega⟩
  · have hm : A.getD i default ∈ A := by rw [List.getD_eq_getElem?_getD, List.getElem?_eq_getElem hi]; exact List.getElem_mem hi
    have := (hA2 _ hm).b1; omega
  subst he
  refine ⟨_, rfl, [d0], [], p0, [], p0, [], hW', trodAll_mk1 (shut_bool Tryd.underlying4 _), trodAll_mk1 (Below.trod laidOut (by kernel_rfl) (of_decide_eq_true (by kernel_rfl)) h0k hb fun x hx => by simpa using hW'.lt x hx), rfl, hb.frame _, fun h => by cases h⟩
noncomputable def laidWorld (os : Os) : World :=
  { World.holding Tryd.prog os ⟨#[], #[], []⟩ with heap := (World.holding Tryd.prog os ⟨#[], #[], []⟩).heap.modify 0 fun
      | .cells _ t frozen => .cells #[.iface 83 (.agg #[typeHandle Tryd.prog 31])] t frozen
      | o => o }
theorem laid_met (os : Os) (args : Array Value) : laidMetH Tryd.prog [("errors.errorType", Rows.laid_errors_errorType)] ((laidWorld os).forCall (fun _ _ => 0) ⟨#[], args, []⟩).memory :=
  laidMetH_of_parts (laidMet_nil _ _) (by kernel_rfl)
theorem reads (os : Os) {H : Type} (enc : TypeId × Value → H) : ∃ places, DataW.whole enc Tryd.prog ((laidWorld os).forCall (fun _ _ => 0) ⟨#[], #[.slice none 0 0], []⟩).memory Tryd.f5.params.toList Rows.quorumChangesSpec.vars false #[Value.slice none 0 0].toList 8 = some ([.nil], [], places) :=
  ⟨[], by kernel_rfl⟩
set_option maxRecDepth 100000 in
theorem lifted (os : Os) (started : os.Started) (H : Type) (enc : TypeId × Value → H) (F : Stop.Interp) :
    ReturnsInHanded {} Tryd.checked os 5 .any ((Rows.OpenSpec.upto Rows.quorumChangesSpec).preRow enc Tryd.prog Tryd.f5 Rows.quorumChangesUptoRow.domain false Rows.quorumChangesUptoRow.laid) (((Rows.OpenSpec.upto Rows.quorumChangesSpec).at F).post enc Tryd.prog Tryd.f5 false true false false) := by
  obtain ⟨places, hx⟩ := reads os enc
  refine returnsInHanded_of_row (C := Tryd.checked) (s := Rows.OpenSpec.upto Rows.quorumChangesSpec) own started (by kernel_rfl) Tryd.func5
    (witness_row_at (enc := enc) (C := Tryd.checked) false (laidWorld os) #[.slice none 0 0] rfl (by kernel_rfl) (by kernel_rfl) (by kernel_rfl)
      (OpenSpec.preRow_of_cond 8 hx (by kernel_rfl) (fun k hk => by cases hk; kernel_rfl) (by kernel_rfl) (laid_met os _))) ?_
  intro W base args ds gs before hval hW _ hcond _ hL _ _
  exact contract H enc W base args ds gs before hval hW (hcond _ rfl)
theorem saidUpto : Rows.QuorumChangesUptoSaid :=
  OpenClaim.holds_of_cond 5 Tryd.f5 rfl rfl rfl rfl rfl rfl rfl ⟨rfl, rfl, rfl, rfl, rfl⟩ rfl rfl rfl rfl rfl (by kernel_rfl) Tryd.func5 (by kernel_rfl)
    (of_decide_eq_true (by kernel_rfl)) (by unfold Func.isWrapper; first | (rw [if_pos (by decide +kernel)]; kernel_rfl) | (rw [if_neg (by decide +kernel)]; exact ⟨rfl, rfl⟩))
    (fun os started H enc _ F => by rw [OpenClaim.pre_eq_preRow]; exact lifted os started H enc F)
theorem plain (f : FuncId) (fn : Func) (hf : Tryd.pinned.checked.prog.funcNamed "dovecote/dovecotelaw16.QuorumChanges" = some f) (hfn : Tryd.pinned.checked.prog.funcs[f]? = some fn) :
    true = Tryd.pinned.checked.prog.looks [] ∧ ∀ (j : Nat) t, fn.params[j]? = some t → Tryd.pinned.checked.prog.wantsStandIn t = false := by
  obtain rfl : f = 5 := Option.some.inj ((show Tryd.prog.funcNamed "dovecote/dovecotelaw16.QuorumChanges" = some 5 by kernel_rfl).symm.trans hf) |>.symm
  obtain rfl : fn = Tryd.f5 := (Option.some.inj (Tryd.func5.symm.trans hfn)).symm
  refine ⟨by kernel_rfl, fun j t ht => ?_⟩
  rw [Tryd.params5] at ht
  obtain rfl : t = 22 := by simpa using Array.mem_of_getElem? ht
  exact (show Tryd.prog.wantsStandIn 22 = false by kernel_rfl)
theorem cardUpto : Rows.QuorumChangesUptoCardSaid :=
  Claim7.holds_tied_plain_at .later [] _ _ _ _ saidUpto (fun _ h => by cases h) (by kernel_rfl) (fun _ h => by cases h) quorumChangesUpto_row_tie rfl ⟨rfl, rfl⟩ (by kernel_rfl) rfl plain (by kernel_rfl)
end Go.Proofs.YtcbbphoehjmanaaDoor
