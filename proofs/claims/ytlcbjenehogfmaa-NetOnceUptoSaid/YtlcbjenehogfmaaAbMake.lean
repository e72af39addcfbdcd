/- A new row of zeros, of one-cell things. -/
import Derived.Test.YtlcbjenehogfmaaAbMap
import Derived.Laws.MakeOwn
set_option linter.unusedSimpArgs false
set_option linter.unusedVariables false
namespace Go.Abs
open Go
section
variable {P : Program} {glob : Nat → PV} {ρ : Operand → PV} {σ : Store} {dst : Option Tmp} {ty : TypeId} {pos : String} {after : Array Edge} {guard : Option (Nat × Bool)}

variable (P) in
def makeSliceW (T : TypeId) (σ : Store) (l c : PV) (K : PV → Store → Prop) : Prop :=
  ∃ e zv m, P.underlying T = some (.slice e) ∧ P.cellsOf e = 1 ∧ zeroCells P e = some [zv] ∧ zv.cell = true ∧ l = .lit (.int .i64 m) ∧ c = .lit (.int .i64 m) ∧ Chk ((P.bytesOf e : Int) * m ≤ 140737488355328 ∧ 0 ≤ m ∧ m ≤ 9223372036854775807) ∧
    ∀ o, σ o = none → K (.rs 1 o 0 m.toNat m.toNat) (σ.set o (.cells (List.replicate m.toNat zv)))

theorem eff_makeSlice (T : TypeId) (l c : Operand) {K : PV → Store → Prop} (h : makeSliceW P T σ (ρ l) (ρ c) K) : OpOk P glob ⟨dst, .makeSlice T l c, ty, pos, after, guard⟩ ρ σ K := by
  obtain ⟨e, zv, m, hT, hk, hz, hzc, hl, hc, hchk, hK⟩ := h
  obtain ⟨hsz, h0, hm⟩ := hchk.out
  intro gh w a hR hF
  have el := hF l (by simp [Op.operands, Call.operands])
  have ec := hF c (by simp [Op.operands, Call.operands])
  rw [hc] at ec
  rw [hl] at el
  have vl := lit_of_rep el
  have vc := lit_of_rep ec
  obtain ⟨o, ho, hσ⟩ := hR.free
  obtain ⟨n, rfl⟩ : ∃ n : Nat, m = n := ⟨m.toNat, by omega⟩
  simp only [Int.toNat_natCast] at hK
  unfold zeroCells at hz
  cases hi : P.info? e with
  | none => rw [hi] at hz; simp at hz
  | some i =>
    rw [hi] at hz
    simp only [Option.bind_some, Option.map_eq_some_iff] at hz
    obtain ⟨zz, hz1, hz2⟩ := hz
    have hzr : CellsRep gh w zz.cells [zv] := by rw [← hz2]; exact rep_cells (rep_ofV gh w zz) (by cases zz <;> simp [ofV])
    have hby : P.bytesOf e = i.bytes := by simp [Program.bytesOf, hi]
    have hsi : i.size = 1 := by simpa [Program.cellsOf, hi] using hk
    rw [hby] at hsz
    have hrun := run_make (P := P) w T e i zz hT hi hz1 .i64 .i64 n n h0 (Int.le_refl _) (by omega) hm
    rw [hsi] at hrun
    simp only [Int.toNat_natCast, Nat.mul_one] at hrun
    have hz1' : zz.cells.size = 1 := hzr.1
    have hcs : CellsRep gh w (madeCells zz.cells n) (List.replicate n zv) := by
      refine ⟨by simp [madeCells], fun j p hj => ?_⟩
      rw [List.getElem?_replicate] at hj
      split at hj
      · rename_i hlt
        cases hj
        have h0r := hzr.2 0 zv rfl
        have : (madeCells zz.cells n).getD j undef = zz.cells.getD 0 undef := by
          have e0 : (zz.cells[0]! : Value) = zz.cells.getD 0 undef := by rw [getElem!_pos zz.cells 0 (by omega)]; simp [hz1']
          simp [madeCells, hlt, hz1', Nat.mod_one, e0]
        rw [this]; exact h0r
      · cases hj
    have ha : allCell (List.replicate n zv) = true := by
      unfold allCell; rw [List.all_eq_true]; intro p hp; rw [List.eq_of_mem_replicate hp]; exact hzc
    obtain ⟨h1, h2⟩ := hR.newCells ho hcs ha e #[]
    simp only [Array.append_empty] at h1 h2
    unfold Oper.wp
    have : (execOp a.eval ⟨dst, .makeSlice T l c, ty, pos, after, guard⟩).run P w = .ok (.value (.slice (some ⟨w.heap.size, 0, none⟩) n n)) (w.alloc (.cells (madeCells zz.cells n) e)) := by
      simp only [execOp, vl, vc, Sem.run_bind, hrun, Result.andThen_ok, Sem.run_pure]
    rw [this]
    exact ⟨_, _, _, _, rfl, h2, h1, .rs 1 o 0 n n n ⟨w.heap.size, 0, (madeCells zz.cells n).size⟩ (by simp [Gh.give]) (Nat.le_refl _) (Nat.le_refl _) (by simp [size_madeCells]), hK o hσ⟩
end
end Go.Abs
