/- Topics: what an argument of bulk reads as. -/
import Derived.Test.YtefjmcoecidfnaaDoorTW
import Derived.Test.YtefjmcoecidfnaaDoorTH
set_option linter.unusedSimpArgs false
set_option linter.unusedVariables false
namespace Go.Proofs.YtefjmcoecidfnaaDoor
open Go Go.Abs Go.Proofs
open Go.ChangeShapes Go.WideShapes Go.ChangeAt Go.RowKit
structure TwoOk (n : Nat) (p : TwoD) : Prop where
  b1 : p.F.size < n
  b2 : p.S.size < n
theorem opens_two {H : Type} {W : World} : Opens Tryd.prog (ghAll W) W (H := H) Rows.uptoBulk 25 TwoOk twoC := by
  have monoS : ∀ (m k : Nat) (L : ByteArray), m ≤ k → L.size < m → L.size < k := fun m k L h1 h2 => Nat.lt_of_lt_of_le h2 h1
  have h2 := OpensF.cons (bulk H) (P := Tryd.prog) (gh := ghAll W) (W := W) (fld := ⟨ "S", 9, 1, false, "", "", 16⟩) (fs := []) (o := 1) (n := 1) rfl fc9 monoS (fun _ _ _ _ h => h) (Opens.string (bulk H) Tryd.underlying9) OpensF.nil
  have h1 := OpensF.cons (bulk H) (P := Tryd.prog) (gh := ghAll W) (W := W) (fld := ⟨ "F", 9, 0, false, "", "", 0⟩) (o := 0) (n := 1) rfl fc9 monoS (fun m k a h1 h2 => ⟨monoS _ _ _ h1 h2.1, trivial⟩) (Opens.string (bulk H) Tryd.underlying9) h2
  have h0 := Opens.struct (bulk H) (P := Tryd.prog) (gh := ghAll W) (W := W) (t := 25) Tryd.underlying25 (by simp only [List.map_cons, List.map_nil, fc9, fc25]; rfl) (fun m k a h1 h2 => ⟨monoS _ _ _ h1 h2.1, monoS _ _ _ h1 h2.2.1, trivial⟩) h1
  exact h0.map (fun a => ⟨a.1, a.2.1⟩) (fun n a h => ⟨h.1, h.2.1⟩) (fun a => rfl)
theorem opens_twos {H : Type} {W : World} : Opens Tryd.prog (ghAll W) W (H := H) Rows.uptoBulk 22 (fun n A => A.length < n ∧ ∀ a ∈ A, TwoOk n a) (fun A : List TwoD => [.vs 2 (A.map twoC)]) :=
  Opens.slice (bulk H) (fun _ h => h) Tryd.underlying22 fc25 (by decide) (fun m n a h1 h => ⟨by have := h.b1; omega, by have := h.b2; omega⟩) (fun _ => rfl) opens_two
end Go.Proofs.YtefjmcoecidfnaaDoor
