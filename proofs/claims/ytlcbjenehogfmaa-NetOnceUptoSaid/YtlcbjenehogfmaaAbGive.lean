/- What a call hands back may be frozen or forgotten; a contract that keeps what is owned is pure. -/
import Derived.Test.YtlcbjenehogfmaaAbOwn
set_option linter.unusedSimpArgs false
set_option linter.unusedVariables false
namespace Go.Abs
open Go
section
variable {P : Program} {glob : Nat → PV} {σ : Store} {f : FuncId} {args : List PV}
theorem ACalls.hand {Q K : PV → Store → Prop} (h : ACalls P glob f args σ Q) (hq : ∀ r τ, Q r τ → Hand K r τ) : ACalls P glob f args σ K :=
  fun gh w vs hR hv => (h gh w vs hR hv).mono fun _ _ ⟨_, _, _, h1, h2, h3, h4⟩ => by
    obtain ⟨gh2, r2, σ2, x2, hR2, hv2, hk⟩ := (hq _ _ h4).give h2 h3
    exact ⟨gh2, r2, σ2, h1.trans x2, hR2, hv2, hk⟩
theorem Pur.ofSub {r : PV} (h : ∀ σ, ACalls P glob f args σ fun r' τ => r' = r ∧ Sub σ τ) : Pur P glob f args r := fun σ =>
  (h σ).hand fun _ _ ⟨h1, h2⟩ => by subst h1; exact .done (.refl _) h2 ⟨rfl, rfl⟩
end
end Go.Abs
