/- NetOnce: bounds. -/
import Derived.Test.YtlcbjenehogfmaaNX
import Derived.Test.YtlcbjenehogfmaaNK
set_option linter.unusedSimpArgs false
set_option linter.unusedVariables false
namespace Go.Proofs.Ytlcbjenehogfmaa
open Go Go.Abs Go.Proofs
theorem bd_of_ok {n : Nat} {p : ActD} (h : ActOk n p) (hl : n ≤ 1048577) : BdAct p :=
  ⟨by have := h.m.data; omega, by have := h.m.entries.1; omega, fun i hi => by have := (h.m.entries.2 _ (getD_mem hi)).data; omega, by have := h.m.members; omega, h.now, h.pick⟩
end Go.Proofs.Ytlcbjenehogfmaa
