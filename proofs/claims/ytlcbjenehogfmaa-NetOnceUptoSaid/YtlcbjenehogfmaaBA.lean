/- Short words; rows of one-cell things. -/
import Derived.Test.YtlcbjenehogfmaaBF
import Derived.Test.YtlcbjenehogfmaaAbOwn
set_option linter.unusedSimpArgs false
set_option linter.unusedVariables false
namespace Go.Proofs
open Go Go.Abs
def rowOf {α : Type} (f : α → PV) (L : List α) : PV := .vs 1 (L.map fun i => [f i])
def int (i : Int) : PV := .lit (.int .i64 i)
def bool (i : Bool) : PV := .lit (.bool i)
def str (s : ByteArray) : PV := .lit (.string s)
def byt (n : Int) : PV := .lit (.int .u8 n)
def ints (L : List Int) : PV := .vs 1 (L.map fun i => [.lit (.int .i64 i)])
def strs (L : List ByteArray) : PV := .vs 1 (L.map fun i => [.lit (.string i)])
theorem getD_get {α : Type} [Inhabited α] {L : List α} {i : Nat} (h : i < L.length) : L.getD i default = L[i] := by
  rw [List.getD_eq_getElem?_getD, List.getElem?_eq_getElem h]; rfl
theorem getD_mem {α : Type} [Inhabited α] {L : List α} {i : Nat} (h : i < L.length) : L.getD i default ∈ L := by
  rw [getD_get h]; exact List.getElem_mem h
theorem take_next {α : Type} [Inhabited α] {L : List α} {i : Nat} (h : i < L.length) : L.take (i + 1) = L.take i ++ [L.getD i default] := by
  rw [List.take_add_one, List.getElem?_eq_getElem h, getD_get h]; rfl
theorem flatten_one {α : Type} {f : α → PV} : ∀ {L : List α}, (L.map fun x => [f x]).flatten = L.map f
  | [] => rfl
  | a :: L => by simp only [List.map_cons, List.flatten_cons, flatten_one (L := L)]; rfl
theorem upto_succ {P : Nat → Prop} {i : Nat} (h : ∀ j, j < i → P j) (h' : P i) : ∀ j, j < i + 1 → P j := fun j hj => by
  rcases Nat.lt_succ_iff_lt_or_eq.1 hj with h1 | rfl
  · exact h j h1
  · exact h'
attribute [go_sem] flatten_one
end Go.Proofs
