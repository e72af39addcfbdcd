/-
  NARROWER THAN 'FOR EVERY INPUT', by the rows' own cells (each row's printed sentence says how): QuorumEnough: laid · QuorumChecks: laid · QuorumChanges: laid · QuorumMeet: laid · QuorumExact: laid.
  DERIVED. THE GIVEN ROWS OF THIS SEAT. 5 by the template 'for every input the law returns true; each argument reads behind the call as it read before'; 0 by the template 'total and deterministic' (their statements: YtcbbphoehjmanaaDoorTotals.lean).
  GIVEN WITH THE SEED: the statements are not yours to turn. If you find one false, say at which input.
  Laid BY PROGRAM, IN A SANDBOX (cutbox-rows.mjs): the forced cells as the released guide's own fill.sh prints them over the translation 8e592ac321b56cf1… (all of the seat's roots in one cut). By AI agents, Wed Nov 11 2026. No macro, syntax, notation, axiom, sorry.
-/
import Derived.Test.YtcbbphoehjmanaaDoorChecked
import GoSem.Claim
import GoSem.ClaimJoined
import GoSem.ClaimMapViews
import Derived.JoinedTies
import Derived.KernelRfl
namespace Go.Proofs.YtcbbphoehjmanaaDoor
/- THE CELL 'sum', in the pinned program and in every row, IS THE sha256 OF THE DUMP (.gsa) THAT YtcbbphoehjmanaaDoorProg.lean LOADS. Nothing in Lean hashes anything: it is a label: what it is worth is what the hold of that sum in a sandbox is worth. -/
noncomputable def Tryd.pinned : Pinned := { name := "ytcbbphoehjmanaadoor", sum := "8e592ac321b56cf14b5c10047cf46626975f2ac4a70735428ff4c753010114a0", checked := Tryd.checked }
namespace Rows
def none {H : Type} : Left H := { results := [], args := [] }

/- WHAT THE LISTED PACKAGE-LEVEL VARIABLES READ AS WHEN THE CALL BEGINS. Each datum BY PROGRAM (the guide's laid-datum.mjs) off the statement by which the dump's own 'gosem.cut.vars' lays the variable. In a bare row this is a premise. The card (YtcbbphoehjmanaaDoorCards.lean) ties it to the program's text. -/
def laid_errors_errorType {H : Type} : DataW H := .iface "internal/reflectlite.rtype" (.agg [.ptr (.lit (.string [101, 114, 114, 111, 114]))])

/-- 'dovecotelaw16.QuorumEnough': WHATEVER THE INPUT: true; the input reads as it did. -/
def quorumEnoughSpec : ChangeSpec := { name := "quorumEnough", fn := fun _ => fun
  | [d] => { results := [.lit (.bool true)], args := [d] }
  | _ => none }
def quorumEnoughRow : OpenClaim := { program := "ytcbbphoehjmanaadoor", sum := "8e592ac321b56cf14b5c10047cf46626975f2ac4a70735428ff4c753010114a0", func := "dovecote/dovecotelaw16.QuorumEnough", spec := "quorumEnough", inPlace := ["internal/reflectlite.ValueOf", "(internal/reflectlite.Value).Type", "(internal/reflectlite.Value).IsNil", "internal/reflectlite.TypeOf", "(internal/reflectlite.Value).Elem", "(internal/reflectlite.Value).Set"], unfollowed := true, recurses := true, named := ["errors.errorType"], apart := false, laid := [("errors.errorType", laid_errors_errorType)] }
def QuorumEnoughSaid : Prop := quorumEnoughRow.holds Tryd.pinned (OpenSpec.ofChange quorumEnoughSpec)

/-- ITS FALSE NEIGHBOUR: 'it returns false'. Refute it at one input. -/
def quorumEnoughWrong : ChangeSpec := { name := "quorumEnough", fn := fun _ => fun
  | [d] => { results := [.lit (.bool false)], args := [d] }
  | _ => none }
def QuorumEnoughWrongFalsely : Prop := quorumEnoughRow.holds Tryd.pinned (OpenSpec.ofChange quorumEnoughWrong)

/-- 'dovecotelaw16.QuorumChecks': WHATEVER THE INPUT: true; the input reads as it did. -/
def quorumChecksSpec : ChangeSpec := { name := "quorumChecks", fn := fun _ => fun
  | [d] => { results := [.lit (.bool true)], args := [d] }
  | _ => none }
def quorumChecksRow : OpenClaim := { program := "ytcbbphoehjmanaadoor", sum := "8e592ac321b56cf14b5c10047cf46626975f2ac4a70735428ff4c753010114a0", func := "dovecote/dovecotelaw16.QuorumChecks", spec := "quorumChecks", inPlace := ["internal/reflectlite.ValueOf", "(internal/reflectlite.Value).Type", "(internal/reflectlite.Value).IsNil", "internal/reflectlite.TypeOf", "(internal/reflectlite.Value).Elem", "(internal/reflectlite.Value).Set"], unfollowed := true, recurses := true, named := ["errors.errorType"], apart := false, laid := [("errors.errorType", laid_errors_errorType)] }
def QuorumChecksSaid : Prop := quorumChecksRow.holds Tryd.pinned (OpenSpec.ofChange quorumChecksSpec)

/-- ITS FALSE NEIGHBOUR: 'it returns false'. Refute it at one input. -/
def quorumChecksWrong : ChangeSpec := { name := "quorumChecks", fn := fun _ => fun
  | [d] => { results := [.lit (.bool false)], args := [d] }
  | _ => none }
def QuorumChecksWrongFalsely : Prop := quorumChecksRow.holds Tryd.pinned (OpenSpec.ofChange quorumChecksWrong)

/-- 'dovecotelaw16.QuorumChanges': WHATEVER THE INPUT: true; the input reads as it did. -/
def quorumChangesSpec : ChangeSpec := { name := "quorumChanges", fn := fun _ => fun
  | [d] => { results := [.lit (.bool true)], args := [d] }
  | _ => none }
def quorumChangesRow : OpenClaim := { program := "ytcbbphoehjmanaadoor", sum := "8e592ac321b56cf14b5c10047cf46626975f2ac4a70735428ff4c753010114a0", func := "dovecote/dovecotelaw16.QuorumChanges", spec := "quorumChanges", inPlace := ["internal/reflectlite.ValueOf", "(internal/reflectlite.Value).Type", "(internal/reflectlite.Value).IsNil", "internal/reflectlite.TypeOf", "(internal/reflectlite.Value).Elem", "(internal/reflectlite.Value).Set"], unfollowed := true, recurses := true, named := ["errors.errorType"], apart := false, laid := [("errors.errorType", laid_errors_errorType)] }
def QuorumChangesSaid : Prop := quorumChangesRow.holds Tryd.pinned (OpenSpec.ofChange quorumChangesSpec)

/-- ITS FALSE NEIGHBOUR: 'it returns false'. Refute it at one input. -/
def quorumChangesWrong : ChangeSpec := { name := "quorumChanges", fn := fun _ => fun
  | [d] => { results := [.lit (.bool false)], args := [d] }
  | _ => none }
def QuorumChangesWrongFalsely : Prop := quorumChangesRow.holds Tryd.pinned (OpenSpec.ofChange quorumChangesWrong)

/-- 'dovecotelaw16.QuorumMeet': WHATEVER THE INPUT: true; the input reads as it did. -/
def quorumMeetSpec : ChangeSpec := { name := "quorumMeet", fn := fun _ => fun
  | [d] => { results := [.lit (.bool true)], args := [d] }
  | _ => none }
def quorumMeetRow : OpenClaim := { program := "ytcbbphoehjmanaadoor", sum := "8e592ac321b56cf14b5c10047cf46626975f2ac4a70735428ff4c753010114a0", func := "dovecote/dovecotelaw16.QuorumMeet", spec := "quorumMeet", inPlace := ["internal/reflectlite.ValueOf", "(internal/reflectlite.Value).Type", "(internal/reflectlite.Value).IsNil", "internal/reflectlite.TypeOf", "(internal/reflectlite.Value).Elem", "(internal/reflectlite.Value).Set"], unfollowed := true, recurses := true, named := ["errors.errorType"], apart := false, laid := [("errors.errorType", laid_errors_errorType)] }
def QuorumMeetSaid : Prop := quorumMeetRow.holds Tryd.pinned (OpenSpec.ofChange quorumMeetSpec)

/-- ITS FALSE NEIGHBOUR: 'it returns false'. Refute it at one input. -/
def quorumMeetWrong : ChangeSpec := { name := "quorumMeet", fn := fun _ => fun
  | [d] => { results := [.lit (.bool false)], args := [d] }
  | _ => none }
def QuorumMeetWrongFalsely : Prop := quorumMeetRow.holds Tryd.pinned (OpenSpec.ofChange quorumMeetWrong)

/-- 'dovecotelaw16.QuorumExact': WHATEVER THE INPUT: true; the input reads as it did. -/
def quorumExactSpec : ChangeSpec := { name := "quorumExact", fn := fun _ => fun
  | [d] => { results := [.lit (.bool true)], args := [d] }
  | _ => none }
def quorumExactRow : OpenClaim := { program := "ytcbbphoehjmanaadoor", sum := "8e592ac321b56cf14b5c10047cf46626975f2ac4a70735428ff4c753010114a0", func := "dovecote/dovecotelaw16.QuorumExact", spec := "quorumExact", inPlace := ["internal/reflectlite.ValueOf", "(internal/reflectlite.Value).Type", "(internal/reflectlite.Value).IsNil", "internal/reflectlite.TypeOf", "(internal/reflectlite.Value).Elem", "(internal/reflectlite.Value).Set"], unfollowed := true, recurses := true, named := ["errors.errorType"], apart := false, laid := [("errors.errorType", laid_errors_errorType)] }
def QuorumExactSaid : Prop := quorumExactRow.holds Tryd.pinned (OpenSpec.ofChange quorumExactSpec)

/-- ITS FALSE NEIGHBOUR: 'it returns false'. Refute it at one input. -/
def quorumExactWrong : ChangeSpec := { name := "quorumExact", fn := fun _ => fun
  | [d] => { results := [.lit (.bool false)], args := [d] }
  | _ => none }
def QuorumExactWrongFalsely : Prop := quorumExactRow.holds Tryd.pinned (OpenSpec.ofChange quorumExactWrong)

/- THE SECOND FORM. 'bulk': how many values and letters a reading holds, each counted each time it is reached (what is shared counts as often as it is met; a slice's spare places count too). A statement '..UptoSaid' is the law's where the arguments, and the package variables that the reading takes, are together of bulk at most 1048576: NARROWER than '..Said'. Prove '..Said' where nothing that the law and all that it calls make is longer than what came in: it says more and counts as full. Else prove '..UptoSaid'. A law counts once. -/
mutual
def uptoBulk {H : Type} : DataW H → Nat
  | .lit (.string bytes) => bytes.length + 1
  | .lit _ => 1
  | .nil => 1
  | .ptr d => uptoBulk d + 1
  | .slice elems spare => uptoBulkAll elems + uptoBulkAll spare + 1
  | .agg parts => uptoBulkAll parts + 1
  | .iface _ d => uptoBulk d + 1
  | .map entries => uptoBulkEntries entries + 1
  | .held _ => 1
def uptoBulkAll {H : Type} : List (DataW H) → Nat
  | [] => 0
  | d :: r => uptoBulk d + uptoBulkAll r
def uptoBulkEntries {H : Type} : List (Lit × DataW H) → Nat
  | [] => 0
  | x :: r => uptoBulkEntry x + uptoBulkEntries r
def uptoBulkEntry {H : Type} : Lit × DataW H → Nat
  | (.string bytes, d) => bytes.length + uptoBulk d + 1
  | (_, d) => uptoBulk d + 1
 end
def uptoSmall : (H : Type) → List (DataW H) → Bool := fun _ ds => decide (uptoBulkAll ds ≤ 1048576)
def OpenSpec.upto (s : _root_.Go.ChangeSpec) : _root_.Go.OpenSpec := { _root_.Go.OpenSpec.ofChange s with cond := some uptoSmall }

/-- 'dovecotelaw16.QuorumEnough', WHERE WHAT IT READS IS OF BULK AT MOST 1048576: true; the input reads as it did. -/
def quorumEnoughUptoRow : OpenClaim := { program := "ytcbbphoehjmanaadoor", sum := "8e592ac321b56cf14b5c10047cf46626975f2ac4a70735428ff4c753010114a0", func := "dovecote/dovecotelaw16.QuorumEnough", spec := "quorumEnough", inPlace := ["internal/reflectlite.ValueOf", "(internal/reflectlite.Value).Type", "(internal/reflectlite.Value).IsNil", "internal/reflectlite.TypeOf", "(internal/reflectlite.Value).Elem", "(internal/reflectlite.Value).Set"], unfollowed := true, recurses := true, named := ["errors.errorType"], apart := false, laid := [("errors.errorType", laid_errors_errorType)], narrowed := true }
def QuorumEnoughUptoSaid : Prop := quorumEnoughUptoRow.holds Tryd.pinned (OpenSpec.upto quorumEnoughSpec)

/-- 'dovecotelaw16.QuorumChecks', WHERE WHAT IT READS IS OF BULK AT MOST 1048576: true; the input reads as it did. -/
def quorumChecksUptoRow : OpenClaim := { program := "ytcbbphoehjmanaadoor", sum := "8e592ac321b56cf14b5c10047cf46626975f2ac4a70735428ff4c753010114a0", func := "dovecote/dovecotelaw16.QuorumChecks", spec := "quorumChecks", inPlace := ["internal/reflectlite.ValueOf", "(internal/reflectlite.Value).Type", "(internal/reflectlite.Value).IsNil", "internal/reflectlite.TypeOf", "(internal/reflectlite.Value).Elem", "(internal/reflectlite.Value).Set"], unfollowed := true, recurses := true, named := ["errors.errorType"], apart := false, laid := [("errors.errorType", laid_errors_errorType)], narrowed := true }
def QuorumChecksUptoSaid : Prop := quorumChecksUptoRow.holds Tryd.pinned (OpenSpec.upto quorumChecksSpec)

/-- 'dovecotelaw16.QuorumChanges', WHERE WHAT IT READS IS OF BULK AT MOST 1048576: true; the input reads as it did. -/
def quorumChangesUptoRow : OpenClaim := { program := "ytcbbphoehjmanaadoor", sum := "8e592ac321b56cf14b5c10047cf46626975f2ac4a70735428ff4c753010114a0", func := "dovecote/dovecotelaw16.QuorumChanges", spec := "quorumChanges", inPlace := ["internal/reflectlite.ValueOf", "(internal/reflectlite.Value).Type", "(internal/reflectlite.Value).IsNil", "internal/reflectlite.TypeOf", "(internal/reflectlite.Value).Elem", "(internal/reflectlite.Value).Set"], unfollowed := true, recurses := true, named := ["errors.errorType"], apart := false, laid := [("errors.errorType", laid_errors_errorType)], narrowed := true }
def QuorumChangesUptoSaid : Prop := quorumChangesUptoRow.holds Tryd.pinned (OpenSpec.upto quorumChangesSpec)

/-- 'dovecotelaw16.QuorumMeet', WHERE WHAT IT READS IS OF BULK AT MOST 1048576: true; the input reads as it did. -/
def quorumMeetUptoRow : OpenClaim := { program := "ytcbbphoehjmanaadoor", sum := "8e592ac321b56cf14b5c10047cf46626975f2ac4a70735428ff4c753010114a0", func := "dovecote/dovecotelaw16.QuorumMeet", spec := "quorumMeet", inPlace := ["internal/reflectlite.ValueOf", "(internal/reflectlite.Value).Type", "(internal/reflectlite.Value).IsNil", "internal/reflectlite.TypeOf", "(internal/reflectlite.Value).Elem", "(internal/reflectlite.Value).Set"], unfollowed := true, recurses := true, named := ["errors.errorType"], apart := false, laid := [("errors.errorType", laid_errors_errorType)], narrowed := true }
def QuorumMeetUptoSaid : Prop := quorumMeetUptoRow.holds Tryd.pinned (OpenSpec.upto quorumMeetSpec)

/-- 'dovecotelaw16.QuorumExact', WHERE WHAT IT READS IS OF BULK AT MOST 1048576: true; the input reads as it did. -/
def quorumExactUptoRow : OpenClaim := { program := "ytcbbphoehjmanaadoor", sum := "8e592ac321b56cf14b5c10047cf46626975f2ac4a70735428ff4c753010114a0", func := "dovecote/dovecotelaw16.QuorumExact", spec := "quorumExact", inPlace := ["internal/reflectlite.ValueOf", "(internal/reflectlite.Value).Type", "(internal/reflectlite.Value).IsNil", "internal/reflectlite.TypeOf", "(internal/reflectlite.Value).Elem", "(internal/reflectlite.Value).Set"], unfollowed := true, recurses := true, named := ["errors.errorType"], apart := false, laid := [("errors.errorType", laid_errors_errorType)], narrowed := true }
def QuorumExactUptoSaid : Prop := quorumExactUptoRow.holds Tryd.pinned (OpenSpec.upto quorumExactSpec)

end Rows
end Go.Proofs.YtcbbphoehjmanaaDoor
