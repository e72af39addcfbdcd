/- A net: what the laws' arguments are. -/
import Derived.Test.YtlcbjenehogfmaaNG
set_option linter.unusedSimpArgs false
set_option linter.unusedVariables false
namespace Go.Proofs
open Go Go.Abs
structure EntD where
  index : Int
  term : Int
  kind : Int
  data : ByteArray
instance : Inhabited EntD := ⟨⟨0, 0, 0, ByteArray.empty⟩⟩
abbrev entC (p : EntD) : List PV := [int p.index, int p.term, int p.kind, str p.data]
structure RpcM where
  kind : Int
  sender : Int
  to_ : Int
  term : Int
  index : Int
  logTerm : Int
  commit : Int
  ok : Bool
  entries : List EntD
  members : List Int
  data : ByteArray
instance : Inhabited RpcM := ⟨⟨0, 0, 0, 0, 0, 0, 0, false, [], [], ByteArray.empty⟩⟩
abbrev rpcM (p : RpcM) : List PV := [int p.kind, int p.sender, int p.to_, int p.term, int p.index, int p.logTerm, int p.commit, bool p.ok, .vs 4 (p.entries.map entC), ints p.members, str p.data]
structure ActD where
  do_ : Int
  m : RpcM
  now : Int
  pick : Int
instance : Inhabited ActD := ⟨⟨0, default, 0, 0⟩⟩
abbrev actC (p : ActD) : List PV := [int p.do_, int p.m.kind, int p.m.sender, int p.m.to_, int p.m.term, int p.m.index, int p.m.logTerm, int p.m.commit, bool p.m.ok, .vs 4 (p.m.entries.map entC), ints p.m.members, str p.m.data, int p.now, int p.pick]
end Go.Proofs
