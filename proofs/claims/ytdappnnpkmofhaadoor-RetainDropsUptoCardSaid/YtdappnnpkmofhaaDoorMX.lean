/- Messages kept: what an argument of bulk reads as. -/
import Derived.Test.YtdappnnpkmofhaaDoorTW
import Derived.Test.YtdappnnpkmofhaaDoorMH
set_option linter.unusedSimpArgs false
set_option linter.unusedVariables false
namespace Go.Proofs.YtdappnnpkmofhaaDoor
open Go Go.Abs Go.Proofs
open Go.ChangeShapes Go.WideShapes Go.ChangeAt Go.RowKit
theorem o_int {H : Type} {W : World} : Opens Tryd.prog (ghAll W) W (H := H) Rows.uptoBulk 3 (fun _ (_ : Int) => True) (fun n : Int => [.lit (.int .i64 n)]) := (Opens.int Tryd.underlying3).map id (fun _ _ _ => trivial) (fun _ => rfl)
theorem o_bool {H : Type} {W : World} : Opens Tryd.prog (ghAll W) W (H := H) Rows.uptoBulk 4 (fun _ (_ : Bool) => True) (fun n : Bool => [.lit (.bool n)]) := Opens.bool Tryd.underlying4
theorem o_string {H : Type} {W : World} : Opens Tryd.prog (ghAll W) W (H := H) Rows.uptoBulk 9 (fun n (s : ByteArray) => s.size < n) (fun s : ByteArray => [.lit (.string s)]) := Opens.string (bulk H) Tryd.underlying9
structure PropOk (n : Nat) (p : PropD) : Prop where
  s : p.s.size < n
  v : p.v.size < n
theorem PropOk.mono {m n : Nat} {p : PropD} (k : PropOk m p) (h : m ≤ n) : PropOk n p := ⟨Nat.lt_of_lt_of_le k.s h, Nat.lt_of_lt_of_le k.v h⟩
theorem m_int (m n : Nat) (a : Int) (_ : m ≤ n) (_ : True) : True := trivial
theorem m_string (m n : Nat) (a : ByteArray) (h : m ≤ n) (k : a.size < m) : a.size < n := Nat.lt_of_lt_of_le k h
theorem o_PropD {H : Type} {W : World} : Opens Tryd.prog (ghAll W) W (H := H) Rows.uptoBulk 74 PropOk propC := by
  have h3 := OpensF.cons (bulk H) (P := Tryd.prog) (gh := ghAll W) (W := W) (fld := ⟨ "Val", 9, 3, false, "", "", 32⟩) (fs := []) (o := 3) (n := 1) rfl fc9 m_string (fun _ _ _ _ _ => trivial) o_string OpensF.nil
  have h2 := OpensF.cons (bulk H) (P := Tryd.prog) (gh := ghAll W) (W := W) (fld := ⟨ "Str", 9, 2, false, "", "", 16⟩) (o := 2) (n := 1) rfl fc9 m_string (fun m k a h x => ⟨m_string _ _ _ h x.1, trivial⟩) o_string h3
  have h1 := OpensF.cons (bulk H) (P := Tryd.prog) (gh := ghAll W) (W := W) (fld := ⟨ "Num", 3, 1, false, "", "", 8⟩) (o := 1) (n := 1) rfl fc3 m_int (fun m k a h x => ⟨m_string _ _ _ h x.1, m_string _ _ _ h x.2.1, trivial⟩) o_int h2
  have h0 := OpensF.cons (bulk H) (P := Tryd.prog) (gh := ghAll W) (W := W) (fld := ⟨ "ID", 3, 0, false, "", "", 0⟩) (o := 0) (n := 1) rfl fc3 m_int (fun m k a h x => ⟨trivial, m_string _ _ _ h x.2.1, m_string _ _ _ h x.2.2.1, trivial⟩) o_int h1
  have h := Opens.struct (bulk H) (P := Tryd.prog) (gh := ghAll W) (W := W) (t := 74) Tryd.underlying74 (by kernel_rfl) (fun m k a h x => ⟨trivial, trivial, m_string _ _ _ h x.2.2.1, m_string _ _ _ h x.2.2.2.1, trivial⟩) h0
  exact h.map (fun a => ⟨a.1, a.2.1, a.2.2.1, a.2.2.2.1⟩) (fun n a x => ⟨x.2.2.1, x.2.2.2.1⟩) (fun a => rfl)
theorem o_PropD_s {H : Type} {W : World} : Opens Tryd.prog (ghAll W) W (H := H) Rows.uptoBulk 25 (fun n L => L.length < n ∧ ∀ a ∈ L, PropOk n a) (fun L : List PropD => [.vs 4 (L.map propC)]) := Opens.slice (bulk H) (fun _ h => h) Tryd.underlying25 fc74 (by decide) (fun m n a h k => k.mono h) (fun _ => rfl) o_PropD
structure MsgOk (n : Nat) (p : MsgD) : Prop where
  topic : p.topic.size < n
  payload : p.payload.size < n
  sender : p.sender.size < n
  props : p.props.length < n ∧ ∀ e ∈ p.props, PropOk n e
theorem MsgOk.mono {m n : Nat} {p : MsgD} (k : MsgOk m p) (h : m ≤ n) : MsgOk n p := ⟨Nat.lt_of_lt_of_le k.topic h, Nat.lt_of_lt_of_le k.payload h, Nat.lt_of_lt_of_le k.sender h, ⟨Nat.lt_of_lt_of_le k.props.1 h, fun a ha => (k.props.2 a ha).mono h⟩⟩
theorem m_bool (m n : Nat) (a : Bool) (_ : m ≤ n) (_ : True) : True := trivial
theorem m_PropD_s (m n : Nat) (a : List PropD) (h : m ≤ n) (k : a.length < m ∧ ∀ e ∈ a, PropOk m e) : a.length < n ∧ ∀ e ∈ a, PropOk n e := ⟨Nat.lt_of_lt_of_le k.1 h, fun a ha => (k.2 a ha).mono h⟩
theorem o_MsgD {H : Type} {W : World} : Opens Tryd.prog (ghAll W) W (H := H) Rows.uptoBulk 27 MsgOk msgC := by
  have h6 := OpensF.cons (bulk H) (P := Tryd.prog) (gh := ghAll W) (W := W) (fld := ⟨ "Props", 25, 6, false, "", "", 72⟩) (fs := []) (o := 6) (n := 1) rfl fc25 m_PropD_s (fun _ _ _ _ _ => trivial) o_PropD_s OpensF.nil
  have h5 := OpensF.cons (bulk H) (P := Tryd.prog) (gh := ghAll W) (W := W) (fld := ⟨ "Until", 3, 5, false, "", "", 64⟩) (o := 5) (n := 1) rfl fc3 m_int (fun m k a h x => ⟨m_PropD_s _ _ _ h x.1, trivial⟩) o_int h6
  have h4 := OpensF.cons (bulk H) (P := Tryd.prog) (gh := ghAll W) (W := W) (fld := ⟨ "From", 9, 4, false, "", "", 48⟩) (o := 4) (n := 1) rfl fc9 m_string (fun m k a h x => ⟨trivial, m_PropD_s _ _ _ h x.2.1, trivial⟩) o_string h5
  have h3 := OpensF.cons (bulk H) (P := Tryd.prog) (gh := ghAll W) (W := W) (fld := ⟨ "Retain", 4, 3, false, "", "", 40⟩) (o := 3) (n := 1) rfl fc4 m_bool (fun m k a h x => ⟨m_string _ _ _ h x.1, trivial, m_PropD_s _ _ _ h x.2.2.1, trivial⟩) o_bool h4
  have h2 := OpensF.cons (bulk H) (P := Tryd.prog) (gh := ghAll W) (W := W) (fld := ⟨ "QoS", 3, 2, false, "", "", 32⟩) (o := 2) (n := 1) rfl fc3 m_int (fun m k a h x => ⟨trivial, m_string _ _ _ h x.2.1, trivial, m_PropD_s _ _ _ h x.2.2.2.1, trivial⟩) o_int h3
  have h1 := OpensF.cons (bulk H) (P := Tryd.prog) (gh := ghAll W) (W := W) (fld := ⟨ "Payload", 9, 1, false, "", "", 16⟩) (o := 1) (n := 1) rfl fc9 m_string (fun m k a h x => ⟨trivial, trivial, m_string _ _ _ h x.2.2.1, trivial, m_PropD_s _ _ _ h x.2.2.2.2.1, trivial⟩) o_string h2
  have h0 := OpensF.cons (bulk H) (P := Tryd.prog) (gh := ghAll W) (W := W) (fld := ⟨ "Topic", 9, 0, false, "", "", 0⟩) (o := 0) (n := 1) rfl fc9 m_string (fun m k a h x => ⟨m_string _ _ _ h x.1, trivial, trivial, m_string _ _ _ h x.2.2.2.1, trivial, m_PropD_s _ _ _ h x.2.2.2.2.2.1, trivial⟩) o_string h1
  have h := Opens.struct (bulk H) (P := Tryd.prog) (gh := ghAll W) (W := W) (t := 27) Tryd.underlying27 (by kernel_rfl) (fun m k a h x => ⟨m_string _ _ _ h x.1, m_string _ _ _ h x.2.1, trivial, trivial, m_string _ _ _ h x.2.2.2.2.1, trivial, m_PropD_s _ _ _ h x.2.2.2.2.2.2.1, trivial⟩) h0
  exact h.map (fun a => ⟨a.1, a.2.1, a.2.2.1, a.2.2.2.1, a.2.2.2.2.1, a.2.2.2.2.2.1, a.2.2.2.2.2.2.1⟩) (fun n a x => ⟨x.1, x.2.1, x.2.2.2.2.1, x.2.2.2.2.2.2.1⟩) (fun a => rfl)
theorem o_MsgD_s {H : Type} {W : World} : Opens Tryd.prog (ghAll W) W (H := H) Rows.uptoBulk 24 (fun n L => L.length < n ∧ ∀ a ∈ L, MsgOk n a) (fun L : List MsgD => [.vs 7 (L.map msgC)]) := Opens.slice (bulk H) (fun _ h => h) Tryd.underlying24 fc27 (by decide) (fun m n a h k => k.mono h) (fun _ => rfl) o_MsgD
structure AskOk (n : Nat) (p : AskD) : Prop where
  L : p.L.length < n ∧ ∀ e ∈ p.L, MsgOk n e
  M : MsgOk n p.M
  F : p.F.size < n
theorem AskOk.mono {m n : Nat} {p : AskD} (k : AskOk m p) (h : m ≤ n) : AskOk n p := ⟨⟨Nat.lt_of_lt_of_le k.L.1 h, fun a ha => (k.L.2 a ha).mono h⟩, k.M.mono h, Nat.lt_of_lt_of_le k.F h⟩
theorem m_MsgD_s (m n : Nat) (a : List MsgD) (h : m ≤ n) (k : a.length < m ∧ ∀ e ∈ a, MsgOk m e) : a.length < n ∧ ∀ e ∈ a, MsgOk n e := ⟨Nat.lt_of_lt_of_le k.1 h, fun a ha => (k.2 a ha).mono h⟩
theorem m_MsgD (m n : Nat) (a : MsgD) (h : m ≤ n) (k : MsgOk m a) : MsgOk n a := k.mono h
theorem o_AskD {H : Type} {W : World} : Opens Tryd.prog (ghAll W) W (H := H) Rows.uptoBulk 29 AskOk askC := by
  have h3 := OpensF.cons (bulk H) (P := Tryd.prog) (gh := ghAll W) (W := W) (fld := ⟨ "Now", 3, 9, false, "", "", 136⟩) (fs := []) (o := 9) (n := 1) rfl fc3 m_int (fun _ _ _ _ _ => trivial) o_int OpensF.nil
  have h2 := OpensF.cons (bulk H) (P := Tryd.prog) (gh := ghAll W) (W := W) (fld := ⟨ "F", 9, 8, false, "", "", 120⟩) (o := 8) (n := 1) rfl fc9 m_string (fun m k a h x => ⟨trivial, trivial⟩) o_string h3
  have h1 := OpensF.cons (bulk H) (P := Tryd.prog) (gh := ghAll W) (W := W) (fld := ⟨ "M", 27, 1, false, "", "", 24⟩) (o := 1) (n := 7) rfl fc27 m_MsgD (fun m k a h x => ⟨m_string _ _ _ h x.1, trivial, trivial⟩) o_MsgD h2
  have h0 := OpensF.cons (bulk H) (P := Tryd.prog) (gh := ghAll W) (W := W) (fld := ⟨ "L", 24, 0, false, "", "", 0⟩) (o := 0) (n := 1) rfl fc24 m_MsgD_s (fun m k a h x => ⟨m_MsgD _ _ _ h x.1, m_string _ _ _ h x.2.1, trivial, trivial⟩) o_MsgD_s h1
  have h := Opens.struct (bulk H) (P := Tryd.prog) (gh := ghAll W) (W := W) (t := 29) Tryd.underlying29 (by kernel_rfl) (fun m k a h x => ⟨m_MsgD_s _ _ _ h x.1, m_MsgD _ _ _ h x.2.1, m_string _ _ _ h x.2.2.1, trivial, trivial⟩) h0
  exact h.map (fun a => ⟨a.1, a.2.1, a.2.2.1, a.2.2.2.1⟩) (fun n a x => ⟨x.1, x.2.1, x.2.2.1⟩) (fun a => rfl)
theorem o_AskD_s {H : Type} {W : World} : Opens Tryd.prog (ghAll W) W (H := H) Rows.uptoBulk 22 (fun n L => L.length < n ∧ ∀ a ∈ L, AskOk n a) (fun L : List AskD => [.vs 10 (L.map askC)]) := Opens.slice (bulk H) (fun _ h => h) Tryd.underlying22 fc29 (by decide) (fun m n a h k => k.mono h) (fun _ => rfl) o_AskD
theorem bdp_of_ok {n : Nat} {L : List PropD} (h : ∀ e ∈ L, PropOk n e) (hn : n ≤ 1048577) (i : Nat) (hi : i < L.length) : (L.getD i default).s.size < 100000000 ∧ (L.getD i default).v.size < 100000000 := by
  have k := h _ (getD_mem hi)
  exact ⟨by have := k.s; omega, by have := k.v; omega⟩
theorem bdm_of_ok {n : Nat} {m : MsgD} (h : MsgOk n m) (hl : n ≤ 1048577) : BdMsg m :=
  ⟨by have := h.topic; omega, by have := h.payload; omega, by have := h.sender; omega, by have := h.props.1; omega, bdp_of_ok h.props.2 hl⟩
theorem bd_of_ok {n : Nat} {p : AskD} (h : AskOk n p) (hl : n ≤ 1048577) : BdAsk p :=
  ⟨by have := h.F; omega, bdm_of_ok h.M hl, by have := h.L.1; omega, fun i hi => bdm_of_ok (h.L.2 _ (getD_mem hi)) hl⟩
end Go.Proofs.YtdappnnpkmofhaaDoor
