/- A net: what an argument of bulk reads as. -/
import Derived.Test.YtlcbjenehogfmaaW0
import Derived.Test.YtlcbjenehogfmaaNH
set_option linter.unusedSimpArgs false
set_option linter.unusedVariables false
namespace Go.Proofs.Ytlcbjenehogfmaa
open Go Go.Abs Go.Proofs
open Go.ChangeShapes Go.WideShapes Go.ChangeAt Go.RowKit
theorem o_int {H : Type} {W : World} : Opens Try.prog (ghAll W) W (H := H) Rows.uptoBulk 3 (fun _ (_ : Int) => True) (fun n : Int => [.lit (.int .i64 n)]) := (Opens.int Try.underlying3).map id (fun _ _ _ => trivial) (fun _ => rfl)
theorem wf_i64 {a : Int} (h : (Lit.int .i64 a).wf = true) : -9223372036854775808 ≤ a ∧ a ≤ 9223372036854775807 := by
  simp only [Lit.wf, Bool.and_eq_true, decide_eq_true_eq] at h; exact h
theorem o_intr {H : Type} {W : World} : Opens Try.prog (ghAll W) W (H := H) Rows.uptoBulk 3 (fun _ (a : Int) => -9223372036854775808 ≤ a ∧ a ≤ 9223372036854775807) (fun n : Int => [.lit (.int .i64 n)]) := (Opens.int Try.underlying3).map id (fun _ _ h => wf_i64 h) (fun _ => rfl)
theorem o_bool {H : Type} {W : World} : Opens Try.prog (ghAll W) W (H := H) Rows.uptoBulk 4 (fun _ (_ : Bool) => True) (fun n : Bool => [.lit (.bool n)]) := Opens.bool Try.underlying4
theorem o_string {H : Type} {W : World} : Opens Try.prog (ghAll W) W (H := H) Rows.uptoBulk 9 (fun n (s : ByteArray) => s.size < n) (fun s : ByteArray => [.lit (.string s)]) := Opens.string (bulk H) Try.underlying9
structure EntOk (n : Nat) (p : EntD) : Prop where
  data : p.data.size < n
theorem EntOk.mono {m n : Nat} {p : EntD} (k : EntOk m p) (h : m ≤ n) : EntOk n p := ⟨Nat.lt_of_lt_of_le k.data h⟩
theorem m_int (m n : Nat) (a : Int) (_ : m ≤ n) (_ : True) : True := trivial
theorem m_string (m n : Nat) (a : ByteArray) (h : m ≤ n) (k : a.size < m) : a.size < n := Nat.lt_of_lt_of_le k h
theorem o_EntD {H : Type} {W : World} : Opens Try.prog (ghAll W) W (H := H) Rows.uptoBulk 63 EntOk entC := by
  have h3 := OpensF.cons (bulk H) (P := Try.prog) (gh := ghAll W) (W := W) (fld := ⟨ "Data", 9, 3, false, "", "", 24⟩) (fs := []) (o := 3) (n := 1) rfl fc9 m_string (fun _ _ _ _ _ => trivial) o_string OpensF.nil
  have h2 := OpensF.cons (bulk H) (P := Try.prog) (gh := ghAll W) (W := W) (fld := ⟨ "Kind", 3, 2, false, "", "", 16⟩) (o := 2) (n := 1) rfl fc3 m_int (fun m k a h x => ⟨m_string _ _ _ h x.1, trivial⟩) o_int h3
  have h1 := OpensF.cons (bulk H) (P := Try.prog) (gh := ghAll W) (W := W) (fld := ⟨ "Term", 3, 1, false, "", "", 8⟩) (o := 1) (n := 1) rfl fc3 m_int (fun m k a h x => ⟨trivial, m_string _ _ _ h x.2.1, trivial⟩) o_int h2
  have h0 := OpensF.cons (bulk H) (P := Try.prog) (gh := ghAll W) (W := W) (fld := ⟨ "Index", 3, 0, false, "", "", 0⟩) (o := 0) (n := 1) rfl fc3 m_int (fun m k a h x => ⟨trivial, trivial, m_string _ _ _ h x.2.2.1, trivial⟩) o_int h1
  have h := Opens.struct (bulk H) (P := Try.prog) (gh := ghAll W) (W := W) (t := 63) Try.underlying63 (by kernel_rfl) (fun m k a h x => ⟨trivial, trivial, trivial, m_string _ _ _ h x.2.2.2.1, trivial⟩) h0
  exact h.map (fun a => ⟨a.1, a.2.1, a.2.2.1, a.2.2.2.1⟩) (fun n a x => ⟨x.2.2.2.1⟩) (fun a => rfl)
theorem o_EntD_s {H : Type} {W : World} : Opens Try.prog (ghAll W) W (H := H) Rows.uptoBulk 28 (fun n L => L.length < n ∧ ∀ a ∈ L, EntOk n a) (fun L : List EntD => [.vs 4 (L.map entC)]) := Opens.slice (bulk H) (fun _ h => h) Try.underlying28 fc63 (by decide) (fun m n a h k => k.mono h) (fun _ => rfl) o_EntD
theorem o_int_s {H : Type} {W : World} : Opens Try.prog (ghAll W) W (H := H) Rows.uptoBulk 26 (fun n L => L.length < n) (fun L : List Int => [.vs 1 (L.map fun x => [.lit (.int .i64 x)])]) := (Opens.slice (bulk H) (fun _ h => h) Try.underlying26 fc3 (by decide) (fun _ _ _ _ _ => trivial) (fun _ => rfl) o_int).map id (fun _ _ h => h.1) (fun _ => rfl)
structure RpcOk (n : Nat) (p : RpcM) : Prop where
  entries : p.entries.length < n ∧ ∀ e ∈ p.entries, EntOk n e
  members : p.members.length < n
  data : p.data.size < n
theorem RpcOk.mono {m n : Nat} {p : RpcM} (k : RpcOk m p) (h : m ≤ n) : RpcOk n p := ⟨⟨Nat.lt_of_lt_of_le k.entries.1 h, fun a ha => (k.entries.2 a ha).mono h⟩, Nat.lt_of_lt_of_le k.members h, Nat.lt_of_lt_of_le k.data h⟩
theorem m_bool (m n : Nat) (a : Bool) (_ : m ≤ n) (_ : True) : True := trivial
theorem m_EntD_s (m n : Nat) (a : List EntD) (h : m ≤ n) (k : a.length < m ∧ ∀ e ∈ a, EntOk m e) : a.length < n ∧ ∀ e ∈ a, EntOk n e := ⟨Nat.lt_of_lt_of_le k.1 h, fun a ha => (k.2 a ha).mono h⟩
theorem m_int_s (m n : Nat) (a : List Int) (h : m ≤ n) (k : a.length < m) : a.length < n := Nat.lt_of_lt_of_le k h
theorem o_RpcM {H : Type} {W : World} : Opens Try.prog (ghAll W) W (H := H) Rows.uptoBulk 30 RpcOk rpcM := by
  have h10 := OpensF.cons (bulk H) (P := Try.prog) (gh := ghAll W) (W := W) (fld := ⟨ "Data", 9, 10, false, "", "", 112⟩) (fs := []) (o := 10) (n := 1) rfl fc9 m_string (fun _ _ _ _ _ => trivial) o_string OpensF.nil
  have h9 := OpensF.cons (bulk H) (P := Try.prog) (gh := ghAll W) (W := W) (fld := ⟨ "Members", 26, 9, false, "", "", 88⟩) (o := 9) (n := 1) rfl fc26 m_int_s (fun m k a h x => ⟨m_string _ _ _ h x.1, trivial⟩) o_int_s h10
  have h8 := OpensF.cons (bulk H) (P := Try.prog) (gh := ghAll W) (W := W) (fld := ⟨ "Entries", 28, 8, false, "", "", 64⟩) (o := 8) (n := 1) rfl fc28 m_EntD_s (fun m k a h x => ⟨m_int_s _ _ _ h x.1, m_string _ _ _ h x.2.1, trivial⟩) o_EntD_s h9
  have h7 := OpensF.cons (bulk H) (P := Try.prog) (gh := ghAll W) (W := W) (fld := ⟨ "Ok", 4, 7, false, "", "", 56⟩) (o := 7) (n := 1) rfl fc4 m_bool (fun m k a h x => ⟨m_EntD_s _ _ _ h x.1, m_int_s _ _ _ h x.2.1, m_string _ _ _ h x.2.2.1, trivial⟩) o_bool h8
  have h6 := OpensF.cons (bulk H) (P := Try.prog) (gh := ghAll W) (W := W) (fld := ⟨ "Commit", 3, 6, false, "", "", 48⟩) (o := 6) (n := 1) rfl fc3 m_int (fun m k a h x => ⟨trivial, m_EntD_s _ _ _ h x.2.1, m_int_s _ _ _ h x.2.2.1, m_string _ _ _ h x.2.2.2.1, trivial⟩) o_int h7
  have h5 := OpensF.cons (bulk H) (P := Try.prog) (gh := ghAll W) (W := W) (fld := ⟨ "LogTerm", 3, 5, false, "", "", 40⟩) (o := 5) (n := 1) rfl fc3 m_int (fun m k a h x => ⟨trivial, trivial, m_EntD_s _ _ _ h x.2.2.1, m_int_s _ _ _ h x.2.2.2.1, m_string _ _ _ h x.2.2.2.2.1, trivial⟩) o_int h6
  have h4 := OpensF.cons (bulk H) (P := Try.prog) (gh := ghAll W) (W := W) (fld := ⟨ "Index", 3, 4, false, "", "", 32⟩) (o := 4) (n := 1) rfl fc3 m_int (fun m k a h x => ⟨trivial, trivial, trivial, m_EntD_s _ _ _ h x.2.2.2.1, m_int_s _ _ _ h x.2.2.2.2.1, m_string _ _ _ h x.2.2.2.2.2.1, trivial⟩) o_int h5
  have h3 := OpensF.cons (bulk H) (P := Try.prog) (gh := ghAll W) (W := W) (fld := ⟨ "Term", 3, 3, false, "", "", 24⟩) (o := 3) (n := 1) rfl fc3 m_int (fun m k a h x => ⟨trivial, trivial, trivial, trivial, m_EntD_s _ _ _ h x.2.2.2.2.1, m_int_s _ _ _ h x.2.2.2.2.2.1, m_string _ _ _ h x.2.2.2.2.2.2.1, trivial⟩) o_int h4
  have h2 := OpensF.cons (bulk H) (P := Try.prog) (gh := ghAll W) (W := W) (fld := ⟨ "To", 3, 2, false, "", "", 16⟩) (o := 2) (n := 1) rfl fc3 m_int (fun m k a h x => ⟨trivial, trivial, trivial, trivial, trivial, m_EntD_s _ _ _ h x.2.2.2.2.2.1, m_int_s _ _ _ h x.2.2.2.2.2.2.1, m_string _ _ _ h x.2.2.2.2.2.2.2.1, trivial⟩) o_int h3
  have h1 := OpensF.cons (bulk H) (P := Try.prog) (gh := ghAll W) (W := W) (fld := ⟨ "From", 3, 1, false, "", "", 8⟩) (o := 1) (n := 1) rfl fc3 m_int (fun m k a h x => ⟨trivial, trivial, trivial, trivial, trivial, trivial, m_EntD_s _ _ _ h x.2.2.2.2.2.2.1, m_int_s _ _ _ h x.2.2.2.2.2.2.2.1, m_string _ _ _ h x.2.2.2.2.2.2.2.2.1, trivial⟩) o_int h2
  have h0 := OpensF.cons (bulk H) (P := Try.prog) (gh := ghAll W) (W := W) (fld := ⟨ "Kind", 3, 0, false, "", "", 0⟩) (o := 0) (n := 1) rfl fc3 m_int (fun m k a h x => ⟨trivial, trivial, trivial, trivial, trivial, trivial, trivial, m_EntD_s _ _ _ h x.2.2.2.2.2.2.2.1, m_int_s _ _ _ h x.2.2.2.2.2.2.2.2.1, m_string _ _ _ h x.2.2.2.2.2.2.2.2.2.1, trivial⟩) o_int h1
  have h := Opens.struct (bulk H) (P := Try.prog) (gh := ghAll W) (W := W) (t := 30) Try.underlying30 (by kernel_rfl) (fun m k a h x => ⟨trivial, trivial, trivial, trivial, trivial, trivial, trivial, trivial, m_EntD_s _ _ _ h x.2.2.2.2.2.2.2.2.1, m_int_s _ _ _ h x.2.2.2.2.2.2.2.2.2.1, m_string _ _ _ h x.2.2.2.2.2.2.2.2.2.2.1, trivial⟩) h0
  exact h.map (fun a => ⟨a.1, a.2.1, a.2.2.1, a.2.2.2.1, a.2.2.2.2.1, a.2.2.2.2.2.1, a.2.2.2.2.2.2.1, a.2.2.2.2.2.2.2.1, a.2.2.2.2.2.2.2.2.1, a.2.2.2.2.2.2.2.2.2.1, a.2.2.2.2.2.2.2.2.2.2.1⟩) (fun n a x => ⟨x.2.2.2.2.2.2.2.2.1, x.2.2.2.2.2.2.2.2.2.1, x.2.2.2.2.2.2.2.2.2.2.1⟩) (fun a => rfl)
structure ActOk (n : Nat) (p : ActD) : Prop where
  m : RpcOk n p.m
  now : -9223372036854775808 ≤ p.now ∧ p.now ≤ 9223372036854775807
  pick : -9223372036854775808 ≤ p.pick ∧ p.pick ≤ 9223372036854775807
theorem ActOk.mono {m n : Nat} {p : ActD} (k : ActOk m p) (h : m ≤ n) : ActOk n p := ⟨k.m.mono h, k.now, k.pick⟩
theorem m_RpcM (m n : Nat) (a : RpcM) (h : m ≤ n) (k : RpcOk m a) : RpcOk n a := k.mono h
theorem m_intr (m n : Nat) (a : Int) (h : m ≤ n) (k : -9223372036854775808 ≤ a ∧ a ≤ 9223372036854775807) : -9223372036854775808 ≤ a ∧ a ≤ 9223372036854775807 := k
theorem o_ActD {H : Type} {W : World} : Opens Try.prog (ghAll W) W (H := H) Rows.uptoBulk 32 ActOk actC := by
  have h3 := OpensF.cons (bulk H) (P := Try.prog) (gh := ghAll W) (W := W) (fld := ⟨ "Pick", 3, 13, false, "", "", 144⟩) (fs := []) (o := 13) (n := 1) rfl fc3 m_intr (fun _ _ _ _ _ => trivial) o_intr OpensF.nil
  have h2 := OpensF.cons (bulk H) (P := Try.prog) (gh := ghAll W) (W := W) (fld := ⟨ "Now", 3, 12, false, "", "", 136⟩) (o := 12) (n := 1) rfl fc3 m_intr (fun m k a h x => ⟨m_intr _ _ _ h x.1, trivial⟩) o_intr h3
  have h1 := OpensF.cons (bulk H) (P := Try.prog) (gh := ghAll W) (W := W) (fld := ⟨ "M", 30, 1, false, "", "", 8⟩) (o := 1) (n := 11) rfl fc30 m_RpcM (fun m k a h x => ⟨m_intr _ _ _ h x.1, m_intr _ _ _ h x.2.1, trivial⟩) o_RpcM h2
  have h0 := OpensF.cons (bulk H) (P := Try.prog) (gh := ghAll W) (W := W) (fld := ⟨ "Do", 3, 0, false, "", "", 0⟩) (o := 0) (n := 1) rfl fc3 m_int (fun m k a h x => ⟨m_RpcM _ _ _ h x.1, m_intr _ _ _ h x.2.1, m_intr _ _ _ h x.2.2.1, trivial⟩) o_int h1
  have h := Opens.struct (bulk H) (P := Try.prog) (gh := ghAll W) (W := W) (t := 32) Try.underlying32 (by kernel_rfl) (fun m k a h x => ⟨trivial, m_RpcM _ _ _ h x.2.1, m_intr _ _ _ h x.2.2.1, m_intr _ _ _ h x.2.2.2.1, trivial⟩) h0
  exact h.map (fun a => ⟨a.1, a.2.1, a.2.2.1, a.2.2.2.1⟩) (fun n a x => ⟨x.2.1, x.2.2.1, x.2.2.2.1⟩) (fun a => rfl)
theorem o_ActD_s {H : Type} {W : World} : Opens Try.prog (ghAll W) W (H := H) Rows.uptoBulk 22 (fun n L => L.length < n ∧ ∀ a ∈ L, ActOk n a) (fun L : List ActD => [.vs 14 (L.map actC)]) := Opens.slice (bulk H) (fun _ h => h) Try.underlying22 fc32 (by decide) (fun m n a h k => k.mono h) (fun _ => rfl) o_ActD
end Go.Proofs.Ytlcbjenehogfmaa
