/- More operations that leave memory as it is: arithmetic, comparison, conversion, slicing, lengths. -/
import Derived.Test.YtlcbjenehogfmaaAbPure
import Derived.Laws.BytesArg
import Derived.Laws.StructEq
set_option linter.unusedSimpArgs false
set_option linter.unusedVariables false
namespace Go.Abs
open Go

section
variable {P : Program} {glob : Nat → PV} {ρ : Operand → PV} {σ : Store}
variable {dst : Option Tmp} {ty : TypeId} {pos : String} {after : Array Edge} {guard : Option (Nat × Bool)}

def intW (op : BinOp) (k : IntKind) (a : Int) (k' : IntKind) (b : Int) (K : PV → Prop) : Prop :=
  match op with
  | .add => k = k' ∧ K (.lit (.int k (k.wrap (a + b))))
  | .sub => k = k' ∧ K (.lit (.int k (k.wrap (a - b))))
  | .mul => k = k' ∧ K (.lit (.int k (k.wrap (a * b))))
  | .quo => k = k' ∧ Chk (b ≠ 0) ∧ K (.lit (.int k (k.wrap (a.tdiv b))))
  | .rem => k = k' ∧ Chk (b ≠ 0) ∧ K (.lit (.int k (a.tmod b)))
  | .and => k = k' ∧ K (.lit (.int k (k.wrap (BitVec.ofInt k.bits a &&& BitVec.ofInt k.bits b).toNat)))
  | .or => k = k' ∧ K (.lit (.int k (k.wrap (BitVec.ofInt k.bits a ||| BitVec.ofInt k.bits b).toNat)))
  | .xor => k = k' ∧ K (.lit (.int k (k.wrap (BitVec.ofInt k.bits a ^^^ BitVec.ofInt k.bits b).toNat)))
  | .andNot => k = k' ∧ K (.lit (.int k (k.wrap (BitVec.ofInt k.bits a &&& ~~~ BitVec.ofInt k.bits b).toNat)))
  | .shl => Chk (0 ≤ b) ∧ K (.lit (.int k (k.wrap (a * 2 ^ (min b.toNat k.bits)))))
  | .shr => Chk (0 ≤ b) ∧ K (.lit (.int k (a.fdiv (2 ^ (min b.toNat k.bits)))))
  | .eql => k = k' ∧ K (.lit (.bool (a == b)))
  | .neq => k = k' ∧ K (.lit (.bool (a != b)))
  | .lss => k = k' ∧ K (.lit (.bool (decide (a < b))))
  | .leq => k = k' ∧ K (.lit (.bool (decide (a ≤ b))))
  | .gtr => k = k' ∧ K (.lit (.bool (decide (b < a))))
  | .geq => k = k' ∧ K (.lit (.bool (decide (b ≤ a))))

def strEq (a b : ByteArray) : Bool := a.toList == b.toList
def strLt (a b : ByteArray) : Bool := Op.bytesLess a.toList b.toList

def strW (op : BinOp) (a b : ByteArray) (K : PV → Prop) : Prop :=
  match op with
  | .add => Chk (a.size + b.size ≤ 9223372036854775807) ∧ K (.lit (.string (a ++ b)))
  | .eql => K (.lit (.bool (strEq a b)))
  | .neq => K (.lit (.bool (!strEq a b)))
  | .lss => K (.lit (.bool (strLt a b)))
  | .leq => K (.lit (.bool (strLt a b || strEq a b)))
  | .gtr => K (.lit (.bool (!(strLt a b || strEq a b))))
  | .geq => K (.lit (.bool (!strLt a b)))
  | _ => False

/-- Whether two literals are equal; whether two rows of fields are. -/
def eqLW (P : Program) (T : TypeId) (p q : PV) (K : Bool → Prop) : Prop :=
  match p, q with
  | .lit (.int k a), .lit (.int k' b) => k = k' ∧ (∃ k2, P.underlying T = some (.int k2)) ∧ K (a == b)
  | .lit (.bool a), .lit (.bool b) => P.underlying T = some .bool ∧ K (a == b)
  | .lit (.string a), .lit (.string b) => P.underlying T = some .string ∧ K (strEq a b)
  | _, _ => False
def EqF (P : Program) (ps qs : List PV) : List Field → (Bool → Prop) → Prop
  | [], K => K true
  | f :: fs, K => partW P f.type ps f.offset fun p => partW P f.type qs f.offset fun q => eqLW P f.type p q fun b => EqF P ps qs fs fun r => K (b && r)
def structEqOk (P : Program) (T : TypeId) : Bool := match P.underlying T with
  | some (.struct fs) => fs.toList.all (fun f => f.name != "_") && (!P.stoodInHeld T && !P.eqGuardType P.depth T)
  | _ => false
theorem eqLW.one {T : TypeId} {p q : PV} {K : Bool → Prop} (h : eqLW P T p q K) : ∃ b, eqLW P T p q (fun x => x = b) ∧ K b := by
  unfold eqLW at h ⊢
  split at h
  · exact ⟨_, ⟨h.1, h.2.1, rfl⟩, h.2.2⟩
  · exact ⟨_, ⟨h.1, rfl⟩, h.2⟩
  · exact ⟨_, ⟨h.1, rfl⟩, h.2⟩
  · exact h.elim
theorem eqLW.of {T : TypeId} {p q : PV} {K : Bool → Prop} {b : Bool} (h : eqLW P T p q (fun x => x = b)) (k : K b) : eqLW P T p q K := by
  unfold eqLW at h ⊢
  split at h
  · exact ⟨h.1, h.2.1, h.2.2 ▸ k⟩
  · exact ⟨h.1, h.2 ▸ k⟩
  · exact ⟨h.1, h.2 ▸ k⟩
  · exact h.elim
theorem partW.of {T : TypeId} {cs : List PV} {off : Nat} {K : PV → Prop} {r : PV} (h : partW P T cs off (fun x => x = r)) (k : K r) : partW P T cs off K := by
  obtain ⟨d, h1, h2, h3⟩ := h
  refine ⟨d, h1, h2, ?_⟩
  split at h3
  · rename_i hd; rw [if_pos hd]; exact h3 ▸ k
  · rename_i hd; rw [if_neg hd]; obtain ⟨h5, p, h6, h7⟩ := h3; exact ⟨h5, p, h6, h7 ▸ k⟩
theorem EqF.mono {ps qs : List PV} : ∀ {fs : List Field} {K K' : Bool → Prop}, EqF P ps qs fs K → (∀ t, K t → K' t) → EqF P ps qs fs K'
  | [], _, _, h, k => k _ h
  | f :: fs, K, K', h, k => by
    obtain ⟨p, h1, h2⟩ := partW.one h
    obtain ⟨q, h3, h4⟩ := partW.one h2
    obtain ⟨b, h5, h6⟩ := eqLW.one h4
    exact partW.of h1 (partW.of h3 (eqLW.of h5 (EqF.mono h6 fun t => k (b && t))))
theorem EqF.one {ps qs : List PV} : ∀ {fs : List Field} {K : Bool → Prop}, EqF P ps qs fs K → ∃ t, EqF P ps qs fs (fun r => r = t) ∧ K t
  | [], _, h => ⟨true, rfl, h⟩
  | f :: fs, K, h => by
    obtain ⟨p, h1, h2⟩ := partW.one h
    obtain ⟨q, h3, h4⟩ := partW.one h2
    obtain ⟨b, h5, h6⟩ := eqLW.one h4
    obtain ⟨r, h7, h8⟩ := EqF.one h6
    exact ⟨b && r, partW.of h1 (partW.of h3 (eqLW.of h5 (EqF.mono h7 fun x e => by rw [e]))), h8⟩
theorem run_eqLW {gh : Gh} {w : World} {T : TypeId} {u v : Value} {p q : PV} {t : Bool} (hu : Rep gh w u p) (hv : Rep gh w v q) (h : eqLW P T p q (fun x => x = t)) (d : Nat) : (Op.equalIn (d + 1) T u v).run P w = .ok t w := by
  unfold eqLW at h
  split at h
  · cases hu; cases hv; obtain ⟨rfl, ⟨k2, hk⟩, rfl⟩ := h; exact run_equalIn_int w d T _ k2 _ _ hk
  · cases hu; cases hv; obtain ⟨hk, rfl⟩ := h; exact run_equalIn_bool' w d T _ _ hk
  · cases hu; cases hv; obtain ⟨hk, rfl⟩ := h; exact run_equalIn_string w d T _ _ hk
  · exact h.elim
theorem run_EqF {gh : Gh} {w : World} {xs ys : Array Value} {ps qs : List PV} (hx : xs.size = ps.length) (hxr : ∀ i p, ps[i]? = some p → Rep gh w (xs.getD i undef) p) (hy : ys.size = qs.length) (hyr : ∀ i p, qs[i]? = some p → Rep gh w (ys.getD i undef) p) (d : Nat) :
    ∀ (fs : List Field) (t : Bool), (∀ f ∈ fs, f.name ≠ "_") → EqF P ps qs fs (fun r => r = t) → (Op.eqFields (d + 1) xs ys fs).run P w = .ok t w
  | [], t, _, h => by
    have : true = t := h
    subst this; rfl
  | f :: fs, t, hn, h => by
    obtain ⟨p, h1, h2⟩ := partW.one h
    obtain ⟨q, h3, h4⟩ := partW.one h2
    obtain ⟨b, h5, h6⟩ := eqLW.one h4
    obtain ⟨r, h7, h8⟩ := EqF.one h6
    obtain ⟨u, r1, k1⟩ := run_part hx hxr h1
    obtain ⟨v, r2, k2⟩ := run_part hy hyr h3
    have r3 := run_eqLW k1 k2 h5 d
    have ih := run_EqF hx hxr hy hyr d fs r (fun g hg => hn g (.tail _ hg)) h7
    simp only [Op.eqFields]
    rw [if_pos (hn f (.head _))]
    simp only [Sem.run_bind, r1, Result.andThen_ok, r2, r3]
    subst h8
    cases b
    · rfl
    · simpa using ih
theorem structEqOk.out {T : TypeId} (h : structEqOk P T = true) : P.underlying T = some (.struct (P.fieldsOf T)) ∧ (∀ f ∈ (P.fieldsOf T).toList, f.name ≠ "_") ∧ P.stoodInHeld T = false ∧ P.eqGuardType P.depth T = false := by
  unfold structEqOk at h
  split at h
  · rename_i fs hf
    have e : P.fieldsOf T = fs := by simp [Program.fieldsOf, hf]
    simp only [Bool.and_eq_true, Bool.not_eq_true', List.all_eq_true, bne_iff_ne] at h
    rw [e]
    exact ⟨hf, h.1, h.2.1, h.2.2⟩
  · cases h
/-- Whether two values that are no numbers and no texts are equal. -/
def eqV (P : Program) (T : TypeId) (c : Bool) (p q : PV) (t : Bool) : Prop :=
  match p, q with
  | .lit (.bool a), .lit (.bool b) => P.underlying T = some .bool ∧ t = (a == b)
  | .lit .nilIface, .lit .nilIface => c = true ∧ (∃ ms, P.underlying T = some (.interface ms)) ∧ t = true
  | .iface _ _, .lit .nilIface | .lit .nilIface, .iface _ _ => (∃ ms, P.underlying T = some (.interface ms)) ∧ t = false
  | .iface a (.lit (.int k x)), .iface b (.lit (.int k' y)) => (∃ ms, P.underlying T = some (.interface ms)) ∧ (if a = b then k = k' ∧ P.underlying a = some (.int k) ∧ (P.info? a).map (·.comparable) = some true ∧ t = (x == y) else t = false)
  | .iface a _, .iface b _ => (∃ ms, P.underlying T = some (.interface ms)) ∧ a ≠ b ∧ t = false
  | .lit (.pointer none), .lit (.pointer none) => (∃ e, P.underlying T = some (.pointer e)) ∧ t = true
  | .vp _, .lit (.pointer none) | .lit (.pointer none), .vp _ | .ptr _ _, .lit (.pointer none) | .lit (.pointer none), .ptr _ _ => (∃ e, P.underlying T = some (.pointer e)) ∧ t = false
  | .lit (.slice none 0 0), .lit (.slice none 0 0) => (∃ e, P.underlying T = some (.slice e)) ∧ t = true
  | .lit (.map none), .lit (.map none) => (∃ k e, P.underlying T = some (.map k e)) ∧ t = true
  | .mp _, .lit (.map none) | .lit (.map none), .mp _ => (∃ k e, P.underlying T = some (.map k e)) ∧ t = false
  | .lit .nilFunc, .lit .nilFunc => (∃ a b v, P.underlying T = some (.func a b v)) ∧ t = true
  | .fn _ _ _, .lit .nilFunc | .lit .nilFunc, .fn _ _ _ => (∃ a b v, P.underlying T = some (.func a b v)) ∧ t = false
  | .vs _ (_ :: _), .lit (.slice none 0 0) | .lit (.slice none 0 0), .vs _ (_ :: _) => (∃ e, P.underlying T = some (.slice e)) ∧ t = false
  | .agg ps, .agg qs => structEqOk P T = true ∧ EqF P ps qs (P.fieldsOf T).toList (fun r => r = t)
  | _, _ => False

def isConstO : Operand → Bool | .const _ => true | _ => false

def binW (P : Program) (op : BinOp) (T : TypeId) (c : Bool) (p q : PV) (K : PV → Prop) : Prop :=
  match p, q with
  | .lit (.int k a), .lit (.int k' b) => intW op k a k' b K
  | .lit (.string a), .lit (.string b) => strW op a b K
  | p, q => match op with
    | .eql => ∃ t, eqV P T c p q t ∧ K (.lit (.bool t))
    | .neq => ∃ t, eqV P T c p q t ∧ K (.lit (.bool (!t)))
    | _ => False

theorem run_intW {op : BinOp} {k k' : IntKind} {a b : Int} {K : PV → Prop} (h : intW op k a k' b K) (T : TypeId) (x y : Operand) :
    ∃ v, (∀ w, (do eqGuard op T x y (.int k a) (.int k' b); binOp op T (.int k a) (.int k' b)).run P w = .ok v w) ∧ K (.lit v) := by
  cases op <;> simp only [intW] at h
  case shl => refine ⟨_, fun w => ?_, h.2⟩; simp [eqGuard, binOp, Op.shift, Int.not_lt.2 h.1.out]
  case shr => refine ⟨_, fun w => ?_, h.2⟩; simp [eqGuard, binOp, Op.shift, Int.not_lt.2 h.1.out]
  case quo => obtain ⟨rfl, h0, h1⟩ := h; refine ⟨_, fun w => ?_, h1⟩; simp [eqGuard, binOp, Op.intDiv, h0.out]
  case rem => obtain ⟨rfl, h0, h1⟩ := h; refine ⟨_, fun w => ?_, h1⟩; simp [eqGuard, binOp, Op.intDiv, h0.out]
  all_goals (obtain ⟨rfl, h1⟩ := h; refine ⟨_, fun w => ?_, h1⟩; simp [eqGuard, binOp, Op.intArith, Op.intCmp, Op.intBits])

theorem run_strW {op : BinOp} {a b : ByteArray} {K : PV → Prop} (h : strW op a b K) (T : TypeId) (x y : Operand) :
    ∃ v, (∀ w, (do eqGuard op T x y (.string a) (.string b); binOp op T (.string a) (.string b)).run P w = .ok v w) ∧ K (.lit v) := by
  cases op <;> simp only [strW] at h
  case add =>
    refine ⟨_, fun w => ?_, h.2⟩
    have : ¬ (((a.size + b.size : Nat) : Int) > IntKind.i64.max) := by
      have h1 := h.1.out
      have h2 : IntKind.i64.max = 9223372036854775807 := by decide
      rw [h2]; omega
    simp only [eqGuard, binOp, Op.stringOp, if_neg this]
    rfl
  all_goals first
    | exact h.elim
    | (refine ⟨_, fun w => ?_, h⟩; simp [eqGuard, binOp, Op.stringOp, strEq, strLt])

theorem eq_run {w : World} {T : TypeId} {x y : Operand} {u v : Value} {t : Bool} (hg : ∀ op, (eqGuard op T x y u v).run P w = .ok () w)
    (hb : binOp .eql T u v = (do pure (.bool (← Op.equal T u v)))) (hb' : binOp .neq T u v = (do pure (.bool (!(← Op.equal T u v))))) (he : ∀ d, (Op.equalIn (d + 2) T u v).run P w = .ok t w) :
    (do eqGuard .eql T x y u v; binOp .eql T u v).run P w = .ok (.bool t) w ∧ (do eqGuard .neq T x y u v; binOp .neq T u v).run P w = .ok (.bool (!t)) w := by
  have he : (Op.equal T u v).run P w = .ok t w := he 9998
  constructor <;> (rw [Sem.run_bind, hg]; simp only [Result.andThen_ok, hb, hb', Sem.run_bind, he, Sem.run_pure])

theorem run_eqAgg {gh : Gh} {w : World} {T : TypeId} {x y : Operand} {u v : Value} {ps qs : List PV} {t : Bool} (hu : Rep gh w u (.agg ps)) (hv : Rep gh w v (.agg qs)) (h : structEqOk P T = true ∧ EqF P ps qs (P.fieldsOf T).toList (fun r => r = t)) :
    (do eqGuard .eql T x y u v; binOp .eql T u v).run P w = .ok (.bool t) w ∧ (do eqGuard .neq T x y u v; binOp .neq T u v).run P w = .ok (.bool (!t)) w := by
  obtain ⟨h0, h2⟩ := h
  obtain ⟨h1, hn, h3, h4⟩ := structEqOk.out h0
  cases hu with
  | agg xs _ hx hxr =>
    cases hv with
    | agg ys _ hy hyr =>
      refine eq_run (fun op => run_eqGuard_agg w op T x y _ _ h4) rfl rfl (fun d => ?_)
      rw [run_equalIn_agg w (d + 1) T _ _ h1 h3]
      exact run_EqF hx hxr hy hyr d _ _ hn h2

theorem run_eqV {gh : Gh} {w : World} {T : TypeId} {x y : Operand} {u v : Value} {p q : PV} {t : Bool} (hu : Rep gh w u p) (hv : Rep gh w v q) (h : eqV P T (isConstO x || isConstO y) p q t) :
    (do eqGuard .eql T x y u v; binOp .eql T u v).run P w = .ok (.bool t) w ∧ (do eqGuard .neq T x y u v; binOp .neq T u v).run P w = .ok (.bool (!t)) w := by
  unfold eqV at h
  split at h
  · cases hu; cases hv; obtain ⟨h1, rfl⟩ := h
    exact eq_run (fun op => by cases op <;> rfl) rfl rfl (fun d => by rw [Op.equalIn, Sem.run_bind, run_und h1]; rfl)
  · cases hu; cases hv; obtain ⟨hc, ⟨ms, h1⟩, rfl⟩ := h
    refine eq_run (fun op => ?_) rfl rfl (fun d => by rw [Op.equalIn, Sem.run_bind, run_und h1]; rfl)
    cases x <;> cases y <;> simp [isConstO] at hc <;> cases op <;> simp [eqGuard]
  · cases hv; cases hu; obtain ⟨⟨ms, h1⟩, rfl⟩ := h
    exact eq_run (fun op => by cases op <;> rfl) rfl rfl (fun d => by rw [Op.equalIn, Sem.run_bind, run_und h1]; rfl)
  · cases hv; cases hu; obtain ⟨⟨ms, h1⟩, rfl⟩ := h
    exact eq_run (fun op => by cases op <;> rfl) rfl rfl (fun d => by rw [Op.equalIn, Sem.run_bind, run_und h1]; rfl)
  · obtain ⟨⟨ms, h1⟩, h2⟩ := h
    cases hu; cases hv; rename_i h3 _ h4; cases h3; cases h4
    split at h2
    · rename_i hab
      subst hab
      obtain ⟨rfl, h3, h4, rfl⟩ := h2
      rename_i a k x' y'
      cases hi : P.info? a with
      | none => rw [hi] at h4; simp at h4
      | some i =>
        rw [hi] at h4
        simp at h4
        refine eq_run (fun op => by cases op <;> rfl) rfl rfl (fun d => ?_)
        have h5 : ∀ d, (Op.equalIn (d + 1) a (.int k x') (.int k y')).run P w = .ok (x' == y') w := fun d => by
          rw [Op.equalIn, Sem.run_bind, run_und h3]; simp only [Result.andThen_ok, if_true]; rfl
        have h6 : (typeInfo a).run P w = .ok i w := by simp [typeInfo, hi]
        rw [Op.equalIn, Sem.run_bind, run_und h1]
        simp only [Result.andThen_ok, ne_eq, not_true_eq_false, if_false, Sem.run_bind, h6, h4, Bool.not_true, Bool.false_eq_true, if_false]
        exact h5 d
    · rename_i hab
      subst h2
      exact eq_run (fun op => by cases op <;> rfl) rfl rfl (fun d => by rw [Op.equalIn, Sem.run_bind, run_und h1]; simp only [Result.andThen_ok, ne_eq, hab, not_false_eq_true, if_true]; rfl)
  · obtain ⟨⟨ms, h1⟩, hab, rfl⟩ := h
    cases hu; cases hv
    exact eq_run (fun op => by cases op <;> rfl) rfl rfl (fun d => by rw [Op.equalIn, Sem.run_bind, run_und h1]; simp only [Result.andThen_ok, ne_eq, hab, not_false_eq_true, if_true]; rfl)
  · cases hu; cases hv; obtain ⟨⟨e, h1⟩, rfl⟩ := h
    exact eq_run (fun op => by cases op <;> rfl) rfl rfl (fun d => by rw [Op.equalIn, Sem.run_bind, run_und h1]; rfl)
  all_goals first
    | exact h.elim
    | exact run_eqAgg hu hv h
    | (cases hu; cases hv; obtain ⟨⟨e, h1⟩, rfl⟩ := h; exact eq_run (fun op => by cases op <;> rfl) rfl rfl (fun d => by rw [Op.equalIn, Sem.run_bind, run_und h1]; rfl))
    | (cases hu; cases hv; obtain ⟨⟨e, f, h1⟩, rfl⟩ := h; exact eq_run (fun op => by cases op <;> rfl) rfl rfl (fun d => by rw [Op.equalIn, Sem.run_bind, run_und h1]; rfl))
    | (cases hu; cases hv; obtain ⟨⟨e, f, g, h1⟩, rfl⟩ := h; exact eq_run (fun op => by cases op <;> rfl) rfl rfl (fun d => by rw [Op.equalIn, Sem.run_bind, run_und h1]; rfl))

theorem pure_binOp (op : BinOp) (T U : TypeId) (x y : Operand) {K : PV → Prop} (h : binW P op T (isConstO x || isConstO y) (ρ x) (ρ y) K) : ∃ r, OpPure P glob ⟨dst, .binOp op T x y U, ty, pos, after, guard⟩ ρ r ∧ K r := by
  unfold binW at h
  split at h
  · rename_i k a k' b hx hy
    obtain ⟨v, h1, h2⟩ := run_intW (P := P) h T x y
    refine ⟨_, .of_run fun gh σ w a' _ hF => ⟨v, ?_, .lit v⟩, h2⟩
    have e1 := hF x (by simp [Op.operands, Call.operands])
    have e2 := hF y (by simp [Op.operands, Call.operands])
    rw [hx] at e1; rw [hy] at e2
    have e1 := lit_of_rep e1
    have e2 := lit_of_rep e2
    have := h1 w
    simp only [execOp, e1, e2]
    rw [Sem.run_bind, this]; rfl
  · rename_i a b hx hy
    obtain ⟨v, h1, h2⟩ := run_strW (P := P) h T x y
    refine ⟨_, .of_run fun gh σ w a' _ hF => ⟨v, ?_, .lit v⟩, h2⟩
    have e1 := hF x (by simp [Op.operands, Call.operands])
    have e2 := hF y (by simp [Op.operands, Call.operands])
    rw [hx] at e1; rw [hy] at e2
    have e1 := lit_of_rep e1
    have e2 := lit_of_rep e2
    have := h1 w
    simp only [execOp, e1, e2]
    rw [Sem.run_bind, this]; rfl
  · split at h
    · obtain ⟨t, h1, h2⟩ := h
      refine ⟨_, .of_run fun gh σ w a' _ hF => ⟨.bool t, ?_, .lit _⟩, h2⟩
      have := (run_eqV (hF x (by simp [Op.operands, Call.operands])) (hF y (by simp [Op.operands, Call.operands])) h1).1
      simp only [execOp]
      rw [Sem.run_bind, this]; rfl
    · obtain ⟨t, h1, h2⟩ := h
      refine ⟨_, .of_run fun gh σ w a' _ hF => ⟨.bool (!t), ?_, .lit _⟩, h2⟩
      have := (run_eqV (hF x (by simp [Op.operands, Call.operands])) (hF y (by simp [Op.operands, Call.operands])) h1).2
      simp only [execOp]
      rw [Sem.run_bind, this]; rfl
    · exact h.elim

def unW (op : UnOp) (p : PV) (K : PV → Prop) : Prop :=
  match op, p with
  | .not, .lit (.bool b) => K (.lit (.bool (!b)))
  | .neg, .lit (.int k a) => K (.lit (.int k (k.wrap (0 - a))))
  | .xor, .lit (.int k a) => K (.lit (.int k (k.wrap (BitVec.ofInt k.bits (if k.signed then -1 else k.max) ^^^ BitVec.ofInt k.bits a).toNat)))
  | _, _ => False

theorem pure_unOp (op : UnOp) (T : TypeId) (x : Operand) {K : PV → Prop} (h : unW op (ρ x) K) : ∃ r, OpPure P glob ⟨dst, .unOp op T x, ty, pos, after, guard⟩ ρ r ∧ K r := by
  unfold unW at h
  split at h
  case h_4 => exact h.elim
  all_goals
    rename_i hx
    refine ⟨_, .of_run fun gh σ w a _ hF => ⟨_, ?_, .lit _⟩, h⟩
    have e := hF x (by simp [Op.operands, Call.operands])
    rw [hx] at e
    have e := lit_of_rep e
    simp [execOp, e, Op.unary, Op.intArith, Op.intBits]

def convW (P : Program) (src dst : TypeId) (p : PV) (K : PV → Prop) : Prop :=
  match p with
  | .lit (.int k a) => (∃ d, P.underlying src = some d ∧ d ≠ .unsafePointer) ∧ ((∃ k', P.underlying dst = some (.int k') ∧ K (.lit (.int k' (k'.wrap a)))) ∨ (P.underlying dst = some .string ∧ K (.lit (.string (Utf8.encode a)))))
  | .lit (.string s) => P.underlying src = some .string ∧ P.underlying dst = some .string ∧ K (.lit (.string s))
  | .vs 1 es => ∃ e L, P.underlying src = some (.slice e) ∧ P.underlying e = some (.int .u8) ∧ P.underlying dst = some .string ∧ es = L.map (fun n : Int => [PV.lit (.int .u8 n)]) ∧ K (.lit (.string (strOfNums L)))
  | _ => False

theorem pure_convert (src dt : TypeId) (x : Operand) {K : PV → Prop} (h : convW P src dt (ρ x) K) : ∃ r, OpPure P glob ⟨dst, .convert src dt x, ty, pos, after, guard⟩ ρ r ∧ K r := by
  unfold convW at h
  split at h
  · rename_i k a hx
    obtain ⟨⟨d, h1, h2⟩, ⟨k', h3, h4⟩ | ⟨h3, h4⟩⟩ := h
    · refine ⟨_, .of_run fun gh σ w a' _ hF => ⟨_, ?_, .lit _⟩, h4⟩
      have e := hF x (by simp [Op.operands, Call.operands])
      rw [hx] at e
      have e := lit_of_rep e
      simp only [execOp, e, convert, Sem.run_bind, run_und h1, run_und h3, Result.andThen_ok]
      simp [Conv.intToInt]
    · refine ⟨_, .of_run fun gh σ w a' _ hF => ⟨_, ?_, .lit _⟩, h4⟩
      have e := hF x (by simp [Op.operands, Call.operands])
      rw [hx] at e
      have e := lit_of_rep e
      simp only [execOp, e, convert, Sem.run_bind, run_und h1, run_und h3, Result.andThen_ok]
      simp [Conv.intToString]
  · rename_i s hx
    obtain ⟨h1, h3, h4⟩ := h
    refine ⟨_, .of_run fun gh σ w a' _ hF => ⟨_, ?_, .lit _⟩, h4⟩
    have e := hF x (by simp [Op.operands, Call.operands])
    rw [hx] at e
    have e := lit_of_rep e
    simp only [execOp, e, convert, Sem.run_bind, run_und h1, run_und h3, Result.andThen_ok]
    simp
  · rename_i es hx
    obtain ⟨e, L, h1, h2, h3, rfl, h4⟩ := h
    refine ⟨_, .of_run fun gh σ w a' _ hF => ⟨.string (strOfNums L), ?_, .lit _⟩, h4⟩
    have hr := hF x (by simp [Op.operands, Call.operands])
    rw [hx] at hr
    generalize hv : a'.eval x = v at hr
    have key : (convert src dt v).run P w = .ok (.string (strOfNums L)) w := by
      generalize hes : L.map (fun n : Int => [PV.lit (.int .u8 n)]) = es at hr
      cases hr with
      | vsE _ ad cap =>
        have : L = [] := by simpa using hes
        subst this
        cases ad with
        | none => exact run_convert_bytes_nil w src e h1 h2 0 cap dt h3
        | some ad =>
          have hz : (loadCells ad 0).run P w = .ok (([] : List Int).map (Value.int .u8)).toArray w   := by simpa using run_loadCells_list (P := P) w ad ([] : List Value) (fun j v hj => by simp at hj)
          rw [run_convert_bytes_string w src dt e _ 0 cap h1 h2 h3, run_bytesToString w ad 0 cap [] hz]
          rfl
      | vs _ _ b off cap f hF' hcap hk hc hr =>
        subst hes
        refine run_convert_bytes_arg w src e h1 h2 b off _ cap L (by simp) (fun i hi => ?_) dt h3
        have hi' : i < L.length := by simpa using hi
        have h5 := hc i (by simpa using hi')
        have h6 : ((L.map (fun n : Int => [PV.lit (.int .u8 n)])).flatten)[i]? = some (.lit (.int .u8 (L.getD i 0))) := by
          have := (flatten_get (k := 1) (es := L.map (fun n : Int => [PV.lit (.int .u8 n)])) (fun e he => by simp at he; obtain ⟨_, _, rfl⟩ := he; rfl) (i := i) (by simpa using hi') (j := 0) (p := .lit (.int .u8 (L.getD i 0))) (by simp [List.getD_eq_getElem?_getD, hi'])).1
          simpa using this
        have h7 := hr i _ h6
        have h8 := lit_of_rep h7
        rw [h5, h8]
    simp only [execOp, hv, Sem.run_bind, key, Result.andThen_ok, Sem.run_pure]
  · exact h.elim

/-- A bound of a slice expression. -/
def bndW (ρ : Operand → PV) (d : Nat) : Option Operand → (Int → Prop) → Prop
  | none, K => K d
  | some x, K => ∃ k i, ρ x = .lit (.int k i) ∧ K i

def sliceW (P : Program) (T : TypeId) (p : PV) (ρ : Operand → PV) (lo hi mx : Option Operand) (K : PV → Prop) : Prop :=
  match p with
  | .lit (.string s) => P.underlying T = some .string ∧ mx = none ∧ bndW ρ 0 lo fun i => bndW ρ s.size hi fun j => Chk (0 ≤ i ∧ i ≤ j ∧ j ≤ s.size) ∧ K (.lit (.string (s.extract i.toNat j.toNat)))
  | .vs k es => (∃ e, P.underlying T = some (.slice e) ∧ P.cellsOf e = k ∧ ∃ d, P.underlying e = some d) ∧ bndW ρ 0 lo fun i => bndW ρ es.length hi fun j => Chk (0 ≤ i ∧ i ≤ j ∧ j ≤ es.length) ∧
      match mx with
      | none => K (.vs k ((es.take j.toNat).drop i.toNat))
      | some m => hi.isSome = true ∧ (∃ k, ρ m = .lit (.int k i)) ∧ Chk (i = j) ∧ K .z
  | .lit (.slice none 0 0) => (∃ e, P.underlying T = some (.slice e) ∧ ∃ d, P.underlying e = some d) ∧ bndW ρ 0 lo fun i => bndW ρ 0 hi fun j => bndW ρ 0 mx fun m => Chk (i = 0 ∧ j = 0 ∧ m = 0) ∧ (hi.isSome = true ∨ mx = none) ∧ K (.lit (.slice none 0 0))
  | .z => (∃ e, P.underlying T = some (.slice e) ∧ ∃ d, P.underlying e = some d) ∧ bndW ρ 0 lo fun i => bndW ρ 0 hi fun j => bndW ρ 0 mx fun m => Chk (i = 0 ∧ j = 0 ∧ m = 0) ∧ (hi.isSome = true ∨ mx = none) ∧ K .z
  | .rs k o off len cap => (∃ e, P.underlying T = some (.slice e) ∧ P.cellsOf e = k ∧ ∃ d, P.underlying e = some d) ∧ bndW ρ 0 lo fun i => bndW ρ len hi fun j => Chk (0 ≤ i ∧ i ≤ j ∧ j ≤ cap) ∧
      match mx with
      | none => K (.rs k o (off + i.toNat * k) (j - i).toNat (cap - i.toNat))
      | some m => hi.isSome = true ∧ ∃ k' m', ρ m = .lit (.int k' m') ∧ Chk (j ≤ m' ∧ m' ≤ cap) ∧ (if m' = i then K .z else K (.rs k o (off + i.toNat * k) (j - i).toNat (m' - i).toNat))
  | _ => False

theorem bnd_get {o : Option Operand} {d : Nat} {K : Int → Prop} (h : bndW ρ d o K) : ∃ i, K i ∧ ((o = none ∧ i = d) ∨ ∃ x k, o = some x ∧ ρ x = .lit (.int k i)) := by
  cases o with
  | none => exact ⟨d, h, .inl ⟨rfl, rfl⟩⟩
  | some x => obtain ⟨k, i, h1, h2⟩ := h; exact ⟨i, h2, .inr ⟨x, k, rfl, h1⟩⟩

theorem bnd_val {a : Act} {gh : Gh} {w : World} {o : Option Operand} (hF : ∀ x, o = some x → Rep gh w (a.eval x) (ρ x)) {d : Nat} {i : Int} (h : (o = none ∧ i = d) ∨ ∃ x k, o = some x ∧ ρ x = .lit (.int k i)) :
    (o.map a.eval = none ∧ i = d) ∨ ∃ k, o.map a.eval = some (.int k i) := by
  rcases h with ⟨rfl, rfl⟩ | ⟨x, k, rfl, h1⟩
  · exact .inl ⟨rfl, rfl⟩
  · have e := hF x rfl
    rw [h1] at e
    exact .inr ⟨k, by simp [lit_of_rep e]⟩

theorem run_sliceBounds {w : World} {isSl : Bool} {len cap : Nat} {lo hi mx : Option Value} {i j m : Int} (hm : (mx = none ∧ m = cap) ∨ ∃ k, mx = some (.int k m)) (hj : (hi = none ∧ mx = none ∧ j = len) ∨ ∃ k, hi = some (.int k j))
    (hi' : (lo = none ∧ i = 0) ∨ ∃ k, lo = some (.int k i)) (h0 : 0 ≤ i) (h1 : i ≤ j) (h2 : j ≤ m) (h3 : m ≤ cap) :
    (Instr.sliceBounds isSl len cap lo hi mx).run P w = .ok (i.toNat, j.toNat, m.toNat) w := by
  have sb : ∀ (k : IntKind) (x : Int) (y : Nat) (code : BoundsCode), 0 ≤ x → x ≤ y → (Instr.sliceBound (.int k x) y code).run P w = .ok x.toNat w := fun k x y code a b => by
    simp [Instr.sliceBound, asIntOf, a, b]
  have s1 := fun k code => sb k m cap code (by omega) h3
  have s2 := fun k code => sb k j m.toNat code (by omega) (by omega)
  have s2' := fun k code => sb k j cap code (by omega) (by omega)
  have s3 := fun k code => sb k i j.toNat code h0 (by omega)
  have s3' := fun k code (e : j = len) => sb k i len code h0 (by omega)
  rcases hm with ⟨rfl, rfl⟩ | ⟨k1, rfl⟩
  · rcases hj with ⟨rfl, _, rfl⟩ | ⟨k2, rfl⟩
    · rcases hi' with ⟨rfl, rfl⟩ | ⟨k3, rfl⟩
      · rfl
      · simp [Instr.sliceBounds, s3' _ _ rfl]
    · rcases hi' with ⟨rfl, rfl⟩ | ⟨k3, rfl⟩
      · simp [Instr.sliceBounds, s2']
      · simp [Instr.sliceBounds, s2', s3]
  · rcases hj with ⟨_, h, _⟩ | ⟨k2, rfl⟩
    · cases h
    · rcases hi' with ⟨rfl, rfl⟩ | ⟨k3, rfl⟩
      · simp [Instr.sliceBounds, s1, s2]
      · simp [Instr.sliceBounds, s1, s2, s3]

theorem run_sliceAt {w : World} {T e : TypeId} {a : Option Addr} {len cap k : Nat} {lo hi mx : Option Value} {i j m : Int} (hT : P.underlying T = some (.slice e)) (hk : P.cellsOf e = k) (he : ∃ d, P.underlying e = some d)
    (hm : (mx = none ∧ m = cap) ∨ ∃ k, mx = some (.int k m)) (hj : (hi = none ∧ mx = none ∧ j = len) ∨ ∃ k, hi = some (.int k j))
    (hi' : (lo = none ∧ i = 0) ∨ ∃ k, lo = some (.int k i)) (h0 : 0 ≤ i) (h1 : i ≤ j) (h2 : j ≤ m) (h3 : m ≤ cap) :
    (Instr.sliceAt T (.slice a len cap) lo hi mx).run P w = .ok (.slice (if m.toNat = i.toNat then a else a.map (·.add (i.toNat * k))) (j.toNat - i.toNat) (m.toNat - i.toNat)) w := by
  obtain ⟨d, he⟩ := he
  simp only [Instr.sliceAt, Sem.run_bind, run_und hT, Result.andThen_ok, Instr.slice, run_sliceBounds (P := P) (w := w) hm hj hi' h0 h1 h2 h3, run_size he, hk, Sem.run_pure]

theorem rep_vs_slice {gh : Gh} {w : World} {k : Nat} {es : List (List PV)} {b off len cap : Nat} (h : Rep gh w (.slice (some ⟨b, off, none⟩) len cap) (.vs k es)) {i j : Nat} (hij : i ≤ j) (hj : j ≤ es.length) :
    Rep gh w (.slice (some ⟨b, off + i * k, none⟩) (j - i) (cap - i)) (.vs k ((es.take j).drop i)) := by
  have hl : ((es.take j).drop i).length = j - i := by simp; omega
  cases h with
  | vsE =>
    have : j - i = 0 := by simp at hj; omega
    rw [this]; simp; exact .vsE _ _ _
  | vs _ _ _ _ _ f hF hcap hk hc hr =>
    rw [← hl]
    refine .vs _ _ _ _ _ (fun m => f (i * k + m)) hF (by rw [hl]; omega) (fun e he => hk e (List.mem_of_mem_take (List.mem_of_mem_drop he))) (fun m hm => ?_) (fun m p hm => ?_)
    · rw [Nat.add_assoc]
      refine hc _ ?_
      rw [hl] at hm
      calc i * k + m < i * k + (j - i) * k := by omega
        _ = j * k := by rw [← Nat.add_mul]; congr 1; omega
        _ ≤ _ := Nat.mul_le_mul_right _ hj
    · have hm' := (List.getElem?_eq_some_iff.1 hm).1
      have hlen : ((es.take j).drop i).flatten.length = (j - i) * k := by
        rw [List.length_flatten]
        have : ∀ (L : List (List PV)), (∀ e ∈ L, e.length = k) → (L.map List.length).sum = L.length * k := fun L => by
          induction L with
          | nil => intro _; simp
          | cons e L ih => intro h; simp [h e (by simp), ih (fun e' h' => h e' (by simp [h'])), Nat.succ_mul, Nat.add_comm]
        rw [this _ (fun e he => hk e (List.mem_of_mem_take (List.mem_of_mem_drop he))), hl]
      have hk0 : 0 < k := by
        rcases Nat.eq_zero_or_pos k with h | h
        · rw [hlen, h] at hm'; simp at hm'
        · exact h
      have hd : m / k < j - i := by rw [hlen] at hm'; exact Nat.div_lt_of_lt_mul (by rw [Nat.mul_comm]; exact hm')
      have hmk : m = (m / k) * k + m % k := by rw [Nat.mul_comm]; exact (Nat.div_add_mod m k).symm
      have hmod := Nat.mod_lt m hk0
      -- both lists at row i + m / k, place m % k
      have hrow : ((es.take j).drop i).getD (m / k) [] = es.getD (i + m / k) [] := by
        simp only [List.getD_eq_getElem?_getD, List.getElem?_drop, List.getElem?_take]
        rw [if_pos (by omega)]
      have hkA : ∀ e ∈ (es.take j).drop i, e.length = k := fun e he => hk e (List.mem_of_mem_take (List.mem_of_mem_drop he))
      have hrl : (es.getD (i + m / k) []).length = k := by
        rw [List.getD_eq_getElem?_getD, List.getElem?_eq_getElem (by omega), Option.getD_some]; exact hk _ (List.getElem_mem _)
      have hp' : (es.getD (i + m / k) [])[m % k]? = some ((es.getD (i + m / k) [])[m % k]'(by omega)) := List.getElem?_eq_getElem _
      have h1 := (flatten_get hkA (i := m / k) (by rw [hl]; exact hd) (by rw [hrow]; exact hp')).1
      rw [← hmk] at h1
      rw [h1] at hm
      have h2 := (flatten_get hk (i := i + m / k) (by omega) hp').1
      rw [← Option.some.inj hm]
      refine hr _ _ ?_
      rw [← h2]; congr 1
      rw [Nat.add_mul]; omega

theorem bndj {a : Act} {gh : Gh} {w : World} {hi mx : Option Operand} (hF : ∀ x, hi = some x → Rep gh w (a.eval x) (ρ x)) {d : Nat} {j : Int} (h : (hi = none ∧ j = d) ∨ ∃ x k, hi = some x ∧ ρ x = .lit (.int k j))
    (hs : hi.isSome = true ∨ mx = none) : (hi.map a.eval = none ∧ mx.map a.eval = none ∧ j = d) ∨ ∃ k, hi.map a.eval = some (.int k j) := by
  rcases bnd_val hF h with h1 | h1
  · refine .inl ⟨h1.1, ?_, h1.2⟩
    rcases hs with hs | rfl
    · cases hi with
      | none => simp at hs
      | some x => simp at h1
    · rfl
  · exact .inr h1

theorem run_sliceStr {w : World} {T : TypeId} {s : ByteArray} {lo hi : Option Value} {i j : Int} (hT : P.underlying T = some .string)
    (hj : (hi = none ∧ j = s.size) ∨ ∃ k, hi = some (.int k j)) (hi' : (lo = none ∧ i = 0) ∨ ∃ k, lo = some (.int k i)) (h0 : 0 ≤ i) (h1 : i ≤ j) (h2 : j ≤ s.size) :
    (Instr.sliceAt T (.string s) lo hi none).run P w = .ok (.string (s.extract i.toNat j.toNat)) w := by
  have hb := run_sliceBounds (P := P) (w := w) (isSl := false) (len := s.size) (cap := s.size) (lo := lo) (hi := hi) (mx := none) (i := i) (j := j) (m := s.size) (.inl ⟨rfl, rfl⟩)
    (hj.imp (fun h => ⟨h.1, rfl, h.2⟩) id) hi' h0 h1 h2 (by omega)
  simp only [Instr.sliceAt, Sem.run_bind, run_und hT, Result.andThen_ok, Instr.slice]
  simp [hb]

theorem pure_slice (T : TypeId) (x : Operand) (lo hi mx : Option Operand) {K : PV → Prop} (h : sliceW P T (ρ x) ρ lo hi mx K) : ∃ r, OpPure P glob ⟨dst, .slice T x lo hi mx, ty, pos, after, guard⟩ ρ r ∧ K r := by
  unfold sliceW at h
  split at h
  · rename_i s hx
    obtain ⟨hT, rfl, h⟩ := h
    obtain ⟨i, h, bi⟩ := bnd_get h
    obtain ⟨j, ⟨⟨h0, h1, h2⟩, h⟩, bj⟩ := bnd_get h
    refine ⟨_, .of_run fun gh σ w a _ hF => ⟨_, ?_, .lit _⟩, h⟩
    have e := hF x (by simp [Op.operands, Call.operands])
    rw [hx] at e
    simp only [execOp, lit_of_rep e, Option.map_none, Sem.run_bind, run_sliceStr (P := P) (w := w) hT (bnd_val (fun x e => hF x (by simp [Op.operands, e])) bj) (bnd_val (fun x e => hF x (by simp [Op.operands, e])) bi) h0 h1 h2, Result.andThen_ok, Sem.run_pure]
  · rename_i k es hx
    obtain ⟨⟨e, hT, hk, he⟩, h⟩ := h
    obtain ⟨i, h, bi⟩ := bnd_get h
    obtain ⟨j, ⟨⟨h0, h1, h2⟩, h⟩, bj⟩ := bnd_get h
    cases mx with
    | none =>
      refine ⟨_, .of_run fun gh σ w a _ hF => ?_, h⟩
      have e := hF x (by simp [Op.operands, Call.operands])
      rw [hx] at e
      generalize hv : a.eval x = v at e
      have e' := e
      have main : ∀ (ad : Option Addr) (cap : Nat), es.length ≤ cap → v = .slice ad es.length cap →
          (execOp a.eval ⟨dst, .slice T x lo hi none, ty, pos, after, guard⟩).run P w = .ok (.value (.slice (if cap = i.toNat then ad else ad.map (·.add (i.toNat * k))) (j.toNat - i.toNat) (cap - i.toNat))) w := fun ad cap hcap hv' => by
        have hr := run_sliceAt (P := P) (w := w) (a := ad) (len := es.length) (cap := cap) (mx := none) (m := cap) hT hk he (.inl ⟨rfl, rfl⟩) ((bnd_val (fun x e => hF x (by simp [Op.operands, e])) bj).imp (fun h => ⟨h.1, rfl, h.2⟩) id) (bnd_val (fun x e => hF x (by simp [Op.operands, e])) bi) h0 h1 (by omega) (by omega)
        simp only [Int.toNat_natCast] at hr
        simp only [execOp, hv, hv', Option.map_none, Sem.run_bind, hr, Result.andThen_ok, Sem.run_pure]
      cases e with
      | vsE _ ad cap =>
        refine ⟨_, main ad cap (by simp) (by simp), ?_⟩
        have : j.toNat - i.toNat = 0 := by simp at h2; omega
        rw [this]
        simp; exact .vsE _ _ _
      | vs _ _ b off cap f hF' hcap hk' hc hr =>
        refine ⟨_, main _ cap hcap rfl, ?_⟩
        by_cases hci : cap = i.toNat
        · have : j.toNat - i.toNat = 0 := by omega
          rw [this]
          have : (es.take j.toNat).drop i.toNat = [] := by simp; omega
          rw [this]; exact .vsE _ _ _
        · rw [if_neg hci]
          simp only [Option.map_some, addr_add]
          exact rep_vs_slice e' (by omega) (by omega)
    | some m =>
      obtain ⟨hsome, ⟨km, hm⟩, hij, h⟩ := h
      have hij := hij.out
      subst hij
      refine ⟨_, .of_run fun gh σ w a _ hF => ?_, h⟩
      have e := hF x (by simp [Op.operands, Call.operands])
      rw [hx] at e
      have em := hF m (by simp [Op.operands, Call.operands])
      rw [hm] at em
      generalize hv : a.eval x = v at e
      have main : ∀ (ad : Option Addr) (cap : Nat), es.length ≤ cap → v = .slice ad es.length cap →
          (execOp a.eval ⟨dst, .slice T x lo hi (some m), ty, pos, after, guard⟩).run P w = .ok (.value (.slice ad 0 0)) w := fun ad cap hcap hv' => by
        have bj' : (hi.map a.eval = none ∧ (some m).map a.eval = none ∧ i = es.length) ∨ ∃ k, hi.map a.eval = some (.int k i) := by
          rcases bnd_val (fun x e => hF x (by simp [Op.operands, e])) bj with h | h
          · rcases bj with ⟨rfl, _⟩ | ⟨x', k', rfl, _⟩
            · simp at hsome
            · exact absurd h.1 (by simp)
          · exact .inr h
        have hr := run_sliceAt (P := P) (w := w) (a := ad) (len := es.length) (cap := cap) (mx := (some m).map a.eval) (m := i) hT hk he (.inr ⟨km, by simp [lit_of_rep em]⟩) bj' (bnd_val (fun x e => hF x (by simp [Op.operands, e])) bi) h0 (Int.le_refl _) (by omega) (by omega)
        simp only [if_true, Nat.sub_self] at hr
        simp only [execOp, hv, hv', Sem.run_bind, hr, Result.andThen_ok, Sem.run_pure]
      cases e with
      | vsE _ ad cap => exact ⟨_, main ad cap (by simp) (by simp), .z _⟩
      | vs _ _ b off cap f hF' hcap hk' hc hr => exact ⟨_, main _ cap hcap rfl, .z _⟩
  · rename_i hx
    obtain ⟨⟨e, hT, he⟩, h⟩ := h
    obtain ⟨i, h, bi⟩ := bnd_get h
    obtain ⟨j, h, bj⟩ := bnd_get h
    obtain ⟨m, ⟨⟨rfl, rfl, rfl⟩, hs, h⟩, bm⟩ := bnd_get h
    refine ⟨_, .of_run fun gh σ w a _ hF => ⟨_, ?_, .lit _⟩, h⟩
    have e := hF x (by simp [Op.operands, Call.operands])
    rw [hx] at e
    have hr := run_sliceAt (P := P) (w := w) (a := none) (len := 0) (cap := 0) (lo := lo.map a.eval) (hi := hi.map a.eval) (mx := mx.map a.eval) (i := 0) (j := 0) (m := 0) hT rfl he ((bnd_val (fun x e => hF x (by simp [Op.operands, e])) bm).imp (fun h => ⟨h.1, rfl⟩) id)
      (bndj (fun x e => hF x (by simp [Op.operands, e])) bj hs) (bnd_val (fun x e => hF x (by simp [Op.operands, e])) bi) (by omega) (by omega) (by omega) (by omega)
    simp only [execOp, lit_of_rep e, Sem.run_bind, hr, Result.andThen_ok, Sem.run_pure, if_true, Nat.sub_self]
  · rename_i hx
    obtain ⟨⟨e, hT, he⟩, h⟩ := h
    obtain ⟨i, h, bi⟩ := bnd_get h
    obtain ⟨j, h, bj⟩ := bnd_get h
    obtain ⟨m, ⟨⟨rfl, rfl, rfl⟩, hs, h⟩, bm⟩ := bnd_get h
    refine ⟨_, .of_run fun gh σ w a _ hF => ?_, h⟩
    have e := hF x (by simp [Op.operands, Call.operands])
    rw [hx] at e
    generalize hv : a.eval x = v at e
    cases e with
    | z ad =>
      refine ⟨_, ?_, .z ad⟩
      have hr := run_sliceAt (P := P) (w := w) (a := ad) (len := 0) (cap := 0) (lo := lo.map a.eval) (hi := hi.map a.eval) (mx := mx.map a.eval) (i := 0) (j := 0) (m := 0) hT rfl he ((bnd_val (fun x e => hF x (by simp [Op.operands, e])) bm).imp (fun h => ⟨h.1, rfl⟩) id)
        (bndj (fun x e => hF x (by simp [Op.operands, e])) bj hs) (bnd_val (fun x e => hF x (by simp [Op.operands, e])) bi) (by omega) (by omega) (by omega) (by omega)
      simp only [execOp, hv, Sem.run_bind, hr, Result.andThen_ok, Sem.run_pure, if_true, Nat.sub_self]
  · rename_i k o off len cap hx
    obtain ⟨⟨e, hT, hk, he⟩, h⟩ := h
    obtain ⟨i, h, bi⟩ := bnd_get h
    obtain ⟨j, ⟨⟨h0, h1, h2⟩, h⟩, bj⟩ := bnd_get h
    cases mx with
    | none =>
      refine ⟨_, .of_run fun gh σ w a _ hF => ?_, h⟩
      have e := hF x (by simp [Op.operands, Call.operands])
      rw [hx] at e
      generalize hv : a.eval x = v at e
      cases e with
      | rs _ _ _ _ _ cap' s hG hl hcap hn =>
        have hr := run_sliceAt (P := P) (w := w) (a := some ⟨s.b, s.base + off, none⟩) (len := len) (cap := cap') (mx := none) (m := cap') hT hk he (.inl ⟨rfl, rfl⟩) ((bnd_val (fun x e => hF x (by simp [Op.operands, e])) bj).imp (fun h => ⟨h.1, rfl, h.2⟩) id) (bnd_val (fun x e => hF x (by simp [Op.operands, e])) bi) h0 h1 (by omega) (by omega)
        simp only [Int.toNat_natCast] at hr
        refine ⟨_, by simp only [execOp, hv, Option.map_none, Sem.run_bind, hr, Result.andThen_ok, Sem.run_pure]; rfl, ?_⟩
        by_cases hci : cap' = i.toNat
        · rw [if_pos hci]
          have e1 : j.toNat - i.toNat = 0 := by omega
          have e2 : cap' - i.toNat = 0 := by omega
          have e3 : (j - i).toNat = 0 := by omega
          have e4 : cap - i.toNat = 0 := by omega
          rw [e1, e2, e3, e4]; exact .rsZ _ _ _ _
        · rw [if_neg hci]
          simp only [Option.map_some, addr_add]
          rw [Nat.add_assoc, show j.toNat - i.toNat = (j - i).toNat by omega]
          refine .rs _ _ _ _ _ _ s hG (by omega) (by omega) ?_
          have : i.toNat * k + (cap' - i.toNat) * k = cap' * k := by rw [← Nat.add_mul]; congr 1; omega
          omega
      | rsZ _ _ _ ad =>
        have hr := run_sliceAt (P := P) (w := w) (a := ad) (len := 0) (cap := 0) (mx := none) (m := 0) hT hk he (.inl ⟨rfl, rfl⟩) ((bnd_val (fun x e => hF x (by simp [Op.operands, e])) bj).imp (fun h => ⟨h.1, rfl, h.2⟩) id) (bnd_val (fun x e => hF x (by simp [Op.operands, e])) bi) h0 h1 (by omega) (by omega)
        refine ⟨_, by simp only [execOp, hv, Option.map_none, Sem.run_bind, hr, Result.andThen_ok, Sem.run_pure]; rfl, ?_⟩
        have e1 : i.toNat = 0 := by omega
        have e2 : j.toNat = 0 := by omega
        have e3 : (j - i).toNat = 0 := by omega
        simp only [e1, e2, e3, Int.toNat_zero, if_true, Nat.sub_self]
        exact .rsZ _ _ _ _
    | some m =>
      obtain ⟨hsome, k', m', hm, ⟨h3, h4⟩, h⟩ := h
      have main : ∀ r, (if m' = i then r = .z else r = .rs k o (off + i.toNat * k) (j - i).toNat (m' - i).toNat) → OpPure P glob ⟨dst, .slice T x lo hi (some m), ty, pos, after, guard⟩ ρ r := fun r hr0 => .of_run fun gh σ w a _ hF => by
        have e := hF x (by simp [Op.operands, Call.operands])
        rw [hx] at e
        have em := hF m (by simp [Op.operands, Call.operands])
        rw [hm] at em
        generalize hv : a.eval x = v at e
        cases e with
        | rs _ _ _ _ _ cap' s hG hl hcap hn =>
          have hr := run_sliceAt (P := P) (w := w) (a := some ⟨s.b, s.base + off, none⟩) (len := len) (cap := cap') (mx := (some m).map a.eval) (m := m') hT hk he (.inr ⟨k', by simp [lit_of_rep em]⟩)
            (bndj (fun x e => hF x (by simp [Op.operands, e])) bj (.inl hsome)) (bnd_val (fun x e => hF x (by simp [Op.operands, e])) bi) h0 h1 (by omega) (by omega)
          refine ⟨_, by simp only [execOp, hv, Sem.run_bind, hr, Result.andThen_ok, Sem.run_pure]; rfl, ?_⟩
          by_cases hci : m' = i
          · subst hci
            rw [if_pos rfl] at hr0
            subst hr0
            have e1 : j.toNat - m'.toNat = 0 := by omega
            simp only [e1, Nat.sub_self, if_true]
            exact .z _
          · rw [if_neg hci] at hr0
            subst hr0
            rw [if_neg (by omega)]
            simp only [Option.map_some, addr_add]
            rw [Nat.add_assoc, show j.toNat - i.toNat = (j - i).toNat by omega, show m'.toNat - i.toNat = (m' - i).toNat by omega]
            refine .rs _ _ _ _ _ _ s hG (by omega) (by omega) ?_
            have h5 : i.toNat * k + (m' - i).toNat * k = m'.toNat * k := by rw [← Nat.add_mul]; congr 1; omega
            have h6 : m'.toNat * k ≤ cap' * k := Nat.mul_le_mul_right _ (by omega)
            omega
        | rsZ _ _ _ ad =>
          have hr := run_sliceAt (P := P) (w := w) (a := ad) (len := 0) (cap := 0) (mx := (some m).map a.eval) (m := m') hT hk he (.inr ⟨k', by simp [lit_of_rep em]⟩)
            (bndj (fun x e => hF x (by simp [Op.operands, e])) bj (.inl hsome)) (bnd_val (fun x e => hF x (by simp [Op.operands, e])) bi) h0 h1 (by omega) (by omega)
          refine ⟨_, by simp only [execOp, hv, Sem.run_bind, hr, Result.andThen_ok, Sem.run_pure]; rfl, ?_⟩
          have hci : m' = i := by omega
          rw [if_pos hci] at hr0
          subst hr0
          have e1 : j.toNat - i.toNat = 0 := by omega
          have e2 : m'.toNat - i.toNat = 0 := by omega
          rw [e1, e2]; exact .z _
      split at h
      · rename_i hc; exact ⟨_, main _ (by rw [if_pos hc]), h⟩
      · rename_i hc; exact ⟨_, main _ (by rw [if_neg hc]), h⟩
  · exact h.elim
end
end Go.Abs
