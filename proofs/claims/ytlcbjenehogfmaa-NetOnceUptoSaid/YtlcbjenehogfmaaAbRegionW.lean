/- Regions whose operations only read: the rules in the shape in which a walk meets them. -/
import Derived.Test.YtlcbjenehogfmaaAbRegionS
import Derived.Test.YtlcbjenehogfmaaAbRun2
set_option linter.unusedSimpArgs false
set_option linter.unusedVariables false
namespace Go.Abs
open Go
section
variable {P : Program} {glob : Nat → PV} {n : Nat} {σ : Store} {l : Fram} {Q : Post}

/-- Operations that only read, one behind the other. -/
def opsSW (P : Program) (glob : Nat → PV) (σ : Store) (ops : Array Oper) : List Oper → Fram → (Fram → Prop) → Prop
  | [], l, K => K l
  | o :: r, l, K => gW ops l o (∃ p, eW P glob o.op (ev glob l) σ (fun r τ => r = p ∧ τ = σ) ∧ opsSW P glob σ ops r (putF l o.dst p) K) (opsSW P glob σ ops r (putF l o.dst (.lit undef)) K)

theorem opsSW_ALS {ops : Array Oper} {K : Fram → Prop} : ∀ (r : List Oper) (l : Fram), opsSW P glob σ ops r l K → ALS P glob σ ops K r l
  | [], _, h => h
  | o :: r, l, h => by
    obtain ⟨b, h1, h2, h3⟩ := gW_gd h
    refine ⟨b, h1, fun e => ?_, fun e => opsSW_ALS r _ (h3 e)⟩
    obtain ⟨p, hp, hk⟩ := h2 e
    exact ⟨p, eW_sound hp, opsSW_ALS r _ hk⟩

def okReads (n : Nat) (os : List Oper) : Bool := dstOk n os.toArray && okOrd os.toArray ((List.range os.length).map fun i => (i, true)) (Array.replicate os.length false)

theorem AWp.regS {id : Nat} {os : List Oper} (hm : P.follows .mixedOrders = true) (hB : okReads n os = true)
    (h : ∀ K : Fram → Prop, (∀ l, Q .normal l σ → K l) → opsSW P glob σ os.toArray os l K) : AWp P glob n (.region id os.toArray true) l σ Q := by
  unfold okReads at hB
  simp only [Bool.and_eq_true] at hB
  exact .regionS hm hB.1 hB.2 (opsSW_ALS os l (h _ fun _ h => h))
theorem AWp.seqS {id : Nat} {os : List Oper} {y : Code} (hm : P.follows .mixedOrders = true) (hB : okReads n os = true)
    (h : ∀ K : Fram → Prop, (∀ l, AWp P glob n y l σ Q → K l) → opsSW P glob σ os.toArray os l K) : AWp P glob n (.seq (.region id os.toArray true) y) l σ Q :=
  .seq (.regS hm hB fun K hK => h K fun l hl => hK l hl)
theorem opsSW_nil {ops : Array Oper} {K : Fram → Prop} (h : K l) : opsSW P glob σ ops [] l K := h
theorem opsSW_kn {ops : Array Oper} {dst : Option Tmp} {op : Op} {ty : TypeId} {pos : String} {after : Array Edge} {r : List Oper} {K : Fram → Prop}
    (h : ∀ K' : Fram → Prop, (∀ l, opsSW P glob σ ops r l K → K' l) → ∃ p, eW P glob op (ev glob l) σ (fun r τ => r = p ∧ τ = σ) ∧ K' (putF l dst p)) : opsSW P glob σ ops (⟨dst, op, ty, pos, after, none⟩ :: r) l K :=
  h _ fun _ h => h
theorem opsSW_kg {ops : Array Oper} {dst : Option Tmp} {op : Op} {ty : TypeId} {pos : String} {after : Array Edge} {j d : Nat} {want : Bool} {r : List Oper} {K : Fram → Prop} (hj : (ops[j]?).bind (·.dst) = some d)
    (h : ∀ K' : Fram → Prop, (∀ l, opsSW P glob σ ops r l K → K' l) → ∃ t, lk l d = .lit t ∧ (asB t = some want → ∃ p, eW P glob op (ev glob l) σ (fun r τ => r = p ∧ τ = σ) ∧ K' (putF l dst p)) ∧ (asB t ≠ some want → K' (putF l dst (.lit undef)))) : opsSW P glob σ ops (⟨dst, op, ty, pos, after, some (j, want)⟩ :: r) l K :=
  let ⟨t, h1, h2, h3⟩ := h _ fun _ h => h
  ⟨d, t, hj, h1, h2, h3⟩
end
end Go.Abs
