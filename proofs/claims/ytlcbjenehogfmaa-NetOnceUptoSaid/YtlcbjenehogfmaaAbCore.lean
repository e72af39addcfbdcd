/- An abstract reading of Go's memory: values as trees, frozen memory by value, owned memory by name; what is shown of an abstract state holds of the machine. This file: the relation between an abstract state and a world, and the rules for the control of code. -/
import Derived.Deep.Quiet
import Derived.Below
set_option linter.unusedSimpArgs false
set_option linter.unusedVariables false
namespace Go.Abs
open Go

/-- An abstract value. -/
inductive PV where
  | lit (v : Value)
  | any
  | agg (cs : List PV)
  | tup (vs : List PV)
  | vs (k : Nat) (es : List (List PV))
  | vp (cs : List PV)
  | z
  | rs (k o off len cap : Nat)
  | ptr (o off : Nat)
  | mp (o : Nat)
  | iface (t : TypeId) (v : PV)
  | fn (f : Fn) (first cap : List PV)
  deriving Inhabited

def PV.cells : PV → List PV
  | .agg cs => cs
  | .lit (.agg cs) => cs.toList.map .lit
  | p => [p]

/-- What fits into one cell of memory. -/
def PV.cell : PV → Bool
  | .lit (.agg _) | .lit (.tuple _) | .any | .agg _ | .tup _ => false
  | _ => true

/-- An owned thing in memory. -/
inductive PObj where
  | cells (cs : List PV)
  | map (es : List (PV × PV × Nat)) (clock : Nat)
  | iterS (s : ByteArray) (pos : Nat)
  | iterM (m : Nat) (since : Nat) (seen : Array Nat) (stepped : Nat)
  deriving Inhabited

abbrev Store := Nat → Option PObj
def Store.set (σ : Store) (o : Nat) (x : PObj) : Store := fun i => if i = o then some x else σ i
def Store.drop (σ : Store) (o : Nat) : Store := fun i => if i = o then none else σ i
theorem Store.set_same {σ : Store} {o : Nat} {x : PObj} : σ.set o x o = some x := by simp [Store.set]
theorem Store.set_ne {σ : Store} {o i : Nat} {x : PObj} (h : i ≠ o) : σ.set o x i = σ i := by simp [Store.set, h]
theorem Store.set_set {σ : Store} {o : Nat} {x y : PObj} : (σ.set o x).set o y = σ.set o y := by
  funext i; by_cases h : i = o <;> simp [Store.set, h]
/-- σ' holds all that σ holds. -/
def Sub (σ σ' : Store) : Prop := ∀ o x, σ o = some x → σ' o = some x
theorem Sub.refl (σ : Store) : Sub σ σ := fun _ _ h => h
theorem Sub.trans {a b c : Store} (h : Sub a b) (k : Sub b c) : Sub a c := fun o x e => k o x (h o x e)
theorem Sub.set {σ σ' : Store} {o : Nat} {x : PObj} (h : Sub σ σ') (ho : σ o = none) : Sub σ (σ'.set o x) := fun i y e => by
  have : i ≠ o := fun h' => by subst h'; rw [ho] at e; cases e
  rw [Store.set_ne this]; exact h i y e
theorem Sub.drop {σ σ' : Store} {o : Nat} (h : Sub σ σ') (ho : σ o = none) : Sub σ (σ'.drop o) := fun i y e => by
  have : i ≠ o := fun h' => by subst h'; rw [ho] at e; cases e
  simp only [Store.drop, if_neg this]; exact h i y e

/-- Where an owned thing lies: the block, the first cell, how many cells the block has. -/
structure Spot where
  b : Nat
  base : Nat
  n : Nat

/-- What is to be checked by arithmetic. -/
def Chk (p : Prop) : Prop := p
theorem Chk.out {p : Prop} (h : Chk p) : p := h
theorem Chk.yes {p : Prop} (h : p) : Chk p = True := eq_true h

/-- Which blocks are frozen; where an owned thing lies. -/
structure Gh where
  F : Nat → Prop
  G : Nat → Option Spot

inductive Rep (gh : Gh) (w : World) : Value → PV → Prop
  | lit (v : Value) : Rep gh w v (.lit v)
  | any (v : Value) : Rep gh w v .any
  | agg (vs : Array Value) (ps : List PV) (hn : vs.size = ps.length) (h : ∀ i p, ps[i]? = some p → Rep gh w (vs.getD i undef) p) : Rep gh w (.agg vs) (.agg ps)
  | tup (vs : Array Value) (ps : List PV) (hn : vs.size = ps.length) (h : ∀ i p, ps[i]? = some p → Rep gh w (vs.getD i undef) p) : Rep gh w (.tuple vs) (.tup ps)
  | vsE (k : Nat) (a : Option Addr) (cap : Nat) : Rep gh w (.slice a 0 cap) (.vs k [])
  | vs (k : Nat) (es : List (List PV)) (b off cap : Nat) (f : Nat → Value) (hF : gh.F b) (hcap : es.length ≤ cap) (hk : ∀ e ∈ es, e.length = k)
      (hc : ∀ i, i < es.length * k → w.cell? ⟨b, off + i, none⟩ = some (f i)) (hr : ∀ i p, es.flatten[i]? = some p → Rep gh w (f i) p) :
      Rep gh w (.slice (some ⟨b, off, none⟩) es.length cap) (.vs k es)
  | vp (cs : List PV) (b off : Nat) (f : Nat → Value) (hF : gh.F b)
      (hc : ∀ i, i < cs.length → w.cell? ⟨b, off + i, none⟩ = some (f i)) (hr : ∀ i p, cs[i]? = some p → Rep gh w (f i) p) :
      Rep gh w (.pointer (some ⟨b, off, none⟩)) (.vp cs)
  | z (a : Option Addr) : Rep gh w (.slice a 0 0) .z
  | rs (k o off len cap cap' : Nat) (s : Spot) (hG : gh.G o = some s) (hl : len ≤ cap') (hcap : cap ≤ cap') (hn : s.base + off + cap' * k ≤ s.n) :
      Rep gh w (.slice (some ⟨s.b, s.base + off, none⟩) len cap') (.rs k o off len cap)
  | rsZ (k o off : Nat) (a : Option Addr) : Rep gh w (.slice a 0 0) (.rs k o off 0 0)
  | ptr (o off : Nat) (s : Spot) (hG : gh.G o = some s) : Rep gh w (.pointer (some ⟨s.b, s.base + off, none⟩)) (.ptr o off)
  | mp (o : Nat) (s : Spot) (hG : gh.G o = some s) : Rep gh w (.map (some s.b)) (.mp o)
  | iface (t : TypeId) (v : Value) (p : PV) (h : Rep gh w v p) : Rep gh w (.iface t v) (.iface t p)
  | fn (f : Fn) (as bs : Array Value) (ps qs : List PV) (hn : as.size = ps.length) (hm : bs.size = qs.length)
      (h : ∀ i p, ps[i]? = some p → Rep gh w (as.getD i undef) p) (h' : ∀ i p, qs[i]? = some p → Rep gh w (bs.getD i undef) p) :
      Rep gh w (.func f as bs) (.fn f ps qs)

/-- From one state to a later one. -/
structure Ext (gh : Gh) (w : World) (gh' : Gh) (w' : World) : Prop where
  os : w'.os = w.os
  tape : w'.tape = w.tape
  output : w'.output = w.output
  size : w.heap.size ≤ w'.heap.size
  fr : ∀ b, gh.F b → gh'.F b
  same : ∀ b, gh.F b → w'.heap[b]? = w.heap[b]?
  obj : ∀ o x, gh.G o = some x → gh'.G o = some x

theorem Ext.refl (gh : Gh) (w : World) : Ext gh w gh w := ⟨rfl, rfl, rfl, Nat.le_refl _, fun _ h => h, fun _ _ => rfl, fun _ _ h => h⟩
theorem Ext.trans {g1 g2 g3 : Gh} {w1 w2 w3 : World} (h : Ext g1 w1 g2 w2) (k : Ext g2 w2 g3 w3) : Ext g1 w1 g3 w3 :=
  ⟨k.os.trans h.os, k.tape.trans h.tape, k.output.trans h.output, Nat.le_trans h.size k.size, fun b hb => k.fr b (h.fr b hb),
    fun b hb => (k.same b (h.fr b hb)).trans (h.same b hb), fun o x hx => k.obj o x (h.obj o x hx)⟩
theorem Ext.drew (gh : Gh) (w : World) (n : Nat) : Ext gh w gh { w with drawn := n } := ⟨rfl, rfl, rfl, Nat.le_refl _, fun _ h => h, fun _ _ => rfl, fun _ _ h => h⟩

theorem cell?_congr {w w' : World} {b : Nat} (h : w'.heap[b]? = w.heap[b]?) (off : Nat) : w'.cell? ⟨b, off, none⟩ = w.cell? ⟨b, off, none⟩ := by
  simp only [World.cell?, h]

theorem Rep.ext {gh gh' : Gh} {w w' : World} (x : Ext gh w gh' w') {v : Value} {p : PV} (h : Rep gh w v p) : Rep gh' w' v p := by
  induction h with
  | lit v => exact .lit v
  | any v => exact .any v
  | agg vs ps hn _ ih => exact .agg vs ps hn ih
  | tup vs ps hn _ ih => exact .tup vs ps hn ih
  | vsE k a cap => exact .vsE k a cap
  | vs k es b off cap f hF hcap hk hc _ ih => exact .vs k es b off cap f (x.fr b hF) hcap hk (fun i hi => by rw [cell?_congr (x.same b hF)]; exact hc i hi) ih
  | vp cs b off f hF hc _ ih => exact .vp cs b off f (x.fr b hF) (fun i hi => by rw [cell?_congr (x.same b hF)]; exact hc i hi) ih
  | z a => exact .z a
  | rs k o off len cap cap' s hG hl hcap hn => exact .rs k o off len cap cap' s (x.obj _ _ hG) hl hcap hn
  | rsZ k o off a => exact .rsZ k o off a
  | ptr o off s hG => exact .ptr o off s (x.obj _ _ hG)
  | mp o s hG => exact .mp o s (x.obj _ _ hG)
  | iface t v p _ ih => exact .iface t v p ih
  | fn f as bs ps qs hn hm _ _ ih ih' => exact .fn f as bs ps qs hn hm ih ih'

/-- p says at least what q says. -/
def Le (p q : PV) : Prop := ∀ gh w v, Rep gh w v p → Rep gh w v q
theorem Le.refl (p : PV) : Le p p := fun _ _ _ h => h
theorem Le.any (p : PV) : Le p .any := fun _ _ v _ => .any v
theorem Le.nil_z : Le (.lit (.slice none 0 0)) .z := fun _ _ v h => by cases h; exact .z none
theorem Le.nil_vs (k : Nat) : Le (.lit (.slice none 0 0)) (.vs k []) := fun _ _ v h => by cases h; exact .vsE k _ _

/-- What an owned thing is, and what lies in its block. -/
def ObOk (gh : Gh) (w : World) (s : Spot) : PObj → Prop
  | .cells cs => ∃ c T fr, w.heap[s.b]? = some (.cells c T fr) ∧ c.size = s.n ∧ s.base + cs.length ≤ s.n ∧ (∀ i, i < s.n → ¬ (fr.1 ≤ i ∧ i < fr.2)) ∧
      ∀ i p, cs[i]? = some p → p.cell = true ∧ Rep gh w (c.getD (s.base + i) undef) p
  | .map es clock => ∃ c, w.heap[s.b]? = some (.map c clock) ∧ c.size = es.length ∧
      ∀ i k x n, es[i]? = some (k, x, n) → (c.getD i default).born = n ∧ Rep gh w (c.getD i default).key k ∧ Rep gh w (c.getD i default).val x
  | .iterS str pos => s.base = 0 ∧ w.heap[s.b]? = some (.stringIter str pos)
  | .iterM m since seen stepped => s.base = 0 ∧ ∃ ms, gh.G m = some ms ∧ w.heap[s.b]? = some (.mapIter (some ms.b) since seen stepped)

structure R (glob : Nat → PV) (gh : Gh) (σ : Store) (w : World) : Prop where
  fb : ∀ b, gh.F b → b < w.heap.size
  ob : ∀ o x, σ o = some x → ∃ s, gh.G o = some s ∧ s.b < w.heap.size ∧ ¬ gh.F s.b ∧ ObOk gh w s x
  inj : ∀ o o' x x' s s', σ o = some x → σ o' = some x' → gh.G o = some s → gh.G o' = some s' → s.b = s'.b → o = o'
  fresh : ∃ m, ∀ o, m ≤ o → gh.G o = none ∧ σ o = none
  gl : ∀ g, Rep gh w (.pointer (some ⟨g, 0, none⟩)) (glob g)

theorem R.sub {glob : Nat → PV} {gh : Gh} {σ σ' : Store} {w : World} (h : R glob gh σ w) (hs : Sub σ' σ) : R glob gh σ' w where
  fb := h.fb
  ob o x e := h.ob o x (hs o x e)
  inj o o' x x' s s' e e' := h.inj o o' x x' s s' (hs o x e) (hs o' x' e')
  fresh := by
    obtain ⟨m, hm⟩ := h.fresh
    refine ⟨m, fun o ho => ⟨(hm o ho).1, ?_⟩⟩
    cases e : σ' o with
    | none => rfl
    | some x => rw [← (hm o ho).2, hs o x e]
  gl := h.gl

/-- The frame of a function: what is known of its slots. -/
abbrev Fram := List (Nat × PV)
def lk : Fram → Nat → PV
  | [], _ => .any
  | (d, r) :: l, t => if t = d then r else lk l t
def Fr (gh : Gh) (w : World) (n : Nat) (l : Fram) (a : Act) : Prop := a.tmps.size = n ∧ a.defers = [] ∧ ∀ t, Rep gh w (a.tmps.getD t undef) (lk l t)

theorem Fr.ext {gh gh' : Gh} {w w' : World} {n : Nat} {l : Fram} {a : Act} (x : Ext gh w gh' w') (h : Fr gh w n l a) : Fr gh' w' n l a :=
  ⟨h.1, h.2.1, fun t => (h.2.2 t).ext x⟩

def putF (l : Fram) (d : Option Nat) (r : PV) : Fram := match d with | some d => (d, r) :: l | none => l

theorem Fr.put {gh : Gh} {w : World} {n : Nat} {l : Fram} {a : Act} (h : Fr gh w n l a) {d : Option Nat} (hd : ∀ x, d = some x → x < n) {v : Value} {r : PV} (hr : Rep gh w v r) :
    Fr gh w n (putF l d r) (a.put d v) := by
  cases d with
  | none => exact h
  | some d =>
    have hdn := hd d rfl
    refine ⟨by simp [Act.put, h.1], by simp [Act.put, h.2.1], fun t => ?_⟩
    simp only [putF, lk, Act.put]
    by_cases ht : t = d
    · subst ht; simp [h.1, hdn]; exact hr
    · rw [if_neg ht]
      have : (a.tmps.setIfInBounds d v).getD t undef = a.tmps.getD t undef := by
        simp [Array.getElem?_setIfInBounds_ne (Ne.symm ht)]
      rw [this]; exact h.2.2 t

/-- All that l' says is said by l. -/
def LeF (l l' : Fram) : Prop := ∀ t, Le (lk l t) (lk l' t)
theorem LeF.refl (l : Fram) : LeF l l := fun _ => .refl _
theorem Fr.le {gh : Gh} {w : World} {n : Nat} {l l' : Fram} {a : Act} (h : Fr gh w n l a) (hl : LeF l l') : Fr gh w n l' a :=
  ⟨h.1, h.2.1, fun t => hl t _ _ _ (h.2.2 t)⟩
theorem LeF.nil (l : Fram) : LeF l [] := fun _ => .any _
theorem LeF.cons {l l' : Fram} {t : Nat} {p q : PV} (hp : lk l t = p) (hq : Le p q) (h : LeF l l') : LeF l ((t, q) :: l') := fun s => by
  by_cases e : s = t
  · subst e; rw [hp]; simp only [lk, if_true]; exact hq
  · simp only [lk, if_neg e]; exact h s
theorem LeF.keep {l l' : Fram} {t : Nat} {p : PV} (hp : lk l t = p) (h : LeF l l') : LeF l ((t, p) :: l') := .cons hp (.refl _) h

/-- A constant as an abstract value. -/
def ofV : Value → PV
  | .agg cs => .agg (cs.toList.map .lit)
  | .tuple cs => .tup (cs.toList.map .lit)
  | v => .lit v

theorem rep_ofV (gh : Gh) (w : World) (v : Value) : Rep gh w v (ofV v) := by
  cases v <;> simp only [ofV] <;> try exact .lit _
  · rename_i cs
    refine .agg _ _ (by simp) fun i p hi => ?_
    simp only [List.getElem?_map, Option.map_eq_some_iff] at hi
    obtain ⟨v, hv, rfl⟩ := hi
    have : cs.getD i undef = v := by simp at hv; simp [hv]
    rw [this]; exact .lit v
  · rename_i cs
    refine .tup _ _ (by simp) fun i p hi => ?_
    simp only [List.getElem?_map, Option.map_eq_some_iff] at hi
    obtain ⟨v, hv, rfl⟩ := hi
    have : cs.getD i undef = v := by simp at hv; simp [hv]
    rw [this]; exact .lit v

section
variable (P : Program) (glob : Nat → PV)

def ev (l : Fram) : Operand → PV
  | .tmp t => lk l t
  | .const v => ofV v
  | .global g => glob g
  | .func f => .fn (.func f) [] []

theorem rep_ev {gh : Gh} {w : World} {n : Nat} {l : Fram} {a : Act} {σ : Store} (hR : R glob gh σ w) (h : Fr gh w n l a) (x : Operand) : Rep gh w (a.eval x) (ev glob l x) := by
  cases x with
  | tmp t => exact h.2.2 t
  | const v => exact rep_ofV gh w v
  | global g => exact hR.gl g
  | func f => exact .fn _ _ _ _ _ rfl rfl (fun i p h => by simp at h) (fun i p h => by simp at h)

abbrev Post := Exit → Fram → Store → Prop

def AWp (n : Nat) (c : Code) (l : Fram) (σ : Store) (Q : Post) : Prop :=
  ∀ gh w a, R glob gh σ w → Fr gh w n l a →
    c.wp P (fun ex a' w' => ∃ gh' l' σ', Ext gh w gh' w' ∧ R glob gh' σ' w' ∧ Fr gh' w' n l' a' ∧ Q ex l' σ') a w

def AThen (K : Fram → Store → Prop) (Q : Post) : Post
  | .normal, l, σ => K l σ
  | e, l, σ => Q e l σ
def ABlock (id : Nat) (Q : Post) : Post
  | .exit id', l, σ => if id' = id then Q .normal l σ else Q (.exit id') l σ
  | e, l, σ => Q e l σ

variable {P glob} {n : Nat} {l : Fram} {σ : Store} {Q : Post}

theorem AWp.mono {c : Code} {Q' : Post} (h : AWp P glob n c l σ Q) (hq : ∀ e l σ, Q e l σ → Q' e l σ) : AWp P glob n c l σ Q' :=
  fun gh w a hR hF => wp_mono (h gh w a hR hF) fun _ _ _ ⟨gh', l', σ', h1, h2, h3, h4⟩ => ⟨gh', l', σ', h1, h2, h3, hq _ _ _ h4⟩

/-- Less may be known; owned things may be forgotten. -/
theorem AWp.weaken {c : Code} {l' : Fram} {σ' : Store} (h : AWp P glob n c l' σ' Q) (hl : LeF l l') (hs : Sub σ' σ) : AWp P glob n c l σ Q :=
  fun gh w a hR hF => h gh w a (hR.sub hs) (hF.le hl)

theorem AWp.skip (h : Q .normal l σ) : AWp P glob n .skip l σ Q :=
  fun gh w _ hR hF => wp_skip ⟨gh, l, σ, .refl _ _, hR, hF, h⟩
theorem AWp.exit {id : Nat} (h : Q (.exit id) l σ) : AWp P glob n (.exit id) l σ Q :=
  fun gh w _ hR hF => wp_exit ⟨gh, l, σ, .refl _ _, hR, hF, h⟩
theorem AWp.ret (h : Q .ret l σ) : AWp P glob n .ret l σ Q :=
  fun gh w _ hR hF => wp_ret ⟨gh, l, σ, .refl _ _, hR, hF, h⟩

theorem AWp.seq {x y : Code} (h : AWp P glob n x l σ (AThen (fun l σ => AWp P glob n y l σ Q) Q)) : AWp P glob n (.seq x y) l σ Q := by
  intro gh w a hR hF
  refine wp_seq (wp_mono (h gh w a hR hF) ?_)
  rintro e a' w' ⟨gh', l', σ', h1, h2, h3, h4⟩
  cases e <;> simp only [Exit.then, AThen] at h4 ⊢
  case normal => exact wp_mono (h4 gh' w' a' h2 h3) fun _ _ _ ⟨g, l2, s2, k1, k2, k3, k4⟩ => ⟨g, l2, s2, h1.trans k1, k2, k3, k4⟩
  all_goals exact ⟨gh', l', σ', h1, h2, h3, h4⟩

theorem AWp.seq_k {x y : Code} (h : ∀ K : Fram → Store → Prop, (∀ l σ, AWp P glob n y l σ Q → K l σ) → AWp P glob n x l σ (AThen K Q)) : AWp P glob n (.seq x y) l σ Q :=
  .seq (h _ fun _ _ h => h)

theorem AWp.cond {c : Operand} {x y : Code} {t : Bool} (hc : ev glob l c = .lit (.bool t)) (ht : t = true → AWp P glob n x l σ Q) (hf : t = false → AWp P glob n y l σ Q) :
    AWp P glob n (.cond c x y) l σ Q := by
  intro gh w a hR hF
  have hv : a.eval c = .bool t := by
    have := rep_ev glob hR hF c
    rw [hc] at this
    generalize a.eval c = v at this
    cases this; rfl
  exact wp_cond_split hv (fun e => ht e gh w a hR hF) (fun e => hf e gh w a hR hF)

theorem AWp.block {id : Nat} {c : Code} (h : AWp P glob n c l σ (ABlock id Q)) : AWp P glob n (.block id c) l σ Q := by
  intro gh w a hR hF
  refine wp_block (wp_mono (h gh w a hR hF) ?_)
  rintro e a' w' ⟨gh', l', σ', h1, h2, h3, h4⟩
  cases e <;> simp only [Exit.inBlock, ABlock] at h4 ⊢
  case exit id' => split <;> rename_i hid <;> simp only [hid, if_true, if_false] at h4 <;> exact ⟨gh', l', σ', h1, h2, h3, h4⟩
  all_goals exact ⟨gh', l', σ', h1, h2, h3, h4⟩

/-- A loop: a family of states, a measure that each round lowers. -/
theorem AWp.loop {c : Code} {ι : Type} (I : ι → Fram → Store → Prop) (μ : ι → Nat) (i0 : ι) (h0 : I i0 l σ)
    (round : ∀ i l σ, I i l σ → AWp P glob n c l σ (AThen (fun l' σ' => ∃ i', μ i' < μ i ∧ I i' l' σ') Q)) : AWp P glob n (.loop c) l σ Q := by
  intro gh w a hR hF b k cs
  have key : ∀ m i l σ gh w a, μ i = m → I i l σ → R glob gh σ w → Fr gh w n l a →
      ∃ e a' w', (∃ gh' l' σ', Ext gh w gh' w' ∧ R glob gh' σ' w' ∧ Fr gh' w' n l' a' ∧ Q e l' σ') ∧ Arrives P (lone (b.at a (.code c :: .inLoop c :: k)) cs w) b k cs e a' w' := by
    intro m
    induction m using Nat.strongRecOn with
    | _ m ih =>
      intro i l σ gh w a hm hI hR hF
      obtain ⟨e, a₁, w₁, ⟨gh1, l1, σ1, x1, x2, x3, x4⟩, harr⟩ := round i l σ hI gh w a hR hF b (.inLoop c :: k) cs
      cases e with
      | normal =>
        obtain ⟨i', hlt, hI'⟩ := x4
        obtain ⟨e₂, a₂, w₂, ⟨gh2, l2, σ2, y1, y2, y3, y4⟩, harr₂⟩ := ih (μ i') (hm ▸ hlt) i' l1 σ1 gh1 w₁ a₁ rfl hI' x2 x3
        exact ⟨e₂, a₂, w₂, ⟨gh2, l2, σ2, x1.trans y1, y2, y3, y4⟩, .of_steps (Steps.trans harr (.one step_inLoop)) harr₂⟩
      | exit id => exact ⟨_, a₁, w₁, ⟨gh1, l1, σ1, x1, x2, x3, x4⟩, .pass (x := .inLoop c) rfl (fun _ _ => .inl (by simp)) harr⟩
      | goto l => exact ⟨_, a₁, w₁, ⟨gh1, l1, σ1, x1, x2, x3, x4⟩, .pass (x := .inLoop c) rfl (fun _ _ => .inl (by simp)) harr⟩
      | ret => exact ⟨_, a₁, w₁, ⟨gh1, l1, σ1, x1, x2, x3, x4⟩, .pass (x := .inLoop c) rfl (fun _ _ => .inl (by simp)) harr⟩
      | panic ch => exact ⟨_, a₁, w₁, ⟨gh1, l1, σ1, x1, x2, x3, x4⟩, .pass (x := .inLoop c) rfl (fun _ _ => .inl (by simp)) harr⟩
      | outgrown => exact ⟨_, a₁, w₁, ⟨gh1, l1, σ1, x1, x2, x3, x4⟩, .pass (x := .inLoop c) rfl (fun _ _ => .inl (by simp)) harr⟩
  obtain ⟨e, a', w', hq, harr⟩ := key _ i0 l σ gh w a rfl h0 hR hF
  exact ⟨e, a', w', hq, .of_steps (.one step_loop) harr⟩

/-- The loop's state as a frame and a store by an index. -/
theorem AWp.loopF {c : Code} {ι : Type} (F : ι → Fram) (S : ι → Store → Prop) (μ : ι → Nat) (i0 : ι) (h0 : LeF l (F i0)) (hs : S i0 σ)
    (round : ∀ i σ, S i σ → AWp P glob n c (F i) σ (AThen (fun l' σ' => ∃ i', μ i' < μ i ∧ LeF l' (F i') ∧ S i' σ') Q)) : AWp P glob n (.loop c) l σ Q :=
  .loop (fun i l σ => LeF l (F i) ∧ S i σ) μ i0 ⟨h0, hs⟩ fun i l σ ⟨hl, hs⟩ =>
    .weaken (round i σ hs) hl (.refl _)

/-- An assertion in between. -/
theorem AWp.cut {c : Code} {Q' : Post} (h : AWp P glob n c l σ Q') (hq : ∀ e l σ, Q' e l σ → Q e l σ) : AWp P glob n c l σ Q := h.mono hq

/-! Functions -/

def Enters (P : Program) (f : FuncId) : Prop := ∃ fn, P.funcs[f]? = some fn ∧ fn.body.isNone = false ∧ (fn.name == "runtime.NumGoroutine") = false

def RepL (gh : Gh) (w : World) (vs : List Value) (ps : List PV) : Prop := vs.length = ps.length ∧ ∀ i p, ps[i]? = some p → Rep gh w (vs.getD i undef) p

theorem RepL.ext {gh gh' : Gh} {w w' : World} (x : Ext gh w gh' w') {vs : List Value} {ps : List PV} (h : RepL gh w vs ps) : RepL gh' w' vs ps := ⟨h.1, fun i p hi => (h.2 i p hi).ext x⟩
theorem RepL.nil {gh : Gh} {w : World} : RepL gh w [] [] := ⟨rfl, fun i p h => by simp at h⟩
theorem RepL.cons {gh : Gh} {w : World} {v : Value} {p : PV} {vs : List Value} {ps : List PV} (h : Rep gh w v p) (hs : RepL gh w vs ps) : RepL gh w (v :: vs) (p :: ps) := by
  refine ⟨by simp [hs.1], fun i q hi => ?_⟩
  cases i with
  | zero => simp at hi; subst hi; simpa using h
  | succ i => simp at hi; simpa using hs.2 i q hi
theorem RepL.append {gh : Gh} {w : World} {vs us : List Value} {ps qs : List PV} (h : RepL gh w vs ps) (k : RepL gh w us qs) : RepL gh w (vs ++ us) (ps ++ qs) := by
  induction vs generalizing ps with
  | nil =>
    have : ps = [] := by have := h.1; exact List.eq_nil_of_length_eq_zero this.symm
    subst this; simpa using k
  | cons v vs ih =>
    cases ps with
    | nil => have := h.1; simp at this
    | cons p ps =>
      refine .cons (by simpa using h.2 0 p rfl) (ih ⟨by simpa using h.1, fun i q hi => ?_⟩)
      simpa using h.2 (i + 1) q (by simpa using hi)
theorem RepL.le {gh : Gh} {w : World} {vs : List Value} {ps qs : List PV} (h : RepL gh w vs ps) (hl : ps.length = qs.length) (hq : ∀ (i : Nat) (p q : PV), ps[i]? = some p → qs[i]? = some q → Le p q) : RepL gh w vs qs := by
  refine ⟨h.1.trans hl, fun i q hi => ?_⟩
  have : i < ps.length := by rw [hl]; exact (List.getElem?_eq_some_iff.1 hi).1
  exact hq i _ q (List.getElem?_eq_getElem this) hi _ _ _ (h.2 i _ (List.getElem?_eq_getElem this))

variable (P) in
/-- A call: of a body, or of one of the model's own entries. -/
def CallWp (f : FuncId) (vs : Array Value) (w : World) (K : Value → World → Prop) : Prop :=
  (Enters P f ∧ Calls P f vs w fun e w' => ∃ v, e = .returned v ∧ K v w') ∨ ∃ v w', (callFunc f vs).run P w = .ok (.value v) w' ∧ K v w'

theorem CallWp.mono {f : FuncId} {vs : Array Value} {w : World} {K K' : Value → World → Prop} (h : CallWp P f vs w K) (hk : ∀ v w, K v w → K' v w) : CallWp P f vs w K' := by
  rcases h with ⟨h1, h2⟩ | ⟨v, w', h1, h2⟩
  · exact .inl ⟨h1, h2.mono fun _ _ ⟨v, h3, h4⟩ => ⟨v, h3, hk _ _ h4⟩⟩
  · exact .inr ⟨v, w', h1, hk _ _ h2⟩

variable (P glob)
def ACalls (f : FuncId) (args : List PV) (σ : Store) (Q : PV → Store → Prop) : Prop :=
  ∀ gh w vs, R glob gh σ w → RepL gh w vs args →
    CallWp P f vs.toArray w fun v w' => ∃ gh' r σ', Ext gh w gh' w' ∧ R glob gh' σ' w' ∧ Rep gh' w' v r ∧ Q r σ'
variable {P glob}

theorem ACalls.mono {f : FuncId} {args : List PV} {σ : Store} {Q Q' : PV → Store → Prop} (h : ACalls P glob f args σ Q) (hq : ∀ r σ, Q r σ → Q' r σ) : ACalls P glob f args σ Q' :=
  fun gh w vs hR hv => (h gh w vs hR hv).mono fun _ _ ⟨gh', r, σ', h1, h2, h3, h4⟩ => ⟨gh', r, σ', h1, h2, h3, hq _ _ h4⟩

/-- Less may be known of the arguments; owned things may be forgotten. -/
theorem ACalls.weaken {f : FuncId} {args args' : List PV} {σ σ' : Store} {Q : PV → Store → Prop} (h : ACalls P glob f args' σ' Q) (hl : args.length = args'.length)
    (hq : ∀ (i : Nat) (p q : PV), args[i]? = some p → args'[i]? = some q → Le p q) (hs : Sub σ' σ) : ACalls P glob f args σ Q :=
  fun gh w vs hR hv => h gh w vs (hR.sub hs) (hv.le hl hq)

/-- What it keeps: the owned things that it knows nothing of are as they were. -/
def Pur (P : Program) (glob : Nat → PV) (f : FuncId) (args : List PV) (r : PV) : Prop := ∀ σ, ACalls P glob f args σ fun r' σ' => r' = r ∧ σ' = σ

def resV (l : Fram) (σ : Store) : ResultVar → Option PV
  | .tmp t => some (lk l t)
  | .cell a _ => match lk l a with
    | .ptr o off => match σ o with
      | some (.cells cs) => if (cs[off]?.map PV.cell).getD false then cs[off]? else none
      | _ => none
    | _ => none

def resL (l : Fram) (σ : Store) : List ResultVar → Option (List PV)
  | [] => some []
  | r :: rs => match resV l σ r, resL l σ rs with
    | some p, some ps => some (p :: ps)
    | _, _ => none

def resOf : List PV → PV
  | [p] => p
  | ps => .tup ps
end
end Go.Abs
