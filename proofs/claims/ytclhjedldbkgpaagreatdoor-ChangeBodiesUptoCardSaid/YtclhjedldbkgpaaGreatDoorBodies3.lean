/-
  Part 3 of the proof that winch/winchlaw25.ChangeBodies returns true for every two bodies of small bulk: lemmas.
  Conditions: none beyond each theorem's own premises.
  What lies here:
  How the small evaluator's values, memory and frames stand to the machine's: the relations, and that they last.
  The small evaluator's memory against the machine's: new objects, changed objects, reads, stores; the program's tables.
-/
import Derived.Test.YtclhjedldbkgpaaGreatDoorBodies2
import Derived.Laws.Sem
import Derived.Laws.Cells
set_option linter.unusedVariables false
set_option linter.unusedSimpArgs false
namespace Go.Am

/-- Where an object lies: its block, and how many cells that has. -/
structure Loc where
  b : Nat
  n : Nat
  v : Value
abbrev Ren := Nat → Option Loc
def Ren.le (ρ ρ' : Ren) : Prop := ∀ i l, ρ i = some l → ρ' i = some l
theorem Ren.le.refl (ρ : Ren) : ρ.le ρ := fun _ _ h => h
theorem Ren.le.trans {a b c : Ren} (h : a.le b) (k : b.le c) : a.le c := fun i l e => k i l (h i l e)

mutual
def RelV (ρ : Ren) : AV → Value → Prop
  | .bool b, v => v = .bool b
  | .int k n, v => v = .int k n
  | .str s, v => v = .string ⟨⟨s⟩⟩
  | .ptr i off, v => ∃ l, ρ i = some l ∧ v = .pointer (some ⟨l.b, off, none⟩)
  | .nilptr, v => v = .pointer none
  | .slice i off len es, v => ∃ l, ρ i = some l ∧ 0 < es ∧ off + len * es ≤ l.n ∧ v = .slice (some ⟨l.b, off, none⟩) len ((l.n - off) / es)
  | .nilslice, v => v = .slice none 0 0
  | .map i, v => ∃ l, ρ i = some l ∧ v = .map (some l.b)
  | .nilmap, v => v = .map none
  | .fn fn a c, v => ∃ f a' c', fn = .func f ∧ v = .func (.func f) a' c' ∧ RelL ρ a a'.toList ∧ RelL ρ c c'.toList
  | .yieldf i, v => ∃ l, ρ i = some l ∧ v = .func (.yield l.b) #[] #[]
  | .nilfunc, v => v = .nilFunc
  | .iface t x, v => ∃ x', v = .iface t x' ∧ RelV ρ x x'
  | .nilIface, v => v = .nilIface
  | .agg cs, v => ∃ c', v = .agg c' ∧ RelL ρ cs c'.toList
  | .tuple vs, v => ∃ c', v = .tuple c' ∧ RelL ρ vs c'.toList
  | .sym i, v => ∃ l, ρ i = some l ∧ v = l.v ∧ v.oneCell' = true
  | .junk, _ => False
def RelL (ρ : Ren) : List AV → List Value → Prop
  | [], l => l = []
  | a :: avs, l => ∃ v vs, l = v :: vs ∧ RelV ρ a v ∧ RelL ρ avs vs
end

mutual
theorem RelV.mono {ρ ρ' : Ren} (h : ρ.le ρ') : ∀ (a : AV) (v : Value), RelV ρ a v → RelV ρ' a v
  | .bool b, v, hr => by simp only [RelV] at *; exact hr
  | .int k n, v, hr => by simp only [RelV] at *; exact hr
  | .str s, v, hr => by simp only [RelV] at *; exact hr
  | .ptr i off, v, hr => by
    simp only [RelV] at *
    obtain ⟨l, h1, h2⟩ := hr
    exact ⟨l, h _ _ h1, h2⟩
  | .nilptr, v, hr => by simp only [RelV] at *; exact hr
  | .slice i off len es, v, hr => by
    simp only [RelV] at *
    obtain ⟨l, h1, h2⟩ := hr
    exact ⟨l, h _ _ h1, h2⟩
  | .nilslice, v, hr => by simp only [RelV] at *; exact hr
  | .map i, v, hr => by
    simp only [RelV] at *
    obtain ⟨l, h1, h2⟩ := hr
    exact ⟨l, h _ _ h1, h2⟩
  | .nilmap, v, hr => by simp only [RelV] at *; exact hr
  | .fn fn a c, v, hr => by
    simp only [RelV] at *
    obtain ⟨f, a', c', h1, h2, h3, h4⟩ := hr
    exact ⟨f, a', c', h1, h2, RelL.mono h a _ h3, RelL.mono h c _ h4⟩
  | .yieldf i, v, hr => by
    simp only [RelV] at *
    obtain ⟨l, h1, h2⟩ := hr
    exact ⟨l, h _ _ h1, h2⟩
  | .nilfunc, v, hr => by simp only [RelV] at *; exact hr
  | .iface t x, v, hr => by
    simp only [RelV] at *
    obtain ⟨x', h1, h2⟩ := hr
    exact ⟨x', h1, RelV.mono h x _ h2⟩
  | .nilIface, v, hr => by simp only [RelV] at *; exact hr
  | .agg cs, v, hr => by
    simp only [RelV] at *
    obtain ⟨c', h1, h2⟩ := hr
    exact ⟨c', h1, RelL.mono h cs _ h2⟩
  | .tuple cs, v, hr => by
    simp only [RelV] at *
    obtain ⟨c', h1, h2⟩ := hr
    exact ⟨c', h1, RelL.mono h cs _ h2⟩
  | .sym i, v, hr => by
    simp only [RelV] at *
    obtain ⟨l, h1, h2⟩ := hr
    exact ⟨l, h _ _ h1, h2⟩
  | .junk, v, hr => by simp only [RelV] at hr
theorem RelL.mono {ρ ρ' : Ren} (h : ρ.le ρ') : ∀ (a : List AV) (v : List Value), RelL ρ a v → RelL ρ' a v
  | [], v, hr => by simp only [RelL] at *; exact hr
  | a :: avs, l, hr => by
    simp only [RelL] at *
    obtain ⟨v, vs, h1, h2, h3⟩ := hr
    exact ⟨v, vs, h1, RelV.mono h a v h2, RelL.mono h avs vs h3⟩
end

theorem RelL.length {ρ : Ren} : ∀ {a : List AV} {v : List Value}, RelL ρ a v → v.length = a.length
  | [], v, h => by simp only [RelL] at h; subst h; rfl
  | a :: avs, l, h => by
    simp only [RelL] at h
    obtain ⟨v, vs, rfl, _, h3⟩ := h
    simp [RelL.length h3]
theorem RelL.get {ρ : Ren} : ∀ {a : List AV} {v : List Value}, RelL ρ a v → ∀ {i : Nat} {x : AV}, a[i]? = some x → ∃ y, v[i]? = some y ∧ RelV ρ x y
  | [], v, h, i, x, hx => by simp at hx
  | a :: avs, l, h, i, x, hx => by
    simp only [RelL] at h
    obtain ⟨v, vs, rfl, h2, h3⟩ := h
    cases i with
    | zero => simp at hx; subst hx; exact ⟨v, by simp, h2⟩
    | succ i => simp at hx; simpa using RelL.get h3 hx
theorem RelL.mk {ρ : Ren} : ∀ {a : List AV} {v : List Value}, v.length = a.length → (∀ (i : Nat) (x : AV), a[i]? = some x → ∃ y, v[i]? = some y ∧ RelV ρ x y) → RelL ρ a v
  | [], v, hl, _ => by simp only [RelL]; simpa using hl
  | a :: avs, [], hl, _ => by simp at hl
  | a :: avs, v :: vs, hl, h => by
    simp only [RelL]
    refine ⟨v, vs, rfl, ?_, RelL.mk (by simpa using hl) fun i x hx => ?_⟩
    · obtain ⟨y, hy, hr⟩ := h 0 a (by simp)
      simp at hy; subst hy; exact hr
    · obtain ⟨y, hy, hr⟩ := h (i + 1) x (by simpa using hx)
      exact ⟨y, by simpa using hy, hr⟩
theorem RelL.append {ρ : Ren} : ∀ {a b : List AV} {v u : List Value}, RelL ρ a v → RelL ρ b u → RelL ρ (a ++ b) (v ++ u)
  | [], b, v, u, h, k => by simp only [RelL] at h; subst h; simpa using k
  | a :: avs, b, l, u, h, k => by
    simp only [RelL] at h
    obtain ⟨v, vs, rfl, h2, h3⟩ := h
    simp only [List.cons_append, RelL]
    exact ⟨v, vs ++ u, rfl, h2, RelL.append h3 k⟩
theorem RelL.take {ρ : Ren} {a : List AV} {v : List Value} (h : RelL ρ a v) (n : Nat) : RelL ρ (a.take n) (v.take n) := by
  refine RelL.mk (by simp [RelL.length h]) fun i x hx => ?_
  rw [List.getElem?_take] at hx ⊢
  split at hx
  · rename_i hi; rw [if_pos hi]; exact RelL.get h hx
  · cases hx
theorem RelL.drop {ρ : Ren} {a : List AV} {v : List Value} (h : RelL ρ a v) (n : Nat) : RelL ρ (a.drop n) (v.drop n) := by
  refine RelL.mk (by simp [RelL.length h]) fun i x hx => ?_
  rw [List.getElem?_drop] at hx ⊢
  exact RelL.get h hx
theorem RelV.cells {ρ : Ren} {a : AV} {v : Value} (h : RelV ρ a v) : RelL ρ a.cells v.cells.toList := by
  cases a <;> simp only [RelV] at h <;> simp only [AV.cells]
  case agg cs => obtain ⟨c', rfl, h2⟩ := h; exact h2
  all_goals
    simp only [RelL]
    refine ⟨v, [], ?_, by simp only [RelV]; exact h, rfl⟩
  case bool => subst h; rfl
  case int => subst h; rfl
  case str => subst h; rfl
  case ptr => obtain ⟨l, _, rfl⟩ := h; rfl
  case nilptr => subst h; rfl
  case slice => obtain ⟨l, _, _, _, rfl⟩ := h; rfl
  case nilslice => subst h; rfl
  case map => obtain ⟨l, _, rfl⟩ := h; rfl
  case nilmap => subst h; rfl
  case fn => obtain ⟨f, a', c', _, rfl, _, _⟩ := h; rfl
  case yieldf => obtain ⟨l, _, rfl⟩ := h; rfl
  case nilfunc => subst h; rfl
  case iface => obtain ⟨x', rfl, _⟩ := h; rfl
  case nilIface => subst h; rfl
  case tuple => obtain ⟨c', rfl, _⟩ := h; rfl
  case sym => obtain ⟨l, _, rfl, h2⟩ := h; cases hq : l.v <;> first | rfl | (rw [hq] at h2; cases h2)

/-- No aggregate, no tuple: the value of one cell. -/
def AV.one : AV → Bool
  | .agg _ => false
  | .tuple _ => false
  | .junk => false
  | _ => true
theorem RelV.one {ρ : Ren} {a : AV} {v : Value} (h : RelV ρ a v) (ha : a.one = true) : v.oneCell' = true := by
  cases a <;> simp only [RelV] at h <;> (try simp [AV.one] at ha)
  case bool => subst h; rfl
  case int => subst h; rfl
  case str => subst h; rfl
  case ptr => obtain ⟨l, _, rfl⟩ := h; rfl
  case nilptr => subst h; rfl
  case slice => obtain ⟨l, _, _, _, rfl⟩ := h; rfl
  case nilslice => subst h; rfl
  case map => obtain ⟨l, _, rfl⟩ := h; rfl
  case nilmap => subst h; rfl
  case fn => obtain ⟨f, a', c', _, rfl, _, _⟩ := h; rfl
  case yieldf => obtain ⟨l, _, rfl⟩ := h; rfl
  case nilfunc => subst h; rfl
  case iface => obtain ⟨x', rfl, _⟩ := h; rfl
  case nilIface => subst h; rfl
  case sym => exact h.choose_spec.2.2
theorem noAggs_one : ∀ {l : List AV}, noAggs l = true → ∀ a ∈ l, a.one = true
  | [], _, a, ha => by cases ha
  | x :: l, h, a, ha => by
    cases x <;> simp [noAggs] at h <;> (cases ha with
      | head => rfl
      | tail _ hm => exact noAggs_one h a hm)

/- Entries of a map; keys and values alike. -/
def RelE (ρ : Ren) : List (AV × AV × Nat) → List MapEntry → Prop
  | [], l => l = []
  | (k, v, b) :: es, l => ∃ e rest, l = e :: rest ∧ RelV ρ k e.key ∧ RelV ρ v e.val ∧ e.born = b ∧ RelE ρ es rest
theorem RelE.mono {ρ ρ' : Ren} (h : ρ.le ρ') : ∀ {a : List (AV × AV × Nat)} {v : List MapEntry}, RelE ρ a v → RelE ρ' a v
  | [], v, hr => by simp only [RelE] at *; exact hr
  | (k, x, b) :: avs, l, hr => by
    simp only [RelE] at *
    obtain ⟨e, rest, h1, h2, h3, h4, h5⟩ := hr
    exact ⟨e, rest, h1, RelV.mono h _ _ h2, RelV.mono h _ _ h3, h4, RelE.mono h h5⟩

def RelDef (ρ : Ren) : ADef → Deferred → Prop
  | .call fn args, d => ∃ f cap, fn = .func f ∧ d.target = .fn (.func f) cap ∧ RelL ρ args (d.args ++ cap).toList
  | .collected i, d => ∃ l, ρ i = some l ∧ d.target = .collected l.b
def RelDefs (ρ : Ren) : List ADef → List Deferred → Prop
  | [], l => l = []
  | a :: avs, l => ∃ d ds, l = d :: ds ∧ RelDef ρ a d ∧ RelDefs ρ avs ds
theorem RelDef.mono {ρ ρ' : Ren} (h : ρ.le ρ') : ∀ {a : ADef} {d : Deferred}, RelDef ρ a d → RelDef ρ' a d
  | .call fn args, d, hr => by
    simp only [RelDef] at *
    obtain ⟨f, cap, h1, h2, h3⟩ := hr
    exact ⟨f, cap, h1, h2, RelL.mono h _ _ h3⟩
  | .collected i, d, hr => by
    simp only [RelDef] at *
    obtain ⟨l, h1, h2⟩ := hr
    exact ⟨l, h _ _ h1, h2⟩
theorem RelDefs.mono {ρ ρ' : Ren} (h : ρ.le ρ') : ∀ {a : List ADef} {d : List Deferred}, RelDefs ρ a d → RelDefs ρ' a d
  | [], d, hr => by simp only [RelDefs] at *; exact hr
  | a :: avs, l, hr => by
    simp only [RelDefs] at *
    obtain ⟨d, ds, h1, h2, h3⟩ := hr
    exact ⟨d, ds, h1, RelDef.mono h h2, RelDefs.mono h h3⟩
theorem RelDefs.append {ρ : Ren} : ∀ {a b : List ADef} {d e : List Deferred}, RelDefs ρ a d → RelDefs ρ b e → RelDefs ρ (a ++ b) (d ++ e)
  | [], b, d, e, h, k => by simp only [RelDefs] at h; subst h; simpa using k
  | a :: avs, b, l, e, h, k => by
    simp only [RelDefs] at h
    obtain ⟨d, ds, rfl, h2, h3⟩ := h
    simp only [List.cons_append, RelDefs]
    exact ⟨d, ds ++ e, rfl, h2, RelDefs.append h3 k⟩

/-- A value that counts, or one that counts no more. -/
def RelJ (ρ : Ren) (a : AV) (v : Value) : Prop := a = .junk ∨ RelV ρ a v
theorem RelJ.mono {ρ ρ' : Ren} (h : ρ.le ρ') {a : AV} {v : Value} (k : RelJ ρ a v) : RelJ ρ' a v := k.imp id (RelV.mono h a v)
theorem RelJ.some {ρ : Ren} {a b : AV} {v : Value} (k : RelJ ρ a v) (h : noJ a = some b) : RelV ρ b v := by
  rcases k with rfl | k
  · cases h
  · cases a <;> simp only [noJ] at h <;> cases h <;> exact k
theorem RelJ.known {ρ : Ren} {a : AV} {v : Value} (k : RelJ ρ a v) (h : a ≠ .junk) : RelV ρ a v := k.resolve_left h

/-- Temporaries. -/
structure RelT (ρ : Ren) (n : Nat) (t : Tree AV) (tmps : Array Value) : Prop where
  size : tmps.size = n
  val : ∀ i, RelJ ρ (tmpOf t i) (tmps.getD i Go.undef)
theorem RelT.mono {ρ ρ' : Ren} (h : ρ.le ρ') {n : Nat} {t : Tree AV} {tmps : Array Value} (hr : RelT ρ n t tmps) : RelT ρ' n t tmps :=
  ⟨hr.size, fun i => (hr.val i).mono h⟩
theorem relV_undef (ρ : Ren) : RelV ρ .undef Go.undef := by
  unfold AV.undef
  simp only [RelV]
  exact ⟨#[], rfl, by simp only [RelL]⟩
theorem RelT.put {ρ : Ren} {n : Nat} {t : Tree AV} {tmps : Array Value} (hr : RelT ρ n t tmps) {d : Nat} (hd : d < n) {a : AV} {v : Value} (hv : RelJ ρ a v) :
    RelT ρ n (t.put d a) (tmps.setIfInBounds d v) := by
  refine ⟨by simp [hr.size], fun i => ?_⟩
  have h := hr.val i
  unfold tmpOf at *
  rw [Tree.get_put]
  by_cases e : i = d
  · subst e
    have : i < tmps.size := by rw [hr.size]; exact hd
    simp [this]
    exact hv
  · rw [if_neg e]
    have : (tmps.setIfInBounds d v).getD i Go.undef = tmps.getD i Go.undef := by
      simp [Array.getD_eq_getD_getElem?, Array.getElem?_setIfInBounds, Ne.symm e]
    rw [this]
    exact h

structure RelLoop (P : Program) (ρ : Ren) (r : ALoop) (r' : Loop) : Prop where
  state : r'.state = r.state
  pending : r'.pending = r.pending
  fn : r'.fn = r.fn
  has : ∃ g, P.funcs[r.fn]? = some g
  tmps : RelT ρ r.n r.tmps r'.tmps
  params : r'.params = r.params
  assign : r'.assign = r.assign
  body : r'.body = r.body
  defers : ∃ l, ρ r.defers = some l ∧ r'.defers = l.b
theorem RelLoop.mono {P : Program} {ρ ρ' : Ren} (h : ρ.le ρ') {r : ALoop} {r' : Loop} (hr : RelLoop P ρ r r') : RelLoop P ρ' r r' :=
  { hr with tmps := hr.tmps.mono h, defers := by obtain ⟨l, h1, h2⟩ := hr.defers; exact ⟨l, h _ _ h1, h2⟩ }

/-- What an object is in memory. -/
def RelO (P : Program) (ρ : Ren) (l : Loc) : AObj → Option Obj → Prop
  | .cells t size _ tight ro, o => ∃ c e fz, o = some (.cells c e fz) ∧ c.size = l.n ∧ size ≤ l.n ∧ (tight = true → size = l.n) ∧
      (∀ j, j < size → ∃ a v, t.get j = some a ∧ c[j]? = some v ∧ RelV ρ a v ∧ a.one = true) ∧ (ro = false → ∀ j, j < l.n → ¬ (fz.1 ≤ j ∧ j < fz.2))
  | .map es clock _, o => ∃ ec, o = some (.map ec clock) ∧ RelE ρ es ec.toList
  | .strIter s pos, o => o = some (.stringIter ⟨⟨s⟩⟩ pos)
  | .mapIter m since seen stepped, o => ∃ m', o = some (.mapIter m' since seen.toArray stepped) ∧ (match m with
      | none => m' = none
      | some i => ∃ lm, ρ i = some lm ∧ m' = some lm.b)
  | .loop r, o => ∃ r', o = some (.loop r') ∧ RelLoop P ρ r r'
  | .deferred calls, o => ∃ ds, o = some (.deferred ds) ∧ (match calls with
      | none => ds = none
      | some cs => ∃ l, ds = some l ∧ RelDefs ρ cs l)
theorem RelO.mono {P : Program} {ρ ρ' : Ren} (h : ρ.le ρ') {l : Loc} : ∀ {a : AObj} {o : Option Obj}, RelO P ρ l a o → RelO P ρ' l a o
  | .cells t size e tight ro, o, hr => by
    simp only [RelO] at *
    obtain ⟨c, e, fz, h1, h2, h3, h4, h5, h6⟩ := hr
    exact ⟨c, e, fz, h1, h2, h3, h4, fun j hj => by
      obtain ⟨a, v, k1, k2, k3, k4⟩ := h5 j hj
      exact ⟨a, v, k1, k2, RelV.mono h _ _ k3, k4⟩, h6⟩
  | .map es clock ro, o, hr => by
    simp only [RelO] at *
    obtain ⟨ec, h1, h2⟩ := hr
    exact ⟨ec, h1, h2.mono h⟩
  | .strIter s pos, o, hr => by simp only [RelO] at *; exact hr
  | .mapIter m since seen stepped, o, hr => by
    simp only [RelO] at *
    obtain ⟨m', h1, h2⟩ := hr
    refine ⟨m', h1, ?_⟩
    cases m with
    | none => exact h2
    | some i => obtain ⟨lm, k1, k2⟩ := h2; exact ⟨lm, h _ _ k1, k2⟩
  | .loop r, o, hr => by
    simp only [RelO] at *
    obtain ⟨r', h1, h2⟩ := hr
    exact ⟨r', h1, h2.mono h⟩
  | .deferred calls, o, hr => by
    simp only [RelO] at *
    obtain ⟨ds, h1, h2⟩ := hr
    refine ⟨ds, h1, ?_⟩
    cases calls with
    | none => exact h2
    | some cs => obtain ⟨l, k1, k2⟩ := h2; exact ⟨l, k1, k2.mono h⟩

/-- May the object be written? -/
def AObj.own : AObj → Bool
  | .cells _ _ _ _ ro => !ro
  | .map _ _ ro => !ro
  | _ => true

/-- The world outside memory is as it was. -/
def Still (w w' : World) : Prop := w'.os = w.os ∧ w'.output = w.output
theorem Still.refl (w : World) : Still w w := ⟨rfl, rfl⟩
theorem Still.trans {a b c : World} (h : Still a b) (k : Still b c) : Still a c := ⟨k.1.trans h.1, k.2.trans h.2⟩
/-- What was there stays, whatever is outside. -/
structure Keeps (w w' : World) : Prop where
  size : w.heap.size ≤ w'.heap.size
  kept : ∀ b, b < w.heap.size → w'.heap[b]? = w.heap[b]?
/-- What one call does to memory that was there: nothing. -/
structure Grows (w w' : World) : Prop where
  size : w.heap.size ≤ w'.heap.size
  kept : ∀ b, b < w.heap.size → w'.heap[b]? = w.heap[b]?
  still : Still w w'
theorem Grows.keeps {w w' : World} (h : Grows w w') : Keeps w w' := ⟨h.1, h.2⟩
theorem Keeps.trans {a b c : World} (h : Keeps a b) (k : Keeps b c) : Keeps a c :=
  ⟨Nat.le_trans h.1 k.1, fun x hx => by rw [k.2 x (Nat.lt_of_lt_of_le hx h.1), h.2 x hx]⟩
/-- The answers from outside are true, as long as some blocks are as they were. -/
class OrcOk (P : Program) [Orc P] where
  base : Ren
  W : World
  keep : Nat → Prop
  inW : ∀ b, keep b → b < W.heap.size
  ok : ∀ (o : Oper) (avs : List AV) (a : AV), Orc.ans P o.op avs = some a → ∀ ρ : Ren, base.le ρ → ∀ evc : Operand → Value, RelL ρ avs (o.op.operands.toList.map evc) → ∀ w : World, (∀ b, keep b → w.heap[b]? = W.heap[b]?) →
    ∃ v, RelV ρ a v ∧ (execOp evc o).run P w = .ok (.value v) w
  call : ∀ (f : FuncId) (avs : List AV) (H : AHeap) (a : AV), Orc.call P f avs H = some a → ∀ ρ : Ren, base.le ρ → ∀ args : Array Value, RelL ρ avs args.toList → ∀ w : World, (∀ b, keep b → w.heap[b]? = W.heap[b]?) →
    (∀ i o, H.get i = some o → ∃ l, ρ i = some l ∧ l.b < w.heap.size ∧ RelO P ρ l o (w.heap[l.b]?)) →
    Calls P f args w fun e w' => ∃ v, RelV ρ a v ∧ e = .returned v ∧ Grows w w'

structure RelH (P : Program) [Orc P] [OrcOk P] (ρ : Ren) (H : AHeap) (w : World) : Prop where
  obj : ∀ i o, H.get i = some o → ∃ l, ρ i = some l ∧ l.b < w.heap.size ∧ RelO P ρ l o (w.heap[l.b]?)
  inj : ∀ i j o o' l l', H.get i = some o → H.get j = some o' → ρ i = some l → ρ j = some l' → l.b = l'.b → i = j
  fresh : ∀ i, H.next ≤ i → ρ i = none
  base : (OrcOk.base P).le ρ
  kept : ∀ b, OrcOk.keep P b → w.heap[b]? = (OrcOk.W P).heap[b]?
  wsize : (OrcOk.W P).heap.size ≤ w.heap.size
  own : ∀ i o l, H.get i = some o → o.own = true → ρ i = some l → ¬ OrcOk.keep P l.b
  still : Still (OrcOk.W P) w

/-- What a part of a run does to memory: numbers keep their places; blocks that are no own object's stay as they are; what is own then is own of old, or new. -/
structure Ext (ρ : Ren) (H : AHeap) (w : World) (ρ' : Ren) (H' : AHeap) (w' : World) : Prop where
  le : ρ.le ρ'
  size : w.heap.size ≤ w'.heap.size
  kept : ∀ b, b < w.heap.size → (∀ i o l, H.get i = some o → o.own = true → ρ i = some l → l.b ≠ b) → w'.heap[b]? = w.heap[b]?
  owned : ∀ i o l, H'.get i = some o → o.own = true → ρ' i = some l → l.b < w.heap.size → ∃ j o' l', H.get j = some o' ∧ o'.own = true ∧ ρ j = some l' ∧ l'.b = l.b
  still : Still w w'
theorem Ext.refl (ρ : Ren) (H : AHeap) (w : World) : Ext ρ H w ρ H w :=
  ⟨Ren.le.refl _, Nat.le_refl _, fun _ _ _ => rfl, fun i o l h1 h2 h3 _ => ⟨i, o, l, h1, h2, h3, rfl⟩, Still.refl _⟩
theorem Ext.trans {ρ ρ' ρ'' : Ren} {H H' H'' : AHeap} {w w' w'' : World} (h : Ext ρ H w ρ' H' w') (k : Ext ρ' H' w' ρ'' H'' w'') : Ext ρ H w ρ'' H'' w'' := by
  refine ⟨h.le.trans k.le, Nat.le_trans h.size k.size, fun b hb hn => ?_, fun i o l h1 h2 h3 h4 => ?_, h.still.trans k.still⟩
  · rw [k.kept b (Nat.lt_of_lt_of_le hb h.size) ?_, h.kept b hb hn]
    intro i o l h1 h2 h3 e
    obtain ⟨j, o', l', k1, k2, k3, k4⟩ := h.owned i o l h1 h2 h3 (e ▸ hb)
    exact hn j o' l' k1 k2 k3 (k4.trans e)
  · obtain ⟨j, o', l', k1, k2, k3, k4⟩ := k.owned i o l h1 h2 h3 (Nat.lt_of_lt_of_le h4 h.size)
    obtain ⟨j2, o2, l2, m1, m2, m3, m4⟩ := h.owned j o' l' k1 k2 k3 (k4 ▸ h4)
    exact ⟨j2, o2, l2, m1, m2, m3, m4.trans k4⟩
end Go.Am
set_option linter.unusedSectionVars false
namespace Go.Am
variable {P : Program} [Orc P] [OrcOk P] {ρ : Ren} {H : AHeap} {w : World}

theorem get_put (H : AHeap) (i : Nat) (o : AObj) (j : Nat) : (H.put i o).get j = if j = i then some o else H.get j := Tree.get_put _ _ _ _
theorem get_strike (H : AHeap) (i j : Nat) : (H.strike i).get j = if j = i then none else H.get j := Tree.get_drop _ _ _
theorem get_push (H : AHeap) (o : AObj) (j : Nat) : (H.push o).get j = if j = H.next then some o else H.get j := Tree.get_put _ _ _ _
theorem next_push (H : AHeap) (o : AObj) : (H.push o).next = H.next + 1 := rfl
theorem next_put (H : AHeap) (i : Nat) (o : AObj) : (H.put i o).next = H.next := rfl
theorem next_strike (H : AHeap) (i : Nat) : (H.strike i).next = H.next := rfl

/-- A number more. -/
def Ren.add (ρ : Ren) (i : Nat) (l : Loc) : Ren := fun j => if j = i then some l else ρ j
theorem Ren.le_add {i : Nat} {l : Loc} (h : ρ i = none) : ρ.le (ρ.add i l) := fun j m e => by
  unfold Ren.add
  by_cases hj : j = i
  · subst hj; rw [h] at e; cases e
  · rw [if_neg hj]; exact e
theorem Ren.add_same (ρ : Ren) (i : Nat) (l : Loc) : ρ.add i l i = some l := by simp [Ren.add]
theorem Ren.add_other (ρ : Ren) {i j : Nat} (l : Loc) (h : j ≠ i) : ρ.add i l j = ρ j := by simp [Ren.add, h]

/-- Only the heap counts. -/
theorem RelH.same {w' : World} (h : RelH P ρ H w) (hw : w'.heap = w.heap) (hst : Still w w') : RelH P ρ H w' :=
  ⟨fun i o ho => by obtain ⟨l, h1, h2, h3⟩ := h.obj i o ho; exact ⟨l, h1, by rw [hw]; exact h2, by rw [hw]; exact h3⟩, h.inj, h.fresh, h.base, fun b hb => by rw [hw]; exact h.kept b hb, by rw [hw]; exact h.wsize, h.own, h.still.trans hst⟩
theorem Ext.same {w' : World} (hw : w'.heap = w.heap) (hst : Still w w') : Ext ρ H w ρ H w' :=
  ⟨Ren.le.refl _, by rw [hw]; exact Nat.le_refl _, fun b _ _ => by rw [hw], fun i o l h1 h2 h3 _ => ⟨i, o, l, h1, h2, h3, rfl⟩, hst⟩

/-- Memory that only grows. -/
theorem RelH.grows {w' : World} (h : RelH P ρ H w) (g : Grows w w') : RelH P ρ H w' ∧ Ext ρ H w ρ H w' := by
  refine ⟨⟨fun i o ho => ?_, h.inj, h.fresh, h.base, fun b hb => ?_, Nat.le_trans h.wsize g.1, h.own, h.still.trans g.still⟩, ⟨Ren.le.refl _, g.1, fun b hb _ => g.2 b hb, fun i o l h1 h2 h3 _ => ⟨i, o, l, h1, h2, h3, rfl⟩, g.still⟩⟩
  · obtain ⟨l, h1, h2, h3⟩ := h.obj i o ho
    exact ⟨l, h1, Nat.lt_of_lt_of_le h2 g.1, by rw [g.2 _ h2]; exact h3⟩
  · rw [g.2 b (Nat.lt_of_lt_of_le (OrcOk.inW b hb) h.wsize)]
    exact h.kept b hb

/-- A new object. -/
theorem RelH.push (h : RelH P ρ H w) {o : AObj} {o' : Obj} {w' : World} (n : Nat) (hw : w'.heap = w.heap.push o') (hst : Still w w')
    (ho : RelO P (ρ.add H.next ⟨w.heap.size, n, Go.undef⟩) ⟨w.heap.size, n, Go.undef⟩ o (some o')) :
    RelH P (ρ.add H.next ⟨w.heap.size, n, Go.undef⟩) (H.push o) w' ∧ Ext ρ H w (ρ.add H.next ⟨w.heap.size, n, Go.undef⟩) (H.push o) w' := by
  have hf : ρ H.next = none := h.fresh _ (Nat.le_refl _)
  have hle := Ren.le_add (l := ⟨w.heap.size, n, Go.undef⟩) hf
  have hws := h.wsize
  refine ⟨⟨fun i o₁ h₁ => ?_, fun i j o₁ o₂ l l' h₁ h₂ k₁ k₂ e => ?_, fun i hi => ?_, h.base.trans hle, fun b hb => ?_, by rw [hw]; simp; omega, fun i o₁ l h₁ h₂ h₃ hk => ?_, h.still.trans hst⟩, ⟨hle, by rw [hw]; simp, fun b hb _ => ?_, fun i o₁ l h₁ h₂ h₃ h₄ => ?_, hst⟩⟩
  · rw [get_push] at h₁
    split at h₁
    · rename_i e; subst e; cases h₁
      exact ⟨_, Ren.add_same _ _ _, by rw [hw]; simp, by rw [hw]; simpa using ho⟩
    · rename_i e
      obtain ⟨l, k1, k2, k3⟩ := h.obj i o₁ h₁
      refine ⟨l, hle _ _ k1, by rw [hw]; simp; omega, ?_⟩
      rw [hw, Array.getElem?_push]
      rw [if_neg (by omega)]
      exact k3.mono hle
  · rw [get_push] at h₁ h₂
    have hlt : ∀ i o l, H.get i = some o → ρ i = some l → l.b < w.heap.size := fun i o l a b => by
      obtain ⟨l', c1, c2, _⟩ := h.obj i o a
      rw [b] at c1; cases c1; exact c2
    by_cases e1 : i = H.next
    · by_cases e2 : j = H.next
      · rw [e1, e2]
      · rw [if_neg e2] at h₂
        rw [e1, Ren.add_same] at k₁; cases k₁
        rw [Ren.add_other _ _ e2] at k₂
        have := hlt j _ _ h₂ k₂
        simp at e; omega
    · rw [if_neg e1] at h₁
      rw [Ren.add_other _ _ e1] at k₁
      by_cases e2 : j = H.next
      · rw [e2, Ren.add_same] at k₂; cases k₂
        have := hlt i _ _ h₁ k₁
        simp at e; omega
      · rw [if_neg e2] at h₂
        rw [Ren.add_other _ _ e2] at k₂
        exact h.inj i j _ _ _ _ h₁ h₂ k₁ k₂ e
  · rw [next_push] at hi
    rw [Ren.add_other _ _ (by omega)]
    exact h.fresh i (by omega)
  · have := OrcOk.inW b hb
    rw [hw, Array.getElem?_push, if_neg (by omega)]
    exact h.kept b hb
  · rw [get_push] at h₁
    by_cases e : i = H.next
    · rw [e, Ren.add_same] at h₃; cases h₃
      have := OrcOk.inW _ hk
      simp only at this
      omega
    · rw [if_neg e] at h₁
      rw [Ren.add_other _ _ e] at h₃
      exact h.own i o₁ l h₁ h₂ h₃ hk
  · rw [hw, Array.getElem?_push, if_neg (by omega)]
  · rw [get_push] at h₁
    by_cases e : i = H.next
    · rw [e, Ren.add_same] at h₃; cases h₃; simp at h₄
    · rw [if_neg e] at h₁
      rw [Ren.add_other _ _ e] at h₃
      exact ⟨i, o₁, l, h₁, h₂, h₃, rfl⟩

/-- An own object turned. -/
theorem RelH.turn (h : RelH P ρ H w) {i : Nat} {o o₂ : AObj} {l : Loc} {w' : World} (hi : H.get i = some o) (own : o.own = true) (hl : ρ i = some l)
    (hs : w'.heap.size = w.heap.size) (hst : Still w w') (hother : ∀ b, b ≠ l.b → w'.heap[b]? = w.heap[b]?) (ho : RelO P ρ l o₂ (w'.heap[l.b]?)) :
    RelH P ρ (H.put i o₂) w' ∧ Ext ρ H w ρ (H.put i o₂) w' := by
  refine ⟨⟨fun j o₁ h₁ => ?_, fun j k o₁ o₃ m m' h₁ h₂ k₁ k₂ e => ?_, fun j hj => h.fresh j hj, h.base, fun b hb => ?_, by have := h.wsize; omega, fun j o₁ m h₁ h₂ h₃ => ?_, h.still.trans hst⟩, ⟨Ren.le.refl _, by omega, fun b hb hn => ?_, fun j o₁ m h₁ h₂ h₃ h₄ => ?_, hst⟩⟩
  · rw [get_put] at h₁
    obtain ⟨l0, b1, b2, _⟩ := h.obj i o hi
    rw [hl] at b1; cases b1
    split at h₁
    · rename_i e; subst e; cases h₁
      exact ⟨l, hl, by omega, ho⟩
    · rename_i e
      obtain ⟨m, c1, c2, c3⟩ := h.obj j o₁ h₁
      refine ⟨m, c1, by omega, ?_⟩
      rw [hother m.b (fun eb => e (h.inj j i o₁ o m l h₁ hi c1 hl eb))]
      exact c3
  · have key : ∀ j o₁, (H.put i o₂).get j = some o₁ → ∃ o', H.get j = some o' := fun j o₁ hh => by
      rw [get_put] at hh
      split at hh
      · rename_i e; exact ⟨o, e ▸ hi⟩
      · exact ⟨_, hh⟩
    obtain ⟨a, ha⟩ := key j o₁ h₁
    obtain ⟨b, hb⟩ := key k o₃ h₂
    exact h.inj j k a b m m' ha hb k₁ k₂ e
  · rw [hother b (fun e => h.own i o l hi own hl (e ▸ hb))]
    exact h.kept b hb
  · rw [get_put] at h₁
    split at h₁
    · rename_i e; subst e; rw [hl] at h₃; cases h₃
      exact h.own j o l hi own hl
    · exact h.own j o₁ m h₁ h₂ h₃
  · exact hother b (fun e => hn i o l hi own hl e.symm)
  · rw [get_put] at h₁
    split at h₁
    · rename_i e; subst e; rw [hl] at h₃; cases h₃
      exact ⟨j, o, l, hi, own, hl, rfl⟩
    · exact ⟨j, o₁, m, h₁, h₂, h₃, rfl⟩

/-- An object struck. -/
theorem RelH.strike (h : RelH P ρ H w) (i : Nat) : RelH P ρ (H.strike i) w ∧ Ext ρ H w ρ (H.strike i) w := by
  have key : ∀ j o₁, (H.strike i).get j = some o₁ → H.get j = some o₁ := fun j o₁ hh => by
    rw [get_strike] at hh
    split at hh
    · cases hh
    · exact hh
  exact ⟨⟨fun j o₁ h₁ => h.obj j o₁ (key _ _ h₁), fun j k a b m m' h₁ h₂ => h.inj j k a b m m' (key _ _ h₁) (key _ _ h₂), h.fresh, h.base, h.kept, h.wsize, fun j o l h₁ => h.own j o l (key _ _ h₁), h.still⟩,
    ⟨Ren.le.refl _, Nat.le_refl _, fun _ _ _ => rfl, fun j o l h₁ h₂ h₃ _ => ⟨j, o, l, key _ _ h₁, h₂, h₃, rfl⟩, Still.refl _⟩⟩

/-- An own object struck, and its block another number's. -/
theorem RelH.move (h : RelH P ρ H w) {i : Nat} {o o₂ : AObj} {l : Loc} {w' : World} (hi : H.get i = some o) (own : o.own = true) (hl : ρ i = some l)
    (hs : w'.heap.size = w.heap.size) (hst : Still w w') (hother : ∀ b, b ≠ l.b → w'.heap[b]? = w.heap[b]?) (ho : RelO P (ρ.add H.next l) l o₂ (w'.heap[l.b]?)) :
    RelH P (ρ.add H.next l) ((H.strike i).push o₂) w' ∧ Ext ρ H w (ρ.add H.next l) ((H.strike i).push o₂) w' := by
  have hf : ρ H.next = none := h.fresh _ (Nat.le_refl _)
  have hle := Ren.le_add (l := l) hf
  obtain ⟨l0, b1, b2, _⟩ := h.obj i o hi
  rw [hl] at b1; cases b1
  have key : ∀ j o₁, ((H.strike i).push o₂).get j = some o₁ → (j = H.next ∧ o₁ = o₂) ∨ (j ≠ H.next ∧ j ≠ i ∧ H.get j = some o₁) := fun j o₁ hh => by
    rw [get_push, next_strike] at hh
    split at hh
    · rename_i e; cases hh; exact .inl ⟨e, rfl⟩
    · rename_i e
      rw [get_strike] at hh
      split at hh
      · cases hh
      · rename_i e2; exact .inr ⟨e, e2, hh⟩
  refine ⟨⟨fun j o₁ h₁ => ?_, fun j k o₁ o₃ m m' h₁ h₂ k₁ k₂ e => ?_, fun j hj => ?_, h.base.trans hle, fun b hb => ?_, by have := h.wsize; omega, fun j o₁ m h₁ h₂ h₃ => ?_, h.still.trans hst⟩, ⟨hle, by omega, fun b hb hn => ?_, fun j o₁ m h₁ h₂ h₃ h₄ => ?_, hst⟩⟩
  · rcases key j o₁ h₁ with ⟨e, e2⟩ | ⟨e, e2, hj⟩
    · subst e; subst e2
      exact ⟨l, Ren.add_same _ _ _, by omega, ho⟩
    · obtain ⟨m, c1, c2, c3⟩ := h.obj j o₁ hj
      refine ⟨m, hle _ _ c1, by omega, ?_⟩
      rw [hother m.b (fun eb => e2 (h.inj j i o₁ o m l hj hi c1 hl eb))]
      exact c3.mono hle
  · rcases key j o₁ h₁ with ⟨e1, _⟩ | ⟨e1, f1, hj⟩ <;> rcases key k o₃ h₂ with ⟨e2, _⟩ | ⟨e2, f2, hk⟩
    · rw [e1, e2]
    · rw [e1, Ren.add_same] at k₁; cases k₁
      rw [Ren.add_other _ _ e2] at k₂
      exact absurd (h.inj k i _ _ _ _ hk hi k₂ hl e.symm) f2
    · rw [e2, Ren.add_same] at k₂; cases k₂
      rw [Ren.add_other _ _ e1] at k₁
      exact absurd (h.inj j i _ _ _ _ hj hi k₁ hl e) f1
    · rw [Ren.add_other _ _ e1] at k₁
      rw [Ren.add_other _ _ e2] at k₂
      exact h.inj j k _ _ _ _ hj hk k₁ k₂ e
  · rw [next_push, next_strike] at hj
    rw [Ren.add_other _ _ (by omega)]
    exact h.fresh j (by omega)
  · rw [hother b (fun e => h.own i o l hi own hl (e ▸ hb))]
    exact h.kept b hb
  · rcases key j o₁ h₁ with ⟨e, e2⟩ | ⟨e, _, hj⟩
    · rw [e, Ren.add_same] at h₃; cases h₃
      exact h.own i o l hi own hl
    · rw [Ren.add_other _ _ e] at h₃
      exact h.own j o₁ m hj h₂ h₃
  · exact hother b (fun e => hn i o l hi own hl e.symm)
  · rcases key j o₁ h₁ with ⟨e, e2⟩ | ⟨e, _, hj⟩
    · rw [e, Ren.add_same] at h₃; cases h₃
      exact ⟨i, o, l, hi, own, hl, rfl⟩
    · rw [Ren.add_other _ _ e] at h₃
      exact ⟨j, o₁, m, hj, h₂, h₃, rfl⟩

/- Reads. -/
theorem cell_of {b off : Nat} {c : Array Value} {e : TypeId} {fz : Nat × Nat} (h : w.heap[b]? = some (.cells c e fz)) : w.cell? ⟨b, off, none⟩ = c[off]? := by simp [World.cell?, h]
theorem addr_add (b o i : Nat) : (⟨b, o, none⟩ : Addr).add i = ⟨b, o + i, none⟩ := by unfold Addr.add; split <;> simp_all

theorem readCells_rel (h : RelH P ρ H w) {i off n : Nat} {l : List AV} (hr : readCells H i off n = some l) :
    ∃ loc vs, ρ i = some loc ∧ RelL ρ l vs ∧ vs.length = n ∧ off + n ≤ loc.n ∧ (∀ (j : Nat) v, vs[j]? = some v → w.cell? ((⟨loc.b, off, none⟩ : Addr).add j) = some v) ∧ (∀ a ∈ l, a.one = true) := by
  unfold readCells at hr
  split at hr
  case h_2 => cases hr
  rename_i t size e tight ro ho
  cases hb : Nat.ble (off + n) size with
  | false => simp [hb] at hr
  | true =>
    simp only [hb, cond_true] at hr
    have hle : off + n ≤ size := Nat.le_of_ble_eq_true hb
    obtain ⟨loc, h1, h2, h3⟩ := h.obj i _ ho
    simp only [RelO] at h3
    obtain ⟨c, e', fz, k1, k2, k3, _, k5, _⟩ := h3
    obtain ⟨hl, hg⟩ := Tree.getList_some n t off l hr
    have hcs : ∀ j, j < n → ∃ a v, l[j]? = some a ∧ c[off + j]? = some v ∧ RelV ρ a v ∧ a.one = true := fun j hj => by
      obtain ⟨a, v, m1, m2, m3, m4⟩ := k5 (off + j) (by omega)
      exact ⟨a, v, by rw [← hg j hj]; exact m1, m2, m3, m4⟩
    refine ⟨loc, (List.range n).map fun j => c.getD (off + j) Go.undef, h1, ?_, by simp, by omega, ?_, ?_⟩
    · refine RelL.mk (by simp [hl]) fun j x hx => ?_
      have hj : j < n := by rw [← hl]; exact (List.getElem?_eq_some_iff.1 hx).1
      obtain ⟨a, v, m1, m2, m3, _⟩ := hcs j hj
      rw [hx] at m1; cases m1
      exact ⟨v, by simp [hj, Array.getD_eq_getD_getElem?, m2], m3⟩
    · intro j v hv
      have hj : j < n := by have := (List.getElem?_eq_some_iff.1 hv).1; simpa using this
      obtain ⟨a, u, m1, m2, _, _⟩ := hcs j hj
      simp [hj, Array.getD_eq_getD_getElem?, m2] at hv
      subst hv
      rw [addr_add, cell_of k1]
      exact m2
    · intro a ha
      obtain ⟨j, hj, rfl⟩ := List.getElem_of_mem ha
      obtain ⟨a', v, m1, _, _, m4⟩ := hcs j (by omega)
      rw [List.getElem?_eq_getElem hj] at m1; cases m1
      exact m4

/- The tables. -/
theorem info_eq {t : TypeId} {i : TypeInfo} (h : info P t = some i) : P.info? t = some i := by
  unfold info types at h
  rw [Tree.get_ofList] at h
  have h' : P.types[t]? = some i := by simpa using h
  have hlt : t < P.types.size := (Array.getElem?_eq_some_iff.1 h').1
  unfold Tables.info?
  rw [if_pos hlt]
  exact h'
theorem funcs_eq {f : FuncId} {g : Func} (h : (funcs P).get f = some g) : P.funcs[f]? = some g := by
  unfold funcs at h
  rw [Tree.get_ofList] at h
  simpa using h
theorem und_eq {t : TypeId} {d : TypeDesc} (h : und P t = some d) : P.underlying t = some d := by
  unfold und at h
  cases hi : info P t with
  | none => simp [hi] at h
  | some i =>
    simp only [hi] at h
    unfold Program.underlying
    rw [info_eq hi]
    obtain ⟨desc, str, size, bytes, hp, al, fal, zero, cmp, ms⟩ := i
    cases desc <;> simp only at h ⊢ <;> (try exact h)
    rename_i nm u
    cases hu : info P u with
    | none => simp [hu] at h
    | some j => simp only [hu] at h; rw [info_eq hu]; exact h
theorem run_und {t : TypeId} {d : TypeDesc} (h : und P t = some d) (w : World) : (underlying t).run P w = .ok d w := by
  simp [underlying, und_eq h]
theorem run_info {t : TypeId} {i : TypeInfo} (h : info P t = some i) (w : World) : (typeInfo t).run P w = .ok i w := by
  simp [typeInfo, info_eq h]
theorem run_size {t : TypeId} {n : Nat} (h : sizeP P t = some n) (w : World) : (sizeOf t).run P w = .ok n w := by
  unfold sizeP at h
  cases hi : info P t with
  | none => simp [hi] at h
  | some i => simp only [hi] at h; cases h; simp [sizeOf, run_info hi]
theorem run_agg {t : TypeId} {b : Bool} (h : aggP P t = some b) (w : World) : (isAgg t).run P w = .ok b w := by
  unfold aggP at h
  cases hu : und P t with
  | none => simp [hu] at h
  | some d =>
    simp only [hu] at h
    unfold isAgg
    simp only [Sem.run_bind, run_und hu, Result.andThen_ok]
    cases d <;> simp only at h <;> cases h <;> rfl

theorem readVar_rel (h : RelH P ρ H w) {t : TypeId} {i off : Nat} {a : AV} (hr : readVar P H t i off = some a) :
    ∃ loc v, ρ i = some loc ∧ (loadVar t ⟨loc.b, off, none⟩).run P w = .ok v w ∧ RelV ρ a v := by
  unfold readVar at hr
  cases ha : aggP P t with
  | none => simp [ha] at hr
  | some b =>
    cases b with
    | true =>
      simp only [ha] at hr
      cases hn : sizeP P t with
      | none => simp [hn] at hr
      | some n =>
        simp only [hn] at hr
        cases hc : readCells H i off n with
        | none => simp [hc] at hr
        | some l =>
          simp only [hc] at hr; cases hr
          obtain ⟨loc, vs, h1, h2, h3, _, h5, _⟩ := readCells_rel h hc
          refine ⟨loc, .agg vs.toArray, h1, ?_, by simp only [RelV]; exact ⟨_, rfl, by simpa using h2⟩⟩
          have hl := run_loadCells_list (P := P) w ⟨loc.b, off, none⟩ vs h5
          rw [h3] at hl
          unfold loadVar
          simp [run_agg ha, run_size hn, hl]
    | false =>
      simp only [ha] at hr
      split at hr
      case h_2 => cases hr
      rename_i tr size e tight ro ho
      cases hb : Nat.blt off size with
      | false => simp [hb] at hr
      | true =>
        simp only [hb, cond_true] at hr
        have hlt : off < size := Nat.lt_of_succ_le (Nat.le_of_ble_eq_true hb)
        obtain ⟨loc, h1, h2, h3⟩ := h.obj i _ ho
        simp only [RelO] at h3
        obtain ⟨c, e', fz, k1, k2, k3, _, k5, _⟩ := h3
        obtain ⟨a', v, m1, m2, m3, _⟩ := k5 off hlt
        rw [hr] at m1; cases m1
        refine ⟨loc, v, h1, ?_, m3⟩
        unfold loadVar
        simp [run_agg ha, cell_of k1, m2]

/- Stores. -/
theorem storeCells_run (g o : Nat) : ∀ (vs : List Value) (i : Nat) (c : Array Value) (e : TypeId) (fz : Nat × Nat) (w : World), w.heap[g]? = some (.cells c e fz) → o + i + vs.length ≤ c.size →
    (∀ j, j < c.size → ¬ (fz.1 ≤ j ∧ j < fz.2)) → (∀ v ∈ vs, v.oneCell' = true) →
    ∃ w' c', (storeCells ⟨g, o, none⟩ vs i).run P w = .ok () w' ∧ w'.heap.size = w.heap.size ∧ (∀ b, b ≠ g → w'.heap[b]? = w.heap[b]?) ∧ w'.heap[g]? = some (.cells c' e fz) ∧ c'.size = c.size ∧
      (∀ j, c'[j]? = if o + i ≤ j ∧ j < o + i + vs.length then vs[j - (o + i)]? else c[j]?) ∧ Still w w'
  | [], i, c, e, fz, w, hg, _, _, _ => ⟨w, c, rfl, rfl, fun _ _ => rfl, hg, rfl, fun j => by simp only [List.length_nil]; rw [if_neg (by omega)], Still.refl _⟩
  | v :: vs, i, c, e, fz, w, hg, hl, hf, h1 => by
    simp only [List.length_cons] at hl
    have hlt : o + i < c.size := by omega
    have hst : (store ((⟨g, o, none⟩ : Addr).add i) v).run P w = .ok () (w.setCell ⟨g, o + i, none⟩ v) := by
      rw [addr_add, run_store P w _ v _ (h1 v (by simp)), cell_of hg, Array.getElem?_eq_getElem hlt]
      have hz : w.frozen? ⟨g, o + i, none⟩ = false := by
        simp only [World.frozen?, hg]
        have := hf (o + i) hlt
        obtain ⟨lo, hi⟩ := fz
        simp only [Bool.and_eq_false_iff, decide_eq_false_iff_not]
        simp only at this
        omega
      simp [hz]
    have hg' : (w.setCell ⟨g, o + i, none⟩ v).heap[g]? = some (.cells (c.setIfInBounds (o + i) v) e fz) := by
      simp [World.setCell, Array.getElem?_modify, hg]
    obtain ⟨w', c', r1, r2, r3, r4, r5, r6, r7⟩ := storeCells_run g o vs (i + 1) (c.setIfInBounds (o + i) v) e fz _ hg' (by simp; omega) (by simpa using hf) (fun x hx => h1 x (by simp [hx]))
    refine ⟨w', c', ?_, ?_, ?_, r4, by simpa using r5, fun j => ?_, Still.trans (b := w.setCell ⟨g, o + i, none⟩ v) ⟨by simp [World.setCell], by simp [World.setCell]⟩ r7⟩
    · simp only [storeCells, Sem.run_bind, hst, Result.andThen_ok, r1]
    · rw [r2]; simp [World.setCell]
    · intro b hb
      rw [r3 b hb]
      simp [World.setCell, Array.getElem?_modify, Ne.symm hb]
    · rw [r6 j]
      by_cases e1 : o + (i + 1) ≤ j ∧ j < o + (i + 1) + vs.length
      · rw [if_pos e1, if_pos ⟨by omega, by simp; omega⟩, show j - (o + i) = (j - (o + (i + 1))) + 1 from by omega]; simp
      · rw [if_neg e1, Array.getElem?_setIfInBounds]
        by_cases e2 : j = o + i
        · subst e2
          rw [if_pos rfl, if_pos hlt, if_pos ⟨by omega, by simp⟩]; simp
        · rw [if_neg (fun h => e2 h.symm), if_neg (by simp; omega)]

theorem writeCells_rel (h : RelH P ρ H w) {i off : Nat} {l : List AV} {H' : AHeap} (hw : writeCells H i off l = some H') {vs : List Value} (hv : RelL ρ l vs) :
    ∃ loc w', ρ i = some loc ∧ (storeCells ⟨loc.b, off, none⟩ vs).run P w = .ok () w' ∧ RelH P ρ H' w' ∧ Ext ρ H w ρ H' w' := by
  unfold writeCells at hw
  split at hw
  case h_2 => cases hw
  rename_i t size e tight ho
  cases hb : Nat.ble (off + l.length) size && noAggs l with
  | false => simp [hb] at hw
  | true =>
    simp only [hb, cond_true, Option.some.injEq] at hw
    subst hw
    rw [Bool.and_eq_true] at hb
    have hle : off + l.length ≤ size := Nat.le_of_ble_eq_true hb.1
    obtain ⟨loc, h1, h2, h3⟩ := h.obj i _ ho
    have h3' := h3
    simp only [RelO] at h3
    obtain ⟨c, e', fz, k1, k2, k3, k4, k5, k6⟩ := h3
    have hlen := hv.length
    obtain ⟨w', c', r1, r2, r3, r4, r5, r6, r7⟩ := storeCells_run (P := P) loc.b off vs 0 c e' fz w k1 (by omega) (fun j hj => k6 trivial j (by omega)) (fun v hm => by
      obtain ⟨j, hj, rfl⟩ := List.getElem_of_mem hm
      have hj' : j < l.length := by omega
      obtain ⟨y, hy, hr⟩ := hv.get (List.getElem?_eq_getElem hj')
      rw [List.getElem?_eq_getElem hj] at hy; cases hy
      exact hr.one (noAggs_one hb.2 _ (List.getElem_mem hj')))
    refine ⟨loc, w', h1, r1, ?_⟩
    refine h.turn ho rfl h1 r2 r7 r3 ?_
    rw [r4]
    simp only [RelO]
    refine ⟨c', e', fz, rfl, by omega, k3, k4, fun j hj => ?_, k6⟩
    rw [Tree.get_putList, r6 j]
    simp only [Nat.add_zero]
    by_cases e1 : off ≤ j ∧ j < off + l.length
    · rw [if_pos e1, if_pos (by omega)]
      have hj' : j - off < l.length := by omega
      obtain ⟨y, hy, hr⟩ := hv.get (List.getElem?_eq_getElem hj')
      exact ⟨_, y, List.getElem?_eq_getElem hj', hy, hr, noAggs_one hb.2 _ (List.getElem_mem hj')⟩
    · rw [if_neg e1, if_neg (by omega)]
      exact k5 j hj
end Go.Am
