/-
  Part 14 of the proof that winch/winchlaw25.ChangeBodies returns true for every two bodies of small bulk: lemmas.
  Conditions: none beyond each theorem's own premises.
  What lies here:
  Calls with symbols, third part: comparing two sequences by rounds. Condition: the program's own facts, named in each theorem.
  A function that compares two slices of structs by another function, as slices.EqualFunc does. Condition: the program's own facts, named in the theorem.
  Tests of two rows, cell by cell, in whatever order a text has them; a function that is such tests. Condition: the program's own facts, named in the theorem.
-/
import Derived.Test.YtclhjedldbkgpaaGreatDoorBodies13
set_option linter.unusedVariables false
set_option linter.unusedSimpArgs false
set_option linter.unusedSectionVars false
namespace Go.Am

open Classical in
noncomputable def eqB {α : Type} (a b : α) : Bool := decide (a = b)
theorem eqB_true {α : Type} {a b : α} : eqB a b = true ↔ a = b := by unfold eqB; simp
theorem eqB_false {α : Type} {a b : α} : eqB a b = false ↔ a ≠ b := by unfold eqB; simp
theorem eqB_pos {α : Type} {a b : α} (h : a = b) : eqB a b = true := eqB_true.2 h
theorem eqB_neg {α : Type} {a b : α} (h : a ≠ b) : eqB a b = false := eqB_false.2 h

/-- A frame that stands at a loop's head. -/
def loopOf (p : Option (Func × AFrame × AHeap)) : Option (Func × AFrame × Code × List AItem) :=
  match p with
  | some (g, fr, _) => match fr.todo with
    | .code (.loop B) :: K => some (g, fr, B, K)
    | _ => none
  | none => none
def chkHead (p : Option (Func × AFrame × AHeap)) (d : Nat) (i : Int) (F : List (Nat × AV)) : Bool :=
  match loopOf p with
  | some (_, fr, _, K) => plainI K && slotsAre fr.tmps ((d, .int .i64 i) :: F)
  | none => false
/-- A round of the loop. -/
def roundSeg (P : Program) [Orc P] (p : Option (Func × AFrame × AHeap)) (F : List (Nat × AV)) (d q n : Nat) : Option (Func × AFrame × AHeap) :=
  match loopOf p with
  | some (g, fr, B, K) => some (g, seg P n (headFr fr.fn fr.n B K F d q) H0)
  | none => none
def todoOf (p : Option (Func × AFrame × AHeap)) : Option (List AItem) :=
  match p with
  | some (_, fr, _) => some fr.todo
  | none => none
def wantTodo (p : Option (Func × AFrame × AHeap)) : Option (List AItem) :=
  match loopOf p with
  | some (_, _, B, K) => some (.inLoop B :: K)
  | none => none
def retOf? (P : Program) [Orc P] (p : Option (Func × AFrame × AHeap)) : Option AV :=
  match p with
  | some (g, fr, H) => retOf P g fr H
  | none => none
def slotsOf (p : Option (Func × AFrame × AHeap)) (l : List (Nat × AV)) : Bool :=
  match p with
  | some (_, fr, _) => slotsAre fr.tmps l
  | none => false
theorem loopOf_spec {p : Option (Func × AFrame × AHeap)} {g : Func} {fr : AFrame} {B : Code} {K : List AItem} (h : loopOf p = some (g, fr, B, K)) : ∃ H, p = some (g, fr, H) ∧ fr.todo = .code (.loop B) :: K := by
  unfold loopOf at h
  split at h
  · split at h
    · rename_i e; cases h; exact ⟨_, rfl, e⟩
    · cases h
  · cases h

/-- A loop's start: what is known before its first round, and the loop's code. -/
structure Looping (P : Program) (p : Option (Func × AFrame × AHeap)) (f n : Nat) (g : Func) (B : Code) (K : List AItem) : Prop where
  at' : ∃ fr, loopOf p = some (g, fr, B, K) ∧ fr.fn = f ∧ fr.n = n
  plain : plainI K = true
  has : P.funcs[f]? = some g

section
variable {P : Program} {vals : List Value} {w : World} {R : Ending → World → Prop}
/-- A call that comes to a loop. -/
theorem Calls.loop (hmix : P.follows .mixedOrders = true) {es : List Ent} {cs : List CEnt} (hes : ∀ e ∈ es, EntOk P vals w e) (hcs : ∀ e ∈ cs, CallOk P vals w e) (hl : vals.length ≤ 1000) {f : FuncId} {args : List AV} {args' : Array Value} {n : Nat} {d : Nat} {i : Int} {F : List (Nat × AV)}
    (he : chkHead (@enterA P (orcOf P es cs) f args n) d i F = true) (ra : RelL (renOf vals) args args'.toList) (hF : ∀ e ∈ F, ∃ v, RelV (renOf vals) e.2 v)
    (k : ∀ (m : Nat) (g : Func) (B : Code) (K : List AItem), Looping P (@enterA P (orcOf P es cs) f args n) f m g B K → ∀ ks w' c', Grows w w' → LoopAt P vals f m B K F d i c' → Ends P c' ks w' R) : Calls P f args' w R := by
  unfold chkHead at he
  split at he
  case h_2 => cases he
  rename_i g fr B K hlo
  rw [Bool.and_eq_true] at he
  obtain ⟨H, hp, ht⟩ := loopOf_spec hlo
  refine Calls.enter hmix hes hcs hl hp ra fun ks ρ w' c' h1 h2 h3 hfn h4 h5 => ?_
  exact Ends.firstRound (vals := vals) (n := fr.n) (f := f) he.1 h1 h3 rfl hfn ht he.2 hF fun c2 l => k fr.n g B K ⟨⟨fr, hlo, hfn, rfl⟩, he.1, h4⟩ ks w' c2 h2 l
variable {f m n d : Nat} {g : Func} {B : Code} {K : List AItem} {F : List (Nat × AV)} {i : Int} {c : Frame} {ks : List Frame} {p : Option (Func × AFrame × AHeap)} {es : List Ent} {cs : List CEnt} {more : List Value}
theorem Looping.seg (hl : Looping P p f m g B K) (o : Orc P) (F : List (Nat × AV)) (d q n : Nat) : @roundSeg P o p F d q n = some (g, @Am.seg P o n (headFr f m B K F d q) H0) := by
  obtain ⟨fr, h1, h2, h3⟩ := hl.at'
  unfold roundSeg
  rw [h1]
  simp only [h2, h3]
/-- A round in which the call ends. -/
theorem LoopAt.ret (hmix : P.follows .mixedOrders = true) (hl : Looping P p f m g B K) (l : LoopAt P vals f m B K F d i c) (hes : ∀ e ∈ es, EntOk P (vals ++ .int .i64 i :: more) w e) (hcs : ∀ e ∈ cs, CallOk P (vals ++ .int .i64 i :: more) w e) (hv : (vals ++ .int .i64 i :: more).length ≤ 1000)
    {a : AV} (hr : @retOf? P (orcOf P es cs) (@roundSeg P (orcOf P es cs) p F d vals.length n) = some a) (k : ∀ ρ w' v, (renOf (vals ++ .int .i64 i :: more)).le ρ → Grows w w' → RelV ρ a v → R (.returned v) w') : Ends P c ks w R := by
  rw [hl.seg] at hr
  refine Ends.seg hmix hes hcs hv (l.here hl.plain more) n fun ρ w' c' h1 h2 h3 h4 h5 => ?_
  refine @Ends.ret P (orcOf P es cs) (okOf P es cs (vals ++ .int .i64 i :: more) w hes hcs) ρ _ g a w' _ c' ks R h3 ?_ h5 hr fun v hv' => k ρ w' v h1 h2 hv'
  rw [← h3.fn, h4, l.fn]
  exact hl.has
/-- A round that comes to the next one. -/
theorem LoopAt.next (hmix : P.follows .mixedOrders = true) (hl : Looping P p f m g B K) (l : LoopAt P vals f m B K F d i c) (hes : ∀ e ∈ es, EntOk P (vals ++ .int .i64 i :: more) w e) (hcs : ∀ e ∈ cs, CallOk P (vals ++ .int .i64 i :: more) w e) (hv : (vals ++ .int .i64 i :: more).length ≤ 1000)
    (ht : todoOf (@roundSeg P (orcOf P es cs) p F d vals.length n) = wantTodo p) {j : Nat} {i' : Int} (hj : (vals ++ .int .i64 i :: more)[j]? = some (.int .i64 i')) (hs : slotsOf (@roundSeg P (orcOf P es cs) p F d vals.length n) ((d, .sym (1000 + j)) :: F) = true)
    (hF : ∀ e ∈ F, ∃ v, RelV (renOf vals) e.2 v) (k : ∀ w' c', Grows w w' → LoopAt P vals f m B K F d i' c' → Ends P c' ks w' R) : Ends P c ks w R := by
  have hw : wantTodo p = some (.inLoop B :: K) := by
    obtain ⟨fr, h1, _⟩ := hl.at'
    unfold wantTodo
    rw [h1]
  rw [hw, hl.seg] at ht
  rw [hl.seg] at hs
  have ht := Option.some.inj ht
  refine Ends.seg hmix hes hcs hv (l.here hl.plain more) n fun ρ w' c' h1 h2 h3 h4 h5 => ?_
  exact Ends.nextRound hl.plain h1 h3 ⟨_, rfl⟩ (by rw [@seg_n P (orcOf P es cs)]; rfl) (by rw [← h3.fn, h4, l.fn]) ht hj hs hF fun c2 l2 => k w' c2 h2 l2
end
end Go.Am
set_option linter.unusedSectionVars false
namespace Go.Am

/-- All blocks. -/
abbrev Any : Nat → Prop := fun _ => True
/-- A function tells whether two rows are the same. -/
def SameRow (P : Program) (tb : Tab) (g : FuncId) (E : TypeId) (x y : List T) : Prop :=
  ∀ (w : World) (vs us : List Value), RdVals tb Any w (tb.flat E) vs x → RdVals tb Any w (tb.flat E) us y → Calls P g #[.agg vs.toArray, .agg us.toArray] w fun e w' => e = .returned (.bool (eqB x y)) ∧ Grows w w'
/-- A function tells whether two sequences are the same; behind the two values it takes others. -/
def SameSeq (P : Program) (tb : Tab) (f : FuncId) (t : TypeId) (rest : List Value) (x y : List T) : Prop :=
  ∀ (w : World) (v u : Value), RdC tb Any w t v (.seq x) → RdC tb Any w t u (.seq y) → Calls P f (v :: u :: rest).toArray w fun e w' => e = .returned (.bool (eqB x y)) ∧ Grows w w'

theorem seq_slice {tb : Tab} {S : Nat → Prop} {w : World} {t : TypeId} {v : Value} {x : List T} (h : RdC tb S w t v (.seq x)) : sliceIs v x.length := by
  simp only [RdC] at h
  obtain ⟨E, _, h⟩ := h
  rcases h with ⟨rfl, a, rfl⟩ | ⟨b, off, cap, rfl, h2, _⟩
  · exact Or.inl ⟨rfl, a, rfl⟩
  · exact Or.inr ⟨b, off, cap, rfl, h2⟩
/-- One element of a slice that is read. -/
theorem seq_at {tb : Tab} {S : Nat → Prop} {w : World} {t E : TypeId} (he : tb.elem t = some E) {v : Value} {x : List T} (h : RdC tb S w t v (.seq x)) {i : Nat} {y : T} (hi : x[i]? = some y) :
    ∃ b off cap cells vs, v = .slice (some ⟨b, off, none⟩) x.length cap ∧ x.length ≤ cap ∧ b < w.heap.size ∧ S b ∧ y = .row cells ∧ RdVals tb S w (tb.flat E) vs cells ∧ (∀ (j : Nat) u, vs[j]? = some u → w.cell? ⟨b, off + i * (tb.flat E).length + j, none⟩ = some u) := by
  simp only [RdC] at h
  obtain ⟨E', he', h⟩ := h
  rw [he] at he'
  cases he'
  rcases h with ⟨rfl, a, rfl⟩ | ⟨b, off, cap, rfl, h2, h3, h4, h5⟩
  · simp at hi
  · obtain ⟨cells, rfl, h6⟩ := h5.at i y hi
    obtain ⟨vs, h7, h8⟩ := h6.vals
    exact ⟨b, off, cap, cells, vs, rfl, h2, h3, h4, rfl, h7, h8⟩
theorem RdVals.ones {tb : Tab} {S : Nat → Prop} {w : World} : ∀ {ts : List TypeId} {vs : List Value} {xs : List T}, RdVals tb S w ts vs xs → ∀ (j : Nat) (v : Value), vs[j]? = some v → v.oneCell' = true
  | [], vs, xs, h, j, v, hj => by simp only [RdVals] at h; obtain ⟨rfl, rfl⟩ := h; simp at hj
  | t :: ts, vs, xs, h, j, v, hj => by
    simp only [RdVals] at h
    obtain ⟨u, vs', x, xs', rfl, rfl, h3, h4⟩ := h
    cases j with
    | zero => simp only [List.getElem?_cons_zero, Option.some.injEq] at hj; subst hj; exact h3.one
    | succ j => exact RdVals.ones h4 j v (by simpa using hj)

theorem kept_grows {w w' : World} (h : ∀ b, b < w.heap.size → w'.heap[b]? = w.heap[b]?) : Keeps w w' := by
  refine ⟨?_, h⟩
  rcases Nat.lt_or_ge w'.heap.size w.heap.size with hlt | hge
  · have := h w'.heap.size hlt
    rw [Array.getElem?_eq_none (Nat.le_refl _), Array.getElem?_eq_getElem hlt] at this
    cases this
  · exact hge

/- EqualFunc: the slots are those of the program's instances. -/
def efStart (tS : TypeId) (c : Bool) : List Ent := [(.len tS, [.sym 1000], .sym 1002), (.len tS, [.sym 1001], .sym 1003), (.neq 3, [.sym 1002, .sym 1003], .bool c)]
def efArgs (g : FuncId) : List AV := [.sym 1000, .sym 1001, .fn (.func g) [] []]
def efF (g : FuncId) : List (Nat × AV) := [(0, .sym 1000), (1, .sym 1001), (2, .fn (.func g) [] []), (6, .bool false), (15, .sym 1000), (16, .sym 1002)]
def efEnd : List Ent := [(.lss 3, [.sym 1003, .sym 1002], .bool false)]
def efRound (tS E : TypeId) (m : Nat) : List Ent := [(.lss 3, [.sym 1003, .sym 1002], .bool true), (.idx tS, [.sym 1000, .sym 1003], .sym 1004), (.load E, [.sym 1004], .agg (symL 7 m)),
  (.idx tS, [.sym 1001, .sym 1003], .sym 1005), (.load E, [.sym 1005], .agg (symL (7 + m) m)), (.add 3, [.sym 1003, .int .i64 1], .sym 1006)]
def efCall (g : FuncId) (m : Nat) (c : Bool) : List CEnt := [(g, [.agg (symL 7 m), .agg (symL (7 + m) m)], .bool c)]
/-- What the program's own text must come to. -/
structure EfFacts (P : Program) (f g : FuncId) (tS E : TypeId) (m : Nat) : Prop where
  differ : @retF P (orcOf P (efStart tS true) []) f (efArgs g) 100 = some (.bool false)
  head : chkHead (@enterA P (orcOf P (efStart tS false) []) f (efArgs g) 100) 17 0 (efF g) = true
  stop : @retOf? P (orcOf P efEnd []) (@roundSeg P (orcOf P efEnd []) (@enterA P (orcOf P (efStart tS false) []) f (efArgs g) 100) (efF g) 17 3 100) = some (.bool true)
  todo : todoOf (@roundSeg P (orcOf P (efRound tS E m) (efCall g m true)) (@enterA P (orcOf P (efStart tS false) []) f (efArgs g) 100) (efF g) 17 3 100) = wantTodo (@enterA P (orcOf P (efStart tS false) []) f (efArgs g) 100)
  slots : slotsOf (@roundSeg P (orcOf P (efRound tS E m) (efCall g m true)) (@enterA P (orcOf P (efStart tS false) []) f (efArgs g) 100) (efF g) 17 3 100) ((17, .sym 1006) :: efF g) = true
  unlike : @retOf? P (orcOf P (efRound tS E m) (efCall g m false)) (@roundSeg P (orcOf P (efRound tS E m) (efCall g m false)) (@enterA P (orcOf P (efStart tS false) []) f (efArgs g) 100) (efF g) 17 3 100) = some (.bool false)

theorem bool_val {ρ : Ren} {b : Bool} {v : Value} (h : RelV ρ (.bool b) v) : v = .bool b := by simpa only [RelV] using h
theorem eqFunc {P : Program} (hmix : P.follows .mixedOrders = true) {tb : Tab} {f g : FuncId} {tS E : TypeId} {m : Nat} (k : EfFacts P f g tS E m) (hel : tb.elem tS = some E) (hm : (tb.flat E).length = m) (hm0 : 0 < m) (hm1 : m ≤ 400) (hu : und P tS = some (.slice E)) (ha : aggP P E = some true) (hz : sizeP P E = some m)
    {x y : List T} (hx : x.length < 9223372036854775807) (hg : ∀ (i : Nat) a b, x[i]? = some (.row a) → y[i]? = some (.row b) → SameRow P tb g E a b) : SameSeq P tb f tS [.func (.func g) #[] #[]] x y := by
  intro w v u hv hu'
  have sx := seq_slice hv
  have sy := seq_slice hu'
  have ra : ∀ vals, vals[0]? = some v → vals[1]? = some u → RelL (renOf vals) (efArgs g) [v, u, .func (.func g) #[] #[]] := fun vals h0 h1 => by
    simp only [efArgs, RelL]
    refine ⟨_, _, rfl, sym_rel (k := 0) h0 (slice_one sx), _, _, rfl, sym_rel (k := 1) h1 (slice_one sy), _, _, rfl, ?_, rfl⟩
    simp only [RelV, RelL]
    exact ⟨g, #[], #[], rfl, rfl, rfl, rfl⟩
  have start : ∀ c, (c = true ↔ x.length ≠ y.length) → ∀ e ∈ efStart tS c, EntOk P [v, u, .int .i64 x.length, .int .i64 y.length] w e := by
    intro c hc e he
    simp only [efStart, List.mem_cons, List.not_mem_nil, or_false] at he
    rcases he with rfl | rfl | rfl
    · exact ent_len (i := 0) (j := 2) hu rfl rfl sx
    · exact ent_len (i := 1) (j := 3) hu rfl rfl sy
    · exact ent_neq (k := 0) (i := 2) (j := 3) rfl rfl ⟨_, rfl⟩ ⟨_, rfl⟩ (fun h => by cases h) (by rw [hc]; simp; omega)
  by_cases hlen : x.length = y.length
  case neg =>
    refine Calls.straight (vals := [v, u, .int .i64 x.length, .int .i64 y.length]) hmix (start true (by simpa using hlen)) (fun _ h => by cases h) (by simp) 100 k.differ (ra _ rfl rfl) fun ρ w' v' _ h2 h3 => ?_
    rw [bool_val h3, eqB_neg (fun e => hlen (by rw [e]))]
    exact ⟨rfl, h2⟩
  have hF : ∀ e ∈ efF g, ∃ v', RelV (renOf [v, u, .int .i64 x.length]) e.2 v' := by
    intro e he
    simp only [efF, List.mem_cons, List.not_mem_nil, or_false] at he
    rcases he with rfl | rfl | rfl | rfl | rfl | rfl
    · exact ⟨_, sym_rel (k := 0) rfl (slice_one sx)⟩
    · exact ⟨_, sym_rel (k := 1) rfl (slice_one sy)⟩
    · exact ⟨.func (.func g) #[] #[], by simp only [RelV, RelL]; exact ⟨g, #[], #[], rfl, rfl, rfl, rfl⟩⟩
    · exact ⟨.bool false, by simp only [RelV]⟩
    · exact ⟨_, sym_rel (k := 0) rfl (slice_one sx)⟩
    · exact ⟨_, sym_rel (k := 2) rfl rfl⟩
  refine Calls.loop (vals := [v, u, .int .i64 x.length, .int .i64 y.length]) hmix (start false (by simpa using hlen)) (fun _ h => by cases h) (by simp) k.head (ra _ rfl rfl) (fun e he => by
    obtain ⟨v', hv'⟩ := hF e he
    exact ⟨v', RelV.mono (renOf_le (vals := [v, u, .int .i64 x.length]) (more := [.int .i64 y.length])) _ _ hv'⟩) fun fn fg B K hl ks w1 c1 g1 l1 => ?_
  have l1 : LoopAt P [v, u, .int .i64 x.length] f fn B K (efF g) 17 0 c1 :=
    ⟨l1.mode, l1.defers, l1.lone, l1.kind, l1.fn, l1.has, l1.size, plainI_any (by simpa [plainI] using hl.plain) l1.todo, fun e he => by
      obtain ⟨v', hv'⟩ := hF e he
      exact RelV.back (renOf_le (vals := [v, u, .int .i64 x.length]) (more := [.int .i64 y.length])) hv' (l1.slots e he), l1.ctr⟩
  -- the rounds, with what has been compared
  have key : ∀ (i : Nat) (w2 : World) (c2 : Frame), i ≤ x.length → Grows w w2 → LoopAt P [v, u, .int .i64 x.length] f fn B K (efF g) 17 i c2 → (∀ j, j < i → x[j]? = y[j]?) → Ends P c2 ks w2 fun e w' => e = .returned (.bool (eqB x y)) ∧ Grows w w' := by
    intro i
    generalize hj : x.length - i = j
    induction j generalizing i with
    | zero =>
      intro w2 c2 hi hg2 l2 hp
      have hix : i = x.length := by omega
      refine l2.ret (es := efEnd) (cs := []) (more := []) hmix hl (fun e he => ?_) (fun _ h => by cases h) (by simp) k.stop fun ρ w' v' _ h2 h3 => ?_
      · simp only [efEnd, List.mem_cons, List.not_mem_nil, or_false] at he
        subst he
        exact ent_lss (i := 3) (j := 2) rfl rfl (by simp; omega)
      · rw [bool_val h3, eqB_pos]
        · exact ⟨rfl, hg2.trans h2⟩
        · apply List.ext_getElem?
          intro n
          by_cases hn : n < i
          · exact hp n hn
          · rw [List.getElem?_eq_none (by omega), List.getElem?_eq_none (by omega)]
    | succ j ih =>
      intro w2 c2 hi hg2 l2 hp
      have hlt : i < x.length := by omega
      have hv2 := hv.grows hg2
      have hu2 := hu'.grows hg2
      obtain ⟨b, off, cap, xs, vs, e1, e2, e3, _, e4, e5, e6⟩ := seq_at hel hv2 (List.getElem?_eq_getElem hlt)
      obtain ⟨b', off', cap', ys, us, d1, d2, d3, _, d4, d5, d6⟩ := seq_at hel hu2 (List.getElem?_eq_getElem (by omega : i < y.length))
      have lv := e5.len.1
      have lu := d5.len.1
      rw [hm] at lv lu e6 d6
      have hxi : x[i]? = some (.row xs) := by rw [List.getElem?_eq_getElem hlt, e4]
      have hyi : y[i]? = some (.row ys) := by rw [List.getElem?_eq_getElem (by omega : i < y.length), d4]
      have hvals : ∀ (c : Bool), ([v, u, .int .i64 x.length] ++ Value.int .i64 i :: (.pointer (some ⟨b, off + i * m, none⟩) :: .pointer (some ⟨b', off' + i * m, none⟩) :: .int .i64 ((i + 1 : Nat) : Int) :: (vs ++ us))).length ≤ 1000 := fun _ => by simp; omega
      have hes : ∀ e ∈ efRound tS E m, EntOk P ([v, u, .int .i64 x.length] ++ Value.int .i64 i :: (.pointer (some ⟨b, off + i * m, none⟩) :: .pointer (some ⟨b', off' + i * m, none⟩) :: .int .i64 ((i + 1 : Nat) : Int) :: (vs ++ us))) w2 e := by
        intro e he
        simp only [efRound, List.mem_cons, List.not_mem_nil, or_false] at he
        rcases he with rfl | rfl | rfl | rfl | rfl | rfl
        · exact ent_lss (i := 3) (j := 2) rfl rfl (by simp; omega)
        · exact ent_idx (i := 0) (j := 3) (k := 4) hu hz hm0 (by simp [e1]) e2 rfl hlt rfl
        · rw [← lv]
          exact ent_load_agg (i := 4) (k := 7) ha (by rw [lv]; exact hz) e3 e6 (by simp [lv]) fun j z hz' => ⟨by
            have := (List.getElem?_eq_some_iff.1 hz').1
            rw [show 7 + j = j + 7 by omega]
            simp
            rw [List.getElem?_append_left this]
            exact hz', e5.ones j z hz'⟩
        · exact ent_idx (i := 1) (j := 3) (k := 5) hu hz hm0 (by simp [d1]) d2 rfl (by omega) rfl
        · rw [← lu]
          exact ent_load_agg (i := 5) (k := 7 + us.length) ha (by rw [lu]; exact hz) d3 d6 (by simp [lu]) fun j z hz' => ⟨by
            rw [show 7 + us.length + j = (us.length + j) + 7 by omega]
            simp
            rw [List.getElem?_append_right (by omega), show us.length + j - vs.length = j by omega]
            exact hz', d5.ones j z hz'⟩
        · exact ent_succ (i := 3) (j := 6) rfl rfl (by omega)
      have hcs : ∀ c, c = eqB xs ys → ∀ e ∈ efCall g m c, CallOk P ([v, u, .int .i64 x.length] ++ Value.int .i64 i :: (.pointer (some ⟨b, off + i * m, none⟩) :: .pointer (some ⟨b', off' + i * m, none⟩) :: .int .i64 ((i + 1 : Nat) : Int) :: (vs ++ us))) w2 e := by
        intro c hc e he
        simp only [efCall, List.mem_cons, List.not_mem_nil, or_false] at he
        subst he
        refine ⟨[.agg vs.toArray, .agg us.toArray], .bool c, ?_, by simp only [RelV], fun w' hk => ?_⟩
        · simp only [RelL, RelV]
          refine ⟨_, _, rfl, ⟨_, rfl, ?_⟩, _, _, rfl, ⟨_, rfl, ?_⟩, rfl⟩
          · rw [← lv]
            exact symL_rel fun j z hz' => ⟨by
              have := (List.getElem?_eq_some_iff.1 hz').1
              rw [show 7 + j = j + 7 by omega]
              simp
              rw [List.getElem?_append_left this]
              exact hz', e5.ones j z hz'⟩
          · rw [← lu]
            exact symL_rel fun j z hz' => ⟨by
              rw [show 7 + us.length + j = (us.length + j) + 7 by omega]
              simp
              rw [List.getElem?_append_right (by omega), show us.length + j - vs.length = j by omega]
              exact hz', d5.ones j z hz'⟩
        · have hgw := kept_grows hk
          rw [hc]
          exact hg i xs ys hxi hyi w' vs us (e5.keeps hgw) (d5.keeps hgw)
      by_cases hxy : xs = ys
      · refine l2.next (es := efRound tS E m) (cs := efCall g m true) hmix hl hes (hcs true (by rw [eqB_pos hxy])) (hvals true) k.todo (j := 6) (i' := ((i + 1 : Nat) : Int)) rfl k.slots hF fun w3 c3 g3 l3 => ?_
        exact ih (i + 1) (by omega) w3 c3 (by omega) (hg2.trans g3) l3 fun n hn => by
          by_cases hn' : n < i
          · exact hp n hn'
          · have : n = i := by omega
            subst this
            rw [hxi, hyi, hxy]
      · refine l2.ret (es := efRound tS E m) (cs := efCall g m false) hmix hl hes (hcs false (by rw [eqB_neg hxy])) (hvals true) k.unlike fun ρ w' v' _ h2 h3 => ?_
        rw [bool_val h3, eqB_neg]
        · exact ⟨rfl, hg2.trans h2⟩
        · intro e
          rw [e, hyi] at hxi
          injection hxi with h
          injection h with h
          exact hxy h.symm
  exact key 0 w1 c1 (Nat.zero_le _) g1 l1 fun j hj => absurd hj (Nat.not_lt_zero _)
end Go.Am
set_option linter.unusedSectionVars false
namespace Go.Am

/-- One test: of two plain cells; of two sequences by a function; of two parts of the rows by a function. -/
inductive Test where
  | sc (j : Nat) (t : TypeId) (ne : Bool)
  | seq (j : Nat) (f : FuncId) (g : Option FuncId)
  | row (j l : Nat) (f : FuncId)
  | ln (j : Nat) (t : TypeId) (k1 k2 : Nat)
  | agne (j l : Nat) (t : TypeId)
def fnAV : Option FuncId → List AV
  | none => []
  | some g => [.fn (.func g) [] []]
def fnV : Option FuncId → List Value
  | none => []
  | some g => [.func (.func g) #[] #[]]
theorem fn_rel {ρ : Ren} (g : Option FuncId) : RelL ρ (fnAV g) (fnV g) := by
  cases g with
  | none => simp only [fnAV, fnV, RelL]
  | some g =>
    simp only [fnAV, fnV, RelL, RelV]
    exact ⟨_, _, rfl, ⟨g, #[], #[], rfl, rfl, rfl, rfl⟩, rfl⟩
def Test.ents (b1 b2 : Nat) (b : Bool) : Test → List Ent
  | .sc j t false => [(.eql t, [.sym (1000 + (b1 + j)), .sym (1000 + (b2 + j))], .bool b)]
  | .sc j t true => [(.neq t, [.sym (1000 + (b1 + j)), .sym (1000 + (b2 + j))], .bool (!b))]
  | .seq _ _ _ => []
  | .row _ _ _ => []
  | .ln j t k1 k2 => [(.len t, [.sym (1000 + (b1 + j))], .sym (1000 + k1)), (.len t, [.sym (1000 + (b2 + j))], .sym (1000 + k2)), (.neq 3, [.sym (1000 + k1), .sym (1000 + k2)], .bool (!b))]
  | .agne j l t => [(.neq t, [.agg (symL (b1 + j) l), .agg (symL (b2 + j) l)], .bool (!b))]
def Test.calls (b1 b2 : Nat) (b : Bool) : Test → List CEnt
  | .sc _ _ _ => []
  | .seq j f g => [(f, .sym (1000 + (b1 + j)) :: .sym (1000 + (b2 + j)) :: fnAV g, .bool b)]
  | .row j l f => [(f, [.agg (symL (b1 + j) l), .agg (symL (b2 + j) l)], .bool b)]
  | .ln _ _ _ _ => []
  | .agne _ _ _ => []
/-- The answers when all tests before a number tell the same, and that one does not. -/
def entsQ (b1 b2 : Nat) : List Test → Nat → List Ent
  | [], _ => []
  | t :: _, 0 => t.ents b1 b2 false
  | t :: ts, q + 1 => t.ents b1 b2 true ++ entsQ b1 b2 ts q
def callsQ (b1 b2 : Nat) : List Test → Nat → List CEnt
  | [], _ => []
  | t :: _, 0 => t.calls b1 b2 false
  | t :: ts, q + 1 => t.calls b1 b2 true ++ callsQ b1 b2 ts q
def Test.same (x y : List T) : Test → Prop
  | .sc j _ _ => x[j]? = y[j]?
  | .seq j _ _ => x[j]? = y[j]?
  | .row j l _ => (x.drop j).take l = (y.drop j).take l
  | .ln j _ _ _ => ∀ lx ly, x[j]? = some (.seq lx) → y[j]? = some (.seq ly) → lx.length = ly.length
  | .agne j l _ => (x.drop j).take l = (y.drop j).take l
def Test.covers (j : Nat) : Test → Bool
  | .sc i _ _ => Nat.beq i j
  | .seq i _ _ => Nat.beq i j
  | .row i l _ => Nat.ble i j && Nat.blt j (i + l)
  | .ln _ _ _ _ => false
  | .agne i l _ => Nat.ble i j && Nat.blt j (i + l)
/-- Where a test wants further symbols. -/
def Test.at (vals : List Value) (x y : List T) : Test → Prop
  | .ln j _ k1 k2 => ∀ lx ly, x[j]? = some (.seq lx) → y[j]? = some (.seq ly) → vals[k1]? = some (.int .i64 lx.length) ∧ vals[k2]? = some (.int .i64 ly.length)
  | _ => True
def Test.plain : Test → Bool
  | .ln _ _ _ _ => false
  | _ => true
theorem Test.at_plain {vals : List Value} {x y : List T} {tests : List Test} (h : (tests.all Test.plain) = true) : ∀ t ∈ tests, t.at vals x y := fun t ht => by
  rw [List.all_eq_true] at h
  have := h t ht
  cases t <;> first | trivial | cases this
/-- Aggregates of a type are compared cell by cell. -/
def AggNe (P : Program) (tb : Tab) (t : TypeId) (ts : List TypeId) : Prop :=
  ∀ (w : World) (vs us : List Value) (xs ys : List T), RdVals tb Any w ts vs xs → RdVals tb Any w ts us ys → ∀ (o : Oper) (evc : Operand → Value) (a b : Operand) (u : TypeId), o.op = .binOp .neq t a b u → evc a = .agg vs.toArray → evc b = .agg us.toArray →
    ∀ w', (execOp evc o).run P w' = .ok (.value (.bool (!eqB xs ys))) w'
/-- What is asked of a test. -/
def Test.ok (P : Program) (tb : Tab) (ts : List TypeId) (x y : List T) : Test → Prop
  | .sc j t _ => ∃ c k, ts[j]? = some c ∧ tb.kind c = some k ∧ tb.elem c = none ∧ KindIs P k t
  | .seq j f g => ∃ c, ts[j]? = some c ∧ tb.kind c = none ∧ ∀ lx ly, x[j]? = some (.seq lx) → y[j]? = some (.seq ly) → SameSeq P tb f c (fnV g) lx ly
  | .row j l f => ∃ E, (ts.drop j).take l = tb.flat E ∧ (tb.flat E).length = l ∧ SameRow P tb f E ((x.drop j).take l) ((y.drop j).take l)
  | .ln j t _ _ => ∃ c E, ts[j]? = some c ∧ tb.kind c = none ∧ und P t = some (.slice E)
  | .agne j l t => ((ts.drop j).take l).length = l ∧ AggNe P tb t ((ts.drop j).take l)

theorem RdVals.at {tb : Tab} {S : Nat → Prop} {w : World} : ∀ {ts : List TypeId} {vs : List Value} {xs : List T}, RdVals tb S w ts vs xs → ∀ (j : Nat) (t : TypeId), ts[j]? = some t → ∃ v x, vs[j]? = some v ∧ xs[j]? = some x ∧ RdC tb S w t v x
  | [], vs, xs, h, j, t, hj => by simp at hj
  | t' :: ts, vs, xs, h, j, t, hj => by
    simp only [RdVals] at h
    obtain ⟨v, vs', x, xs', rfl, rfl, h3, h4⟩ := h
    cases j with
    | zero => simp only [List.getElem?_cons_zero, Option.some.injEq] at hj; subst hj; exact ⟨v, x, rfl, rfl, h3⟩
    | succ j =>
      obtain ⟨v', x', q1, q2, q3⟩ := RdVals.at h4 j t (by simpa using hj)
      exact ⟨v', x', by simpa using q1, by simpa using q2, q3⟩
theorem RdVals.take {tb : Tab} {S : Nat → Prop} {w : World} : ∀ (l : Nat) {ts : List TypeId} {vs : List Value} {xs : List T}, RdVals tb S w ts vs xs → RdVals tb S w (ts.take l) (vs.take l) (xs.take l)
  | 0, ts, vs, xs, h => by simp [RdVals]
  | l + 1, [], vs, xs, h => by simp only [RdVals] at h; obtain ⟨rfl, rfl⟩ := h; simp [RdVals]
  | l + 1, t :: ts, vs, xs, h => by
    simp only [RdVals] at h
    obtain ⟨v, vs', x, xs', rfl, rfl, h3, h4⟩ := h
    simp only [List.take_succ_cons, RdVals]
    exact ⟨v, _, x, _, rfl, rfl, h3, RdVals.take l h4⟩
theorem RdVals.drop {tb : Tab} {S : Nat → Prop} {w : World} : ∀ (l : Nat) {ts : List TypeId} {vs : List Value} {xs : List T}, RdVals tb S w ts vs xs → RdVals tb S w (ts.drop l) (vs.drop l) (xs.drop l)
  | 0, ts, vs, xs, h => by simpa using h
  | l + 1, [], vs, xs, h => by simp only [RdVals] at h; obtain ⟨rfl, rfl⟩ := h; simp [RdVals]
  | l + 1, t :: ts, vs, xs, h => by
    simp only [RdVals] at h
    obtain ⟨v, vs', x, xs', rfl, rfl, h3, h4⟩ := h
    simpa using RdVals.drop l h4
theorem rd_val {tb : Tab} {S : Nat → Prop} {w : World} {c : TypeId} {v : Value} {x : T} (h : RdC tb S w c v x) (he : tb.elem c = none) : x = .val v ∧ ∃ k, tb.kind c = some k ∧ plainK k v := by
  cases x with
  | val a => simp only [RdC] at h; obtain ⟨rfl, h⟩ := h; exact ⟨rfl, h⟩
  | row l => simp only [RdC] at h
  | seq l => simp only [RdC] at h; obtain ⟨E, h1, _⟩ := h; rw [he] at h1; cases h1
theorem rd_seq {tb : Tab} {S : Nat → Prop} {w : World} {c : TypeId} {v : Value} {x : T} (h : RdC tb S w c v x) (hk : tb.kind c = none) : ∃ l, x = .seq l := by
  cases x with
  | val a => simp only [RdC] at h; obtain ⟨rfl, k, h1, _⟩ := h; rw [hk] at h1; cases h1
  | row l => simp only [RdC] at h
  | seq l => exact ⟨l, rfl⟩

section
variable {P : Program} {tb : Tab} {vals : List Value} {w : World} {ts : List TypeId} {vs us : List Value} {x y : List T} {b1 b2 : Nat}
theorem Test.ents_ok (hv : RdVals tb Any w ts vs x) (hu : RdVals tb Any w ts us y) (h1 : ∀ (j : Nat) v, vs[j]? = some v → vals[b1 + j]? = some v) (h2 : ∀ (j : Nat) v, us[j]? = some v → vals[b2 + j]? = some v) {t : Test} (ht : t.ok P tb ts x y) (hat : t.at vals x y) {b : Bool} (hb : b = true ↔ t.same x y) :
    (∀ e ∈ t.ents b1 b2 b, EntOk P vals w e) ∧ ∀ e ∈ t.calls b1 b2 b, CallOk P vals w e := by
  cases t with
  | sc j t ne =>
    obtain ⟨c, k, q1, q2, q3, q4⟩ := ht
    obtain ⟨v, xj, r1, r2, r3⟩ := hv.at j c q1
    obtain ⟨u, yj, s1, s2, s3⟩ := hu.at j c q1
    obtain ⟨rfl, k1, l1, m1⟩ := rd_val r3 q3
    obtain ⟨rfl, k2, l2, m2⟩ := rd_val s3 q3
    rw [q2] at l1 l2
    cases l1; cases l2
    have hbb : b = true ↔ v = u := by
      rw [hb]
      simp only [Test.same, r2, s2, Option.some.injEq, T.val.injEq]
    refine ⟨fun e he => ?_, fun e he => by simp [Test.calls] at he⟩
    cases ne with
    | false =>
      simp only [Test.ents, List.mem_cons, List.not_mem_nil, or_false] at he
      subst he
      exact ent_eql (h1 j v r1) (h2 j u s1) m1 m2 q4 hbb
    | true =>
      simp only [Test.ents, List.mem_cons, List.not_mem_nil, or_false] at he
      subst he
      exact ent_neq (h1 j v r1) (h2 j u s1) m1 m2 q4 (by rw [Bool.not_eq_true', ← Bool.not_eq_true, hbb])
  | seq j f g =>
    obtain ⟨c, q1, q2, q3⟩ := ht
    obtain ⟨v, xj, r1, r2, r3⟩ := hv.at j c q1
    obtain ⟨u, yj, s1, s2, s3⟩ := hu.at j c q1
    obtain ⟨lx, rfl⟩ := rd_seq r3 q2
    obtain ⟨ly, rfl⟩ := rd_seq s3 q2
    refine ⟨fun e he => by simp [Test.ents] at he, fun e he => ?_⟩
    simp only [Test.calls, List.mem_cons, List.not_mem_nil, or_false] at he
    subst he
    refine ⟨v :: u :: fnV g, .bool b, ?_, by simp only [RelV], fun w' hk => ?_⟩
    · simp only [RelL]
      exact ⟨_, _, rfl, sym_rel (h1 j v r1) r3.one, _, _, rfl, sym_rel (h2 j u s1) s3.one, fn_rel g⟩
    · have hgw := kept_grows hk
      have e : b = eqB lx ly := by
        have hq : b = true ↔ lx = ly := by
          rw [hb]
          simp only [Test.same, r2, s2, Option.some.injEq, T.seq.injEq]
        cases b with
        | true => exact (eqB_pos (hq.1 rfl)).symm
        | false => exact (eqB_neg fun h => by have := hq.2 h; cases this).symm
      rw [e]
      exact q3 lx ly r2 s2 w' v u (r3.keeps hgw) (s3.keeps hgw)
  | row j l f =>
    obtain ⟨E, q1, q2, q3⟩ := ht
    refine ⟨fun e he => by simp [Test.ents] at he, fun e he => ?_⟩
    simp only [Test.calls, List.mem_cons, List.not_mem_nil, or_false] at he
    subst he
    have hv' := (hv.drop j).take l
    have hu' := (hu.drop j).take l
    rw [q1] at hv' hu'
    have lv := hv'.len.1
    have lu := hu'.len.1
    refine ⟨[.agg ((vs.drop j).take l).toArray, .agg ((us.drop j).take l).toArray], .bool b, ?_, by simp only [RelV], fun w' hk => ?_⟩
    · simp only [RelL, RelV]
      refine ⟨_, _, rfl, ⟨_, rfl, ?_⟩, _, _, rfl, ⟨_, rfl, ?_⟩, rfl⟩
      · have hl : l = ((vs.drop j).take l).length := by rw [lv, q2]
        have := symL_rel (vals := vals) (vs := (vs.drop j).take l) (k := b1 + j) fun i v hi => by
          refine ⟨?_, hv'.ones i v hi⟩
          rw [List.getElem?_take] at hi
          split at hi
          · rw [List.getElem?_drop] at hi
            rw [Nat.add_assoc]
            exact h1 _ _ hi
          · cases hi
        rw [← hl] at this
        exact this
      · have hl : l = ((us.drop j).take l).length := by rw [lu, q2]
        have := symL_rel (vals := vals) (vs := (us.drop j).take l) (k := b2 + j) fun i v hi => by
          refine ⟨?_, hu'.ones i v hi⟩
          rw [List.getElem?_take] at hi
          split at hi
          · rw [List.getElem?_drop] at hi
            rw [Nat.add_assoc]
            exact h2 _ _ hi
          · cases hi
        rw [← hl] at this
        exact this
    · have hgw := kept_grows hk
      have e : b = eqB ((x.drop j).take l) ((y.drop j).take l) := by
        cases b with
        | true => exact (eqB_pos (hb.1 rfl)).symm
        | false => exact (eqB_neg fun h => by have := hb.2 h; cases this).symm
      rw [e]
      exact q3 w' _ _ (hv'.keeps hgw) (hu'.keeps hgw)
  | ln j t k1 k2 =>
    obtain ⟨c, E, q1, q2, q3⟩ := ht
    obtain ⟨v, xj, r1, r2, r3⟩ := hv.at j c q1
    obtain ⟨u, yj, s1, s2, s3⟩ := hu.at j c q1
    obtain ⟨lx, rfl⟩ := rd_seq r3 q2
    obtain ⟨ly, rfl⟩ := rd_seq s3 q2
    obtain ⟨m1, m2⟩ := hat lx ly r2 s2
    refine ⟨fun e he => ?_, fun e he => by simp [Test.calls] at he⟩
    simp only [Test.ents, List.mem_cons, List.not_mem_nil, or_false] at he
    rcases he with rfl | rfl | rfl
    · exact ent_len q3 (h1 j v r1) m1 (seq_slice r3)
    · exact ent_len q3 (h2 j u s1) m2 (seq_slice s3)
    · refine ent_neq (k := 0) m1 m2 ⟨_, rfl⟩ ⟨_, rfl⟩ (fun h => by cases h) ?_
      rw [Bool.not_eq_true', ← Bool.not_eq_true, hb]
      have : (Test.ln j t k1 k2).same x y ↔ lx.length = ly.length := by
        simp only [Test.same]
        constructor
        · intro h; exact h lx ly r2 s2
        · intro h lx' ly' e1 e2
          rw [r2] at e1; rw [s2] at e2
          cases e1; cases e2
          exact h
      rw [this]
      simp
      omega
  | agne j l t =>
    obtain ⟨q2, q3⟩ := ht
    refine ⟨fun e he => ?_, fun e he => by simp [Test.calls] at he⟩
    simp only [Test.ents, List.mem_cons, List.not_mem_nil, or_false] at he
    subst he
    have hv' := (hv.drop j).take l
    have hu' := (hu.drop j).take l
    have lv := hv'.len.1
    have lu := hu'.len.1
    refine ⟨[.agg ((vs.drop j).take l).toArray, .agg ((us.drop j).take l).toArray], .bool (!b), ?_, by simp only [RelV], fun o evc ht he w' hk => ?_⟩
    · simp only [RelL, RelV]
      refine ⟨_, _, rfl, ⟨_, rfl, ?_⟩, _, _, rfl, ⟨_, rfl, ?_⟩, rfl⟩
      · have hl : l = ((vs.drop j).take l).length := by rw [lv, q2]
        have := symL_rel (vals := vals) (vs := (vs.drop j).take l) (k := b1 + j) fun i v hi => by
          refine ⟨?_, hv'.ones i v hi⟩
          rw [List.getElem?_take] at hi
          split at hi
          · rw [List.getElem?_drop] at hi
            rw [Nat.add_assoc]
            exact h1 _ _ hi
          · cases hi
        rw [← hl] at this
        exact this
      · have hl : l = ((us.drop j).take l).length := by rw [lu, q2]
        have := symL_rel (vals := vals) (vs := (us.drop j).take l) (k := b2 + j) fun i v hi => by
          refine ⟨?_, hu'.ones i v hi⟩
          rw [List.getElem?_take] at hi
          split at hi
          · rw [List.getElem?_drop] at hi
            rw [Nat.add_assoc]
            exact h2 _ _ hi
          · cases hi
        rw [← hl] at this
        exact this
    · obtain ⟨x1, x2, u1, hop⟩ := tag_neq ht
      obtain ⟨e1, e2⟩ := ops_two (by rw [hop]; rfl) he
      have e : b = eqB ((x.drop j).take l) ((y.drop j).take l) := by
        cases b with
        | true => exact (eqB_pos (hb.1 rfl)).symm
        | false => exact (eqB_neg fun h => by have := hb.2 h; cases this).symm
      rw [e]
      exact q3 w _ _ _ _ hv' hu' o evc x1 x2 u1 hop e1 e2 w'
/-- How far the tests tell the same. -/
theorem tests_split (x y : List T) : ∀ tests : List Test, ∃ q, q ≤ tests.length ∧ (∀ i t, i < q → tests[i]? = some t → t.same x y) ∧ ∀ t, tests[q]? = some t → ¬ t.same x y
  | [] => ⟨0, Nat.le_refl _, fun i t hi => absurd hi (Nat.not_lt_zero _), fun t h => by simp at h⟩
  | t :: tests => by
    by_cases h : t.same x y
    · obtain ⟨q, h1, h2, h3⟩ := tests_split x y tests
      refine ⟨q + 1, by simp; omega, fun i u hi hu => ?_, fun u hu => h3 u (by simpa using hu)⟩
      cases i with
      | zero => simp only [List.getElem?_cons_zero, Option.some.injEq] at hu; subst hu; exact h
      | succ i => exact h2 i u (by omega) (by simpa using hu)
    · exact ⟨0, by simp, fun i t hi => absurd hi (Nat.not_lt_zero _), fun u hu => by simp only [List.getElem?_cons_zero, Option.some.injEq] at hu; subst hu; exact h⟩
theorem entsQ_ok (hv : RdVals tb Any w ts vs x) (hu : RdVals tb Any w ts us y) (h1 : ∀ (j : Nat) v, vs[j]? = some v → vals[b1 + j]? = some v) (h2 : ∀ (j : Nat) v, us[j]? = some v → vals[b2 + j]? = some v) : ∀ {tests : List Test} {q : Nat}, (∀ t ∈ tests, t.ok P tb ts x y) → (∀ t ∈ tests, t.at vals x y) → (∀ i t, i < q → tests[i]? = some t → t.same x y) → (∀ t, tests[q]? = some t → ¬ t.same x y) →
    (∀ e ∈ entsQ b1 b2 tests q, EntOk P vals w e) ∧ ∀ e ∈ callsQ b1 b2 tests q, CallOk P vals w e
  | [], q, _, _, _, _ => ⟨fun e he => by simp [entsQ] at he, fun e he => by simp [callsQ] at he⟩
  | t :: tests, 0, hok, hat, _, hn => by
    have := Test.ents_ok (vals := vals) hv hu h1 h2 (hok t List.mem_cons_self) (hat t List.mem_cons_self) (b := false) ⟨fun h => (by cases h), fun h => absurd h (hn t rfl)⟩
    exact ⟨fun e he => this.1 e (by simpa [entsQ] using he), fun e he => this.2 e (by simpa [callsQ] using he)⟩
  | t :: tests, q + 1, hok, hat, hs, hn => by
    have h3 := Test.ents_ok (vals := vals) hv hu h1 h2 (hok t List.mem_cons_self) (hat t List.mem_cons_self) (b := true) ⟨fun _ => hs 0 t (by omega) rfl, fun _ => rfl⟩
    have ih := entsQ_ok hv hu h1 h2 (tests := tests) (q := q) (fun u hu' => hok u (List.mem_cons_of_mem _ hu')) (fun u hu' => hat u (List.mem_cons_of_mem _ hu')) (fun i u hi hu' => hs (i + 1) u (by omega) (by simpa using hu')) (fun u hu' => hn u (by simpa using hu'))
    refine ⟨fun e he => ?_, fun e he => ?_⟩
    · simp only [entsQ, List.mem_append] at he
      rcases he with he | he
      · exact h3.1 e he
      · exact ih.1 e he
    · simp only [callsQ, List.mem_append] at he
      rcases he with he | he
      · exact h3.2 e he
      · exact ih.2 e he
/-- What a test covers is the same if it tells so. -/
theorem test_same {t : Test} {j : Nat} (hcov : t.covers j = true) (hsame : t.same x y) : x[j]? = y[j]? := by
  have part : ∀ i l, (Nat.ble i j && Nat.blt j (i + l)) = true → (x.drop i).take l = (y.drop i).take l → x[j]? = y[j]? := fun i l hcov hsame => by
    rw [Bool.and_eq_true] at hcov
    have h1 := Nat.le_of_ble_eq_true hcov.1
    have h2 := blt_iff.1 hcov.2
    have h3 : ((x.drop i).take l)[j - i]? = ((y.drop i).take l)[j - i]? := by rw [hsame]
    rw [List.getElem?_take_of_lt (by omega), List.getElem?_take_of_lt (by omega), List.getElem?_drop, List.getElem?_drop, show i + (j - i) = j by omega] at h3
    exact h3
  cases t with
  | sc i t ne =>
    have e : i = j := Nat.eq_of_beq_eq_true hcov
    subst e; exact hsame
  | seq i f g =>
    have e : i = j := Nat.eq_of_beq_eq_true hcov
    subst e; exact hsame
  | row i l f => exact part i l hcov hsame
  | ln i t k1 k2 => cases hcov
  | agne i l f => exact part i l hcov hsame
/-- All tests tell the same, and cover the cells: the rows are the same. -/
theorem tests_all {m : Nat} (hx : x.length = m) (hy : y.length = m) {tests : List Test} (hc : ((List.range m).all fun j => tests.any fun t => t.covers j) = true) (hs : ∀ t ∈ tests, t.same x y) : x = y := by
  apply List.ext_getElem?
  intro j
  by_cases hj : j < m
  · rw [List.all_eq_true] at hc
    obtain ⟨t, ht, hcov⟩ := List.any_eq_true.1 (hc j (by simpa using hj))
    exact test_same hcov (hs t ht)
  · rw [List.getElem?_eq_none (by omega), List.getElem?_eq_none (by omega)]
theorem tests_none {tests : List Test} {q : Nat} {t : Test} (hq : tests[q]? = some t) (hn : ¬ t.same x y) : x ≠ y := by
  rintro rfl
  cases t with
  | ln j t k1 k2 => exact hn fun lx ly e1 e2 => by rw [e1] at e2; cases e2; rfl
  | _ => exact hn rfl
end

/- A function of two structs that is nothing but such tests. -/
def isB (b : Bool) : Option AV → Bool
  | some (.bool c) => boolEq b c
  | _ => false
def conjArgs (m : Nat) : List AV := [.agg (symL 0 m), .agg (symL m m)]
def conjOk (P : Program) (f m : Nat) (tests : List Test) : Bool :=
  ((List.range (tests.length + 1)).all fun q => isB (Nat.beq q tests.length) (@retF P (orcOf P (entsQ 0 m tests q) (callsQ 0 m tests q)) f (conjArgs m) 400)) && ((List.range m).all fun j => tests.any fun t => t.covers j) && tests.all Test.plain
theorem isB_spec {b : Bool} {a : Option AV} (h : isB b a = true) : a = some (.bool b) := by
  unfold isB at h
  split at h
  · rw [boolEq_eq] at h; simp at h; rw [h]
  · cases h
theorem conjFunc {P : Program} (hmix : P.follows .mixedOrders = true) {tb : Tab} {f E m : Nat} {tests : List Test} (k : conjOk P f m tests = true) (hm : (tb.flat E).length = m) (hm1 : m ≤ 400) {x y : List T} (hok : ∀ t ∈ tests, t.ok P tb (tb.flat E) x y) : SameRow P tb f E x y := by
  intro w vs us hv hu
  unfold conjOk at k
  rw [Bool.and_eq_true, Bool.and_eq_true] at k
  obtain ⟨⟨k1, k2⟩, k3⟩ := k
  obtain ⟨q, h1, h2, h3⟩ := tests_split x y tests
  have lv := hv.len
  have lu := hu.len
  rw [hm] at lv lu
  have p1 : ∀ (j : Nat) v, vs[j]? = some v → (vs ++ us)[0 + j]? = some v := fun j v hj => by
    rw [Nat.zero_add, List.getElem?_append_left (List.getElem?_eq_some_iff.1 hj).1]; exact hj
  have p2 : ∀ (j : Nat) v, us[j]? = some v → (vs ++ us)[m + j]? = some v := fun j v hj => by
    rw [List.getElem?_append_right (by omega), show m + j - vs.length = j by omega]; exact hj
  obtain ⟨e1, e2⟩ := entsQ_ok (P := P) (vals := vs ++ us) (b1 := 0) (b2 := m) hv hu p1 p2 hok (Test.at_plain k3) h2 h3
  rw [List.all_eq_true] at k1
  have kq := isB_spec (k1 q (by simp; omega))
  refine Calls.straight (vals := vs ++ us) hmix e1 e2 (by simp; omega) 400 kq ?_ fun ρ w' v' _ g1 g2 => ?_
  · simp only [conjArgs, RelL, RelV]
    refine ⟨_, _, rfl, ⟨_, rfl, ?_⟩, _, _, rfl, ⟨_, rfl, ?_⟩, rfl⟩
    · have := symL_rel (vals := vs ++ us) (vs := vs) (k := 0) fun j v hj => ⟨p1 j v hj, hv.ones j v hj⟩
      rw [lv.1] at this; exact this
    · have := symL_rel (vals := vs ++ us) (vs := us) (k := m) fun j v hj => ⟨p2 j v hj, hu.ones j v hj⟩
      rw [lu.1] at this; exact this
  · rw [bool_val g2]
    refine ⟨?_, g1⟩
    by_cases hq : q = tests.length
    · subst hq
      rw [show Nat.beq tests.length tests.length = true from Nat.beq_refl _, eqB_pos]
      refine tests_all lv.2 lu.2 k2 fun t ht => ?_
      obtain ⟨i, hi, rfl⟩ := List.getElem_of_mem ht
      exact h2 i _ hi (List.getElem?_eq_getElem hi)
    · have hlt : q < tests.length := by omega
      rw [show Nat.beq q tests.length = false from Tree.beq_false hq, eqB_neg]
      exact tests_none (List.getElem?_eq_getElem hlt) (h3 _ (List.getElem?_eq_getElem hlt))
end Go.Am
