/-
  Part 13 of the proof that winch/winchlaw25.ChangeBodies returns true for every two bodies of small bulk: lemmas.
  Conditions: none beyond each theorem's own premises.
  What lies here:
  Calls with symbols, second part: calls without loops, loops by rounds.
  Data as trees of rows, how memory holds them; true answers on numbers, texts, slices and their elements.
  True answers on numbers, texts, truths, slices and their elements. Condition: what the program's tables say of the types named.
-/
import Derived.Test.YtclhjedldbkgpaaGreatDoorBodies12
set_option linter.unusedVariables false
set_option linter.unusedSimpArgs false
set_option linter.unusedSectionVars false
namespace Go.Am

def oneRes : Option (List AV) → Option AV
  | some [v] => some v
  | some l => some (.tuple l)
  | none => none
/-- The result of a frame that stands at its end. -/
def retOf (P : Program) [Orc P] (g : Func) (fr : AFrame) (H : AHeap) : Option AV :=
  match fr.todo with
  | [] => oneRes (resultsA P H fr.tmps g.results.toList)
  | .code .ret :: _ => oneRes (resultsA P H fr.tmps g.results.toList)
  | _ => none
/-- A call's frame, as far as it goes. -/
def enterA (P : Program) [Orc P] (f : FuncId) (args : List AV) (n : Nat) : Option (Func × AFrame × AHeap) :=
  match (funcs P).get f with
  | some g => match g.body with
    | some c => bif Nat.ble args.length g.ntmps then some (g, seg P n (entered f g.ntmps args c) H0) else none
    | none => none
  | none => none
def retF (P : Program) [Orc P] (f : FuncId) (args : List AV) (n : Nat) : Option AV :=
  match enterA P f args n with
  | some (g, fr, H) => retOf P g fr H
  | none => none

section
variable {P : Program} {es : List Ent} {cs : List CEnt} {vals : List Value} {w : World} {fr : AFrame} {c : Frame} {ks : List Frame} {R : Ending → World → Prop}
theorem Ends.ret {P : Program} [Orc P] [OrcOk P] {ρ : Ren} {H : AHeap} {g : Func} {a : AV} {w : World} {fr : AFrame} {c : Frame} {ks : List Frame} {R : Ending → World → Prop} (h : Here P ρ fr c) (hg : P.funcs[fr.fn]? = some g) (hh : RelH P ρ H w)
    (hret : retOf P g fr H = some a) (k : ∀ v, RelV ρ a v → R (.returned v) w) : Ends P c ks w R := by
  have hm : ∃ l, (c.todo = [] ∨ ∃ kk, c.todo = .code .ret :: kk) ∧ resultsA P H fr.tmps g.results.toList = some l ∧ a = (match l with
      | [a] => a
      | l => .tuple l) := by
    have hto := h.todo
    have fin : oneRes (resultsA P H fr.tmps g.results.toList) = some a → ∃ l, resultsA P H fr.tmps g.results.toList = some l ∧ a = (match l with
      | [a] => a
      | l => .tuple l) := fun hr => by
      cases hq : resultsA P H fr.tmps g.results.toList with
      | none => rw [hq] at hr; cases hr
      | some l =>
        rw [hq] at hr
        refine ⟨l, rfl, ?_⟩
        cases l with
        | nil => cases hr; rfl
        | cons x l => cases l with
          | nil => cases hr; rfl
          | cons y l => cases hr; rfl
    unfold retOf at hret
    split at hret
    · rename_i e
      rw [e] at hto
      simp only [RelItems] at hto
      obtain ⟨l, q⟩ := fin hret
      exact ⟨l, Or.inl hto, q⟩
    · rename_i kk e
      rw [e] at hto
      simp only [RelItems, RelItem] at hto
      obtain ⟨x, xs, h1, rfl, _⟩ := hto
      obtain ⟨l, q⟩ := fin hret
      exact ⟨l, Or.inr ⟨xs, h1⟩, q⟩
    · cases hret
  obtain ⟨l, h1, h2, h3⟩ := hm
  obtain ⟨v, r1, r2⟩ := results_run hh h.tmps h2
  have s1 : step P (lone c ks w) = .next (lone { c with mode := .returning } ks w) := by
    rcases h1 with h1 | ⟨kk, h1⟩
    · exact mv_ret_plain (k := []) h.mode h.lone (Or.inl h1)
    · exact mv_ret_plain h.mode h.lone (Or.inr h1)
  exact ⟨.returned v, w, { c with mode := .returning }, k v (by rw [h3]; cases l with | nil => exact r2 | cons x l => cases l with | nil => exact r2 | cons y l => exact r2), Steps.one s1, rfl, rfl, h.defers, h.kind, g, by rw [← hg, ← h.fn], r1⟩

theorem enter_here {f : FuncId} {g : Func} {b : Code} {args : List AV} {args' : Array Value} (hf : (funcs P).get f = some g) (hb : g.body = some b) (hn : args.length ≤ g.ntmps) (ra : RelL (renOf vals) args args'.toList) :
    Here P (renOf vals) (entered f g.ntmps args b) (Frame.enter P f args' .normal) := by
  letI : Orc P := orcOf P [] []
  letI : OrcOk P := okOf P [] [] [] default (fun _ h => by cases h) (fun _ h => by cases h)
  have hf' := funcs_eq hf
  refine ⟨rfl, rfl, rfl, rfl, rfl, rfl, rfl, rfl, ⟨g, hf'⟩, ?_, ?_⟩
  · simpa [entered, Frame.enter, hf'] using enter_tmps ra hn
  · simp [entered, Frame.enter, hf', hb, RelItems, RelItem]
/-- A call, till its frame stands. -/
theorem Calls.enterG [Orc P] [OrcOk P] (hb : OrcOk.base P = renOf vals) (hW : OrcOk.W P = w) (hk : ∀ b, OrcOk.keep P b ↔ b < w.heap.size) (hmix : P.follows .mixedOrders = true) (hl : vals.length ≤ 1000) {f : FuncId} {args : List AV} {args' : Array Value} {n : Nat} {g : Func} {fr : AFrame} {H : AHeap}
    (he : enterA P f args n = some (g, fr, H)) (ra : RelL (renOf vals) args args'.toList)
    (k : ∀ ks ρ w' c', (renOf vals).le ρ → Grows w w' → Here P ρ fr c' → fr.fn = f → P.funcs[f]? = some g → RelH P ρ H w' → Ends P c' ks w' R) : Calls P f args' w R := by
  unfold enterA at he
  cases hf : (funcs P).get f with
  | none => rw [hf] at he; cases he
  | some g' =>
    rw [hf] at he
    simp only at he
    cases hb' : g'.body with
    | none => rw [hb'] at he; cases he
    | some b =>
      rw [hb'] at he
      simp only at he
      obtain ⟨hn, he⟩ := cond_some he rfl
      have e1 := Option.some.inj he
      have eg : g' = g := congrArg Prod.fst e1
      have ef : (seg P n (entered f g'.ntmps args b) H0).1 = fr := congrArg (fun x => x.2.1) e1
      have eh : (seg P n (entered f g'.ntmps args b) H0).2 = H := congrArg (fun x => x.2.2) e1
      subst eg
      refine Ends.calls fun ks => Ends.segG hb hW hk hmix hl (enter_here hf hb' (Nat.le_of_ble_eq_true hn) ra) n fun ρ w' c' h1 h2 h3 h4 h5 => ?_
      rw [ef] at h3
      rw [eh] at h5
      have hfn : fr.fn = f := by rw [← h3.fn, h4]; rfl
      exact k ks ρ w' c' h1 h2 h3 hfn (funcs_eq hf) h5
theorem Calls.enter (hmix : P.follows .mixedOrders = true) (hes : ∀ e ∈ es, EntOk P vals w e) (hcs : ∀ e ∈ cs, CallOk P vals w e) (hl : vals.length ≤ 1000) {f : FuncId} {args : List AV} {args' : Array Value} {n : Nat} {g : Func} {fr : AFrame} {H : AHeap}
    (he : @enterA P (orcOf P es cs) f args n = some (g, fr, H)) (ra : RelL (renOf vals) args args'.toList)
    (k : ∀ ks ρ w' c', (renOf vals).le ρ → Grows w w' → Here P ρ fr c' → fr.fn = f → P.funcs[f]? = some g → @RelH P (orcOf P es cs) (okOf P es cs vals w hes hcs) ρ H w' → Ends P c' ks w' R) : Calls P f args' w R :=
  @Calls.enterG P vals w R (orcOf P es cs) (okOf P es cs vals w hes hcs) rfl rfl (fun _ => Iff.rfl) hmix hl f args args' n g fr H he ra k
/-- A call without a loop. -/
theorem Calls.straightG [Orc P] [OrcOk P] (hb : OrcOk.base P = renOf vals) (hW : OrcOk.W P = w) (hk : ∀ b, OrcOk.keep P b ↔ b < w.heap.size) (hmix : P.follows .mixedOrders = true) (hl : vals.length ≤ 1000) {f : FuncId} {args : List AV} {args' : Array Value} (n : Nat) {a : AV}
    (he : retF P f args n = some a) (ra : RelL (renOf vals) args args'.toList)
    (k : ∀ ρ w' v, (renOf vals).le ρ → Grows w w' → RelV ρ a v → R (.returned v) w') : Calls P f args' w R := by
  unfold retF at he
  cases hq : enterA P f args n with
  | none => rw [hq] at he; cases he
  | some p =>
    obtain ⟨g, fr, H⟩ := p
    rw [hq] at he
    exact Calls.enterG hb hW hk hmix hl hq ra fun ks ρ w' c' h1 h2 h3 h0 h4 h5 => Ends.ret h3 (h0 ▸ h4) h5 he fun v hv => k ρ w' v h1 h2 hv
theorem Calls.straight (hmix : P.follows .mixedOrders = true) (hes : ∀ e ∈ es, EntOk P vals w e) (hcs : ∀ e ∈ cs, CallOk P vals w e) (hl : vals.length ≤ 1000) {f : FuncId} {args : List AV} {args' : Array Value} (n : Nat) {a : AV}
    (he : @retF P (orcOf P es cs) f args n = some a) (ra : RelL (renOf vals) args args'.toList)
    (k : ∀ ρ w' v, (renOf vals).le ρ → Grows w w' → RelV ρ a v → R (.returned v) w') : Calls P f args' w R :=
  @Calls.straightG P vals w R (orcOf P es cs) (okOf P es cs vals w hes hcs) rfl rfl (fun _ => Iff.rfl) hmix hl f args args' n a he ra k

/- Temporaries by a list. -/
def lookS : List (Nat × AV) → Nat → AV
  | [], _ => .junk
  | (e, a) :: l, d => bif Nat.beq e d then a else lookS l d
def mkTree (n : Nat) (l : List (Nat × AV)) : Tree AV := Tree.ofList ((List.range n).map (lookS l))
def slotsAre (t : Tree AV) : List (Nat × AV) → Bool
  | [] => true
  | (d, a) :: l => AV.same (tmpOf t d) a && slotsAre t l
theorem slotsAre_spec {t : Tree AV} : ∀ {l : List (Nat × AV)}, slotsAre t l = true → ∀ e ∈ l, tmpOf t e.1 = e.2
  | [], _, e, he => by cases he
  | (d, a) :: l, h, e, he => by
    simp only [slotsAre, Bool.and_eq_true] at h
    rcases List.mem_cons.1 he with rfl | he
    · exact same_eq _ _ h.1
    · exact slotsAre_spec h.2 e he
theorem lookS_mem {d : Nat} : ∀ {l : List (Nat × AV)}, lookS l d = .junk ∨ (d, lookS l d) ∈ l
  | [] => Or.inl rfl
  | (e, a) :: l => by
    unfold lookS
    cases hb : Nat.beq e d with
    | true =>
      rw [cond_true, Nat.eq_of_beq_eq_true hb]
      exact Or.inr List.mem_cons_self
    | false =>
      rw [cond_false]
      rcases lookS_mem (l := l) (d := d) with h | h
      · exact Or.inl h
      · exact Or.inr (List.mem_cons_of_mem _ h)
theorem mkTree_rel {ρ : Ren} {n : Nat} {l : List (Nat × AV)} {tmps : Array Value} (hs : tmps.size = n) (h : ∀ e ∈ l, RelV ρ e.2 (tmps.getD e.1 Go.undef)) : RelT ρ n (mkTree n l) tmps := by
  refine ⟨hs, fun i => ?_⟩
  unfold tmpOf mkTree
  rw [Tree.get_ofList]
  by_cases hi : i < n
  · rw [List.getElem?_map, List.getElem?_range hi]
    simp only [Option.map_some]
    rcases lookS_mem (l := l) (d := i) with h1 | h1
    · exact Or.inl h1
    · exact Or.inr (h _ h1)
  · rw [List.getElem?_eq_none (by simp; omega)]
    have : tmps.getD i Go.undef = Go.undef := by simp [Array.getD_eq_getD_getElem?, Array.getElem?_eq_none (by omega : tmps.size ≤ i)]
    rw [this]
    exact Or.inr (relV_undef ρ)
theorem renOf_le {vals more : List Value} : (renOf vals).le (renOf (vals ++ more)) := fun i l h => by
  unfold renOf at *
  by_cases hi : i < 1000
  · rw [if_pos hi] at h ⊢; exact h
  · rw [if_neg hi] at h ⊢
    cases hq : vals[i - 1000]? with
    | none => rw [hq] at h; cases h
    | some v =>
      rw [hq] at h
      have hlt := (List.getElem?_eq_some_iff.1 hq).1
      rw [List.getElem?_append_left hlt, hq]
      exact h
/-- What was one value is that value still. -/
theorem RelV.back {ρ ρ' : Ren} (hle : ρ.le ρ') {a : AV} {v u : Value} (h : RelV ρ a v) (k : RelV ρ' a u) : RelV ρ a u := RelV.det a (RelV.mono hle _ _ h) k ▸ h

/- Loops. -/
/-- A frame at the head of a round: some temporaries are known, one counts the rounds. -/
structure LoopAt (P : Program) (vals : List Value) (f n : Nat) (B : Code) (K : List AItem) (F : List (Nat × AV)) (d : Nat) (i : Int) (c : Frame) : Prop where
  mode : c.mode = .run
  defers : c.defers = []
  lone : c.roundOf = none
  kind : c.kind = .normal
  fn : c.fn = f
  has : ∃ g, P.funcs[f]? = some g
  size : c.tmps.size = n
  todo : RelItems (renOf vals) (.code B :: .inLoop B :: K) c.todo
  slots : ∀ e ∈ F, RelV (renOf vals) e.2 (c.tmps.getD e.1 Go.undef)
  ctr : c.tmps.getD d Go.undef = .int .i64 i
def headFr (f n : Nat) (B : Code) (K : List AItem) (F : List (Nat × AV)) (d p : Nat) : AFrame := ⟨f, n, mkTree n ((d, .sym (1000 + p)) :: F), .code B :: .inLoop B :: K, [], .run, none⟩
variable {f n : Nat} {B : Code} {K : List AItem} {F : List (Nat × AV)} {d : Nat} {i : Int}
theorem LoopAt.here (hp : plainI K = true) (l : LoopAt P vals f n B K F d i c) (more : List Value) : Here P (renOf (vals ++ .int .i64 i :: more)) (headFr f n B K F d vals.length) c := by
  refine ⟨l.mode, l.defers, l.lone, l.kind, rfl, rfl, rfl, l.fn, l.has, mkTree_rel l.size fun e he => ?_, ?_⟩
  · rcases List.mem_cons.1 he with rfl | he
    · simp only
      rw [l.ctr]
      exact sym_rel (by simp) rfl
    · exact RelV.mono renOf_le _ _ (l.slots e he)
  · exact plainI_any (show plainI (.code B :: .inLoop B :: K) = true from hp) l.todo
/-- The end of a round is the head of the next one. -/
theorem Ends.nextRound {ρ : Ren} {vals2 : List Value} (hp : plainI K = true) (hle : (renOf vals2).le ρ) (h : Here P ρ fr c) (hv : ∃ more, vals2 = vals ++ more) (hn : fr.n = n) (hf : fr.fn = f) (ht : fr.todo = .inLoop B :: K) {j : Nat} {i' : Int} (hj : vals2[j]? = some (.int .i64 i')) (hs : slotsAre fr.tmps ((d, .sym (1000 + j)) :: F) = true)
    (hF : ∀ e ∈ F, ∃ v, RelV (renOf vals) e.2 v) (k : ∀ c', LoopAt P vals f n B K F d i' c' → Ends P c' ks w R) : Ends P c ks w R := by
  have hto := h.todo
  rw [ht] at hto
  simp only [RelItems, RelItem] at hto
  obtain ⟨x, xs, h1, rfl, h2⟩ := hto
  letI : Orc P := orcOf P [] []
  letI : OrcOk P := okOf P [] [] [] w (fun _ h => by cases h) (fun _ h => by cases h)
  have s1 := mv_inLoop (P := P) (cs := ks) (w := w) h.mode h1
  have sl := slotsAre_spec hs
  obtain ⟨more, rfl⟩ := hv
  refine Ends.of_steps (Steps.one s1) rfl (k _ ⟨h.mode, h.defers, h.lone, h.kind, h.fn.trans hf, hf ▸ h.has, by rw [← hn]; exact h.tmps.size, ?_, fun e he => ?_, ?_⟩)
  · simp only [RelItems, RelItem]
    exact ⟨_, _, rfl, rfl, _, _, rfl, rfl, plainI_any hp h2⟩
  · have h3 := h.tmps.val e.1
    rw [sl e (List.mem_cons_of_mem _ he)] at h3
    obtain ⟨v, hv⟩ := hF e he
    have h4 : RelV ρ e.2 (c.tmps.getD e.1 Go.undef) := h3.known fun ej => by
      rw [ej] at hv
      simp only [RelV] at hv
    exact RelV.back (renOf_le.trans hle) hv h4
  · have h3 := h.tmps.val d
    rw [sl _ List.mem_cons_self] at h3
    exact sym_val hle hj (h3.known fun e => by cases e)
/-- From a loop to its first round. -/
theorem Ends.firstRound {ρ : Ren} (hp : plainI K = true) (hle : (renOf vals).le ρ) (h : Here P ρ fr c) (hn : fr.n = n) (hf : fr.fn = f) (ht : fr.todo = .code (.loop B) :: K) {i' : Int} (hs : slotsAre fr.tmps ((d, .int .i64 i') :: F) = true)
    (hF : ∀ e ∈ F, ∃ v, RelV (renOf vals) e.2 v) (k : ∀ c', LoopAt P vals f n B K F d i' c' → Ends P c' ks w R) : Ends P c ks w R := by
  have hto := h.todo
  rw [ht] at hto
  simp only [RelItems, RelItem] at hto
  obtain ⟨x, xs, h1, rfl, h2⟩ := hto
  letI : Orc P := orcOf P [] []
  letI : OrcOk P := okOf P [] [] [] w (fun _ h => by cases h) (fun _ h => by cases h)
  have s1 := mv_loop (P := P) (cs := ks) (w := w) h.mode h1
  have sl := slotsAre_spec hs
  refine Ends.of_steps (Steps.one s1) rfl (k _ ⟨h.mode, h.defers, h.lone, h.kind, h.fn.trans hf, hf ▸ h.has, by rw [← hn]; exact h.tmps.size, ?_, fun e he => ?_, ?_⟩)
  · simp only [RelItems, RelItem]
    exact ⟨_, _, rfl, rfl, _, _, rfl, rfl, plainI_any hp h2⟩
  · have h3 := h.tmps.val e.1
    rw [sl e (List.mem_cons_of_mem _ he)] at h3
    obtain ⟨v, hv⟩ := hF e he
    have h4 : RelV ρ e.2 (c.tmps.getD e.1 Go.undef) := h3.known fun ej => by
      rw [ej] at hv
      simp only [RelV] at hv
    exact RelV.back hle hv h4
  · have h3 := h.tmps.val d
    rw [sl _ List.mem_cons_self] at h3
    have h3 := h3.known fun e => by cases e
    simp only [RelV] at h3
    exact h3
/-- Rounds. -/
theorem Ends.rounds (N : Nat) {w0 : World} (round : ∀ (i : Nat) (w : World) (c : Frame), i ≤ N → Grows w0 w → LoopAt P vals f n B K F d i c → (i < N → ∀ (w' : World) (c' : Frame), Grows w w' → LoopAt P vals f n B K F d ((i + 1 : Nat) : Int) c' → Ends P c' ks w' R) → Ends P c ks w R) :
    ∀ (i : Nat) (w : World) (c : Frame), i ≤ N → Grows w0 w → LoopAt P vals f n B K F d i c → Ends P c ks w R := by
  have key : ∀ (j i : Nat) (w : World) (c : Frame), N - i = j → i ≤ N → Grows w0 w → LoopAt P vals f n B K F d i c → Ends P c ks w R := by
    intro j
    induction j with
    | zero => exact fun i w c hj hi hg l => round i w c hi hg l fun h => by omega
    | succ j ih => exact fun i w c hj hi hg l => round i w c hi hg l fun h w' c' hg' l' => ih (i + 1) w' c' (by omega) (by omega) (hg.trans hg') l'
  exact fun i w c => key (N - i) i w c rfl
end
end Go.Am
set_option linter.unusedSectionVars false
namespace Go.Am

/-- Data: a value of one cell, a row of cells, a sequence of rows. -/
inductive T where
  | val (v : Value)
  | row (l : List T)
  | seq (l : List T)

/-- What a table says of types: the elements of a slice's type; the cells of a type. -/
structure Tab where
  elem : TypeId → Option TypeId
  flat : TypeId → List TypeId
  kind : TypeId → Option Nat
/-- A plain value of a kind: 0 a number, 1 a text, 2 a truth. -/
def plainK : Nat → Value → Prop
  | 0, v => ∃ n, v = .int .i64 n
  | 1, v => ∃ s, v = .string s
  | 2, v => ∃ b, v = .bool b
  | _, _ => False

mutual
/-- A value holds data; all blocks that it leads to are of a set. -/
def RdC (tb : Tab) (S : Nat → Prop) (w : World) (t : TypeId) (v : Value) : T → Prop
  | .val x => v = x ∧ ∃ k, tb.kind t = some k ∧ plainK k x
  | .seq l => ∃ E, tb.elem t = some E ∧ ((l = [] ∧ ∃ a, v = .slice a 0 0) ∨ ∃ b off cap, v = .slice (some ⟨b, off, none⟩) l.length cap ∧ l.length ≤ cap ∧ b < w.heap.size ∧ S b ∧ RdRows tb S w E b off l)
  | .row _ => False
def RdRows (tb : Tab) (S : Nat → Prop) (w : World) (E : TypeId) (b off : Nat) : List T → Prop
  | [] => True
  | x :: r => RdRow tb S w E b off x ∧ RdRows tb S w E b (off + (tb.flat E).length) r
def RdRow (tb : Tab) (S : Nat → Prop) (w : World) (E : TypeId) (b off : Nat) : T → Prop
  | .row cells => RdCells tb S w b off (tb.flat E) cells
  | _ => False
def RdCells (tb : Tab) (S : Nat → Prop) (w : World) (b off : Nat) (ts : List TypeId) : List T → Prop
  | [] => ts = []
  | x :: xs => ∃ t ts' v, ts = t :: ts' ∧ w.cell? ⟨b, off, none⟩ = some v ∧ RdC tb S w t v x ∧ RdCells tb S w b (off + 1) ts' xs
end
/-- Values side by side. -/
def RdVals (tb : Tab) (S : Nat → Prop) (w : World) : List TypeId → List Value → List T → Prop
  | [], vs, xs => vs = [] ∧ xs = []
  | t :: ts, vs, xs => ∃ v vs' x xs', vs = v :: vs' ∧ xs = x :: xs' ∧ RdC tb S w t v x ∧ RdVals tb S w ts vs' xs'

section
variable {tb : Tab} {S S' : Nat → Prop} {w w' : World}
theorem cell_heap {b off : Nat} (h : w'.heap[b]? = w.heap[b]?) : w'.cell? ⟨b, off, none⟩ = w.cell? ⟨b, off, none⟩ := by
  unfold World.cell?
  simp only [h]
mutual
theorem RdC.mono (hs : w.heap.size ≤ w'.heap.size) (hb : ∀ b, S b → b < w.heap.size → w'.heap[b]? = w.heap[b]?) (hS : ∀ b, S b → S' b) : ∀ {t : TypeId} {v : Value} (x : T), RdC tb S w t v x → RdC tb S' w' t v x
  | t, v, .val x, h => by simp only [RdC] at *; exact h
  | t, v, .row l, h => by simp only [RdC] at h
  | t, v, .seq l, h => by
    simp only [RdC] at *
    obtain ⟨E, h1, h2⟩ := h
    refine ⟨E, h1, ?_⟩
    rcases h2 with h2 | ⟨b, off, cap, q1, q2, q3, q4, q5⟩
    · exact Or.inl h2
    · exact Or.inr ⟨b, off, cap, q1, q2, Nat.lt_of_lt_of_le q3 hs, hS b q4, RdRows.mono hs hb hS q4 q3 l q5⟩
theorem RdRows.mono (hs : w.heap.size ≤ w'.heap.size) (hb : ∀ b, S b → b < w.heap.size → w'.heap[b]? = w.heap[b]?) (hS : ∀ b, S b → S' b) {b : Nat} (q4 : S b) (q3 : b < w.heap.size) : ∀ {E : TypeId} {off : Nat} (l : List T), RdRows tb S w E b off l → RdRows tb S' w' E b off l
  | E, off, [], h => by simp only [RdRows]
  | E, off, x :: r, h => by
    simp only [RdRows] at *
    exact ⟨RdRow.mono hs hb hS q4 q3 x h.1, RdRows.mono hs hb hS q4 q3 r h.2⟩
theorem RdRow.mono (hs : w.heap.size ≤ w'.heap.size) (hb : ∀ b, S b → b < w.heap.size → w'.heap[b]? = w.heap[b]?) (hS : ∀ b, S b → S' b) {b : Nat} (q4 : S b) (q3 : b < w.heap.size) : ∀ {E : TypeId} {off : Nat} (x : T), RdRow tb S w E b off x → RdRow tb S' w' E b off x
  | E, off, .row cells, h => by
    simp only [RdRow] at *
    exact RdCells.mono hs hb hS q4 q3 cells h
  | E, off, .val x, h => by simp only [RdRow] at h
  | E, off, .seq x, h => by simp only [RdRow] at h
theorem RdCells.mono (hs : w.heap.size ≤ w'.heap.size) (hb : ∀ b, S b → b < w.heap.size → w'.heap[b]? = w.heap[b]?) (hS : ∀ b, S b → S' b) {b : Nat} (q4 : S b) (q3 : b < w.heap.size) : ∀ {ts : List TypeId} {off : Nat} (l : List T), RdCells tb S w b off ts l → RdCells tb S' w' b off ts l
  | ts, off, [], h => by simp only [RdCells] at *; exact h
  | ts, off, x :: r, h => by
    simp only [RdCells] at *
    obtain ⟨t, ts', v, h1, h2, h3, h4⟩ := h
    exact ⟨t, ts', v, h1, by rw [cell_heap (hb b q4 q3)]; exact h2, RdC.mono hs hb hS x h3, RdCells.mono hs hb hS q4 q3 r h4⟩
end
theorem RdVals.mono (hs : w.heap.size ≤ w'.heap.size) (hb : ∀ b, S b → b < w.heap.size → w'.heap[b]? = w.heap[b]?) (hS : ∀ b, S b → S' b) : ∀ {ts : List TypeId} {vs : List Value} {xs : List T}, RdVals tb S w ts vs xs → RdVals tb S' w' ts vs xs
  | [], vs, xs, h => by simp only [RdVals] at *; exact h
  | t :: ts, vs, xs, h => by
    simp only [RdVals] at *
    obtain ⟨v, vs', x, xs', h1, h2, h3, h4⟩ := h
    exact ⟨v, vs', x, xs', h1, h2, RdC.mono hs hb hS x h3, RdVals.mono hs hb hS h4⟩
theorem RdVals.grows (h : Grows w w') {ts : List TypeId} {vs : List Value} {xs : List T} (k : RdVals tb S w ts vs xs) : RdVals tb S w' ts vs xs := k.mono h.1 (fun b _ hb => h.2 b hb) fun _ h => h
theorem RdVals.keeps (h : Keeps w w') {ts : List TypeId} {vs : List Value} {xs : List T} (k : RdVals tb S w ts vs xs) : RdVals tb S w' ts vs xs := k.mono h.1 (fun b _ hb => h.2 b hb) fun _ h => h
theorem RdC.keeps (h : Keeps w w') {t : TypeId} {v : Value} {x : T} (k : RdC tb S w t v x) : RdC tb S w' t v x := RdC.mono h.1 (fun b _ hb => h.2 b hb) (fun _ h => h) x k
theorem RdC.grows (h : Grows w w') {t : TypeId} {v : Value} {x : T} (k : RdC tb S w t v x) : RdC tb S w' t v x := RdC.mono h.1 (fun b _ hb => h.2 b hb) (fun _ h => h) x k

theorem RdC.one {t : TypeId} {v : Value} {x : T} (h : RdC tb S w t v x) : v.oneCell' = true := by
  cases x with
  | val x =>
    simp only [RdC] at h
    obtain ⟨rfl, k, _, h2⟩ := h
    match k, h2 with
    | 0, ⟨n, e⟩ => rw [e]; rfl
    | 1, ⟨n, e⟩ => rw [e]; rfl
    | 2, ⟨n, e⟩ => rw [e]; rfl
  | row l => simp only [RdC] at h
  | seq l =>
    simp only [RdC] at h
    obtain ⟨E, _, h2⟩ := h
    rcases h2 with ⟨_, _, rfl⟩ | ⟨b, off, cap, rfl, _⟩ <;> rfl
theorem RdVals.len : ∀ {ts : List TypeId} {vs : List Value} {xs : List T}, RdVals tb S w ts vs xs → vs.length = ts.length ∧ xs.length = ts.length
  | [], vs, xs, h => by simp only [RdVals] at h; obtain ⟨rfl, rfl⟩ := h; exact ⟨rfl, rfl⟩
  | t :: ts, vs, xs, h => by
    simp only [RdVals] at h
    obtain ⟨v, vs', x, xs', rfl, rfl, _, h4⟩ := h
    have := RdVals.len h4
    exact ⟨by simp [this.1], by simp [this.2]⟩
/-- The cells of a row are values side by side. -/
theorem RdCells.vals {b : Nat} : ∀ {ts : List TypeId} {off : Nat} {xs : List T}, RdCells tb S w b off ts xs → ∃ vs, RdVals tb S w ts vs xs ∧ ∀ (j : Nat) v, vs[j]? = some v → w.cell? ⟨b, off + j, none⟩ = some v
  | ts, off, [], h => by
    simp only [RdCells] at h
    subst h
    exact ⟨[], by simp [RdVals], fun j v h => by simp at h⟩
  | ts, off, x :: xs, h => by
    simp only [RdCells] at h
    obtain ⟨t, ts', v, rfl, h2, h3, h4⟩ := h
    obtain ⟨vs, q1, q2⟩ := RdCells.vals h4
    refine ⟨v :: vs, by simp only [RdVals]; exact ⟨v, vs, x, xs, rfl, rfl, h3, q1⟩, fun j u hu => ?_⟩
    cases j with
    | zero => simp only [List.getElem?_cons_zero, Option.some.injEq] at hu; subst hu; exact h2
    | succ j =>
      have := q2 j u (by simpa using hu)
      rw [show off + (j + 1) = off + 1 + j by omega]
      exact this
/-- A row of a sequence. -/
theorem RdRows.at {E : TypeId} {b : Nat} : ∀ {off : Nat} {l : List T}, RdRows tb S w E b off l → ∀ (i : Nat) (x : T), l[i]? = some x → ∃ cells, x = .row cells ∧ RdCells tb S w b (off + i * (tb.flat E).length) (tb.flat E) cells
  | off, [], _, i, x, hx => by simp at hx
  | off, y :: l, h, i, x, hx => by
    simp only [RdRows] at h
    cases i with
    | zero =>
      simp only [List.getElem?_cons_zero, Option.some.injEq] at hx
      subst hx
      cases y with
      | row cells => have h1 := h.1; simp only [RdRow] at h1; exact ⟨cells, rfl, by simpa using h1⟩
      | val v => have h1 := h.1; simp only [RdRow] at h1
      | seq v => have h1 := h.1; simp only [RdRow] at h1
    | succ i =>
      obtain ⟨cells, q1, q2⟩ := RdRows.at h.2 i x (by simpa using hx)
      refine ⟨cells, q1, ?_⟩
      rw [show off + (i + 1) * (tb.flat E).length = off + (tb.flat E).length + i * (tb.flat E).length by rw [Nat.add_mul]; omega]
      exact q2
end

/- True answers. -/
section
variable {P : Program} {vals : List Value} {w : World}
/-- Numbers by symbols. -/
def symL (k : Nat) : Nat → List AV
  | 0 => []
  | n + 1 => .sym (1000 + k) :: symL (k + 1) n
theorem symL_rel : ∀ {vs : List Value} {k : Nat}, (∀ j v, vs[j]? = some v → vals[k + j]? = some v ∧ v.oneCell' = true) → RelL (renOf vals) (symL k vs.length) vs
  | [], k, _ => by simp only [symL, List.length_nil, RelL]
  | v :: vs, k, h => by
    simp only [symL, List.length_cons, RelL]
    obtain ⟨h1, h2⟩ := h 0 v rfl
    refine ⟨v, vs, rfl, sym_rel h1 h2, symL_rel fun j u hu => ?_⟩
    have := h (j + 1) u (by simpa using hu)
    rw [show k + (j + 1) = k + 1 + j by omega] at this
    exact this
/-- A word on an operation, by the evaluator itself, with another naming. -/
theorem ent_by_run (es : Option AV → Prop) {o : Oper} {evc : Operand → Value} {w' : World} {ρ : Ren} {ev : Operand → Option AV} {a : AV} {H' : AHeap} (hb : (renOf []).le ρ) (hf : ∀ i, 2000 ≤ i → ρ i = none) (hev : ∀ x a, ev x = some a → RelV ρ a (evc x)) (hc : clsOf o = .pure ∨ clsOf o = .reads)
    (hx : execA P H0 ev o = some (.value a H')) : ∃ v, (execOp evc o).run P w' = .ok (.value v) w' ∧ RelV ρ a v := by
  letI : Orc P := orcOf P [] []
  letI : OrcOk P := okOf P [] [] [] w' (fun _ h => by cases h) (fun _ h => by cases h)
  have hh : RelH P ρ H0 w' := ⟨fun i o ho => by simp [H0, AHeap.get, Tree.get_leaf] at ho, fun i j o o' l l' ho => by simp [H0, AHeap.get, Tree.get_leaf] at ho, hf, hb, fun _ _ => rfl, Nat.le_refl _,
    (fun i o l ho => by simp [H0, AHeap.get, Tree.get_leaf] at ho), Still.refl _⟩
  exact quiet_rel hh hev hc hx
end
end Go.Am
set_option linter.unusedSectionVars false
namespace Go.Am
variable {P : Program} {vals : List Value} {w : World}

theorem tag_eql {op : Op} {t : TypeId} (h : tagOf op = some (.eql t)) : ∃ x y u, op = .binOp .eql t x y u := by
  unfold tagOf at h
  split at h <;> first | (cases h; exact ⟨_, _, _, rfl⟩) | (cases h; done) | (split at h <;> first | (cases h; done) | (split at h <;> cases h))
theorem tag_neq {op : Op} {t : TypeId} (h : tagOf op = some (.neq t)) : ∃ x y u, op = .binOp .neq t x y u := by
  unfold tagOf at h
  split at h <;> first | (cases h; exact ⟨_, _, _, rfl⟩) | (cases h; done) | (split at h <;> first | (cases h; done) | (split at h <;> cases h))
theorem tag_lss {op : Op} {t : TypeId} (h : tagOf op = some (.lss t)) : ∃ x y u, op = .binOp .lss t x y u := by
  unfold tagOf at h
  split at h <;> first | (cases h; exact ⟨_, _, _, rfl⟩) | (cases h; done) | (split at h <;> first | (cases h; done) | (split at h <;> cases h))
theorem tag_add {op : Op} {t : TypeId} (h : tagOf op = some (.add t)) : ∃ x y u, op = .binOp .add t x y u := by
  unfold tagOf at h
  split at h <;> first | (cases h; exact ⟨_, _, _, rfl⟩) | (cases h; done) | (split at h <;> first | (cases h; done) | (split at h <;> cases h))
theorem tag_idx {op : Op} {t : TypeId} (h : tagOf op = some (.idx t)) : ∃ x y, op = .indexAddr t x y := by
  unfold tagOf at h
  split at h <;> first | (cases h; exact ⟨_, _, rfl⟩) | (cases h; done) | (split at h <;> first | (cases h; done) | (split at h <;> cases h))
theorem tag_fld {op : Op} {t : TypeId} {f : Nat} (h : tagOf op = some (.fld t f)) : ∃ x, op = .fieldAddr t x f := by
  unfold tagOf at h
  split at h <;> first | (cases h; exact ⟨_, rfl⟩) | (cases h; done) | (split at h <;> first | (cases h; done) | (split at h <;> cases h))
theorem tag_load {op : Op} {t : TypeId} (h : tagOf op = some (.load t)) : ∃ x, op = .load t x := by
  unfold tagOf at h
  split at h <;> first | (cases h; exact ⟨_, rfl⟩) | (cases h; done) | (split at h <;> first | (cases h; done) | (split at h <;> cases h))
theorem tag_len {op : Op} {t : TypeId} (h : tagOf op = some (.len t)) : ∃ c, op = .call c ∧ c.callee = .builtin .len ∧ c.argTypes.toList = [t] := by
  unfold tagOf at h
  split at h <;> first | (cases h; done) | skip
  rename_i c
  split at h
  · rename_i hc
    split at h
    · rename_i u hu
      cases h
      exact ⟨c, rfl, hc, hu⟩
    · cases h
  · cases h

/-- A plain value is a constant of the evaluator's. -/
def avOf : Value → AV
  | .int k n => .int k n
  | .string s => .str s.data.toList
  | .bool b => .bool b
  | _ => .undef
theorem ofConst_plain {k : Nat} {v : Value} (h : plainK k v) : ofConst v = some (avOf v) := by
  match k, h with
  | 0, ⟨n, e⟩ => rw [e]; rfl
  | 1, ⟨s, e⟩ => rw [e]; rfl
  | 2, ⟨b, e⟩ => rw [e]; rfl
theorem renOf_nil (i : Nat) (hi : 2000 ≤ i) : renOf [] i = none := renOf_none (by simp) hi

/-- What the tables say of a kind of plain values. -/
def KindIs (P : Program) (k : Nat) (t : TypeId) : Prop := k = 2 → und P t = some .bool

theorem eq_run {k : Nat} {t u : TypeId} {x y : Value} (hx : plainK k x) (hy : plainK k y) (hk : KindIs P k t) {o : Oper} {evc : Operand → Value} {a b : Operand} (hop : o.op = .binOp .eql t a b u) (ha : evc a = x) (hb : evc b = y) (w' : World) [Decidable (x = y)] :
    (execOp evc o).run P w' = .ok (.value (.bool (decide (x = y)))) w' := by
  have key : ∃ r, execA P H0 (fun z => ofConst (evc z)) o = some (.value (.bool r) H0) ∧ r = decide (x = y) := by
    unfold execA
    rw [hop]
    simp only [ha, hb, ofConst_plain hx, ofConst_plain hy]
    match k, hx, hy, hk with
    | 0, ⟨n, e1⟩, ⟨m, e2⟩, _ =>
      subst e1; subst e2
      refine ⟨ieq n m, ?_, by rw [ieq_eq, Bool.eq_iff_iff]; simp⟩
      simp [avOf, binA, kindEq, intBin]
    | 1, ⟨n, e1⟩, ⟨m, e2⟩, _ =>
      subst e1; subst e2
      refine ⟨seq n.data.toList m.data.toList, ?_, ?_⟩
      · simp [avOf, binA, strBin]
      · rw [seq_eq]
        obtain ⟨⟨n⟩⟩ := n
        obtain ⟨⟨m⟩⟩ := m
        rw [Bool.eq_iff_iff]
        simp
    | 2, ⟨n, e1⟩, ⟨m, e2⟩, hk =>
      subst e1; subst e2
      refine ⟨boolEq n m, ?_, by rw [boolEq_eq, Bool.eq_iff_iff]; simp⟩
      simp [avOf, binA, eqA, hk rfl]
  obtain ⟨r, h1, rfl⟩ := key
  obtain ⟨v, q1, q2⟩ := ent_by_run (P := P) (evc := evc) (w' := w') (fun _ => True) (Ren.le.refl _) renOf_nil (fun z a h => ofConst_rel h) (Or.inl (by unfold clsOf; rw [hop])) h1
  simp only [RelV] at q2
  rw [q1, q2]
theorem neq_run {k : Nat} {t u : TypeId} {x y : Value} (hx : plainK k x) (hy : plainK k y) (hk : KindIs P k t) {o : Oper} {evc : Operand → Value} {a b : Operand} (hop : o.op = .binOp .neq t a b u) (ha : evc a = x) (hb : evc b = y) (w' : World) [Decidable (x = y)] :
    (execOp evc o).run P w' = .ok (.value (.bool (!decide (x = y)))) w' := by
  have key : ∃ r, execA P H0 (fun z => ofConst (evc z)) o = some (.value (.bool r) H0) ∧ r = !decide (x = y) := by
    unfold execA
    rw [hop]
    simp only [ha, hb, ofConst_plain hx, ofConst_plain hy]
    match k, hx, hy, hk with
    | 0, ⟨n, e1⟩, ⟨m, e2⟩, _ =>
      subst e1; subst e2
      refine ⟨!ieq n m, ?_, by rw [ieq_eq]; congr 1; rw [Bool.eq_iff_iff]; simp⟩
      simp [avOf, binA, kindEq, intBin]
    | 1, ⟨n, e1⟩, ⟨m, e2⟩, _ =>
      subst e1; subst e2
      refine ⟨!seq n.data.toList m.data.toList, ?_, ?_⟩
      · simp [avOf, binA, strBin]
      · rw [seq_eq]
        obtain ⟨⟨n⟩⟩ := n
        obtain ⟨⟨m⟩⟩ := m
        congr 1
        rw [Bool.eq_iff_iff]
        simp
    | 2, ⟨n, e1⟩, ⟨m, e2⟩, hk =>
      subst e1; subst e2
      refine ⟨!boolEq n m, ?_, by rw [boolEq_eq]; congr 1; rw [Bool.eq_iff_iff]; simp⟩
      simp [avOf, binA, eqA, hk rfl]
  obtain ⟨r, h1, rfl⟩ := key
  obtain ⟨v, q1, q2⟩ := ent_by_run (P := P) (evc := evc) (w' := w') (fun _ => True) (Ren.le.refl _) renOf_nil (fun z a h => ofConst_rel h) (Or.inl (by unfold clsOf; rw [hop])) h1
  simp only [RelV] at q2
  rw [q1, q2]
theorem ops_two {o : Oper} {evc : Operand → Value} {a b : Operand} {x y : Value} (h : o.op.operands.toList = [a, b]) (he : o.op.operands.toList.map evc = [x, y]) : evc a = x ∧ evc b = y := by
  rw [h] at he
  simp only [List.map_cons, List.map_nil, List.cons.injEq, and_true] at he
  exact he
theorem two_rel {i j : Nat} {x y : Value} (hi : vals[i]? = some x) (hj : vals[j]? = some y) (ox : x.oneCell' = true) (oy : y.oneCell' = true) : RelL (renOf vals) [.sym (1000 + i), .sym (1000 + j)] [x, y] := by
  simp only [RelL]
  exact ⟨x, [y], rfl, sym_rel hi ox, y, [], rfl, sym_rel hj oy, rfl⟩
theorem plain_one {k : Nat} {x : Value} (h : plainK k x) : x.oneCell' = true := by
  match k, h with
  | 0, ⟨n, e⟩ => rw [e]; rfl
  | 1, ⟨s, e⟩ => rw [e]; rfl
  | 2, ⟨b, e⟩ => rw [e]; rfl
theorem ent_eql {k : Nat} {t : TypeId} {i j : Nat} {x y : Value} (hi : vals[i]? = some x) (hj : vals[j]? = some y) (hx : plainK k x) (hy : plainK k y) (hk : KindIs P k t) {b : Bool} (hb : b = true ↔ x = y) :
    EntOk P vals w (.eql t, [.sym (1000 + i), .sym (1000 + j)], .bool b) := by
  classical
  refine ⟨[x, y], .bool b, two_rel hi hj (plain_one hx) (plain_one hy), by simp only [RelV], fun o evc ht he w' _ => ?_⟩
  obtain ⟨a, c, u, hop⟩ := tag_eql ht
  obtain ⟨e1, e2⟩ := ops_two (by rw [hop]; rfl) he
  rw [eq_run hx hy hk hop e1 e2 w']
  congr 3
  cases b <;> simp_all
theorem ent_neq {k : Nat} {t : TypeId} {i j : Nat} {x y : Value} (hi : vals[i]? = some x) (hj : vals[j]? = some y) (hx : plainK k x) (hy : plainK k y) (hk : KindIs P k t) {b : Bool} (hb : b = true ↔ x ≠ y) :
    EntOk P vals w (.neq t, [.sym (1000 + i), .sym (1000 + j)], .bool b) := by
  classical
  refine ⟨[x, y], .bool b, two_rel hi hj (plain_one hx) (plain_one hy), by simp only [RelV], fun o evc ht he w' _ => ?_⟩
  obtain ⟨a, c, u, hop⟩ := tag_neq ht
  obtain ⟨e1, e2⟩ := ops_two (by rw [hop]; rfl) he
  rw [neq_run hx hy hk hop e1 e2 w']
  congr 3
  cases b <;> simp_all
theorem ent_lss {t : TypeId} {i j : Nat} {m n : Int} (hi : vals[i]? = some (.int .i64 m)) (hj : vals[j]? = some (.int .i64 n)) {b : Bool} (hb : b = true ↔ m < n) : EntOk P vals w (.lss t, [.sym (1000 + i), .sym (1000 + j)], .bool b) := by
  refine ⟨[.int .i64 m, .int .i64 n], .bool b, two_rel hi hj rfl rfl, by simp only [RelV], fun o evc ht he w' _ => ?_⟩
  obtain ⟨x, y, u, hop⟩ := tag_lss ht
  obtain ⟨e1, e2⟩ := ops_two (by rw [hop]; rfl) he
  have h1 : execA P H0 (fun z => ofConst (evc z)) o = some (.value (.bool (!ile n m)) H0) := by
    unfold execA
    rw [hop]
    simp only [e1, e2, ofConst_plain (k := 0) ⟨m, rfl⟩, ofConst_plain (k := 0) ⟨n, rfl⟩]
    simp [avOf, binA, kindEq, intBin]
  obtain ⟨v, q1, q2⟩ := ent_by_run (P := P) (evc := evc) (w' := w') (fun _ => True) (Ren.le.refl _) renOf_nil (fun z a h => ofConst_rel h) (Or.inl (by unfold clsOf; rw [hop])) h1
  simp only [RelV] at q2
  rw [q1, q2]
  congr 3
  rw [ile_eq]
  cases b <;> simp_all <;> omega
theorem ent_succ {t : TypeId} {i j : Nat} {m : Nat} (hi : vals[i]? = some (.int .i64 m)) (hj : vals[j]? = some (.int .i64 ((m + 1 : Nat) : Int))) (hm : m < 9223372036854775807) : EntOk P vals w (.add t, [.sym (1000 + i), .int .i64 1], .sym (1000 + j)) := by
  refine ⟨[.int .i64 m, .int .i64 1], .int .i64 ((m + 1 : Nat) : Int), ?_, sym_rel hj rfl, fun o evc ht he w' _ => ?_⟩
  · simp only [RelL]
    exact ⟨_, _, rfl, sym_rel hi rfl, _, _, rfl, by simp only [RelV], rfl⟩
  obtain ⟨x, y, u, hop⟩ := tag_add ht
  obtain ⟨e1, e2⟩ := ops_two (by rw [hop]; rfl) he
  have h1 : execA P H0 (fun z => ofConst (evc z)) o = some (.value (.int .i64 (wrapA .i64 (Int.add m 1))) H0) := by
    unfold execA
    rw [hop]
    simp only [e1, e2, ofConst_plain (k := 0) ⟨(m : Int), rfl⟩, ofConst_plain (k := 0) ⟨1, rfl⟩]
    simp [avOf, binA, kindEq, intBin]
  obtain ⟨v, q1, q2⟩ := ent_by_run (P := P) (evc := evc) (w' := w') (fun _ => True) (Ren.le.refl _) renOf_nil (fun z a h => ofConst_rel h) (Or.inl (by unfold clsOf; rw [hop])) h1
  simp only [RelV] at q2
  rw [q1, q2]
  have e : wrapA .i64 (Int.add m 1) = ((m + 1 : Nat) : Int) := by
    unfold wrapA
    have hf : fits .i64 (Int.add m 1) = true := by
      show fits .i64 (.ofNat (m + 1)) = true
      simp only [fits]
      exact Nat.ble_eq_true_of_le (by omega)
    rw [hf]
    rfl
  rw [e]

/- Slices. -/
/-- A naming with one number more. -/
def renS (l : Loc) : Ren := fun i => if i = 1500 then some l else renOf [] i
theorem renS_le (l : Loc) : (renOf []).le (renS l) := fun i m h => by
  unfold renS
  by_cases e : i = 1500
  · subst e; simp [renOf] at h
  · rw [if_neg e]; exact h
theorem renS_none (l : Loc) (i : Nat) (hi : 2000 ≤ i) : renS l i = none := by
  unfold renS
  rw [if_neg (by omega)]
  exact renOf_nil i hi
theorem slice_rel (b off n cap es : Nat) (hes : 0 < es) (hn : n ≤ cap) : RelV (renS ⟨b, off + cap * es, Go.undef⟩) (.slice 1500 off n es) (.slice (some ⟨b, off, none⟩) n cap) := by
  simp only [RelV]
  refine ⟨⟨b, off + cap * es, Go.undef⟩, by simp [renS], hes, ?_, ?_⟩
  · have := Nat.mul_le_mul_right es hn
    simp only
    omega
  · simp only
    rw [Nat.add_sub_cancel_left, Nat.mul_div_cancel _ hes]
/-- A slice's length. -/
def sliceIs (v : Value) (n : Nat) : Prop := (n = 0 ∧ ∃ a, v = .slice a 0 0) ∨ ∃ b off cap, v = .slice (some ⟨b, off, none⟩) n cap ∧ n ≤ cap
theorem sliceIs.at {v : Value} {n : Nat} (h : sliceIs v n) : ∃ a cap, v = .slice a n cap := by
  rcases h with ⟨rfl, a, rfl⟩ | ⟨b, off, cap, rfl, _⟩
  · exact ⟨a, 0, rfl⟩
  · exact ⟨_, cap, rfl⟩
theorem slice_one {v : Value} {n : Nat} (h : sliceIs v n) : v.oneCell' = true := by
  obtain ⟨a, cap, rfl⟩ := h.at
  rfl
theorem ent_len {t E : TypeId} (hu : und P t = some (.slice E)) {i j : Nat} {v : Value} {n : Nat} (hi : vals[i]? = some v) (hj : vals[j]? = some (.int .i64 n)) (hv : sliceIs v n) : EntOk P vals w (.len t, [.sym (1000 + i)], .sym (1000 + j)) := by
  refine ⟨[v], .int .i64 n, ?_, sym_rel hj rfl, fun o evc ht he w' _ => ?_⟩
  · simp only [RelL]
    exact ⟨_, _, rfl, sym_rel hi (slice_one hv), rfl⟩
  obtain ⟨c, hop, hc, hty⟩ := tag_len ht
  have hargs : ∃ x, c.args.toList = [x] ∧ evc x = v := by
    rw [hop] at he
    simp only [Op.operands, Call.operands, hc] at he
    simp only [Array.empty_append] at he
    cases hl : c.args.toList with
    | nil => rw [hl] at he; cases he
    | cons x l =>
      rw [hl] at he
      cases l with
      | nil => exact ⟨x, rfl, by simpa using he⟩
      | cons y l => simp at he
  obtain ⟨x, hx, hxv⟩ := hargs
  obtain ⟨a, cap, rfl⟩ := hv.at
  have z1 : c.argTypes = #[t] := Array.toList_inj.1 (by rw [hty])
  have z2 : c.args.map evc = #[.slice a n cap] := Array.toList_inj.1 (by rw [Array.toList_map, hx]; simp [hxv])
  have hrun : (Builtin.len_ #[t] o.type #[.slice a n cap]).run P w' = .ok (.int .i64 n) w' := by
    letI : Orc P := orcOf P [] []
    letI : OrcOk P := okOf P [] [] [] w' (fun _ h => by cases h) (fun _ h => by cases h)
    unfold Builtin.len_
    simp only [List.getElem?_toArray, List.getElem?_cons_zero, Sem.run_bind, run_und hu, Result.andThen_ok]
    rfl
  unfold execOp
  rw [hop]
  simp only
  unfold resolve
  rw [hc, z1, z2]
  simp only [Sem.run_bind, Sem.run_pure, Result.andThen_ok, invoke]
  unfold builtin
  simp only [Sem.run_bind, hrun, Result.andThen_ok, Sem.run_pure]
theorem ent_idx {t E : TypeId} {m : Nat} (hu : und P t = some (.slice E)) (hz : sizeP P E = some m) (hm : 0 < m) {i j k : Nat} {b off n cap : Nat} {x : Nat} (hi : vals[i]? = some (.slice (some ⟨b, off, none⟩) n cap)) (hn : n ≤ cap) (hj : vals[j]? = some (.int .i64 x)) (hx : x < n)
    (hk : vals[k]? = some (.pointer (some ⟨b, off + x * m, none⟩))) : EntOk P vals w (.idx t, [.sym (1000 + i), .sym (1000 + j)], .sym (1000 + k)) := by
  classical
  refine ⟨[.slice (some ⟨b, off, none⟩) n cap, .int .i64 x], _, two_rel hi hj rfl rfl, sym_rel hk rfl, fun o evc ht he w' _ => ?_⟩
  obtain ⟨a, c, hop⟩ := tag_idx ht
  obtain ⟨e1, e2⟩ := ops_two (by rw [hop]; rfl) he
  have h1 : execA P H0 (fun z => if evc z = .slice (some ⟨b, off, none⟩) n cap then some (.slice 1500 off n m) else if evc z = .int .i64 x then some (.int .i64 (.ofNat x)) else none) o = some (.value (.ptr 1500 (off + x * m)) H0) := by
    unfold execA
    rw [hop]
    have hne : ¬ (Value.int .i64 (x : Int) = .slice (some ⟨b, off, none⟩) n cap) := fun e => by cases e
    simp only [hu, e1, e2, if_true, hz, if_neg hne]
    rw [show (Nat.blt x n && Nat.beq m m) = true by rw [Bool.and_eq_true]; exact ⟨blt_iff.2 hx, Nat.beq_refl m⟩]
    rfl
  obtain ⟨u, q1, q2⟩ := ent_by_run (P := P) (evc := evc) (w' := w') (fun _ => True) (renS_le ⟨b, off + cap * m, Go.undef⟩) (renS_none _) (fun z a h => by
    split at h
    · rename_i e; cases h; rw [e]; exact slice_rel b off n cap m hm hn
    · split at h
      · rename_i e; cases h; simp only [RelV]; exact e
      · cases h) (Or.inl (by unfold clsOf; rw [hop])) h1
  simp only [RelV] at q2
  obtain ⟨l, hl, rfl⟩ := q2
  simp [renS] at hl
  subst hl
  exact q1
/-- Where a field lies. -/
def fieldIs (P : Program) (s : TypeId) (f off : Nat) : Prop := ∃ fs fd n, und P s = some (.struct fs) ∧ fs.toList[f]? = some fd ∧ sizeP P fd.type = some (n + 1) ∧ fd.offset = off
def fieldOk (P : Program) (s : TypeId) (f off : Nat) : Bool :=
  match und P s with
  | some (.struct fs) => match fs.toList[f]? with
    | some fd => match sizeP P fd.type with
      | some (_ + 1) => Nat.beq fd.offset off
      | _ => false
    | none => false
  | _ => false
theorem fieldOk_is {s : TypeId} {f off : Nat} (h : fieldOk P s f off = true) : fieldIs P s f off := by
  unfold fieldOk at h
  split at h
  · rename_i fs h1
    split at h
    · rename_i fd h2
      split at h
      · rename_i n h3
        exact ⟨fs, fd, n, h1, h2, h3, Nat.eq_of_beq_eq_true h⟩
      · cases h
    · cases h
  · cases h
theorem ent_fld {s : TypeId} {f fo : Nat} (hf : fieldIs P s f fo) {i j : Nat} {b off : Nat} (hi : vals[i]? = some (.pointer (some ⟨b, off, none⟩))) (hj : vals[j]? = some (.pointer (some ⟨b, off + fo, none⟩))) : EntOk P vals w (.fld s f, [.sym (1000 + i)], .sym (1000 + j)) := by
  classical
  refine ⟨[.pointer (some ⟨b, off, none⟩)], _, ?_, sym_rel hj rfl, fun o evc ht he w' _ => ?_⟩
  · simp only [RelL]
    exact ⟨_, _, rfl, sym_rel hi rfl, rfl⟩
  · obtain ⟨x, hop⟩ := tag_fld ht
    rw [hop] at he
    have hx : evc x = .pointer (some ⟨b, off, none⟩) := by simpa [Op.operands] using he
    obtain ⟨fs, fd, n, h1, h2, h3, h4⟩ := hf
    have e1 : execA P H0 (fun z => if evc z = .pointer (some ⟨b, off, none⟩) then some (.ptr 1500 off) else none) o = some (.value (.ptr 1500 (off + fd.offset)) H0) := by
      unfold execA
      rw [hop]
      simp only [h1, hx, if_true, h2, h3]
    obtain ⟨u, q1, q2⟩ := ent_by_run (P := P) (evc := evc) (w' := w') (fun _ => True) (renS_le ⟨b, 0, Go.undef⟩) (renS_none _) (fun z a h => by
      split at h
      · rename_i e; cases h; rw [e]; simp only [RelV]; exact ⟨⟨b, 0, Go.undef⟩, by simp [renS], rfl⟩
      · cases h) (Or.inl (by unfold clsOf; rw [hop])) e1
    simp only [RelV] at q2
    obtain ⟨l, hl, rfl⟩ := q2
    simp [renS] at hl
    subst hl
    rw [← h4]
    exact q1
theorem load_run {E : TypeId} {b off : Nat} {o : Oper} {evc : Operand → Value} {x : Operand} (hop : o.op = .load E x) (hx : evc x = .pointer (some ⟨b, off, none⟩)) {v : Value} {w' : World} (h : (loadVar E ⟨b, off, none⟩).run P w' = .ok v w') : (execOp evc o).run P w' = .ok (.value v) w' := by
  unfold execOp
  rw [hop]
  simp only [hx, Instr.loadAt, Instr.sureAddr, Sem.run_bind, Sem.run_pure, Result.andThen_ok, h]
theorem agg_run {E : TypeId} (ha : aggP P E = some true) {vs : List Value} (hz : sizeP P E = some vs.length) {b off : Nat} {w' : World} (h : ∀ (j : Nat) v, vs[j]? = some v → w'.cell? ⟨b, off + j, none⟩ = some v) : (loadVar E ⟨b, off, none⟩).run P w' = .ok (.agg vs.toArray) w' := by
  letI : Orc P := orcOf P [] []
  letI : OrcOk P := okOf P [] [] [] w' (fun _ h => by cases h) (fun _ h => by cases h)
  have hl := run_loadCells_list (P := P) w' ⟨b, off, none⟩ vs (fun j v hv => by rw [addr_add]; exact h j v hv)
  unfold loadVar
  simp [run_agg ha, run_size hz, hl]
theorem one_run {E : TypeId} (ha : aggP P E = some false) {b off : Nat} {w' : World} {v : Value} (h : w'.cell? ⟨b, off, none⟩ = some v) : (loadVar E ⟨b, off, none⟩).run P w' = .ok v w' := by
  letI : Orc P := orcOf P [] []
  letI : OrcOk P := okOf P [] [] [] w' (fun _ h => by cases h) (fun _ h => by cases h)
  unfold loadVar
  simp [run_agg ha, h]
theorem ent_load_agg {E : TypeId} (ha : aggP P E = some true) {vs : List Value} (hz : sizeP P E = some vs.length) {b off : Nat} (hb : b < w.heap.size) (h : ∀ (j : Nat) v, vs[j]? = some v → w.cell? ⟨b, off + j, none⟩ = some v) {i k : Nat} (hi : vals[i]? = some (.pointer (some ⟨b, off, none⟩)))
    (hk : ∀ j v, vs[j]? = some v → vals[k + j]? = some v ∧ v.oneCell' = true) : EntOk P vals w (.load E, [.sym (1000 + i)], .agg (symL k vs.length)) := by
  refine ⟨[.pointer (some ⟨b, off, none⟩)], .agg vs.toArray, ?_, ?_, fun o evc ht he w' hw => ?_⟩
  · simp only [RelL]
    exact ⟨_, _, rfl, sym_rel hi rfl, rfl⟩
  · simp only [RelV]
    exact ⟨_, rfl, symL_rel hk⟩
  · obtain ⟨x, hop⟩ := tag_load ht
    rw [hop] at he
    have hx : evc x = .pointer (some ⟨b, off, none⟩) := by simpa [Op.operands] using he
    exact load_run hop hx (agg_run ha hz fun j v hv => by rw [cell_heap (hw b hb)]; exact h j v hv)
theorem ent_load_one {E : TypeId} (ha : aggP P E = some false) {v : Value} (ho : v.oneCell' = true) {b off : Nat} (hb : b < w.heap.size) (h : w.cell? ⟨b, off, none⟩ = some v) {i k : Nat} (hi : vals[i]? = some (.pointer (some ⟨b, off, none⟩)))
    (hk : vals[k]? = some v) : EntOk P vals w (.load E, [.sym (1000 + i)], .sym (1000 + k)) := by
  refine ⟨[.pointer (some ⟨b, off, none⟩)], v, ?_, sym_rel hk ho, fun o evc ht he w' hw => ?_⟩
  · simp only [RelL]
    exact ⟨_, _, rfl, sym_rel hi rfl, rfl⟩
  · obtain ⟨x, hop⟩ := tag_load ht
    rw [hop] at he
    have hx : evc x = .pointer (some ⟨b, off, none⟩) := by simpa [Op.operands] using he
    exact load_run hop hx (one_run ha (by rw [cell_heap (hw b hb)]; exact h))
end Go.Am
