/-
  Part 20 of the proof that winch/winchlaw25.ChangeBodies returns true for every two bodies of small bulk: lemmas.
  Conditions: none beyond each theorem's own premises.
  What lies here:
  Cells side by side that hold rows; what a clone gives.
  A round as pieces and cuts; from its end to the next one.
  Facts on what a clone makes.
  What an append by hand leaves.
  The row that a clone's round makes.
  A frame's size stays.
  A run's own memory, apart from what is asked from outside: kept from round to round of a loop.
  The midst of a round, with objects that are kept from before it.
  A loop's head where the run's own memory is kept.
  From a round's end to the next head, and from a head to a loop, with the run's own memory kept.
  Numbers that no value names may be forgotten.
  A call that comes to a loop, its own memory kept.
  A call, then cuts, up to a loop's head: the reference's clone of a power, facts.
  The end of a call from the midst of a run.
  A call's start as the midst of a run.
  From the midst of a run to a loop's head, its memory kept.
-/
import Derived.Test.YtclhjedldbkgpaaGreatDoorBodies19
set_option linter.unusedVariables false
set_option linter.unusedSimpArgs false
set_option linter.unusedSectionVars false
namespace Go.Am
open Go.Proofs

/-- Cells that hold rows, one behind the other. -/
def Cells (tb : Tab) (S : Nat → Prop) (w : World) (E : TypeId) : List Value → List T → Prop
  | cells, [] => cells = []
  | cells, x :: r => ∃ vs rest a, cells = vs ++ rest ∧ x = .row a ∧ RdVals tb S w (tb.flat E) vs a ∧ Cells tb S w E rest r
section
variable {tb : Tab} {S S' : Nat → Prop} {w w' : World} {E : TypeId}
theorem Cells.mono (hs : w.heap.size ≤ w'.heap.size) (hb : ∀ b, S b → b < w.heap.size → w'.heap[b]? = w.heap[b]?) (hS : ∀ b, S b → S' b) : ∀ {rows : List T} {cells : List Value}, Cells tb S w E cells rows → Cells tb S' w' E cells rows
  | [], cells, h => h
  | x :: r, cells, h => by
    simp only [Cells] at *
    obtain ⟨vs, rest, a, h1, h2, h3, h4⟩ := h
    exact ⟨vs, rest, a, h1, h2, h3.mono hs hb hS, h4.mono hs hb hS⟩
theorem Cells.snoc {vs : List Value} {a : List T} (hv : RdVals tb S w (tb.flat E) vs a) : ∀ {rows : List T} {cells : List Value}, Cells tb S w E cells rows → Cells tb S w E (cells ++ vs) (rows ++ [.row a])
  | [], cells, h => by
    simp only [Cells] at h
    subst h
    exact ⟨vs, [], a, by simp, rfl, hv, rfl⟩
  | x :: r, cells, h => by
    simp only [Cells] at h
    obtain ⟨us, rest, b, rfl, rfl, h3, h4⟩ := h
    exact ⟨us, rest ++ vs, b, by simp, rfl, h3, h4.snoc hv⟩
theorem Cells.len {m : Nat} (hm : (tb.flat E).length = m) : ∀ {rows : List T} {cells : List Value}, Cells tb S w E cells rows → cells.length = rows.length * m
  | [], cells, h => by simp only [Cells] at h; subst h; simp
  | x :: r, cells, h => by
    simp only [Cells] at h
    obtain ⟨us, rest, b, rfl, rfl, h3, h4⟩ := h
    have := h4.len hm
    have h5 := h3.len.1
    simp only [List.length_append, List.length_cons, this, h5, hm]
    rw [Nat.add_mul]
    omega
theorem RdVals.cells {b : Nat} : ∀ {ts : List TypeId} {off : Nat} {vs : List Value} {xs : List T}, RdVals tb S w ts vs xs → (∀ (j : Nat) z, vs[j]? = some z → w.cell? ⟨b, off + j, none⟩ = some z) → RdCells tb S w b off ts xs
  | [], off, vs, xs, h, _ => by
    simp only [RdVals] at h
    obtain ⟨rfl, rfl⟩ := h
    simp only [RdCells]
  | t :: ts, off, vs, xs, h, hc => by
    simp only [RdVals] at h
    obtain ⟨v, vs', x, xs', rfl, rfl, h3, h4⟩ := h
    simp only [RdCells]
    refine ⟨t, ts, v, rfl, by simpa using hc 0 v rfl, h3, h4.cells fun j z hj => ?_⟩
    rw [show off + 1 + j = off + (j + 1) by omega]
    exact hc (j + 1) z (by simpa using hj)
theorem Cells.rows {b : Nat} : ∀ {rows : List T} {off : Nat} {cells : List Value}, Cells tb S w E cells rows → (∀ (j : Nat) z, cells[j]? = some z → w.cell? ⟨b, off + j, none⟩ = some z) → RdRows tb S w E b off rows
  | [], off, cells, _, _ => by simp only [RdRows]
  | x :: r, off, cells, h, hc => by
    simp only [Cells] at h
    obtain ⟨us, rest, a, rfl, rfl, h3, h4⟩ := h
    simp only [RdRows, RdRow]
    refine ⟨h3.cells fun j z hj => hc j z (at_left hj), h4.rows fun j z hj => ?_⟩
    rw [← h3.len.1, Nat.add_assoc]
    exact hc (us.length + j) z (by rw [at_app rfl]; exact hj)
/-- The cells of rows that lie in memory. -/
theorem RdRows.cells {b : Nat} : ∀ {rows : List T} {off : Nat}, RdRows tb S w E b off rows → ∃ cells, Cells tb S w E cells rows ∧ ∀ (j : Nat) z, cells[j]? = some z → w.cell? ⟨b, off + j, none⟩ = some z
  | [], off, _ => ⟨[], rfl, fun j z h => by simp at h⟩
  | x :: r, off, h => by
    simp only [RdRows] at h
    obtain ⟨h1, h2⟩ := h
    obtain ⟨cells, q1, q2⟩ := h2.cells
    cases x with
    | val x => simp only [RdRow] at h1
    | seq x => simp only [RdRow] at h1
    | row a =>
      simp only [RdRow] at h1
      obtain ⟨vs, p1, p2⟩ := h1.vals
      refine ⟨vs ++ cells, ⟨vs, cells, a, rfl, rfl, p1, q1⟩, fun j z hj => ?_⟩
      have hl := p1.len.1
      by_cases hlt : j < vs.length
      · rw [List.getElem?_append_left hlt] at hj
        exact p2 j z hj
      · rw [List.getElem?_append_right (by omega)] at hj
        have := q2 _ z hj
        rw [show off + (tb.flat E).length + (j - vs.length) = off + j by omega] at this
        exact this
/-- What an append has made is data. -/
theorem Out.seq {n0 m k : Nat} {v : Value} {cells : List Value} {rows : List T} {t : TypeId} (ho : Out w n0 E m v cells k) (hc : Cells tb S w E cells rows) (hm : (tb.flat E).length = m) (hm0 : 0 < m) (he : tb.elem t = some E) (hS : ∀ b, S b → S' b) (hb : ∀ b, blockIs v b → S' b) : RdC tb S' w t v (.seq rows) := by
  have hl := hc.len hm
  obtain ⟨h1, h2⟩ := ho
  have hk : rows.length = k := Nat.eq_of_mul_eq_mul_right hm0 (by rw [← hl, h1])
  simp only [RdC]
  refine ⟨E, he, ?_⟩
  have hc' : Cells tb S' w E cells rows := hc.mono (Nat.le_refl _) (fun _ _ _ => rfl) hS
  rcases h2 with ⟨rfl, rfl⟩ | ⟨b, cap, arr, rfl, q1, q2, q3, q4, q5, q6⟩
  · exact Or.inl ⟨List.length_eq_zero_iff.1 hk, none, rfl⟩
  · refine Or.inr ⟨b, 0, cap, by rw [hk], by omega, q3, hb b ⟨_, _, _, rfl⟩, hc'.rows fun j z hj => ?_⟩
    rw [cell_of q4, Nat.zero_add]
    exact q6 j z hj
end
/-- A function that gives a copy of a sequence, all in blocks of its own. -/
def CloneSeq (P : Program) (tb : Tab) (f : FuncId) (t : TypeId) (x : List T) : Prop :=
  ∀ (w : World) (v : Value), RdC tb Any w t v (.seq x) → Calls P f #[v] w fun e w' => ∃ v', e = .returned v' ∧ (∃ vs, shape none v' vs) ∧ Grows w w' ∧ RdC tb (fun b => w.heap.size ≤ b) w' t v' (.seq x)
end Go.Am
set_option linter.unusedSectionVars false
namespace Go.Am

inductive Cut where
  | call (f : FuncId) (xs : List AV) (m : Option Nat) (j : Nat)
  | push (t u : TypeId) (m : Nat) (s : AV) (new : List AV) (j : Nat)
  | copy (t u : TypeId) (s x : AV) (j : Nat)
def cutOf (P : Program) [Orc P] (p : AFrame × AHeap) : Cut → Option (AFrame × AHeap)
  | .call f xs m j => bif Nat.beq p.2.next j then cutCall P p f xs m else none
  | .push t u m s new j => bif Nat.beq p.2.next j then cutPush p t u m s new else none
  | .copy t u s x j => bif Nat.beq p.2.next j then cutCopy p t u s x else none
/-- Pieces of a run, and the cuts between them. -/
def runCuts (P : Program) [Orc P] : List Cut → AFrame × AHeap → Option (AFrame × AHeap)
  | [], p => some (seg P 600 p.1 p.2)
  | k :: l, p => match cutOf P (seg P 600 p.1 p.2) k with
    | some q => runCuts P l q
    | none => none
def roundCuts (P : Program) [Orc P] (p : Option (Func × AFrame × AHeap)) (F : List (Nat × AV)) (d q : Nat) (cuts : List Cut) : Option (Func × AFrame × AHeap) :=
  match loopOf p with
  | some (g, fr, B, K) => match runCuts P cuts (headFr fr.fn fr.n B K F d q, H0) with
    | some r => some (g, r.1, r.2)
    | none => none
  | none => none
section
variable {P : Program} {vals : List Value} {w w0 : World} {R : Ending → World → Prop} {f m n d : Nat} {g : Func} {B : Code} {K : List AItem} {F : List (Nat × AV)} {i : Int} {c : Frame} {ks : List Frame} {p : Option (Func × AFrame × AHeap)}
theorem Looping.cuts (hl : Looping P p f m g B K) (o : Orc P) (F : List (Nat × AV)) (d q : Nat) (cuts : List Cut) {x : Func × AFrame × AHeap} (h : @roundCuts P o p F d q cuts = some x) : @runCuts P o cuts (headFr f m B K F d q, H0) = some x.2 := by
  obtain ⟨fr, h1, h2, h3⟩ := hl.at'
  unfold roundCuts at h
  rw [h1] at h
  simp only [h2, h3] at h
  split at h
  · rename_i r hr
    cases h
    rw [hr]
  · cases h
theorem runCuts_cons [Orc P] {k : Cut} {l : List Cut} {p q : AFrame × AHeap} (h : runCuts P (k :: l) p = some q) : ∃ r, cutOf P (seg P 600 p.1 p.2) k = some r ∧ runCuts P l r = some q := by
  simp only [runCuts] at h
  split at h
  · rename_i r hr; exact ⟨r, hr, h⟩
  · cases h
theorem cut_call [Orc P] {p q : AFrame × AHeap} {f : FuncId} {xs : List AV} {m : Option Nat} {j : Nat} (h : cutOf P p (.call f xs m j) = some q) : p.2.next = j ∧ cutCall P p f xs m = some q := by
  obtain ⟨h1, h2⟩ := cond_some h rfl
  exact ⟨Nat.eq_of_beq_eq_true h1, h2⟩
theorem cut_push [Orc P] {p q : AFrame × AHeap} {t u : TypeId} {m : Nat} {s : AV} {new : List AV} {j : Nat} (h : cutOf P p (.push t u m s new j) = some q) : p.2.next = j ∧ cutPush p t u m s new = some q := by
  obtain ⟨h1, h2⟩ := cond_some h rfl
  exact ⟨Nat.eq_of_beq_eq_true h1, h2⟩
theorem cut_copy [Orc P] {p q : AFrame × AHeap} {t u : TypeId} {s x : AV} {j : Nat} (h : cutOf P p (.copy t u s x j) = some q) : p.2.next = j ∧ cutCopy p t u s x = some q := by
  obtain ⟨h1, h2⟩ := cond_some h rfl
  exact ⟨Nat.eq_of_beq_eq_true h1, h2⟩
variable [Orc P] [OrcOk P] {ρ : Ren} {H : AHeap} {fr : AFrame}
/-- A run that has come to its loop's end goes on to the next round, told by other values. -/
theorem At0.again (a : At0 P ρ H w fr c ks) (hl : Looping P p f m g B K) (hm : fr.n = m) (hf : c.fn = f) (ht : fr.todo = .inLoop B :: K) {d' : Nat} {F' : List (Nat × AV)} {i' : Int} {vals' : List Value} (hs : ∀ e ∈ F', RelV (renOf vals') e.2 (c.tmps.getD e.1 Go.undef)) (hi : c.tmps.getD d' Go.undef = .int .i64 i')
    (k : ∀ c', LoopAt P vals' f m B K F' d' i' c' → Ends P c' ks w R) : Ends P c ks w R := by
  have hto := a.st.frame.todo a.run
  rw [ht] at hto
  simp only [RelItems, RelItem] at hto
  obtain ⟨x, xs, h1, rfl, h2⟩ := hto
  have hmode := a.st.frame.mode
  rw [a.run] at hmode
  simp only [RelMode] at hmode
  have hdef := a.st.frame.defers
  rw [a.plain] at hdef
  simp only [RelDefs] at hdef
  have s1 := mv_inLoop (P := P) (cs := ks) (w := w) hmode h1
  refine Ends.of_steps (Steps.one s1) rfl (k _ ⟨hmode, hdef, a.lone, a.kind, hf, ⟨g, hl.has⟩, ?_, ?_, hs, hi⟩)
  · rw [← hm]
    exact (a.st.frame.tmps (Dead.not a.run)).size
  · simp only [RelItems, RelItem]
    exact ⟨_, _, rfl, rfl, _, _, rfl, rfl, plainI_any hl.plain h2⟩
/-- What a temporary holds, when the frame tells it. -/
theorem At0.slot (a : At0 P ρ H w fr c ks) {l : List (Nat × AV)} (hs : slotsAre fr.tmps l = true) {e : Nat × AV} (he : e ∈ l) (hj : e.2 ≠ .junk) : RelV ρ e.2 (c.tmps.getD e.1 Go.undef) := by
  have h3 := (a.st.frame.tmps (Dead.not a.run)).val e.1
  rw [slotsAre_spec hs e he] at h3
  exact h3.known hj
theorem sym_is {ρ : Ren} {j : Nat} {v u : Value} (h : ρ j = some ⟨0, 0, v⟩) (r : RelV ρ (.sym j) u) : u = v := by
  simp only [RelV] at r
  obtain ⟨l, h1, h2, _⟩ := r
  rw [h] at h1
  cases h1
  exact h2
end
end Go.Am
set_option linter.unusedSectionVars false
namespace Go.Am

/-- A symbol, its value, the data that it holds, its type. -/
structure Fact where
  j : Nat
  z : Value
  x : T
  t : TypeId
section
variable {P : Program} [Orc P] [OrcOk P] {tb : Tab} {w2 w : World} {ρ0 ρ : Ren} {made : List Fact} {f : FuncId} {H : AHeap} {fr : AFrame} {c : Frame} {cs : List Frame} {R : Ending → World → Prop} {q : AFrame × AHeap}
theorem cutCall_get {p q : AFrame × AHeap} {g : FuncId} {xs : List AV} {m : Option Nat} (h : cutCall P p g xs m = some q) (i : Nat) : q.2.get i = p.2.get i := by
  unfold cutCall at h
  split at h
  case h_2 => cases h
  split at h
  case h_2 => cases h
  obtain ⟨_, hq⟩ := cond_some h rfl
  split at hq
  · cases hq; rfl
  · cases hq
theorem cutCopy_get {p q : AFrame × AHeap} {t u : TypeId} {s x : AV} (h : cutCopy p t u s x = some q) (i : Nat) : q.2.get i = p.2.get i := by
  unfold cutCopy at h
  split at h
  case h_2 => cases h
  split at h
  case h_2 => cases h
  split at h
  case h_2 => cases h
  obtain ⟨_, hq⟩ := cond_some h rfl
  cases hq; rfl
/-- A function that gives a copy of a sequence, all in blocks of its own. -/
def Clone1 (P : Program) (tb : Tab) (f : FuncId) (t : TypeId) (x : List T) : Prop :=
  ∀ (w : World) (v : Value), RdC tb Any w t v (.seq x) → Calls P f #[v] w fun e w' => ∃ v', e = .returned v' ∧ (∃ vs, shape none v' vs) ∧ Grows w w' ∧ RdC tb (fun b => w.heap.size ≤ b ∧ b < w'.heap.size) w' t v' (.seq x)
/-- Types whose values hold no blocks. -/
theorem RdC.plain {S S' : Nat → Prop} {w w' : World} {t : TypeId} (he : tb.elem t = none) {v : Value} {x : T} (h : RdC tb S w t v x) : RdC tb S' w' t v x := by
  cases x with
  | val x => simp only [RdC] at *; exact h
  | row l => simp only [RdC] at h
  | seq l =>
    simp only [RdC] at h
    obtain ⟨E, h1, _⟩ := h
    rw [he] at h1
    cases h1
theorem RdVals.plain {S S' : Nat → Prop} {w w' : World} : ∀ {ts : List TypeId} {vs : List Value} {xs : List T}, (∀ t ∈ ts, tb.elem t = none) → RdVals tb S w ts vs xs → RdVals tb S' w' ts vs xs
  | [], vs, xs, _, h => by simp only [RdVals] at *; exact h
  | t :: ts, vs, xs, hp, h => by
    simp only [RdVals] at *
    obtain ⟨v, vs', x, xs', h1, h2, h3, h4⟩ := h
    exact ⟨v, vs', x, xs', h1, h2, RdC.plain (hp t List.mem_cons_self) h3, RdVals.plain (fun t ht => hp t (List.mem_cons_of_mem _ ht)) h4⟩
theorem Cells.plain {S S' : Nat → Prop} {w w' : World} {E : TypeId} (hp : ∀ t ∈ tb.flat E, tb.elem t = none) : ∀ {rows : List T} {cells : List Value}, Cells tb S w E cells rows → Cells tb S' w' E cells rows
  | [], cells, h => h
  | x :: r, cells, h => by
    simp only [Cells] at *
    obtain ⟨vs, rest, a, h1, h2, h3, h4⟩ := h
    exact ⟨vs, rest, a, h1, h2, RdVals.plain hp h3, Cells.plain hp h4⟩
theorem Cells.ones {S : Nat → Prop} {w : World} {E : TypeId} : ∀ {rows : List T} {cells : List Value}, Cells tb S w E cells rows → ∀ z ∈ cells, z.oneCell' = true
  | [], cells, h, z, hz => by simp only [Cells] at h; subst h; cases hz
  | x :: r, cells, h, z, hz => by
    simp only [Cells] at h
    obtain ⟨vs, rest, a, rfl, rfl, h3, h4⟩ := h
    rcases List.mem_append.1 hz with hz | hz
    · obtain ⟨j, hj, rfl⟩ := List.getElem_of_mem hz
      exact h3.ones j _ (List.getElem?_eq_getElem hj)
    · exact Cells.ones h4 z hz
end
end Go.Am
set_option linter.unusedSectionVars false
namespace Go.Am

section
variable {P : Program} [Orc P] [OrcOk P] {tb : Tab} {w2 w : World} {ρ0 ρ : Ren} {made : List Fact} {f : FuncId} {H : AHeap} {fr : AFrame} {c : Frame} {cs : List Frame} {R : Ending → World → Prop} {q : AFrame × AHeap}
theorem cutPush_get {p q : AFrame × AHeap} {t u : TypeId} {m : Nat} {s : AV} {new : List AV} (h : cutPush p t u m s new = some q) : q.2 = bump p.2 1 := by
  unfold cutPush at h
  split at h
  case h_2 => cases h
  split at h
  case h_2 => cases h
  split at h
  case h_2 => cases h
  split at h
  case h_2 => cases h
  obtain ⟨_, hq⟩ := cond_some h rfl
  cases hq; rfl
end
end Go.Am
set_option linter.unusedSectionVars false
namespace Go.Am

/-- The cells of a new row: the source's, from a number on, where they hold no blocks; else what has been made. -/
def rowIs (tb : Tab) (made : List Fact) : Nat → List TypeId → List T → List AV → Prop
  | _, [], xs, l => xs = [] ∧ l = []
  | b0, t :: ts, xs, l => ∃ x xs' a l', xs = x :: xs' ∧ l = a :: l' ∧ ((a = .sym (1000 + b0) ∧ tb.elem t = none) ∨ ∃ k ∈ made, a = .sym k.j ∧ k.x = x ∧ k.t = t) ∧ rowIs tb made (b0 + 1) ts xs' l'
section
variable {P : Program} {vals : List Value} {w w0 : World} {R : Ending → World → Prop} {f m n d : Nat} {g : Func} {B : Code} {K : List AItem} {F : List (Nat × AV)} {i : Int} {c : Frame} {ks : List Frame} {p : Option (Func × AFrame × AHeap)} {es : List Ent} {cs : List CEnt} {more : List Value} {tb : Tab}
variable [Orc P] [OrcOk P] {w2 : World} {ρ : Ren} {made : List Fact} {H : AHeap} {fr : AFrame}
end
end Go.Am
set_option linter.unusedSectionVars false
namespace Go.Am
open Go.Proofs
theorem stop_n {fr fr1 : AFrame} {o : Oper} (h : stopAt fr = some (o, fr1)) : fr1.n = fr.n := by
  unfold stopAt at h
  split at h
  case h_2 => cases h
  obtain ⟨_, hq⟩ := cond_some h rfl
  cases hq; rfl
theorem put_n {fr fr1 : AFrame} {d : Option Tmp} {x : AV} (h : fr.put d x = some fr1) : fr1.n = fr.n := by
  unfold AFrame.put at h
  split at h
  · cases h; rfl
  · obtain ⟨_, hq⟩ := cond_some h rfl
    cases hq; rfl
section
variable {P : Program} [Orc P]
theorem cutOf_n {p q : AFrame × AHeap} : ∀ {k : Cut}, cutOf P p k = some q → q.1.n = p.1.n
  | .call f xs m j, h => by
    have h := (cut_call h).2
    unfold cutCall at h
    split at h
    case h_2 => cases h
    rename_i o fr1 hs
    split at h
    case h_2 => cases h
    obtain ⟨_, hq⟩ := cond_some h rfl
    split at hq
    · rename_i fr2 hp
      cases hq
      exact (put_n hp).trans (stop_n hs)
    · cases hq
  | .push t u m s new j, h => by
    have h := (cut_push h).2
    unfold cutPush at h
    split at h
    case h_2 => cases h
    rename_i o fr1 hs
    split at h
    case h_2 => cases h
    split at h
    case h_2 => cases h
    rename_i fr2 _ _ hp
    split at h
    case h_2 => cases h
    obtain ⟨_, hq⟩ := cond_some h rfl
    cases hq
    exact (put_n hp).trans (stop_n hs)
  | .copy t u s x j, h => by
    have h := (cut_copy h).2
    unfold cutCopy at h
    split at h
    case h_2 => cases h
    rename_i o fr1 hs
    split at h
    case h_2 => cases h
    split at h
    case h_2 => cases h
    rename_i fr2 _ _ hp
    obtain ⟨_, hq⟩ := cond_some h rfl
    cases hq
    exact (put_n hp).trans (stop_n hs)
theorem runCuts_n : ∀ {l : List Cut} {p q : AFrame × AHeap}, runCuts P l p = some q → q.1.n = p.1.n
  | [], p, q, h => by
    simp only [runCuts, Option.some.injEq] at h
    rw [← h]
    exact seg_n _ _ _
  | k :: l, p, q, h => by
    obtain ⟨r, h1, h2⟩ := runCuts_cons h
    exact (runCuts_n h2).trans ((cutOf_n h1).trans (seg_n _ _ _))
end
theorem Out.block {w : World} {n0 : Nat} {E : TypeId} {m : Nat} {v : Value} {cells : List Value} {k : Nat} (ho : Out w n0 E m v cells k) {b : Nat} (hb : blockIs v b) : n0 ≤ b ∧ b < w.heap.size := by
  obtain ⟨off, n, cap, e⟩ := hb
  rcases ho.2 with ⟨e2, _⟩ | ⟨b', cap', arr, e2, _, k2, k3, _⟩
  · rw [e] at e2; cases e2
  · rw [e] at e2; cases e2; exact ⟨k2, k3⟩
end Go.Am
set_option linter.unusedSectionVars false
namespace Go.Am

/-- A memory of the run's own against the machine's; blocks below a world's size are others', and as they were. -/
structure HeapAt (P : Program) (W : World) (ρ : Ren) (H : AHeap) (w : World) : Prop where
  obj : ∀ i o, H.get i = some o → ∃ l, ρ i = some l ∧ l.b < w.heap.size ∧ RelO P ρ l o (w.heap[l.b]?)
  inj : ∀ i j o o' l l', H.get i = some o → H.get j = some o' → ρ i = some l → ρ j = some l' → l.b = l'.b → i = j
  fresh : ∀ i, H.next ≤ i → ρ i = none
  kept : ∀ b, b < W.heap.size → w.heap[b]? = W.heap[b]?
  wsize : W.heap.size ≤ w.heap.size
  own : ∀ i o l, H.get i = some o → o.own = true → ρ i = some l → ¬ l.b < W.heap.size
  still : Still W w
section
variable {P : Program} {W w w' : World} {ρ ρ' : Ren} {H H' : AHeap} {es : List Ent} {cs : List CEnt} {V pre more : List Value}
theorem HeapAt.rel (h : HeapAt P W ρ H w) (hes : ∀ e ∈ es, EntOk P V W e) (hcs : ∀ e ∈ cs, CallOk P V W e) (hb : (renOf V).le ρ) : @RelH P (orcOf P es cs) (okOf P es cs V W hes hcs) ρ H w := by
  letI : Orc P := orcOf P es cs
  letI : OrcOk P := okOf P es cs V W hes hcs
  exact ⟨h.obj, h.inj, h.fresh, hb, h.kept, h.wsize, h.own, h.still⟩
theorem HeapAt.of {hes : ∀ e ∈ es, EntOk P V W e} {hcs : ∀ e ∈ cs, CallOk P V W e} (h : @RelH P (orcOf P es cs) (okOf P es cs V W hes hcs) ρ H w) : HeapAt P W ρ H w := by
  letI : Orc P := orcOf P es cs
  letI : OrcOk P := okOf P es cs V W hes hcs
  exact ⟨h.obj, h.inj, h.fresh, h.kept, h.wsize, h.own, h.still⟩
/-- The same, with a round's symbols. -/
def Ren.syms (ρ : Ren) (V : List Value) : Ren := fun j => if 1000 ≤ j ∧ j < 2000 then renOf V j else ρ j
theorem Ren.le_syms (h : ∀ j, 1000 ≤ j → j < 2000 → ρ j = renOf pre j) : ρ.le (ρ.syms (pre ++ more)) := fun j l e => by
  unfold Ren.syms
  by_cases hj : 1000 ≤ j ∧ j < 2000
  · rw [if_pos hj]
    rw [h j hj.1 hj.2] at e
    exact renOf_le j l e
  · rw [if_neg hj]; exact e
theorem Ren.base_syms (hl : V.length ≤ 1000) (hg : ∀ j, j < 1000 → ρ j = renOf V j) : (renOf V).le (ρ.syms V) := fun j l e => by
  unfold Ren.syms
  by_cases hj : 1000 ≤ j ∧ j < 2000
  · rw [if_pos hj]; exact e
  · rw [if_neg hj]
    by_cases hlo : j < 1000
    · rw [hg j hlo]; exact e
    · rw [renOf_none hl (by omega)] at e; cases e
/-- Objects' numbers begin at 2000; all are cells. -/
def isCells : AObj → Bool
  | .cells _ _ _ _ _ => true
  | _ => false
def noLow (H : AHeap) : Bool := Nat.ble 2000 H.next && ((List.range 2000).all fun i => match H.get i with
  | some _ => false
  | none => true)
theorem noLow_spec (h : noLow H = true) : 2000 ≤ H.next ∧ ∀ i o, H.get i = some o → 2000 ≤ i := by
  unfold noLow at h
  rw [Bool.and_eq_true] at h
  refine ⟨Nat.le_of_ble_eq_true h.1, fun i o ho => ?_⟩
  rcases Nat.lt_or_ge i 2000 with hlt | hge
  · have h2 := h.2
    rw [List.all_eq_true] at h2
    have := h2 i (by simpa using hlt)
    rw [ho] at this
    cases this
  · exact hge
theorem HeapAt.syms (h : HeapAt P W ρ H w) (hn : noLow H = true) (hs : ∀ j, 1000 ≤ j → j < 2000 → ρ j = renOf pre j) : HeapAt P W (ρ.syms (pre ++ more)) H w := by
  have hle := Ren.le_syms (more := more) hs
  obtain ⟨n1, n2⟩ := noLow_spec hn
  have same : ∀ i, 2000 ≤ i → ρ.syms (pre ++ more) i = ρ i := fun i hi => by
    unfold Ren.syms
    rw [if_neg (by omega)]
  refine ⟨fun i o ho => ?_, fun i j o o' l l' h1 h2 h3 h4 e => ?_, fun i hi => ?_, h.kept, h.wsize, fun i o l h1 h2 h3 => ?_, h.still⟩
  · obtain ⟨l, q1, q2, q3⟩ := h.obj i o ho
    exact ⟨l, hle _ _ q1, q2, q3.mono hle⟩
  · rw [same i (n2 i o h1)] at h3
    rw [same j (n2 j o' h2)] at h4
    exact h.inj i j o o' l l' h1 h2 h3 h4 e
  · rw [same i (by omega)]
    exact h.fresh i hi
  · rw [same i (n2 i o h1)] at h3
    exact h.own i o l h1 h2 h3
theorem RelO.back (hle : ρ.le ρ') {l : Loc} {a : AObj} (hc : isCells a = true) {o o' : Option Obj} (h : RelO P ρ l a o) (k : RelO P ρ' l a o') : RelO P ρ l a o' := by
  cases a with
  | cells t size e tight ro =>
    simp only [RelO] at *
    obtain ⟨c, e1, fz, h1, h2, h3, h4, h5, h6⟩ := h
    obtain ⟨c', e1', fz', k1, k2, k3, k4, k5, k6⟩ := k
    refine ⟨c', e1', fz', k1, k2, k3, k4, fun j hj => ?_, k6⟩
    obtain ⟨a, v, g1, g2, g3, g4⟩ := h5 j hj
    obtain ⟨a', v', m1, m2, m3, m4⟩ := k5 j hj
    rw [g1] at m1
    cases m1
    exact ⟨a, v', g1, m2, RelV.back hle g3 m3, g4⟩
  | _ => cases hc
/-- Back from a round's end: what was there is as it was. -/
theorem HeapAt.back (h : HeapAt P W ρ H w) (h' : HeapAt P W ρ' H' w') (hle : ρ.le ρ') (hc : H.objs.all isCells = true) (hget : ∀ i o, H.get i = some o → H'.get i = some o) : HeapAt P W ρ H w' := by
  refine ⟨fun i o ho => ?_, h.inj, h.fresh, h'.kept, h'.wsize, h.own, h'.still⟩
  obtain ⟨l, q1, q2, q3⟩ := h.obj i o ho
  obtain ⟨l', k1, k2, k3⟩ := h'.obj i o (hget i o ho)
  rw [hle _ _ q1] at k1
  cases k1
  exact ⟨l, q1, k2, RelO.back hle (Tree.all_get hc ho) q3 k3⟩
end
end Go.Am
set_option linter.unusedSectionVars false
namespace Go.Am

/-- The midst of a round that began in a memory: new data lies in blocks of its own, apart from the run's own objects; some objects are older than the round. -/
structure Mix (P : Program) [Orc P] [OrcOk P] (tb : Tab) (Old : Nat → Prop) (w2 : World) (ρ0 : Ren) (made : List Fact) (f : FuncId) (ρ : Ren) (H : AHeap) (w : World) (fr : AFrame) (c : Frame) (cs : List Frame) : Prop where
  state : At0 P ρ H w fr c cs
  size : w2.heap.size ≤ w.heap.size
  since : ∀ b, b < w2.heap.size → ¬ Old b → w.heap[b]? = w2.heap[b]?
  objs : ∀ i y l, H.get i = some y → y.own = true → ρ i = some l → w2.heap.size ≤ l.b ∨ Old l.b
  olds : ∀ b, Old b → b < w2.heap.size
  le : ρ0.le ρ
  facts : ∀ q ∈ made, ρ q.j = some ⟨0, 0, q.z⟩ ∧ q.z.oneCell' = true ∧ ∃ lo hi, w2.heap.size ≤ lo ∧ hi ≤ w.heap.size ∧ (∀ i y l, H.get i = some y → y.own = true → ρ i = some l → l.b < lo ∨ hi ≤ l.b) ∧ RdC tb (fun b => lo ≤ b ∧ b < hi) w q.t q.z q.x
  fn : c.fn = f
section
variable {P : Program} [Orc P] [OrcOk P] {tb : Tab} {Old : Nat → Prop} {w2 w : World} {ρ0 ρ : Ren} {made : List Fact} {f : FuncId} {H : AHeap} {fr : AFrame} {c : Frame} {cs : List Frame} {R : Ending → World → Prop} {q : AFrame × AHeap}
/-- New facts, side by side, from a number on. -/
def newFacts : Nat → List Value → List T → List TypeId → List Fact
  | j, v :: vs, x :: xs, t :: ts => ⟨j, v, x, t⟩ :: newFacts (j + 1) vs xs ts
  | _, _, _, _ => []
theorem newFacts_ok {S : Nat → Prop} {w' : World} {ρ' : Ren} : ∀ {j : Nat} {vs : List Value} {xs : List T} {ts : List TypeId}, RdVals tb S w' ts vs xs → (∀ (i : Nat) z, vs[i]? = some z → ρ' (j + i) = some ⟨0, 0, z⟩) → ∀ q ∈ newFacts j vs xs ts, ρ' q.j = some ⟨0, 0, q.z⟩ ∧ q.z.oneCell' = true ∧ RdC tb S w' q.t q.z q.x
  | j, vs, xs, [], _, _, q, hq => by cases vs <;> cases xs <;> simp [newFacts] at hq
  | j, vs, xs, t :: ts, h, hr, q, hq => by
    simp only [RdVals] at h
    obtain ⟨v, vs', x, xs', rfl, rfl, h3, h4⟩ := h
    simp only [newFacts, List.mem_cons] at hq
    rcases hq with rfl | hq
    · exact ⟨hr 0 v rfl, h3.one, h3⟩
    · exact newFacts_ok h4 (fun i z hz => by rw [show j + 1 + i = j + (i + 1) by omega]; exact hr (i + 1) z (by simpa using hz)) q hq
/-- A function that gives a copy of a row, all in blocks of its own. -/
def CloneRow (P : Program) (tb : Tab) (f : FuncId) (E : TypeId) (x : List T) : Prop :=
  ∀ (w : World) (vs : List Value), RdVals tb Any w (tb.flat E) vs x → Calls P f #[.agg vs.toArray] w fun e w' => ∃ v', e = .returned v' ∧ (∃ us, shape (some (tb.flat E).length) v' us) ∧ Grows w w' ∧ ∃ us, v' = .agg us.toArray ∧ RdVals tb (fun b => w.heap.size ≤ b ∧ b < w'.heap.size) w' (tb.flat E) us x
end
end Go.Am
set_option linter.unusedSectionVars false
namespace Go.Am

/-- The blocks of a memory's objects. -/
def OldOf (ρ : Ren) (H : AHeap) : Nat → Prop := fun b => ∃ i o l, H.get i = some o ∧ ρ i = some l ∧ l.b = b
/-- A frame at a loop's head: fixed temporaries, one that holds what is made, one that counts; the run's own memory. -/
structure LoopH (P : Program) (W : World) (pre : List Value) (H : AHeap) (F : List (Nat × AV)) (dO : Nat) (out : Value) (d : Nat) (i : Int) (f n : Nat) (B : Code) (K : List AItem) (ρ : Ren) (w : World) (c : Frame) : Prop where
  mode : c.mode = .run
  defers : c.defers = []
  lone : c.roundOf = none
  kind : c.kind = .normal
  fn : c.fn = f
  has : ∃ g, P.funcs[f]? = some g
  size : c.tmps.size = n
  todo : RelItems (renOf []) (.code B :: .inLoop B :: K) c.todo
  slots : ∀ e ∈ F, RelV ρ e.2 (c.tmps.getD e.1 Go.undef)
  made : c.tmps.getD dO Go.undef = out
  one : out.oneCell' = true
  ctr : c.tmps.getD d Go.undef = .int .i64 i
  heap : HeapAt P W ρ H w
  syms : ∀ j, j < 2000 → ρ j = renOf pre j
  low : noLow H = true
section
variable {P : Program} {W w : World} {pre more : List Value} {H : AHeap} {F : List (Nat × AV)} {dO d : Nat} {out : Value} {i : Int} {f n : Nat} {B : Code} {K : List AItem} {ρ : Ren} {c : Frame} {ks : List Frame} {es : List Ent} {cs : List CEnt} {tb : Tab}
theorem LoopH.mix (hp : plainI K = true) (l : LoopH P W pre H F dO out d i f n B K ρ w c) (hes : ∀ e ∈ es, EntOk P (pre ++ (out :: .int .i64 i :: more)) W e) (hcs : ∀ e ∈ cs, CallOk P (pre ++ (out :: .int .i64 i :: more)) W e) (hv : (pre ++ (out :: .int .i64 i :: more)).length ≤ 1000) :
    @Mix P (orcOf P es cs) (okOf P es cs (pre ++ (out :: .int .i64 i :: more)) W hes hcs) tb (OldOf ρ H) w (renOf (pre ++ (out :: .int .i64 i :: more))) [] f (ρ.syms (pre ++ (out :: .int .i64 i :: more))) H w (headFr f n B K ((dO, .sym (1000 + pre.length)) :: F) d (pre.length + 1)) c ks := by
  letI : Orc P := orcOf P es cs
  letI : OrcOk P := okOf P es cs (pre ++ (out :: .int .i64 i :: more)) W hes hcs
  have hle : ρ.le (ρ.syms (pre ++ (out :: .int .i64 i :: more))) := Ren.le_syms fun j _ h => l.syms j h
  have low : ∀ j, j < 1000 → ρ j = renOf (pre ++ (out :: .int .i64 i :: more)) j := fun j hj => by
    rw [l.syms j (by omega)]
    unfold renOf
    rw [if_pos hj, if_pos hj]
  have hb : (renOf (pre ++ (out :: .int .i64 i :: more))).le (ρ.syms (pre ++ (out :: .int .i64 i :: more))) := Ren.base_syms hv low
  have hh : HeapAt P W (ρ.syms (pre ++ (out :: .int .i64 i :: more))) H w := l.heap.syms l.low fun j _ h => l.syms j h
  have h0 : (pre ++ (out :: Value.int .i64 i :: more))[pre.length]? = some out := by simp
  have h1 : (pre ++ (out :: Value.int .i64 i :: more))[pre.length + 1]? = some (.int .i64 i) := by simp
  have hT : RelT (ρ.syms (pre ++ (out :: .int .i64 i :: more))) n (mkTree n ((d, .sym (1000 + (pre.length + 1))) :: (dO, .sym (1000 + pre.length)) :: F)) c.tmps := mkTree_rel l.size fun e he => by
    rcases List.mem_cons.1 he with rfl | he
    · simp only
      rw [l.ctr]
      exact RelV.mono hb _ _ (sym_rel h1 rfl)
    · rcases List.mem_cons.1 he with rfl | he
      · simp only
        rw [l.made]
        exact RelV.mono hb _ _ (sym_rel h0 l.one)
      · exact RelV.mono hle _ _ (l.slots e he)
  refine ⟨⟨⟨hh.rel hes hcs hb, (renOf_glob _).mono hb, ⟨l.fn, l.has, fun _ => hT, fun _ => ?_, ?_, l.mode, l.lone⟩, l.kind⟩, rfl, rfl, l.lone, l.kind⟩, Nat.le_refl _, fun _ _ _ => rfl, fun i y l2 h1 h2 h3 => Or.inr ?_, fun b ⟨i, o, l2, h1, h2, h3⟩ => ?_, hb, (fun q hq => absurd hq (List.not_mem_nil)), l.fn⟩
  · exact plainI_any (show plainI (.code B :: .inLoop B :: K) = true from hp) l.todo
  · rw [l.defers]; simp only [headFr, RelDefs]
  · obtain ⟨l', q1, q2, _⟩ := l.heap.obj i y h1
    have := hle _ _ q1
    rw [h3] at this
    cases this
    exact ⟨i, y, l2, h1, q1, rfl⟩
  · obtain ⟨l', q1, q2, _⟩ := l.heap.obj i o h1
    rw [h2] at q1
    cases q1
    rw [← h3]
    exact q2
end
end Go.Am
set_option linter.unusedSectionVars false
namespace Go.Am
section
variable {P : Program} {W w w' : World} {pre : List Value} {H H' : AHeap} {F : List (Nat × AV)} {dO d j1 j2 : Nat} {out out' : Value} {i i' : Int} {f n : Nat} {g : Func} {B : Code} {K : List AItem} {ρ ρ' : Ren} {c c' : Frame} {fr : AFrame} {ks : List Frame} {es : List Ent} {cs : List CEnt} {V : List Value} {hes : ∀ e ∈ es, EntOk P V W e} {hcs : ∀ e ∈ cs, CallOk P V W e} {R : Ending → World → Prop} {p : Option (Func × AFrame × AHeap)}
theorem LoopH.again (l : LoopH P W pre H F dO out d i f n B K ρ w c) (hl : Looping P p f n g B K) (a : @At0 P (orcOf P es cs) (okOf P es cs V W hes hcs) ρ' H' w' fr c' ks) (hle : ρ.le ρ') (hc : H.objs.all isCells = true) (hget : ∀ i o, H.get i = some o → H'.get i = some o)
    (hn : fr.n = n) (hf : c'.fn = f) (ht : fr.todo = .inLoop B :: K) (hs : slotsAre fr.tmps ((d, .sym j1) :: (dO, .sym j2) :: F) = true) (h1 : ρ' j1 = some ⟨0, 0, .int .i64 i'⟩) (h2 : ρ' j2 = some ⟨0, 0, out'⟩) (ho : out'.oneCell' = true)
    (k : ∀ c2, LoopH P W pre H F dO out' d i' f n B K ρ w' c2 → Ends P c2 ks w' R) : Ends P c' ks w' R := by
  letI : Orc P := orcOf P es cs
  letI : OrcOk P := okOf P es cs V W hes hcs
  have hto := a.st.frame.todo a.run
  rw [ht] at hto
  simp only [RelItems, RelItem] at hto
  obtain ⟨x, xs, e1, rfl, e2⟩ := hto
  have hmode := a.st.frame.mode
  rw [a.run] at hmode
  simp only [RelMode] at hmode
  have hdef := a.st.frame.defers
  rw [a.plain] at hdef
  simp only [RelDefs] at hdef
  have s1 := mv_inLoop (P := P) (cs := ks) (w := w') hmode e1
  refine Ends.of_steps (Steps.one s1) rfl (k _ ⟨hmode, hdef, a.lone, a.kind, hf, l.has, ?_, ?_, fun e he => ?_, ?_, ho, ?_, l.heap.back (HeapAt.of a.st.heap) hle hc hget, l.syms, l.low⟩)
  · rw [← hn]
    exact (a.st.frame.tmps (Dead.not a.run)).size
  · simp only [RelItems, RelItem]
    exact ⟨_, _, rfl, rfl, _, _, rfl, rfl, plainI_any hl.plain e2⟩
  · have hj : e.2 ≠ .junk := fun ej => by
      have := l.slots e he
      rw [ej] at this
      simp only [RelV] at this
    exact RelV.back hle (l.slots e he) (a.slot hs (List.mem_cons_of_mem _ (List.mem_cons_of_mem _ he)) hj)
  · have := a.slot hs (e := (dO, .sym j2)) (by simp) (fun e => by cases e)
    exact sym_is h2 this
  · have := a.slot hs (e := (d, .sym j1)) (by simp) (fun e => by cases e)
    exact sym_is h1 this
end
end Go.Am
set_option linter.unusedSectionVars false
namespace Go.Am

/-- A number that is no symbol's of a gap. -/
def numOk (lo i : Nat) : Bool := Nat.blt i lo || Nat.ble 2000 i
mutual
def gapFree (lo : Nat) : AV → Bool
  | .ptr i _ => numOk lo i
  | .slice i _ _ _ => numOk lo i
  | .map i => numOk lo i
  | .fn _ a c => gapFreeL lo a && gapFreeL lo c
  | .yieldf i => numOk lo i
  | .iface _ x => gapFree lo x
  | .agg cs => gapFreeL lo cs
  | .tuple cs => gapFreeL lo cs
  | .sym i => numOk lo i
  | .bool _ => true
  | .int _ _ => true
  | .str _ => true
  | .nilptr => true
  | .nilslice => true
  | .nilmap => true
  | .nilfunc => true
  | .nilIface => true
  | .junk => true
def gapFreeL (lo : Nat) : List AV → Bool
  | [] => true
  | a :: l => gapFree lo a && gapFreeL lo l
end
section
variable {ρ ρ' : Ren} {lo : Nat}
theorem numOk_eq (h : ∀ j, numOk lo j = true → ρ' j = ρ j) {i : Nat} (hi : numOk lo i = true) {l : Loc} (e : ρ i = some l) : ρ' i = some l := by rw [h i hi]; exact e
mutual
theorem RelV.gap (h : ∀ j, numOk lo j = true → ρ' j = ρ j) : ∀ (a : AV) (v : Value), gapFree lo a = true → RelV ρ a v → RelV ρ' a v
  | .bool b, v, _, hr => by simp only [RelV] at *; exact hr
  | .int k n, v, _, hr => by simp only [RelV] at *; exact hr
  | .str s, v, _, hr => by simp only [RelV] at *; exact hr
  | .ptr i off, v, hg, hr => by
    simp only [RelV, gapFree] at *
    obtain ⟨l, h1, h2⟩ := hr
    exact ⟨l, numOk_eq h hg h1, h2⟩
  | .nilptr, v, _, hr => by simp only [RelV] at *; exact hr
  | .slice i off len es, v, hg, hr => by
    simp only [RelV, gapFree] at *
    obtain ⟨l, h1, h2⟩ := hr
    exact ⟨l, numOk_eq h hg h1, h2⟩
  | .nilslice, v, _, hr => by simp only [RelV] at *; exact hr
  | .map i, v, hg, hr => by
    simp only [RelV, gapFree] at *
    obtain ⟨l, h1, h2⟩ := hr
    exact ⟨l, numOk_eq h hg h1, h2⟩
  | .nilmap, v, _, hr => by simp only [RelV] at *; exact hr
  | .fn fn a c, v, hg, hr => by
    simp only [RelV, gapFree, Bool.and_eq_true] at *
    obtain ⟨f, a', c', h1, h2, h3, h4⟩ := hr
    exact ⟨f, a', c', h1, h2, RelL.gap h a _ hg.1 h3, RelL.gap h c _ hg.2 h4⟩
  | .yieldf i, v, hg, hr => by
    simp only [RelV, gapFree] at *
    obtain ⟨l, h1, h2⟩ := hr
    exact ⟨l, numOk_eq h hg h1, h2⟩
  | .nilfunc, v, _, hr => by simp only [RelV] at *; exact hr
  | .iface t x, v, hg, hr => by
    simp only [RelV, gapFree] at *
    obtain ⟨x', h1, h2⟩ := hr
    exact ⟨x', h1, RelV.gap h x x' hg h2⟩
  | .nilIface, v, _, hr => by simp only [RelV] at *; exact hr
  | .agg cs, v, hg, hr => by
    simp only [RelV, gapFree] at *
    obtain ⟨c', h1, h2⟩ := hr
    exact ⟨c', h1, RelL.gap h cs _ hg h2⟩
  | .tuple cs, v, hg, hr => by
    simp only [RelV, gapFree] at *
    obtain ⟨c', h1, h2⟩ := hr
    exact ⟨c', h1, RelL.gap h cs _ hg h2⟩
  | .sym i, v, hg, hr => by
    simp only [RelV, gapFree] at *
    obtain ⟨l, h1, h2⟩ := hr
    exact ⟨l, numOk_eq h hg h1, h2⟩
  | .junk, v, _, hr => by simp only [RelV] at hr
theorem RelL.gap (h : ∀ j, numOk lo j = true → ρ' j = ρ j) : ∀ (l : List AV) (vs : List Value), gapFreeL lo l = true → RelL ρ l vs → RelL ρ' l vs
  | [], vs, _, hr => by simp only [RelL] at *; exact hr
  | a :: l, vs, hg, hr => by
    simp only [RelL, gapFreeL, Bool.and_eq_true] at *
    obtain ⟨v, vs', h1, h2, h3⟩ := hr
    exact ⟨v, vs', h1, RelV.gap h a v hg.1 h2, RelL.gap h l vs' hg.2 h3⟩
end
/-- An object of cells that name no number of a gap. -/
def cellsFree (lo : Nat) : AObj → Bool
  | .cells t _ _ _ _ => t.all (gapFree lo)
  | _ => false
theorem RelO.gap {P : Program} (h : ∀ j, numOk lo j = true → ρ' j = ρ j) {l : Loc} {a : AObj} (hc : cellsFree lo a = true) {o : Option Obj} (hr : RelO P ρ l a o) : RelO P ρ' l a o := by
  cases a with
  | cells t size e tight ro =>
    simp only [cellsFree] at hc
    simp only [RelO] at *
    obtain ⟨c, e1, fz, h1, h2, h3, h4, h5, h6⟩ := hr
    refine ⟨c, e1, fz, h1, h2, h3, h4, fun j hj => ?_, h6⟩
    obtain ⟨a, v, g1, g2, g3, g4⟩ := h5 j hj
    exact ⟨a, v, g1, g2, RelV.gap h a v (Tree.all_get hc g1) g3, g4⟩
  | _ => cases hc
/-- A run's own memory, the symbols of a gap forgotten. -/
def Ren.only (ρ : Ren) (pre : List Value) : Ren := fun j => if j < 2000 then renOf pre j else ρ j
theorem HeapAt.only {P : Program} {W w : World} {H : AHeap} {pre : List Value} (h : HeapAt P W ρ H w) (hl : pre.length ≤ 1000) (hle : (renOf pre).le ρ) (hn : noLow H = true) (hc : H.objs.all (cellsFree (1000 + pre.length)) = true) : HeapAt P W (ρ.only pre) H w := by
  obtain ⟨n1, n2⟩ := noLow_spec hn
  have hi : ∀ i, 2000 ≤ i → ρ.only pre i = ρ i := fun i hi => by unfold Ren.only; rw [if_neg (by omega)]
  have same : ∀ j, numOk (1000 + pre.length) j = true → ρ.only pre j = ρ j := fun j hj => by
    unfold Ren.only
    by_cases h2 : j < 2000
    · rw [if_pos h2]
      unfold numOk at hj
      rw [Bool.or_eq_true] at hj
      rcases hj with hj | hj
      · have hj : j < 1000 + pre.length := Nat.lt_of_succ_le (Nat.le_of_ble_eq_true hj)
        have : ∃ l, renOf pre j = some l := by
          unfold renOf
          by_cases h3 : j < 1000
          · exact ⟨_, if_pos h3⟩
          · rw [if_neg h3, List.getElem?_eq_getElem (by omega)]
            exact ⟨_, rfl⟩
        obtain ⟨l, e⟩ := this
        rw [e, hle _ _ e]
      · have := Nat.le_of_ble_eq_true hj
        omega
    · rw [if_neg h2]
  refine ⟨fun i o ho => ?_, fun i j o o' l l' h1 h2 h3 h4 e => ?_, fun i hi' => ?_, h.kept, h.wsize, fun i o l h1 h2 h3 => ?_, h.still⟩
  · obtain ⟨l, q1, q2, q3⟩ := h.obj i o ho
    exact ⟨l, by rw [hi i (n2 i o ho)]; exact q1, q2, RelO.gap same (Tree.all_get hc ho) q3⟩
  · rw [hi i (n2 i o h1)] at h3
    rw [hi j (n2 j o' h2)] at h4
    exact h.inj i j o o' l l' h1 h2 h3 h4 e
  · rw [hi i (by omega)]
    exact h.fresh i hi'
  · rw [hi i (n2 i o h1)] at h3
    exact h.own i o l h1 h2 h3
end
end Go.Am
set_option linter.unusedSectionVars false
namespace Go.Am
def heapOf (p : Option (Func × AFrame × AHeap)) : AHeap :=
  match p with
  | some (_, _, H) => H
  | none => H0
/-- What a head's memory and its fixed temporaries must be. -/
def headOk (lo : Nat) (p : Option (Func × AFrame × AHeap)) (F : List (Nat × AV)) : Bool :=
  noLow (heapOf p) && (heapOf p).objs.all (cellsFree lo) && F.all fun e => gapFree lo e.2 && (match e.2 with
    | .junk => false
    | _ => true)
theorem only_eq {ρ : Ren} {pre : List Value} (hl : pre.length ≤ 1000) (hle : (renOf pre).le ρ) : ∀ j, numOk (1000 + pre.length) j = true → ρ.only pre j = ρ j := fun j hj => by
  unfold Ren.only
  by_cases h2 : j < 2000
  · rw [if_pos h2]
    unfold numOk at hj
    rw [Bool.or_eq_true] at hj
    rcases hj with hj | hj
    · have hj : j < 1000 + pre.length := Nat.lt_of_succ_le (Nat.le_of_ble_eq_true hj)
      have : ∃ l, renOf pre j = some l := by
        unfold renOf
        by_cases h3 : j < 1000
        · exact ⟨_, if_pos h3⟩
        · rw [if_neg h3, List.getElem?_eq_getElem (by omega)]
          exact ⟨_, rfl⟩
      obtain ⟨l, e⟩ := this
      rw [e, hle _ _ e]
    · have := Nat.le_of_ble_eq_true hj
      omega
  · rw [if_neg h2]
section
variable {P : Program} {pre : List Value} {w : World} {R : Ending → World → Prop}
end
end Go.Am
set_option linter.unusedSectionVars false
namespace Go.Am
open Go.Proofs
/-- A call's pieces and cuts. -/
def enterCuts (P : Program) [Orc P] (f : FuncId) (args : List AV) (cuts : List Cut) : Option (Func × AFrame × AHeap) :=
  match (funcs P).get f with
  | some g => match g.body with
    | some b => bif Nat.ble args.length g.ntmps then (match runCuts P cuts (entered f g.ntmps args b, H0) with
      | some q => some (g, q.1, q.2)
      | none => none) else none
    | none => none
  | none => none
def cuts36 : List Cut := [.copy 55 55 .nilslice (.sym 1004) 2003, .call 35 [.sym 1003] none 2004, .call 35 [.sym 1005] none 2005]
noncomputable def q36 : Option (Func × AFrame × AHeap) := @enterCuts Tryz.prog (orcOf Tryz.prog [] []) 36 [.agg (symL 0 8)] cuts36
abbrev F36 : List (Nat × AV) := [(1, .ptr 2000 0), (2, .ptr 2001 0), (3, .ptr 2002 0)]
theorem hd36 : chkHead q36 6 0 ((5, .nilslice) :: F36) = true := by kernel_rfl
theorem ok36 : headOk 1008 q36 F36 = true := by kernel_rfl
def roundCutsH (P : Program) [Orc P] (p : Option (Func × AFrame × AHeap)) (F : List (Nat × AV)) (d q : Nat) (cuts : List Cut) : Option (Func × AFrame × AHeap) :=
  match loopOf p with
  | some (g, fr, B, K) => match runCuts P cuts (headFr fr.fn fr.n B K F d q, heapOf p) with
    | some r => some (g, r.1, r.2)
    | none => none
  | none => none
def es36 : List Ent := [(.len 84, [.sym 1007], .sym 1010), (.lss 3, [.sym 1009, .sym 1010], .bool true), (.idx 84, [.sym 1007, .sym 1009], .sym 1011), (.load 86, [.sym 1011], .agg (symL 13 8)), (.add 3, [.sym 1009, .int .i64 1], .sym 1012)]
def end36 : List Ent := [(.len 84, [.sym 1007], .sym 1010), (.lss 3, [.sym 1009, .sym 1010], .bool false)]
def loop36 : List Cut := [.call 36 [.agg (symL 13 8)] (some 8) 2006, .push 84 84 8 (.sym 1008) (symR 2006 8) 2015]
noncomputable def r36' : Option (Func × AFrame × AHeap) := @roundCutsH Tryz.prog (orcOf Tryz.prog es36 []) q36 ((5, .sym 1008) :: F36) 6 9 loop36
theorem todo36 : todoOf r36' = wantTodo q36 := by kernel_rfl
theorem slots36 : slotsOf r36' ((6, .sym 1012) :: (5, .sym 2015) :: F36) = true := by kernel_rfl
theorem next36 : (heapOf q36).next = 2006 := by kernel_rfl
theorem stop36 : @retOf? Tryz.prog (orcOf Tryz.prog end36 []) (@roundCutsH Tryz.prog (orcOf Tryz.prog end36 []) q36 ((5, .sym 1008) :: F36) 6 9 []) = some (.agg [.sym 1000, .sym 1001, .sym 1002, .sym 2004, .sym 2003, .sym 2005, .sym 1006, .sym 1008]) := by kernel_rfl
end Go.Am
set_option linter.unusedSectionVars false
namespace Go.Am
section
variable {P : Program} [Orc P] [OrcOk P] {ρ : Ren} {H : AHeap} {w : World} {fr : AFrame} {c : Frame} {ks : List Frame} {R : Ending → World → Prop}
theorem At0.here (a : At0 P ρ H w fr c ks) : Here P ρ fr c := by
  have hmode := a.st.frame.mode
  rw [a.run] at hmode
  simp only [RelMode] at hmode
  have hdef := a.st.frame.defers
  rw [a.plain] at hdef
  simp only [RelDefs] at hdef
  have hr : fr.round = none := by
    have h := a.st.frame.round
    cases hq : fr.round with
    | none => rfl
    | some l =>
      rw [hq] at h
      obtain ⟨_, loc, _, h2⟩ := h
      rw [a.lone] at h2
      cases h2
  exact ⟨hmode, hdef, a.lone, a.kind, a.run, a.plain, hr, a.st.frame.fn, a.st.frame.has, a.st.frame.tmps (Dead.not a.run), a.st.frame.todo a.run⟩
/-- A call's end: the result is read in the run's own memory. -/
theorem At0.ret (a : At0 P ρ H w fr c ks) {g : Func} (hg : P.funcs[c.fn]? = some g) {x : AV} (hr : retOf P g fr H = some x) (k : ∀ v, RelV ρ x v → R (.returned v) w) : Ends P c ks w R := by
  have h := a.here
  refine Ends.ret h (by rw [← h.fn]; exact hg) a.st.heap hr k
end
end Go.Am
set_option linter.unusedSectionVars false
namespace Go.Am
section
variable {P : Program} {V : List Value} {w : World} {R : Ending → World → Prop} {es : List Ent} {cs : List CEnt} {tb : Tab}
theorem Calls.mix (hes : ∀ e ∈ es, EntOk P V w e) (hcs : ∀ e ∈ cs, CallOk P V w e) (hl : V.length ≤ 1000) {f : FuncId} {args : List AV} {args' : Array Value} {g : Func} {b : Code} (hf : (funcs P).get f = some g) (hb : g.body = some b) (hn : args.length ≤ g.ntmps) (ra : RelL (renOf V) args args'.toList)
    (k : ∀ ks c, @Mix P (orcOf P es cs) (okOf P es cs V w hes hcs) tb (fun _ => False) w (renOf V) [] f (renOf V) H0 w (entered f g.ntmps args b) c ks → Ends P c ks w R) : Calls P f args' w R := by
  letI : Orc P := orcOf P es cs
  letI : OrcOk P := okOf P es cs V w hes hcs
  refine Ends.calls fun ks => k ks _ ?_
  have h := enter_here hf hb hn ra
  have hh : RelH P (renOf V) H0 w := ⟨fun i o ho => by simp [H0, AHeap.get, Tree.get_leaf] at ho, fun i j o o' l l' ho => by simp [H0, AHeap.get, Tree.get_leaf] at ho, fun i hi => renOf_none hl hi, Ren.le.refl _, fun _ _ => rfl, Nat.le_refl _,
    (fun i o l ho => by simp [H0, AHeap.get, Tree.get_leaf] at ho), Still.refl _⟩
  refine ⟨⟨⟨hh, renOf_glob V, ⟨h.fn, h.has, fun _ => h.tmps, fun _ => h.todo, ?_, ?_, ?_⟩, h.kind⟩, h.run, h.plain, h.lone, h.kind⟩, Nat.le_refl _, fun _ _ _ => rfl, (fun i y l ho => by simp [H0, AHeap.get, Tree.get_leaf] at ho), (fun _ h => h.elim), Ren.le.refl _, (fun q hq => absurd hq (List.not_mem_nil)), h.fn⟩
  · rw [h.plain, h.defers]; simp only [RelDefs]
  · rw [h.run]; simp only [RelMode]; exact h.mode
  · rw [h.round]; exact h.lone
/-- What `enterCuts` tells. -/
theorem enterCuts_is [Orc P] {f : FuncId} {args : List AV} {cuts : List Cut} {x : Func × AFrame × AHeap} (h : enterCuts P f args cuts = some x) :
    ∃ b, (funcs P).get f = some x.1 ∧ x.1.body = some b ∧ args.length ≤ x.1.ntmps ∧ runCuts P cuts (entered f x.1.ntmps args b, H0) = some x.2 := by
  unfold enterCuts at h
  split at h
  case h_2 => cases h
  rename_i g hg
  split at h
  case h_2 => cases h
  rename_i b hb
  obtain ⟨hn, h⟩ := cond_some h rfl
  split at h
  case h_2 => cases h
  rename_i q hq
  cases h
  exact ⟨b, hg, hb, Nat.le_of_ble_eq_true hn, hq⟩
end
end Go.Am
set_option linter.unusedSectionVars false
namespace Go.Am
section
variable {P : Program} {V : List Value} {W w : World} {R : Ending → World → Prop} {es : List Ent} {cs : List CEnt} {hes : ∀ e ∈ es, EntOk P V W e} {hcs : ∀ e ∈ cs, CallOk P V W e} {ρ : Ren} {H : AHeap} {fr : AFrame} {c : Frame} {ks : List Frame} {f d dO : Nat} {F : List (Nat × AV)} {B : Code} {K : List AItem}
theorem At0.head (a : @At0 P (orcOf P es cs) (okOf P es cs V W hes hcs) ρ H w fr c ks) (hf : c.fn = f) (hp : plainI K = true) (ht : fr.todo = .code (.loop B) :: K) (hs : slotsAre fr.tmps ((d, .int .i64 0) :: (dO, .nilslice) :: F) = true) (hl : V.length ≤ 1000) (hle : (renOf V).le ρ)
    (hn : noLow H = true) (hc : H.objs.all (cellsFree (1000 + V.length)) = true) (hF : (F.all fun e => gapFree (1000 + V.length) e.2 && (match e.2 with
      | .junk => false
      | _ => true)) = true)
    (k : ∀ c2, LoopH P W V H F dO (.slice none 0 0) d 0 f fr.n B K (ρ.only V) w c2 → Ends P c2 ks w R) : Ends P c ks w R := by
  letI : Orc P := orcOf P es cs
  letI : OrcOk P := okOf P es cs V W hes hcs
  have h := a.here
  have hto := h.todo
  rw [ht] at hto
  simp only [RelItems, RelItem] at hto
  obtain ⟨x, xs, q1, rfl, q2⟩ := hto
  have hh : HeapAt P W ρ H w := HeapAt.of a.st.heap
  have s1 := mv_loop (P := P) (cs := ks) (w := w) h.mode q1
  have hfn : fr.fn = f := by rw [← h.fn]; exact hf
  refine Ends.of_steps (Steps.one s1) rfl (k _ ⟨h.mode, h.defers, h.lone, h.kind, hf, hfn ▸ h.has, h.tmps.size, ?_, fun e he' => ?_, ?_, rfl, ?_, hh.only hl hle hn hc, fun j hj => by unfold Ren.only; rw [if_pos hj], hn⟩)
  · simp only [RelItems, RelItem]
    exact ⟨_, _, rfl, rfl, _, _, rfl, rfl, plainI_any hp q2⟩
  · rw [List.all_eq_true] at hF
    have h6 := hF e he'
    rw [Bool.and_eq_true] at h6
    have h7 := a.slot hs (e := e) (List.mem_cons_of_mem _ (List.mem_cons_of_mem _ he')) (fun ej => by have := h6.2; rw [ej] at this; cases this)
    exact RelV.gap (only_eq hl hle) _ _ h6.1 h7
  · have h8 := a.slot hs (e := (dO, .nilslice)) (by simp) (fun e => by cases e)
    simp only [RelV] at h8
    exact h8
  · have h8 := a.slot hs (e := (d, .int .i64 0)) (by simp) (fun e => by cases e)
    simp only [RelV] at h8
    exact h8
end
end Go.Am
