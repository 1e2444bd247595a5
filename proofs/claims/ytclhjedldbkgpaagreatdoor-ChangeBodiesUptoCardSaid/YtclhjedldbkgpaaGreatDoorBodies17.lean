/-
  Part 17 of the proof that winch/winchlaw25.ChangeBodies returns true for every two bodies of small bulk: lemmas.
  Conditions: none beyond each theorem's own premises.
  What lies here:
  The program's coils, compared as structs; the reference's comparison of lists of rungs but for the powers.
  A loop over two sequences that lie in fields of two rows in memory. Condition: the program's own facts, named in the theorem.
  A call with two rows that tests them cell by cell and comes to a loop, the rows in memory of its own. Condition: the program's own facts, named in the theorem.
  The reference's comparisons of powers and of rungs.
  The reference's comparison of charts: the program's own facts.
-/
import Derived.Test.YtclhjedldbkgpaaGreatDoorBodies16
set_option linter.unusedVariables false
set_option linter.unusedSimpArgs false
set_option linter.unusedSectionVars false
namespace Go.Am
open Go.Proofs
noncomputable def coilF : Array Field := match und Tryz.prog 92 with
  | some (.struct fs) => fs
  | _ => #[]
noncomputable def coil0 : Field := coilF.getD 0 default
noncomputable def coil1 : Field := coilF.getD 1 default
theorem coil_und : und Tryz.prog 92 = some (.struct #[coil0, coil1]) := by kernel_rfl
theorem coil_stood : Tryz.prog.stoodInHeld 92 = false := by kernel_rfl
theorem coil_guard : Tryz.prog.eqGuardType Tryz.prog.depth 92 = false := by kernel_rfl
theorem coil0T : und Tryz.prog coil0.type = some (.int .i64) := by kernel_rfl
theorem coil1T : und Tryz.prog coil1.type = some .string := by kernel_rfl
theorem coil0O : coil0.offset = 0 := by kernel_rfl
theorem coil1O : coil1.offset = 1 := by kernel_rfl
theorem coil0N : (coil0.name == "_") = false := by kernel_rfl
theorem coil1N : (coil1.name == "_") = false := by kernel_rfl
theorem coil_eq (n m : Int) (s t : List UInt8) : eqA Tryz.prog 92 (.agg [.int .i64 n, .str s]) (.agg [.int .i64 m, .str t]) = some (ieq n m && seq s t) := by
  unfold eqA
  rw [coil_und]
  simp only [coil_stood, cond_false, eqFields, coil0T, coil0O, coil1T, coil1O, coil0N, coil1N, List.getElem?_cons_zero, List.getElem?_cons_succ, plainD, Bool.not_false, Bool.and_self, cond_true, eqScalar, kindEq]
  cases ieq n m <;> cases seq s t <;> rfl
theorem aggne92 : AggNe Tryz.prog tab 92 [3, 9] := by
  intro w vs us xs ys hv hu o evc a b u hop ha hb w'
  simp only [RdVals] at hv hu
  obtain ⟨v1, vr1, x1, xr1, rfl, rfl, h1, v2, vr2, x2, xr2, rfl, rfl, h2, rfl, rfl⟩ := hv
  obtain ⟨u1, ur1, y1, yr1, rfl, rfl, g1, u2, ur2, y2, yr2, rfl, rfl, g2, rfl, rfl⟩ := hu
  have int : ∀ {v : Value} {x : T}, RdC tab Any w 3 v x → ∃ n, v = .int .i64 n ∧ x = .val (.int .i64 n) := fun {v x} h => by
    cases x with
    | val x =>
      simp only [RdC] at h
      obtain ⟨rfl, k, h3, h4⟩ := h
      cases h3
      obtain ⟨n, e⟩ := h4
      exact ⟨n, e, by rw [e]⟩
    | row l => simp only [RdC] at h
    | seq l => simp only [RdC] at h; obtain ⟨E, h3, _⟩ := h; cases h3
  have str : ∀ {v : Value} {x : T}, RdC tab Any w 9 v x → ∃ n, v = .string n ∧ x = .val (.string n) := fun {v x} h => by
    cases x with
    | val x =>
      simp only [RdC] at h
      obtain ⟨rfl, k, h3, h4⟩ := h
      cases h3
      obtain ⟨n, e⟩ := h4
      exact ⟨n, e, by rw [e]⟩
    | row l => simp only [RdC] at h
    | seq l => simp only [RdC] at h; obtain ⟨E, h3, _⟩ := h; cases h3
  obtain ⟨n, rfl, rfl⟩ := int h1
  obtain ⟨m, rfl, rfl⟩ := int g1
  obtain ⟨s, rfl, rfl⟩ := str h2
  obtain ⟨t, rfl, rfl⟩ := str g2
  have key : execA Tryz.prog H0 (fun z => ofConst (evc z)) o = some (.value (.bool (!(ieq n m && seq s.data.toList t.data.toList))) H0) := by
    unfold execA
    rw [hop]
    have e1 : ofConst (.agg [Value.int .i64 n, .string s].toArray) = some (.agg [.int .i64 n, .str s.data.toList]) := rfl
    have e2 : ofConst (.agg [Value.int .i64 m, .string t].toArray) = some (.agg [.int .i64 m, .str t.data.toList]) := rfl
    simp only [ha, hb, e1, e2]
    have e3 : binA Tryz.prog .neq 92 a b (.agg [.int .i64 n, .str s.data.toList]) (.agg [.int .i64 m, .str t.data.toList]) = some (.bool (!(ieq n m && seq s.data.toList t.data.toList))) := by
      unfold binA
      simp only [coil_guard, cond_false, coil_eq]
    rw [e3]
  obtain ⟨v, q1, q2⟩ := ent_by_run (P := Tryz.prog) (evc := evc) (w' := w') (fun _ => True) (Ren.le.refl _) renOf_nil (fun z a h => ofConst_rel h) (Or.inl (by unfold clsOf; rw [hop])) key
  simp only [RelV] at q2
  rw [q1, q2]
  congr 4
  rw [ieq_eq, seq_eq]
  have : (s.data = t.data) ↔ s = t := by
    obtain ⟨⟨s⟩⟩ := s
    obtain ⟨⟨t⟩⟩ := t
    simp
  rw [Bool.eq_iff_iff, Bool.and_eq_true, eqB_true]
  simp [this]
end Go.Am
set_option linter.unusedSectionVars false
namespace Go.Am

/-- The loop: how many values lie ahead of its own; the rows' type, the field's number and cell, its type, the elements' type, cells and kind; the counter's slot, the frame's other slots; the elements' fields that are read in place; the tests. -/
structure Box where
  o : Nat
  E : TypeId
  fc : Nat
  jc : Nat
  t2 : TypeId
  E2 : TypeId
  m2 : Nat
  ag2 : Bool
  d : Nat
  F : List (Nat × AV)
  flds : List Fld
  tests : List Test
namespace Box
variable (N : Box)
def c1 : Nat := N.o + (13 + 2 * N.flds.length)
def c2 : Nat := N.o + (13 + 2 * N.flds.length + N.m2)
def pre : List Ent := [(.fld N.E N.fc, [.sym (1000 + (N.o + 0))], .sym (1000 + (N.o + 3))), (.load N.t2, [.sym (1000 + (N.o + 3))], .sym (1000 + (N.o + 5))), (.fld N.E N.fc, [.sym (1000 + (N.o + 1))], .sym (1000 + (N.o + 4))), (.load N.t2, [.sym (1000 + (N.o + 4))], .sym (1000 + (N.o + 6))), (.len N.t2, [.sym (1000 + (N.o + 5))], .sym (1000 + (N.o + 2)))]
def es (q : Nat) : List Ent := N.pre ++ [(.lss 3, [.sym (1000 + (N.o + 7)), .sym (1000 + (N.o + 2))], .bool true), (.idx N.t2, [.sym (1000 + (N.o + 5)), .sym (1000 + (N.o + 7))], .sym (1000 + (N.o + 8))), (.load N.E2, [.sym (1000 + (N.o + 8))], ldAV N.ag2 N.c1 N.m2), (.idx N.t2, [.sym (1000 + (N.o + 6)), .sym (1000 + (N.o + 7))], .sym (1000 + (N.o + 9))), (.load N.E2, [.sym (1000 + (N.o + 9))], ldAV N.ag2 N.c2 N.m2),
  (.add 3, [.sym (1000 + (N.o + 7)), .int .i64 1], .sym (1000 + (N.o + 10)))] ++ fldEnts N.E2 (N.o + 8) (N.o + 13) N.c1 N.flds ++ fldEnts N.E2 (N.o + 9) (N.o + (13 + N.flds.length)) N.c2 N.flds ++ entsQ N.c1 N.c2 N.tests q
def cs (q : Nat) : List CEnt := callsQ N.c1 N.c2 N.tests q
def esX : List Ent := N.pre ++ [(.lss 3, [.sym (1000 + (N.o + 7)), .sym (1000 + (N.o + 2))], .bool false)]
/-- What the tables must say. -/
structure Ok (P : Program) (tb : Tab) : Prop where
  elem : tb.elem N.t2 = some N.E2
  flat : (tb.flat N.E2).length = N.m2
  pos : 0 < N.m2
  small : N.m2 ≤ 100
  slice : und P N.t2 = some (.slice N.E2)
  agg : aggP P N.E2 = some N.ag2
  ag1 : N.ag2 = false → N.m2 = 1
  size : sizeP P N.E2 = some N.m2
  one : aggP P N.t2 = some false
  fld : fieldOk P N.E N.fc N.jc = true
  flds : ((N.flds.all fun x => fldOk P N.E2 N.m2 x) && (N.flds.map Fld.f == List.range N.flds.length)) = true
  osmall : N.o ≤ 100
  fsmall : N.flds.length ≤ 100
/-- What the program's own text must come to, where a round has no further loop. -/
structure Facts (P : Program) (p : Option (Func × AFrame × AHeap)) : Prop where
  todo : todoOf (@roundSeg P (orcOf P (N.es N.tests.length) (N.cs N.tests.length)) p N.F N.d (N.o + 7) 600) = wantTodo p
  slots : slotsOf (@roundSeg P (orcOf P (N.es N.tests.length) (N.cs N.tests.length)) p N.F N.d (N.o + 7) 600) ((N.d, .sym (1000 + (N.o + 10))) :: N.F) = true
  unlike : ((List.range N.tests.length).all fun q => isB false (@retOf? P (orcOf P (N.es q) (N.cs q)) (@roundSeg P (orcOf P (N.es q) (N.cs q)) p N.F N.d (N.o + 7) 600))) = true
  covers : ((List.range N.m2).all fun j => N.tests.any fun t => t.covers j) = true
  noln : (N.tests.all Test.plain) = true
end Box
def seven (jc p1 o1 p2 o2 n : Nat) (z1 z2 : Value) : List Value := [.pointer (some ⟨p1, o1, none⟩), .pointer (some ⟨p2, o2, none⟩), .int .i64 n, .pointer (some ⟨p1, o1 + jc, none⟩), .pointer (some ⟨p2, o2 + jc, none⟩), z1, z2]
/-- The two rows in memory. -/
structure BoxAt (tb : Tab) (N : Box) (pre : List Value) (w : World) (lx ly : List T) (p1 o1 p2 o2 : Nat) (z1 z2 : Value) : Prop where
  hpre : pre.length = N.o
  h1 : p1 < w.heap.size
  h2 : p2 < w.heap.size
  cell1 : w.cell? ⟨p1, o1 + N.jc, none⟩ = some z1
  cell2 : w.cell? ⟨p2, o2 + N.jc, none⟩ = some z2
  r1 : RdC tb Any w N.t2 z1 (.seq lx)
  r2 : RdC tb Any w N.t2 z2 (.seq ly)
  len : lx.length = ly.length
  big : lx.length < 9223372036854775807
section
variable {P : Program} {tb : Tab} {N : Box} {pre : List Value} {w w' : World} {lx ly : List T} {p1 o1 p2 o2 : Nat} {z1 z2 : Value}
theorem BoxAt.grows (b : BoxAt tb N pre w lx ly p1 o1 p2 o2 z1 z2) (g : Grows w w') : BoxAt tb N pre w' lx ly p1 o1 p2 o2 z1 z2 :=
  ⟨b.hpre, Nat.lt_of_lt_of_le b.h1 g.1, Nat.lt_of_lt_of_le b.h2 g.1, by rw [cell_heap (g.2 _ b.h1)]; exact b.cell1, by rw [cell_heap (g.2 _ b.h2)]; exact b.cell2, b.r1.grows g, b.r2.grows g, b.len, b.big⟩
theorem BoxAt.at (b : BoxAt tb N pre w lx ly p1 o1 p2 o2 z1 z2) (L : List Value) {j : Nat} {z : Value} (h : (seven N.jc p1 o1 p2 o2 lx.length z1 z2 ++ L)[j]? = some z) : (pre ++ (seven N.jc p1 o1 p2 o2 lx.length z1 z2 ++ L))[N.o + j]? = some z := by
  rw [at_app b.hpre]; exact h
theorem BoxAt.preOk (k : N.Ok P tb) (b : BoxAt tb N pre w lx ly p1 o1 p2 o2 z1 z2) (L : List Value) : ∀ e ∈ N.pre, EntOk P (pre ++ (seven N.jc p1 o1 p2 o2 lx.length z1 z2 ++ L)) w e := by
  intro e he
  simp only [Box.pre, List.mem_cons, List.not_mem_nil, or_false] at he
  rcases he with rfl | rfl | rfl | rfl | rfl
  · exact ent_fld (fieldOk_is k.fld) (b := p1) (off := o1) (b.at L (j := 0) rfl) (b.at L (j := 3) rfl)
  · exact ent_load_one (b := p1) (off := o1 + N.jc) k.one b.r1.one b.h1 b.cell1 (b.at L (j := 3) rfl) (b.at L (j := 5) rfl)
  · exact ent_fld (fieldOk_is k.fld) (b := p2) (off := o2) (b.at L (j := 1) rfl) (b.at L (j := 4) rfl)
  · exact ent_load_one (b := p2) (off := o2 + N.jc) k.one b.r2.one b.h2 b.cell2 (b.at L (j := 4) rfl) (b.at L (j := 6) rfl)
  · exact ent_len (v := z1) (n := lx.length) k.slice (b.at L (j := 5) rfl) (b.at L (j := 2) rfl) (seq_slice b.r1)
/-- The end of the rounds. -/
theorem BoxAt.last (k : N.Ok P tb) (b : BoxAt tb N pre w lx ly p1 o1 p2 o2 z1 z2) (L : List Value) : ∀ e ∈ N.esX, EntOk P ((pre ++ seven N.jc p1 o1 p2 o2 lx.length z1 z2) ++ Value.int .i64 lx.length :: L) w e := by
  intro e he
  rw [List.append_assoc]
  simp only [Box.esX, List.mem_append, List.mem_cons, List.not_mem_nil, or_false] at he
  rcases he with he | rfl
  · exact b.preOk k _ e he
  · exact ent_lss (m := lx.length) (n := lx.length) (b.at _ (j := 7) rfl) (b.at _ (j := 2) rfl) (by simp)
/-- One round. -/
theorem BoxAt.round (k : N.Ok P tb) (b : BoxAt tb N pre w lx ly p1 o1 p2 o2 z1 z2) {kk : Nat} (hkk : kk < lx.length) :
    ∃ xs ys vs us, lx[kk]? = some (.row xs) ∧ ly[kk]? = some (.row ys) ∧ RdVals tb Any w (tb.flat N.E2) vs xs ∧ RdVals tb Any w (tb.flat N.E2) us ys ∧ ∀ l1 l2 : Value, ∃ L, ((pre ++ seven N.jc p1 o1 p2 o2 lx.length z1 z2) ++ Value.int .i64 kk :: L).length ≤ 1000 ∧
      ((pre ++ seven N.jc p1 o1 p2 o2 lx.length z1 z2) ++ Value.int .i64 kk :: L)[N.o + 10]? = some (.int .i64 ((kk + 1 : Nat) : Int)) ∧ ((pre ++ seven N.jc p1 o1 p2 o2 lx.length z1 z2) ++ Value.int .i64 kk :: L)[N.o + 11]? = some l1 ∧ ((pre ++ seven N.jc p1 o1 p2 o2 lx.length z1 z2) ++ Value.int .i64 kk :: L)[N.o + 12]? = some l2 ∧
      (∀ (j : Nat) z, vs[j]? = some z → ((pre ++ seven N.jc p1 o1 p2 o2 lx.length z1 z2) ++ Value.int .i64 kk :: L)[N.c1 + j]? = some z) ∧ (∀ (j : Nat) z, us[j]? = some z → ((pre ++ seven N.jc p1 o1 p2 o2 lx.length z1 z2) ++ Value.int .i64 kk :: L)[N.c2 + j]? = some z) ∧
      ∀ q, (∀ t ∈ N.tests, t.ok P tb (tb.flat N.E2) xs ys) → (∀ t ∈ N.tests, t.at ((pre ++ seven N.jc p1 o1 p2 o2 lx.length z1 z2) ++ Value.int .i64 kk :: L) xs ys) → (∀ i t, i < q → N.tests[i]? = some t → t.same xs ys) → (∀ t, N.tests[q]? = some t → ¬ t.same xs ys) →
        (∀ e ∈ N.es q, EntOk P ((pre ++ seven N.jc p1 o1 p2 o2 lx.length z1 z2) ++ Value.int .i64 kk :: L) w e) ∧ ∀ e ∈ N.cs q, CallOk P ((pre ++ seven N.jc p1 o1 p2 o2 lx.length z1 z2) ++ Value.int .i64 kk :: L) w e := by
  have hfl := k.flds
  rw [Bool.and_eq_true, beq_iff_eq] at hfl
  obtain ⟨ba, oa, ca, xs, vs, a1, a2, a3, _, a4, a5, a6⟩ := seq_at k.elem b.r1 (List.getElem?_eq_getElem hkk)
  obtain ⟨bb, ob, cb, ys, us, b1, b2, b3, _, b4, b5, b6⟩ := seq_at k.elem b.r2 (List.getElem?_eq_getElem (by have := b.len; omega : kk < ly.length))
  have lv := a5.len.1
  have lu := b5.len.1
  rw [k.flat] at lv lu a6 b6
  refine ⟨xs, ys, vs, us, by rw [List.getElem?_eq_getElem hkk, a4], by rw [List.getElem?_eq_getElem (by have := b.len; omega : kk < ly.length), b4], a5, b5, fun l1 l2 => ?_⟩
  refine ⟨[.pointer (some ⟨ba, oa + kk * N.m2, none⟩), .pointer (some ⟨bb, ob + kk * N.m2, none⟩), .int .i64 ((kk + 1 : Nat) : Int), l1, l2] ++ (ptrs ba (oa + kk * N.m2) N.flds ++ (ptrs bb (ob + kk * N.m2) N.flds ++ (vs ++ us))), ?_⟩
  generalize hA : (seven N.jc p1 o1 p2 o2 lx.length z1 z2 ++ [Value.int .i64 kk, .pointer (some ⟨ba, oa + kk * N.m2, none⟩), .pointer (some ⟨bb, ob + kk * N.m2, none⟩), .int .i64 ((kk + 1 : Nat) : Int), l1, l2]) = A
  have hA13 : A.length = 13 := by rw [← hA]; rfl
  generalize hU : ((pre ++ seven N.jc p1 o1 p2 o2 lx.length z1 z2) ++ Value.int .i64 kk :: ([.pointer (some ⟨ba, oa + kk * N.m2, none⟩), .pointer (some ⟨bb, ob + kk * N.m2, none⟩), .int .i64 ((kk + 1 : Nat) : Int), l1, l2] ++ (ptrs ba (oa + kk * N.m2) N.flds ++ (ptrs bb (ob + kk * N.m2) N.flds ++ (vs ++ us))))) = U
  have hU' : U = pre ++ (A ++ (ptrs ba (oa + kk * N.m2) N.flds ++ (ptrs bb (ob + kk * N.m2) N.flds ++ (vs ++ us)))) := by rw [← hU, ← hA]; simp
  have hU2 : U = pre ++ (seven N.jc p1 o1 p2 o2 lx.length z1 z2 ++ (Value.int .i64 kk :: ([.pointer (some ⟨ba, oa + kk * N.m2, none⟩), .pointer (some ⟨bb, ob + kk * N.m2, none⟩), .int .i64 ((kk + 1 : Nat) : Int), l1, l2] ++ (ptrs ba (oa + kk * N.m2) N.flds ++ (ptrs bb (ob + kk * N.m2) N.flds ++ (vs ++ us)))))) := by rw [← hU]; simp
  have hlen : U.length ≤ 1000 := by
    rw [hU']
    have := k.osmall
    have := k.fsmall
    have := k.small
    simp [ptrs_len, hA13, b.hpre, lv, lu]
    omega
  have at1 : ∀ (j : Nat) z, A[j]? = some z → U[N.o + j]? = some z := fun j z h => by rw [hU', at_app b.hpre]; exact at_left h
  have R1 : ∀ (j : Nat) z, (ptrs ba (oa + kk * N.m2) N.flds)[j]? = some z → U[N.o + 13 + j]? = some z := fun j z h => by rw [hU', Nat.add_assoc, at_app b.hpre, at_app hA13]; exact at_left h
  have R2 : ∀ (j : Nat) z, (ptrs bb (ob + kk * N.m2) N.flds)[j]? = some z → U[N.o + (13 + N.flds.length) + j]? = some z := fun j z h => by rw [hU', Nat.add_assoc, at_app b.hpre, Nat.add_assoc, at_app hA13, at_app ptrs_len]; exact at_left h
  have S1 : ∀ (j : Nat) z, vs[j]? = some z → U[N.c1 + j]? = some z := fun j z h => by
    rw [hU', show N.c1 + j = N.o + (13 + (N.flds.length + (N.flds.length + j))) by unfold Box.c1; omega, at_app b.hpre, at_app hA13, at_app ptrs_len, at_app ptrs_len]; exact at_left h
  have S2 : ∀ (j : Nat) z, us[j]? = some z → U[N.c2 + j]? = some z := fun j z h => by
    rw [hU', show N.c2 + j = N.o + (13 + (N.flds.length + (N.flds.length + (N.m2 + j)))) by unfold Box.c2; omega, at_app b.hpre, at_app hA13, at_app ptrs_len, at_app ptrs_len, at_app lv]; exact h
  refine ⟨hlen, at1 10 _ (by rw [← hA]; rfl), at1 11 _ (by rw [← hA]; rfl), at1 12 _ (by rw [← hA]; rfl), S1, S2, fun q hok hat q2 q3 => ?_⟩
  obtain ⟨t1, t2⟩ := entsQ_ok (P := P) (vals := U) (w := w) (b1 := N.c1) (b2 := N.c2) a5 b5 S1 S2 hok hat q2 q3
  refine ⟨fun e he => ?_, t2⟩
  simp only [Box.es, List.mem_append, List.mem_cons, List.not_mem_nil, or_false] at he
  rcases he with (((he | (rfl | rfl | rfl | rfl | rfl | rfl)) | he) | he) | he
  · rw [hU2]; exact b.preOk k _ e he
  · exact ent_lss (m := kk) (n := lx.length) (at1 7 _ (by rw [← hA]; rfl)) (at1 2 _ (by rw [← hA]; rfl)) (by simp; omega)
  · exact ent_idx (b := ba) (off := oa) (n := lx.length) (cap := ca) k.slice k.size k.pos (at1 5 _ (by rw [← hA]; exact congrArg some a1)) a2 (at1 7 _ (by rw [← hA]; rfl)) hkk (at1 8 _ (by rw [← hA]; rfl))
  · exact ld_ok (zs := vs) k.agg k.ag1 k.size lv (fun j z h => a5.ones j z h) a3 a6 (at1 8 _ (by rw [← hA]; rfl)) S1
  · exact ent_idx (b := bb) (off := ob) (n := ly.length) (cap := cb) k.slice k.size k.pos (at1 6 _ (by rw [← hA]; exact congrArg some b1)) b2 (at1 7 _ (by rw [← hA]; rfl)) (by have := b.len; omega) (at1 9 _ (by rw [← hA]; rfl))
  · exact ld_ok (zs := us) k.agg k.ag1 k.size lu (fun j z h => b5.ones j z h) b3 b6 (at1 9 _ (by rw [← hA]; rfl)) S2
  · exact ent_succ (m := kk) (at1 7 _ (by rw [← hA]; rfl)) (at1 10 _ (by rw [← hA]; rfl)) (by have := b.big; omega)
  · exact fldEnts_ok (mm := N.m2) (b := ba) (off := oa + kk * N.m2) lv (fun j z h => a5.ones j z h) a3 a6 (at1 8 _ (by rw [← hA]; rfl)) S1 hfl.1 (fun z hz' => R1 _ _ (ptrs_at hfl.2 hz')) e he
  · exact fldEnts_ok (mm := N.m2) (b := bb) (off := ob + kk * N.m2) lu (fun j z h => b5.ones j z h) b3 b6 (at1 9 _ (by rw [← hA]; rfl)) S2 hfl.1 (fun z hz' => R2 _ _ (ptrs_at hfl.2 hz')) e he
  · exact t1 e he
/-- The loop where a round has no further loop. -/
theorem boxLoop {f m : Nat} {g : Func} {B : Code} {K : List AItem} {c : Frame} {ks : List Frame} {R : Ending → World → Prop} {p : Option (Func × AFrame × AHeap)} (hmix : P.follows .mixedOrders = true) (k : N.Ok P tb) (kf : N.Facts P p) (hl : Looping P p f m g B K) (b : BoxAt tb N pre w lx ly p1 o1 p2 o2 z1 z2)
    (hok : ∀ (i : Nat) x y, lx[i]? = some (.row x) → ly[i]? = some (.row y) → ∀ t ∈ N.tests, t.ok P tb (tb.flat N.E2) x y)
    (hfalse : lx ≠ ly → ∀ w', Grows w w' → R (.returned (.bool false)) w')
    (hdone : lx = ly → ∀ w2 c2, Grows w w2 → LoopAt P (pre ++ seven N.jc p1 o1 p2 o2 lx.length z1 z2) f m B K N.F N.d lx.length c2 → Ends P c2 ks w2 R)
    (l : LoopAt P (pre ++ seven N.jc p1 o1 p2 o2 lx.length z1 z2) f m B K N.F N.d 0 c) : Ends P c ks w R := by
  have hWl : (pre ++ seven N.jc p1 o1 p2 o2 lx.length z1 z2).length = N.o + 7 := by simp [b.hpre, seven]
  have same : (∀ n, n < lx.length → lx[n]? = ly[n]?) → lx = ly := fun h => by
    apply List.ext_getElem?
    intro n
    by_cases hn : n < lx.length
    · exact h n hn
    · rw [List.getElem?_eq_none (by omega), List.getElem?_eq_none (by have := b.len; omega)]
  have ht2 := kf.todo
  have hs2 := kf.slots
  have hn2 := kf.unlike
  rw [← hWl] at ht2 hs2 hn2
  refine cmpRounds (w := w) (R := R) (n := 600) (jn := N.o + 10) (N := lx.length) (nt := N.tests.length) (es := N.es) (cs := N.cs) (A := fun n => lx[n]? = ly[n]?) hmix hl (fun e he => ⟨_, l.slots e he⟩) (fun kk hkk w4 g4 => ?_) ht2 hs2 hn2 ?_ ?_ 0 w c (Nat.zero_le _) (Grows.refl _) l (fun n hn => absurd hn (Nat.not_lt_zero _))
  · obtain ⟨xs, ys, vs, us, e1, e2, e3, e4, e5⟩ := (b.grows g4).round k hkk
    obtain ⟨L, f1, f2, f3, f4, f5, f6, f7⟩ := e5 (.bool true) (.bool true)
    obtain ⟨q, q1, q2, q3⟩ := tests_split xs ys N.tests
    obtain ⟨r1, r2⟩ := f7 q (hok kk xs ys e1 e2) (Test.at_plain kf.noln) q2 q3
    refine ⟨L, q, f1, f2, ?_, r1, r2⟩
    by_cases hq' : q = N.tests.length
    · left
      refine ⟨hq', ?_⟩
      have lxs := e3.len.2
      have lys := e4.len.2
      rw [k.flat] at lxs lys
      rw [e1, e2, tests_all lxs lys kf.covers fun t ht => by
        obtain ⟨n, hn, rfl⟩ := List.getElem_of_mem ht
        exact q2 n _ (by omega) (List.getElem?_eq_getElem hn)]
    · right
      have hlt' : q < N.tests.length := by omega
      refine ⟨hlt', fun e => ?_⟩
      rw [e1, e2] at e
      injection e with e
      injection e with e
      exact tests_none (List.getElem?_eq_getElem hlt') (q3 _ (List.getElem?_eq_getElem hlt')) e
  · intro ⟨n, hn, hna⟩ w' gw
    exact hfalse (fun e => hna (by rw [e])) w' gw
  · intro hall w4 c4 g4 l4
    exact hdone (same hall) w4 c4 g4 l4
end
end Go.Am
set_option linter.unusedSectionVars false
namespace Go.Am

def slen : T → Nat
  | .seq l => l.length
  | _ => 0
/-- The lengths of two rows' sequences, cell by cell. -/
def lens : List T → List T → List Value
  | a :: x, b :: y => .int .i64 (slen a) :: .int .i64 (slen b) :: lens x y
  | _, _ => []
theorem lens_at : ∀ {x y : List T} {j : Nat} {a b : T}, x[j]? = some a → y[j]? = some b → (lens x y)[2 * j]? = some (.int .i64 (slen a)) ∧ (lens x y)[2 * j + 1]? = some (.int .i64 (slen b))
  | [], y, j, a, b, h, _ => by simp at h
  | _ :: _, [], j, a, b, _, h => by simp at h
  | a' :: x, b' :: y, j, a, b, h1, h2 => by
    cases j with
    | zero => simp only [List.getElem?_cons_zero, Option.some.injEq] at h1 h2; subst h1; subst h2; exact ⟨rfl, rfl⟩
    | succ j =>
      have := lens_at (x := x) (y := y) (j := j) (by simpa using h1) (by simpa using h2)
      rw [show 2 * (j + 1) = 2 * j + 1 + 1 by omega, show 2 * j + 1 + 1 + 1 = (2 * j + 1) + 1 + 1 by omega]
      simp only [lens, List.getElem?_cons_succ]
      exact this
theorem lens_len : ∀ {x y : List T} {m : Nat}, x.length = m → y.length = m → (lens x y).length = 2 * m
  | [], y, m, h, _ => by simp at h; subst h; simp [lens]
  | a :: x, [], m, h1, h2 => by simp at h2; subst h2; simp at h1
  | a :: x, b :: y, m, h1, h2 => by
    cases m with
    | zero => simp at h1
    | succ m => simp only [lens, List.length_cons]; rw [lens_len (m := m) (by simpa using h1) (by simpa using h2)]; omega
/-- The lengths' symbols, where the cells' lengths are laid from a number on. -/
def lnAt (b : Nat) (tests : List Test) : Bool := tests.all fun t => match t with
  | .ln j _ k1 k2 => Nat.beq k1 (b + 2 * j) && Nat.beq k2 (b + 2 * j + 1)
  | _ => true
theorem lnAt_at {b : Nat} {tests : List Test} (h : lnAt b tests = true) {vals : List Value} {x y : List T} (hv : ∀ (j : Nat) z, (lens x y)[j]? = some z → vals[b + j]? = some z) : ∀ t ∈ tests, t.at vals x y := fun t ht => by
  unfold lnAt at h
  rw [List.all_eq_true] at h
  have h := h t ht
  cases t with
  | ln j t k1 k2 =>
    simp only [Bool.and_eq_true] at h
    have r1 := Nat.eq_of_beq_eq_true h.1
    have r2 := Nat.eq_of_beq_eq_true h.2
    subst r1; subst r2
    intro lx ly h1 h2
    obtain ⟨q1, q2⟩ := lens_at h1 h2
    exact ⟨hv _ _ q1, by rw [Nat.add_assoc]; exact hv _ _ q2⟩
  | _ => trivial

section
variable {P : Program} {vals : List Value} {w : World} {R : Ending → World → Prop}
/-- A call that comes to a loop, with memory of its own. -/
theorem Calls.head (hmix : P.follows .mixedOrders = true) {es : List Ent} {cs : List CEnt} (hes : ∀ e ∈ es, EntOk P vals w e) (hcs : ∀ e ∈ cs, CallOk P vals w e) (hl : vals.length ≤ 1000) {f : FuncId} {args : List AV} {args' : Array Value} {n : Nat} {d : Nat} {raw : List (Nat × AV)} {own : List (Nat × List AV)}
    (he : chkHead (@enterA P (orcOf P es cs) f args n) d 0 raw = true) (ho : (own.all fun o => ownOk (@enterA P (orcOf P es cs) f args n) o.1 o.2) = true) (ra : RelL (renOf vals) args args'.toList)
    (k : ∀ (m : Nat) (g : Func) (B : Code) (K : List AItem), Looping P (@enterA P (orcOf P es cs) f args n) f m g B K → ∀ ks ρ w' c', Grows w w' → AtHead P ρ vals w' raw d f m B K own c' → Ends P c' ks w' R) : Calls P f args' w R := by
  unfold chkHead at he
  split at he
  case h_2 => cases he
  rename_i g fr B K hlo
  rw [Bool.and_eq_true] at he
  obtain ⟨H, hp, ht⟩ := loopOf_spec hlo
  refine Calls.enter hmix hes hcs hl hp ra fun ks ρ w' c' h1 h2 h3 hfn h4 h5 => ?_
  have hto := h3.todo
  rw [ht] at hto
  simp only [RelItems, RelItem] at hto
  obtain ⟨x, xs, q1, rfl, q2⟩ := hto
  letI : Orc P := orcOf P es cs
  letI : OrcOk P := okOf P es cs vals w hes hcs
  have s1 := mv_loop (P := P) (cs := ks) (w := w') h3.mode q1
  refine Ends.of_steps (Steps.one s1) rfl (k fr.n g B K ⟨⟨fr, hlo, hfn, rfl⟩, he.1, h4⟩ ks ρ w' _ h2 ⟨h1, fun e he' hj => ?_, fun o ho' hne lo hlo' => ?_, fun vals2 F2 hF2 => ?_⟩)
  · exact h3.slot (l := (d, .int .i64 0) :: raw) he.2 (List.mem_cons_of_mem _ he') hj
  · rw [List.all_eq_true] at ho
    have h6 := ho o ho'
    unfold ownOk at h6
    rw [hp] at h6
    have h7 := cellsAre_spec (P := P) h5 hlo' h6 hne
    simpa using h7
  · refine ⟨h3.mode, h3.defers, h3.lone, h3.kind, by rw [← hfn]; exact h3.fn, ⟨g, h4⟩, h3.tmps.size, ?_, hF2, ?_⟩
    · simp only [RelItems, RelItem]
      exact ⟨_, _, rfl, rfl, _, _, rfl, rfl, plainI_any he.1 q2⟩
    · have h8 := h3.slot (l := (d, .int .i64 0) :: raw) (e := (d, .int .i64 0)) he.2 List.mem_cons_self (fun e => by cases e)
      simp only [RelV] at h8
      exact h8
end

/-- What the program's own text must come to. -/
structure RowsHead (P : Program) (f m : Nat) (tests : List Test) (d : Nat) : Prop where
  unlike : ((List.range tests.length).all fun q => isB false (@retF P (orcOf P (entsQ 0 m tests q) (callsQ 0 m tests q)) f (conjArgs m) 400)) = true
  head : chkHead (@enterA P (orcOf P (entsQ 0 m tests tests.length) (callsQ 0 m tests tests.length)) f (conjArgs m) 400) d 0 [(2, .ptr 2000 0), (3, .ptr 2001 0), (4, .bool false)] = true
  cells : ([(2000, symL 0 m), (2001, symL m m)].all fun o => ownOk (@enterA P (orcOf P (entsQ 0 m tests tests.length) (callsQ 0 m tests tests.length)) f (conjArgs m) 400) o.1 o.2) = true
  lnAt : lnAt (2 * m) tests = true
def headOf (P : Program) (f m : Nat) (tests : List Test) : Option (Func × AFrame × AHeap) := @enterA P (orcOf P (entsQ 0 m tests tests.length) (callsQ 0 m tests tests.length)) f (conjArgs m) 400
theorem symL_at : ∀ (n a j : Nat), j < n → (symL a n)[j]? = some (.sym (1000 + (a + j))) := by
  intro n
  induction n with
  | zero => intro a j h; omega
  | succ n ih => intro a j h; cases j with
    | zero => simp [symL]
    | succ j => simp only [symL, List.getElem?_cons_succ]; rw [ih (a + 1) j (by omega), show a + 1 + j = a + (j + 1) by omega]
theorem rowsHead {P : Program} (hmix : P.follows .mixedOrders = true) {tb : Tab} {f E m d : Nat} {tests : List Test} (k : RowsHead P f m tests d) (hm : (tb.flat E).length = m) (hm0 : 0 < m) (hm1 : m ≤ 200) {x y : List T} (hok : ∀ t ∈ tests, t.ok P tb (tb.flat E) x y)
    {w : World} {vs us : List Value} (hv : RdVals tb Any w (tb.flat E) vs x) (hu : RdVals tb Any w (tb.flat E) us y) {R : Ending → World → Prop} (hfalse : x ≠ y → ∀ w', Grows w w' → R (.returned (.bool false)) w')
    (hhead : (∀ t ∈ tests, t.same x y) → ∀ (n : Nat) (g : Func) (B : Code) (K : List AItem), Looping P (headOf P f m tests) f n g B K → ∀ ks w' c' p1 p2, Grows w w' → p1 < w'.heap.size → p2 < w'.heap.size → (∀ (j : Nat) z, vs[j]? = some z → w'.cell? ⟨p1, 0 + j, none⟩ = some z) → (∀ (j : Nat) z, us[j]? = some z → w'.cell? ⟨p2, 0 + j, none⟩ = some z) →
      (∀ (vals2 : List Value), vals2[0]? = some (.pointer (some ⟨p1, 0, none⟩)) → vals2[1]? = some (.pointer (some ⟨p2, 0, none⟩)) → LoopAt P vals2 f n B K [(2, .sym (1000 + 0)), (3, .sym (1000 + 1)), (4, .bool false)] d 0 c') → Ends P c' ks w' R) :
    Calls P f #[.agg vs.toArray, .agg us.toArray] w R := by
  obtain ⟨q, h1, h2, h3⟩ := tests_split x y tests
  have lv := hv.len
  have lu := hu.len
  rw [hm] at lv lu
  have hA : (vs ++ us).length = 2 * m := by simp; omega
  have p1 : ∀ (j : Nat) v, vs[j]? = some v → (vs ++ us ++ lens x y)[0 + j]? = some v := fun j v hj => by
    rw [Nat.zero_add, List.append_assoc]; exact at_left hj
  have p2 : ∀ (j : Nat) v, us[j]? = some v → (vs ++ us ++ lens x y)[m + j]? = some v := fun j v hj => by
    rw [List.append_assoc, at_app lv.1]; exact at_left hj
  obtain ⟨e1, e2⟩ := entsQ_ok (P := P) (vals := vs ++ us ++ lens x y) (b1 := 0) (b2 := m) hv hu p1 p2 hok (lnAt_at k.lnAt fun j z h => by rw [at_app hA]; exact h) h2 h3
  have hl : (vs ++ us ++ lens x y).length ≤ 1000 := by
    rw [List.length_append, hA, lens_len lv.2 lu.2]; omega
  have ra : RelL (renOf (vs ++ us ++ lens x y)) (conjArgs m) #[Value.agg vs.toArray, .agg us.toArray].toList := by
    simp only [conjArgs, RelL, RelV]
    refine ⟨_, _, rfl, ⟨_, rfl, ?_⟩, _, _, rfl, ⟨_, rfl, ?_⟩, rfl⟩
    · have := symL_rel (vals := vs ++ us ++ lens x y) (vs := vs) (k := 0) fun j v hj => ⟨p1 j v hj, hv.ones j v hj⟩
      rw [lv.1] at this; exact this
    · have := symL_rel (vals := vs ++ us ++ lens x y) (vs := us) (k := m) fun j v hj => ⟨p2 j v hj, hu.ones j v hj⟩
      rw [lu.1] at this; exact this
  by_cases hq : q = tests.length
  case neg =>
    have hlt : q < tests.length := by omega
    have k1 := k.unlike
    rw [List.all_eq_true] at k1
    refine Calls.straight hmix e1 e2 hl 400 (isB_spec (k1 q (by simpa using hlt))) ra fun ρ w' v' _ g1 g2 => ?_
    rw [bool_val g2]
    exact hfalse (tests_none (List.getElem?_eq_getElem hlt) (h3 _ (List.getElem?_eq_getElem hlt))) w' g1
  subst hq
  refine Calls.head hmix e1 e2 hl k.head k.cells ra fun n g B K hlo ks ρ w' c' g1 ah => ?_
  have m1 := ah.slots (2, .ptr 2000 0) (by simp) (fun e => by cases e)
  have m2 := ah.slots (3, .ptr 2001 0) (by simp) (fun e => by cases e)
  have m3 := ah.slots (4, .bool false) (by simp) (fun e => by cases e)
  simp only [RelV] at m1 m2 m3
  obtain ⟨L1, r1, r2⟩ := m1
  obtain ⟨L2, s1, s2⟩ := m2
  have hne : ∀ a, symL a m ≠ [] := fun a => by
    cases hq : m with
    | zero => omega
    | succ n => simp [symL]
  obtain ⟨k1, k2⟩ := ah.cells (2000, symL 0 m) (by simp) (hne 0) L1 r1
  obtain ⟨k3, k4⟩ := ah.cells (2001, symL m m) (by simp) (hne m) L2 s1
  refine hhead (fun t ht => ?_) n g B K hlo ks w' c' L1.b L2.b g1 k1 k3 (fun j z h => ?_) (fun j z h => ?_) fun vals2 i0 i1 => ?_
  · obtain ⟨i, hi, rfl⟩ := List.getElem_of_mem ht
    exact h2 i _ hi (List.getElem?_eq_getElem hi)
  · have hjv := (List.getElem?_eq_some_iff.1 h).1
    obtain ⟨zz, y1, y2⟩ := k2 j _ (symL_at m 0 j (by omega))
    rw [Nat.zero_add, y1, sym_val ah.le (p1 j z h) y2]
  · have hjv := (List.getElem?_eq_some_iff.1 h).1
    obtain ⟨zz, y1, y2⟩ := k4 j _ (symL_at m m j (by omega))
    rw [Nat.zero_add, y1, sym_val ah.le (p2 j z h) y2]
  · refine ah.loop vals2 _ fun e he => ?_
    simp only [List.mem_cons, List.not_mem_nil, or_false] at he
    rcases he with rfl | rfl | rfl
    · simp only; rw [r2]; exact sym_rel (k := 0) i0 rfl
    · simp only; rw [s2]; exact sym_rel (k := 1) i1 rfl
    · simp only [RelV]; exact m3
end Go.Am
set_option linter.unusedSectionVars false
namespace Go.Am
open Go.Proofs
abbrev t33 : List Test := [.sc 0 3 true, .sc 1 9 true, .sc 2 3 true, .sc 6 9 true, .ln 7 84 30 31, .seq 3 31 none, .seq 4 30 none, .seq 5 31 none]
theorem h33 : RowsHead Tryz.prog 33 8 t33 5 := {
  unlike := by kernel_rfl,
  head := by kernel_rfl,
  cells := by kernel_rfl,
  lnAt := by kernel_rfl }
abbrev x33 : Box := { o := 0, E := 86, fc := 7, jc := 7, t2 := 84, E2 := 86, m2 := 8, ag2 := true, d := 5, F := [(2, .sym (1000 + 0)), (3, .sym (1000 + 1)), (4, .bool false)], flds := [], tests := [.row 0 8 33] }
theorem f33 : x33.Facts Tryz.prog (headOf Tryz.prog 33 8 t33) := {
  todo := by kernel_rfl,
  slots := by kernel_rfl,
  unlike := by kernel_rfl,
  covers := by kernel_rfl,
  noln := by kernel_rfl }
theorem s33 : @retOf? Tryz.prog (orcOf Tryz.prog x33.esX []) (@roundSeg Tryz.prog (orcOf Tryz.prog x33.esX []) (headOf Tryz.prog 33 8 t33) x33.F 5 7 600) = some (.bool true) := by kernel_rfl
theorem ok33 : x33.Ok Tryz.prog tab := {
  elem := rfl,
  flat := rfl,
  pos := by decide,
  small := by decide,
  slice := by kernel_rfl,
  agg := by kernel_rfl,
  ag1 := (fun h => by cases h),
  size := by kernel_rfl,
  one := by kernel_rfl,
  fld := by kernel_rfl,
  flds := by kernel_rfl,
  osmall := by decide,
  fsmall := by decide }
theorem r33 : ∀ (n : Nat) {x y : List T}, Sub n x → SameRow Tryz.prog tab 33 86 x y := by
  intro n
  induction n with
  | zero =>
    intro x y hs w vs us hv hu
    obtain ⟨z1, tx, f1, f2, f3⟩ := hv.at 7 84 rfl
    obtain ⟨lx, rfl⟩ := rd_seq f3 rfl
    have := (hs _ _ f2).1
    omega
  | succ n ih =>
    intro x y hs w vs us hv hu
    obtain ⟨z1, tx, f1, f2, f3⟩ := hv.at 7 84 rfl
    obtain ⟨z2, ty, g1, g2, g3⟩ := hu.at 7 84 rfl
    obtain ⟨lx, rfl⟩ := rd_seq f3 rfl
    obtain ⟨ly, rfl⟩ := rd_seq g3 rfl
    obtain ⟨q1, q2, q3⟩ := hs _ _ f2
    refine rowsHead mixes h33 (E := 86) rfl (by decide) (by decide) (fun t ht => ?_) hv hu (fun hne w' g => ⟨by rw [eqB_neg hne], g⟩) fun hsame k g B K hlo ks w' c' p1 p2 gr b1 b2 c1 c2 hF => ?_
    · simp only [List.mem_cons, List.not_mem_nil, or_false] at ht
      rcases ht with rfl | rfl | rfl | rfl | rfl | rfl | rfl | rfl
      · exact ⟨_, _, rfl, rfl, rfl, kind0⟩
      · exact ⟨_, _, rfl, rfl, rfl, kind1⟩
      · exact ⟨_, _, rfl, rfl, rfl, kind0⟩
      · exact ⟨_, _, rfl, rfl, rfl, kind1⟩
      · exact ⟨_, 86, rfl, rfl, by kernel_rfl⟩
      · exact ⟨_, rfl, rfl, r31' hs⟩
      · exact ⟨_, rfl, rfl, r30' hs⟩
      · exact ⟨_, rfl, rfl, r31' hs⟩
    have hlen : lx.length = ly.length := hsame (.ln 7 84 30 31) (by simp) lx ly f2 g2
    have bx : BoxAt tab x33 [] w' lx ly p1 0 p2 0 z1 z2 := ⟨rfl, b1, b2, c1 7 _ f1, c2 7 _ g1, f3.grows gr, g3.grows gr, hlen, lift q2⟩
    refine boxLoop (R := fun e w'' => e = .returned (.bool (eqB x y)) ∧ Grows w w'') mixes ok33 f33 hlo bx (fun i a b ha hb t ht => ?_) (fun hne w2 g2' => ?_) (fun heq w2 c2' g2' l2 => ?_) (hF _ rfl rfl)
    · simp only [List.mem_cons, List.not_mem_nil, or_false] at ht
      subst ht
      exact ⟨86, rfl, rfl, ih (sub_part (sub_at (by omega) q3 ha) 0 8)⟩
    · refine ⟨?_, gr.trans g2'⟩
      rw [eqB_neg]
      intro e
      rw [e, g2] at f2
      cases f2
      exact hne rfl
    · refine l2.ret (es := x33.esX) (cs := []) (more := []) mixes hlo (BoxAt.last ok33 (bx.grows g2') []) (fun _ h => by cases h) (by simp [seven]) s33 fun ρ w3 v' _ h2 h3 => ?_
      rw [bool_val h3, eqB_pos]
      · exact ⟨rfl, gr.trans (g2'.trans h2)⟩
      · have lx8 := hv.len.2
        have ly8 := hu.len.2
        apply List.ext_getElem?
        intro j
        by_cases hj : j < 8
        · have cov : ∀ j, j < 8 → j ≠ 7 → ∃ t ∈ t33, t.covers j = true := by decide
          by_cases h7 : j = 7
          · subst h7; rw [f2, g2, heq]
          · obtain ⟨t, ht, hc⟩ := cov j hj h7
            exact test_same hc (hsame t ht)
        · have e8 : (tab.flat 86).length = 8 := rfl
          rw [List.getElem?_eq_none (by omega), List.getElem?_eq_none (by omega)]
theorem r12 {x y : List T} (hf : fitsL x) (hx : x.length < big) : SameSeq Tryz.prog tab 12 24 [] x y := by
  refine nestLoop mixes n12 n12F rfl rfl (by decide) (by decide) (by kernel_rfl) (by kernel_rfl) (by kernel_rfl) rfl rfl rfl rfl (by decide) (by decide) (by kernel_rfl) (by kernel_rfl) (fun h => by cases h) (by kernel_rfl) (by kernel_rfl) (by decide) (by decide) (lift hx) ?_ ?_ ?_
  · intro i a lx ha hl
    exact lift (sub_at (Nat.le_refl _) hf ha _ _ hl).2.1
  · intro i a b ha hb t ht
    have sa := sub_at (Nat.le_refl _) hf ha
    simp only [n12, List.mem_cons, List.not_mem_nil, or_false] at ht
    rcases ht with rfl | rfl | rfl
    · exact ⟨_, _, rfl, rfl, rfl, kind1⟩
    · exact ⟨86, rfl, rfl, r33 _ (sub_part sa 1 8)⟩
    · exact ⟨_, 92, rfl, rfl, by kernel_rfl⟩
  · intro i a b lx ly ha hb hlx hly k a2 b2 h1 h2 t ht
    simp only [n12, List.mem_cons, List.not_mem_nil, or_false] at ht
    subst ht
    exact ⟨rfl, aggne92⟩
end Go.Am
set_option linter.unusedSectionVars false
namespace Go.Am
open Go.Proofs
abbrev F14 : List (Nat × AV) := [(2, .sym (1000 + 0)), (3, .sym (1000 + 1)), (4, .bool false)]
abbrev t14 : List Test := [.sc 0 9 true, .sc 1 9 true, .sc 2 9 true, .ln 3 26 18 19, .ln 4 27 20 21, .ln 5 28 22 23]
theorem h14 : RowsHead Tryz.prog 14 6 t14 5 := {
  unlike := by kernel_rfl,
  head := by kernel_rfl,
  cells := by kernel_rfl,
  lnAt := by kernel_rfl }
abbrev xa : Box := { o := 0, E := 30, fc := 3, jc := 3, t2 := 26, E2 := 100, m2 := 4, ag2 := true, d := 5, F := F14, flds := [], tests := [.sc 0 9 true, .sc 1 4 true, .sc 2 9 true, .ln 3 98 11 12] }
abbrev xb : Box := { o := 8, E := 100, fc := 3, jc := 3, t2 := 98, E2 := 102, m2 := 4, ag2 := true, d := 8, F := (6, .sym (1000 + 8)) :: (7, .sym (1000 + 9)) :: (5, .sym (1000 + 7)) :: F14, flds := [], tests := [.sc 0 9 true, .sc 1 3 true, .sc 2 3 true, .seq 3 10 none] }
abbrev xc : Box := { o := 0, E := 30, fc := 4, jc := 4, t2 := 27, E2 := 106, m2 := 8, ag2 := true, d := 11, F := F14, flds := [], tests := [.seq 0 30 none, .seq 1 30 none, .row 2 6 34] }
abbrev xd : Box := { o := 0, E := 30, fc := 5, jc := 5, t2 := 28, E2 := 30, m2 := 6, ag2 := true, d := 14, F := F14, flds := [], tests := [.row 0 6 14] }
noncomputable def pA : Option (Func × AFrame × AHeap) := headOf Tryz.prog 14 6 t14
noncomputable def pB : Option (Func × AFrame × AHeap) := @roundSeg Tryz.prog (orcOf Tryz.prog (xa.es 4) (xa.cs 4)) pA F14 5 7 600
noncomputable def pC : Option (Func × AFrame × AHeap) := @roundSeg Tryz.prog (orcOf Tryz.prog xa.esX []) pA F14 5 7 600
noncomputable def pD : Option (Func × AFrame × AHeap) := @roundSeg Tryz.prog (orcOf Tryz.prog xc.esX []) pC F14 11 7 600
theorem uA : ((List.range 4).all fun q => isB false (@retOf? Tryz.prog (orcOf Tryz.prog (xa.es q) (xa.cs q)) (@roundSeg Tryz.prog (orcOf Tryz.prog (xa.es q) (xa.cs q)) pA F14 5 7 600))) = true := by kernel_rfl
abbrev rawB : List (Nat × AV) := (6, .ptr 2000 0) :: (7, .ptr 2001 0) :: (5, .sym (1000 + 7)) :: F14
theorem hB : chkHead pB 8 0 rawB = true := by kernel_rfl
theorem oB : ([(2000, symL 13 4), (2001, symL 17 4)].all fun o => ownOk pB o.1 o.2) = true := by kernel_rfl
theorem fB : xb.Facts Tryz.prog pB := {
  todo := by kernel_rfl,
  slots := by kernel_rfl,
  unlike := by kernel_rfl,
  covers := by kernel_rfl,
  noln := by kernel_rfl }
abbrev esY : List Ent := xb.esX ++ [(.add 3, [.sym (1000 + 7), .int .i64 1], .sym (1000 + 16))]
theorem tY : todoOf (@roundSeg Tryz.prog (orcOf Tryz.prog esY []) pB xb.F 8 15 600) = wantTodo pA := by kernel_rfl
theorem sY : slotsOf (@roundSeg Tryz.prog (orcOf Tryz.prog esY []) pB xb.F 8 15 600) ((5, .sym (1000 + 16)) :: F14) = true := by kernel_rfl
theorem hC : chkHead pC 11 0 F14 = true := by kernel_rfl
theorem fC : xc.Facts Tryz.prog pC := {
  todo := by kernel_rfl,
  slots := by kernel_rfl,
  unlike := by kernel_rfl,
  covers := by kernel_rfl,
  noln := by kernel_rfl }
theorem hD : chkHead pD 14 0 F14 = true := by kernel_rfl
theorem fD : xd.Facts Tryz.prog pD := {
  todo := by kernel_rfl,
  slots := by kernel_rfl,
  unlike := by kernel_rfl,
  covers := by kernel_rfl,
  noln := by kernel_rfl }
theorem sD : @retOf? Tryz.prog (orcOf Tryz.prog xd.esX []) (@roundSeg Tryz.prog (orcOf Tryz.prog xd.esX []) pD F14 14 7 600) = some (.bool true) := by kernel_rfl
theorem okA : xa.Ok Tryz.prog tab := {
  elem := rfl, flat := rfl, pos := by decide, small := by decide, slice := by kernel_rfl, agg := by kernel_rfl, ag1 := (fun h => by cases h), size := by kernel_rfl, one := by kernel_rfl, fld := by kernel_rfl, flds := by kernel_rfl, osmall := by decide, fsmall := by decide }
theorem okB : xb.Ok Tryz.prog tab := {
  elem := rfl, flat := rfl, pos := by decide, small := by decide, slice := by kernel_rfl, agg := by kernel_rfl, ag1 := (fun h => by cases h), size := by kernel_rfl, one := by kernel_rfl, fld := by kernel_rfl, flds := by kernel_rfl, osmall := by decide, fsmall := by decide }
theorem okC : xc.Ok Tryz.prog tab := {
  elem := rfl, flat := rfl, pos := by decide, small := by decide, slice := by kernel_rfl, agg := by kernel_rfl, ag1 := (fun h => by cases h), size := by kernel_rfl, one := by kernel_rfl, fld := by kernel_rfl, flds := by kernel_rfl, osmall := by decide, fsmall := by decide }
theorem okD : xd.Ok Tryz.prog tab := {
  elem := rfl, flat := rfl, pos := by decide, small := by decide, slice := by kernel_rfl, agg := by kernel_rfl, ag1 := (fun h => by cases h), size := by kernel_rfl, one := by kernel_rfl, fld := by kernel_rfl, flds := by kernel_rfl, osmall := by decide, fsmall := by decide }
theorem c5 : conjOk Tryz.prog 5 11 [.sc 0 3 false, .seq 1 10 none, .seq 2 11 none, .seq 3 12 none, .seq 4 13 none, .row 5 6 14] = true := by kernel_rfl
end Go.Am
