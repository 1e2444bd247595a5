/-
  Part 26 of the proof that winch/winchlaw25.ChangeBodies returns true for every two bodies of small bulk: lemmas.
  Conditions: none beyond each theorem's own premises.
  What lies here:
  The reference's clone of a body gives a copy.
  The law's own example comes out: its whole run, reckoned.
  The law's function returns true, whatever the two bodies. Condition: the bodies' sequences are short.
  What a reading behind an argument finds is data in rows, short where its bulk is small.
  A start that fits: the door's own memory, two zero bodies.
  The law of the seat: its function returns true, the two bodies read as they did. Condition: the readings' bulk is small, as the row says.
-/
import Derived.Test.YtclhjedldbkgpaaGreatDoorBodies25
import Derived.Test.YtclhjedldbkgpaaGreatDoorRows
import Derived.ChangeArms
import Derived.ChangeOld
import Derived.LaidMore
import Derived.Deep.DeepWitnessRowRef
import Derived.ReadAgain
import Derived.OpenShut
import Derived.ProofKit
import Derived.WalkKit
set_option linter.unusedVariables false
set_option linter.unusedSimpArgs false
set_option linter.unusedSectionVars false
namespace Go.Am
open Go.Proofs
def nx6 : Nat → Nat
  | 0 => 2002
  | 1 => 2003
  | 2 => 2004
  | 3 => 2005
  | 4 => 2006
  | _ => 2012
theorem d6Ops : d6.ops = opsOf q6 := by simp only [d6]
theorem d6N : d6.n = nOf q6 := by simp only [d6]
theorem d6Base : d6.base = base6 := by simp only [d6]
theorem d6H : d6.H = heapOf q6 := by simp only [d6]
theorem d6End : nx6 d6.hands.length = 2012 := by simp only [d6]; rfl
theorem hands6 {s h : Nat} (hs : d6.hands[s]? = some h) : (s = 0 ∧ h = 4) ∨ (s = 1 ∧ h = 7) ∨ (s = 2 ∧ h = 10) ∨ (s = 3 ∧ h = 13) ∨ (s = 4 ∧ h = 16) := by
  have hs : ([4, 7, 10, 13, 16] : List Nat)[s]? = some h := hs
  match s, hs with
  | 0, hs => cases hs; exact Or.inl ⟨rfl, rfl⟩
  | 1, hs => cases hs; exact Or.inr (Or.inl ⟨rfl, rfl⟩)
  | 2, hs => cases hs; exact Or.inr (Or.inr (Or.inl ⟨rfl, rfl⟩))
  | 3, hs => cases hs; exact Or.inr (Or.inr (Or.inr (Or.inl ⟨rfl, rfl⟩)))
  | 4, hs => cases hs; exact Or.inr (Or.inr (Or.inr (Or.inr ⟨rfl, rfl⟩)))
  | s + 5, hs => simp at hs
theorem k6 {x : List T} (hf : fitsL x) : CloneRow Tryz.prog tab 6 32 x := by
  intro w vs hv
  have lv : vs.length = 11 := hv.len.1
  have lx : x.length = 11 := hv.len.2
  have sb := sub_row (n := SizeOf.sizeOf x) (Nat.le_refl _) hf
  obtain ⟨z1, y1, f1, g1, h1⟩ := hv.at 1 22 rfl
  obtain ⟨z2, y2, f2, g2, h2⟩ := hv.at 2 23 rfl
  obtain ⟨z3, y3, f3, g3, h3⟩ := hv.at 3 24 rfl
  obtain ⟨z4, y4, f4, g4, h4⟩ := hv.at 4 25 rfl
  obtain ⟨l1, rfl⟩ := rd_seq h1 rfl
  obtain ⟨l2, rfl⟩ := rd_seq h2 rfl
  obtain ⟨l3, rfl⟩ := rd_seq h3 rfl
  obtain ⟨l4, rfl⟩ := rd_seq h4 rfl
  obtain ⟨s1, b1, t1⟩ := sb _ _ g1
  obtain ⟨s2, b2, t2⟩ := sb _ _ g2
  obtain ⟨s3, b3, t3⟩ := sb _ _ g3
  obtain ⟨s4, b4, t4⟩ := sb _ _ g4
  have hpart : RdVals tab Any w (tab.flat 30) ((vs.drop 5).take 6) ((x.drop 5).take 6) := (hv.drop 5).take 6
  obtain ⟨x0, id, K, hx0, ht, hpK, hsl, hn, hH⟩ := drawHead_is dh6
  letI : Orc Tryz.prog := orcOf Tryz.prog [] []
  have hes : ∀ e ∈ ([] : List Ent), EntOk Tryz.prog vs w e := fun _ h => by cases h
  have hcs : ∀ e ∈ ([] : List CEnt), CallOk Tryz.prog vs w e := fun _ h => by cases h
  letI : OrcOk Tryz.prog := okOf Tryz.prog [] [] vs w hes hcs
  refine Calls.sit (tb := tab) (V := vs) (es := []) (cs := []) hes hcs (by omega) hx0 (by
    simp only [RelL, RelV]
    exact ⟨_, _, rfl, ⟨_, rfl, symL_vals (k := 0) hv.ones lv (fun j z h => by rw [Nat.zero_add]; exact h)⟩, rfl⟩) fun ks c b hcut hg S => ?_
  simp only [runCuts, Option.some.injEq] at hcut
  refine S.seg mixes 600 fun ρ1 w1 c1 e1 S1 => ?_
  rw [hcut] at S1
  rw [← d6Ops] at ht
  rw [← d6N] at hn
  rw [← d6Base] at hsl
  rw [← d6H] at hH
  refine S1.draw (p := d6) mixes d6ok ht hpK hn hsl (by rw [d6Base]; rfl) (by rw [hH])
    (fun s made => (0 < s → ∃ z, (⟨2002, z, .seq l1, 22⟩ : Fact) ∈ made) ∧ (1 < s → ∃ z, (⟨2003, z, .seq l2, 23⟩ : Fact) ∈ made) ∧ (2 < s → ∃ z, (⟨2004, z, .seq l3, 24⟩ : Fact) ∈ made) ∧ (3 < s → ∃ z, (⟨2005, z, .seq l4, 25⟩ : Fact) ∈ made) ∧ (4 < s → ∃ us, us.length = 6 ∧ ∀ q ∈ newFacts 2006 us ((x.drop 5).take 6) (tab.flat 30), q ∈ made))
    ⟨fun h => absurd h (by omega), fun h => absurd h (by omega), fun h => absurd h (by omega), fun h => absurd h (by omega), fun h => absurd h (by omega)⟩ nx6 (by rw [← hH, d6H]; exact next6) (fun s h hs ρ H w' made st hx hnx args ra => ?_) fun ρ2 w2 c2 made hle hX S2 => ?_
  · obtain ⟨x1, x2, x3, x4, x5⟩ := hx
    have grow : ∀ {q : Fact} {l : List Fact} {P : Prop}, (P → ∃ z, (⟨q.j, z, q.x, q.t⟩ : Fact) ∈ made) → (P → ∃ z, (⟨q.j, z, q.x, q.t⟩ : Fact) ∈ l ++ made) := fun h hp => by
      obtain ⟨z, hz⟩ := h hp
      exact ⟨z, List.mem_append_right _ hz⟩
    have gr : Grows w w' := st.grows
    rcases hands6 hs with ⟨rfl, rfl⟩ | ⟨rfl, rfl⟩ | ⟨rfl, rfl⟩ | ⟨rfl, rfl⟩ | ⟨rfl, rfl⟩
    · have ra : RelL ρ [.sym 1001] args.toList := ra
      have hj : ρ 1001 = some ⟨0, 0, z1⟩ := st.base _ _ (renOf_sym (k := 1) f1)
      refine (st.call1 (g := 15) (j := 1001) hj (h1.grows gr) (k15 _ s1 t1 b1) ra).mono fun e w2 ⟨v, q1, ρ', q2, q3, q4⟩ => ⟨v, q1, ρ', bump H 1, _, q2, rfl, ?_, ?_, q4, ?_⟩
      · show H.next + 1 = _; rw [hnx]; rfl
      · rw [hnx] at q3; exact q3
      · rw [hnx]
        exact ⟨fun _ => ⟨v, List.mem_cons_self⟩, fun h => absurd h (by omega), fun h => absurd h (by omega), fun h => absurd h (by omega), fun h => absurd h (by omega)⟩
    · have ra : RelL ρ [.sym 1002] args.toList := ra
      have hj : ρ 1002 = some ⟨0, 0, z2⟩ := st.base _ _ (renOf_sym (k := 2) f2)
      refine (st.call1 (g := 16) (j := 1002) hj (h2.grows gr) (k16 (SizeOf.sizeOf l2) (Nat.lt_succ_self _) t2 b2) ra).mono fun e w2 ⟨v, q1, ρ', q2, q3, q4⟩ => ⟨v, q1, ρ', bump H 1, _, q2, rfl, ?_, ?_, q4, ?_⟩
      · show H.next + 1 = _; rw [hnx]; rfl
      · rw [hnx] at q3; exact q3
      · rw [hnx]
        exact ⟨fun _ => by obtain ⟨z, hz⟩ := x1 (by omega); exact ⟨z, List.mem_cons_of_mem _ hz⟩, fun _ => ⟨v, List.mem_cons_self⟩, fun h => absurd h (by omega), fun h => absurd h (by omega), fun h => absurd h (by omega)⟩
    · have ra : RelL ρ [.sym 1003] args.toList := ra
      have hj : ρ 1003 = some ⟨0, 0, z3⟩ := st.base _ _ (renOf_sym (k := 3) f3)
      refine (st.call1 (g := 17) (j := 1003) hj (h3.grows gr) (k17 (SizeOf.sizeOf l3) (Nat.lt_succ_self _) t3 b3) ra).mono fun e w2 ⟨v, q1, ρ', q2, q3, q4⟩ => ⟨v, q1, ρ', bump H 1, _, q2, rfl, ?_, ?_, q4, ?_⟩
      · show H.next + 1 = _; rw [hnx]; rfl
      · rw [hnx] at q3; exact q3
      · rw [hnx]
        exact ⟨fun _ => by obtain ⟨z, hz⟩ := x1 (by omega); exact ⟨z, List.mem_cons_of_mem _ hz⟩, fun _ => by obtain ⟨z, hz⟩ := x2 (by omega); exact ⟨z, List.mem_cons_of_mem _ hz⟩, fun _ => ⟨v, List.mem_cons_self⟩, fun h => absurd h (by omega), fun h => absurd h (by omega)⟩
    · have ra : RelL ρ [.sym 1004] args.toList := ra
      have hj : ρ 1004 = some ⟨0, 0, z4⟩ := st.base _ _ (renOf_sym (k := 4) f4)
      refine (st.call1 (g := 18) (j := 1004) hj (h4.grows gr) (k18 (SizeOf.sizeOf l4) (Nat.lt_succ_self _) t4 b4) ra).mono fun e w2 ⟨v, q1, ρ', q2, q3, q4⟩ => ⟨v, q1, ρ', bump H 1, _, q2, rfl, ?_, ?_, q4, ?_⟩
      · show H.next + 1 = _; rw [hnx]; rfl
      · rw [hnx] at q3; exact q3
      · rw [hnx]
        exact ⟨fun _ => by obtain ⟨z, hz⟩ := x1 (by omega); exact ⟨z, List.mem_cons_of_mem _ hz⟩, fun _ => by obtain ⟨z, hz⟩ := x2 (by omega); exact ⟨z, List.mem_cons_of_mem _ hz⟩, fun _ => by obtain ⟨z, hz⟩ := x3 (by omega); exact ⟨z, List.mem_cons_of_mem _ hz⟩, fun _ => ⟨v, List.mem_cons_self⟩, fun h => absurd h (by omega)⟩
    · have ra : RelL ρ [.agg (symL 5 6)] args.toList := ra
      refine (st.callRow1 (g := 19) (E := 30) (xs := symL 5 6) (zs := (vs.drop 5).take 6) (x := (x.drop 5).take 6) (m := 6) rfl (syms_are (us := (vs.drop 5).take 6) (k := 5) st.base (fun j z h => hv.ones (5 + j) z (part_any h)) (by simp [lv]) (fun j z h => part_any h)) (hpart.grows gr) (k19 _ (Nat.lt_succ_self _) (fitsL_part hf 5 6)) ra).mono fun e w2 ⟨v, q1, ρ', us, q0, q2, q3, q4⟩ => ⟨v, q1, ρ', bump H 6, _, q2, rfl, ?_, ?_, q4, ?_⟩
      · show H.next + 6 = _; rw [hnx]; rfl
      · rw [hnx] at q3; exact q3
      · rw [hnx]
        exact ⟨fun _ => by obtain ⟨z, hz⟩ := x1 (by omega); exact ⟨z, List.mem_append_right _ hz⟩, fun _ => by obtain ⟨z, hz⟩ := x2 (by omega); exact ⟨z, List.mem_append_right _ hz⟩, fun _ => by obtain ⟨z, hz⟩ := x3 (by omega); exact ⟨z, List.mem_append_right _ hz⟩, fun _ => by obtain ⟨z, hz⟩ := x4 (by omega); exact ⟨z, List.mem_append_right _ hz⟩, fun _ => ⟨us, q0, fun q hq => List.mem_append_left _ hq⟩⟩
  · obtain ⟨x1, x2, x3, x4, x5⟩ := hX
    obtain ⟨u1, m1⟩ := x1 (by show 0 < 5; omega)
    obtain ⟨u2, m2⟩ := x2 (by show 1 < 5; omega)
    obtain ⟨u3, m3⟩ := x3 (by show 2 < 5; omega)
    obtain ⟨u4, m4⟩ := x4 (by show 3 < 5; omega)
    obtain ⟨us, lu, m5⟩ := x5 (by show 4 < 5; omega)
    obtain ⟨y0, hr⟩ := ret_some stop6
    have hend : y0 = (x0.1, (seg Tryz.prog 600 (d6.frame 6 K) ⟨d6.H.objs, 2012⟩).1, (seg Tryz.prog 600 (d6.frame 6 K) ⟨d6.H.objs, 2012⟩).2) := by
      have h := hr
      unfold e6 drawEnd at h
      rw [hx0] at h
      simp only [ht] at h
      exact (Option.some.inj h).symm
    rw [d6End] at S2
    refine S2.seg mixes 600 fun ρ3 w3 c3 e3 S3 => ?_
    have S3 : Sit Tryz.prog tab 6 w.heap.size vs made [] ρ3 y0.2.2 w3 y0.2.1 c3 ks := by
      have h1 : y0.2.1 = (seg Tryz.prog 600 (d6.frame 6 K) ⟨d6.H.objs, 2012⟩).1 := by simp only [hend]
      have h2 : y0.2.2 = (seg Tryz.prog 600 (d6.frame 6 K) ⟨d6.H.objs, 2012⟩).2 := by simp only [hend]
      rw [h1, h2]
      exact S3
    refine S3.ret (by rw [hend]; exact hg) hr stop6 fun u hu gr => ?_
    simp only [RelV] at hu
    obtain ⟨zs, rfl, hu⟩ := hu
    have hv' := hv
    simp only [tab, RdVals] at hv'
    obtain ⟨_, _, e0, _, _, rfl, _, _, _, e1, _, _, rfl, _, _, _, e2, _, _, rfl, _, _, _, e3, _, _, rfl, _, _, _, e4, _, _, rfl, _, _, _, e5, _, _, rfl, _, _, _, e6, _, _, rfl, _, _, _, e7, _, _, rfl, _, _, _, e8, _, _, rfl, _, _, _, e9, _, _, rfl, _, _, _, e10, _, _, rfl, _, _, rfl⟩ := hv'
    simp only [List.getElem?_cons_succ, List.getElem?_cons_zero, Option.some.injEq] at g1 g2 g3 g4
    subst g1 g2 g3 g4
    have row := Sit.fresh (rows_append (tA := [3, 22, 23, 24, 25]) (tB := tab.flat 30) (xA := [e0, .seq l1, .seq l2, .seq l3, .seq l4]) (xB := [e5, e6, e7, e8, e9, e10]) (S3.row (b0 := 0) ?_ (hv.take 5) (fun j z h => part_any (j := 0) h)) (S3.newRow (ts := tab.flat 30) lu rfl m5) _ hu)
    · exact ⟨_, rfl, ⟨zs.toList, row.len.1, by simp, fun z hz => by
        obtain ⟨j, hj, rfl⟩ := List.getElem_of_mem hz
        exact row.ones j _ (List.getElem?_eq_getElem hj)⟩, gr, zs.toList, by simp, row⟩
    · exact ⟨_, _, _, _, rfl, rfl, Or.inl ⟨rfl, rfl⟩, _, _, _, _, rfl, rfl, Or.inr ⟨_, m1, rfl, rfl, rfl⟩, _, _, _, _, rfl, rfl, Or.inr ⟨_, m2, rfl, rfl, rfl⟩, _, _, _, _, rfl, rfl, Or.inr ⟨_, m3, rfl, rfl, rfl⟩, _, _, _, _, rfl, rfl, Or.inr ⟨_, m4, rfl, rfl, rfl⟩, rfl, rfl⟩
end Go.Am
set_option linter.unusedSectionVars false
namespace Go.Am
open Go.Proofs
@[reducible] def orcNo (P : Program) : Orc P := ⟨false, fun _ _ => none, fun _ _ _ => none⟩
def okRun (r : Option (AEnd × AHeap)) : Bool :=
  match r with
  | some (.returned (.bool true), _) => true
  | _ => false
theorem run_awake : okRun (@call Tryz.prog (orcNo Tryz.prog) 100000 7 [] ⟨.leaf, 1000⟩) = true := by kernel_rfl
theorem run_some {r : Option (AEnd × AHeap)} (h : okRun r = true) : ∃ H, r = some (.returned (.bool true), H) := by
  unfold okRun at h
  split at h
  · exact ⟨_, rfl⟩
  · cases h
theorem awake_calls (w : World) : Calls Tryz.prog 7 #[] w fun e w' => e = .returned (.bool true) ∧ Grows w w' := by
  letI : Orc Tryz.prog := orcNo Tryz.prog
  letI : OrcOk Tryz.prog := @OrcOk.mk Tryz.prog (orcNo Tryz.prog) (renOf []) w (fun b => b < w.heap.size) (fun _ h => h) (fun o ys a h => by cases h) (fun f ys H a h => by cases h)
  obtain ⟨H', h⟩ := run_some run_awake
  have hno : ∀ i o, (⟨.leaf, 1000⟩ : AHeap).get i = some o → False := fun i o ho => by simp [AHeap.get, Tree.get_leaf] at ho
  have hh : RelH Tryz.prog (renOf []) ⟨.leaf, 1000⟩ w := ⟨fun i o ho => (hno i o ho).elim, fun i j o o' l l' ho => (hno i o ho).elim, fun i hi => by
    have hi : 1000 ≤ i := hi
    unfold renOf
    rw [if_neg (by omega)]
    rfl, Ren.le.refl _, fun _ _ => rfl, Nat.le_refl _, (fun i o l ho => (hno i o ho).elim), Still.refl _⟩
  refine (call_calls (fun _ hs => draw_sound mixes hs) h hh (renOf_glob []) (args' := #[]) (by simp [RelL])).mono fun e' w' ⟨ρ', h1, h2, h3⟩ => ⟨?_, h3.size, (fun b hb => h3.kept b hb fun i o l ho => (hno i o ho).elim), h3.still⟩
  cases e' with
  | returned v =>
    simp only [endOf, RelV] at h1
    rw [h1]
  | _ => exact h1.elim
end Go.Am
set_option linter.unusedSectionVars false
namespace Go.Am
open Go.Proofs
section
variable {P : Program} [Orc P] [OrcOk P] {tb : Tab} {n0 : Nat} {V : List Value} {made : List Fact} {outs : List Grow} {ρ : Ren} {H : AHeap} {w w' : World}
theorem Stat.grown (a : Stat P tb n0 V made outs ρ H w) (hg : Grows w w') : Stat P tb n0 V made outs ρ H w' := by
  have hobj : ∀ i x l, H.get i = some x → ρ i = some l → w'.heap[l.b]? = w.heap[l.b]? := fun i x l hx hl => by
    obtain ⟨l', q1, q2, _⟩ := a.heap.obj i x hx
    rw [hl] at q1
    cases q1
    exact hg.2 _ q2
  have hh : RelH P ρ H w' := by
    refine ⟨fun i o ho => ?_, a.heap.inj, a.heap.fresh, a.heap.base, fun b hb => ?_, Nat.le_trans a.heap.wsize hg.1, a.heap.own, a.heap.still.trans hg.3⟩
    · obtain ⟨l, h1, h2, h3⟩ := a.heap.obj i o ho
      exact ⟨l, h1, Nat.lt_of_lt_of_le h2 hg.1, by rw [hg.2 _ h2]; exact h3⟩
    · rw [hg.2 b (Nat.lt_of_lt_of_le (OrcOk.inW b hb) a.heap.wsize)]
      exact a.heap.kept b hb
  exact ⟨hh, a.glob, a.keep, a.size, a.base, a.named, (a.data.hand a.heap (Ren.le.refl ρ) hg (H' := H) fun _ => rfl).1⟩
theorem Stat.newRow (a : Stat P tb n0 V made outs ρ H w) : ∀ {j : Nat} {us : List Value} {xs : List T} {ts : List TypeId}, us.length = ts.length → xs.length = ts.length → (∀ q ∈ newFacts j us xs ts, q ∈ made) →
    ∀ l, RelL ρ (symR j ts.length) l → RdVals tb (Good n0 ρ H w outs) w ts l xs
  | j, [], [], [], _, _, _, l, hl => by
    simp only [List.length_nil, symR, RelL] at hl
    simp only [RdVals]
    exact ⟨hl, trivial⟩
  | j, [], _ :: _, ts, h1, h2, _, l, hl => by rw [← h1] at h2; simp at h2
  | j, _ :: _, [], ts, h1, h2, _, l, hl => by rw [← h1] at h2; simp at h2
  | j, u :: us, x :: xs, t :: ts, h1, h2, hm, l, hl => by
    simp only [List.length_cons, symR, RelL] at hl
    obtain ⟨z, l', rfl, l1, l2⟩ := hl
    simp only [RdVals]
    have h0 := hm ⟨j, u, x, t⟩ (by simp [newFacts])
    refine ⟨z, l', x, xs, rfl, rfl, ?_, a.newRow (by simpa using h1) (by simpa using h2) (fun q hq => hm q (by simp only [newFacts]; exact List.mem_cons_of_mem _ hq)) l' l2⟩
    rw [sym_is (a.named _ h0) l1]
    exact a.data.facts _ h0
end
theorem eqB_comm {α : Type} (a b : α) : eqB a b = eqB b a := by
  by_cases h : a = b
  · rw [h]
  · rw [eqB_neg h, eqB_neg (fun e => h e.symm)]
abbrev avA : AV := .agg (symL 0 11)
abbrev avB : AV := .agg (symL 11 11)
noncomputable def q3 : Option (Func × AFrame × AHeap) := @enterCuts Tryz.prog (orcOf Tryz.prog [] []) 3 [avA, avB] []
abbrev base3 : List (Nat × AV) := [(2, .ptr 2000 0), (3, .ptr 2001 0)]
def val3 (c : Bool) : Nat → AV
  | 0 => avA
  | 1 => avB
  | 2 => .bool c
  | 3 => avA
  | 4 => avB
  | 5 => .bool c
  | 8 => avB
  | 9 => avA
  | 10 => .bool c
  | 11 => avA
  | 12 => avB
  | 13 => .bool c
  | 17 => avA
  | 18 => avA
  | 19 => .agg (symR 2002 11)
  | _ => .bool true
def call3 : Nat → FuncId × List AV
  | 2 => (4, [avA, avB])
  | 5 => (5, [avA, avB])
  | 10 => (4, [avB, avA])
  | 13 => (5, [avA, avB])
  | 19 => (6, [avA])
  | 20 => (4, [avA, .agg (symR 2002 11)])
  | _ => (7, [])
noncomputable def d3 (c : Bool) : Draw := { ops := opsOf q3, ms := (befores [] (opsOf q3).toList).getD [], base := base3, val := val3 c, hands := [2, 5, 10, 13, 19, 20, 23], call := call3, n := nOf q3, H := heapOf q3 }
theorem dh3 : drawHead q3 base3 = true := by kernel_rfl
theorem d3ok (c : Bool) : (d3 c).Ok Tryz.prog := by
  cases c
  · exact ⟨by kernel_rfl, Nat.lt_of_succ_le (Nat.le_of_ble_eq_true (by kernel_rfl)), by kernel_rfl, by kernel_rfl, by kernel_rfl, by kernel_rfl, by kernel_rfl, by kernel_rfl⟩
  · exact ⟨by kernel_rfl, Nat.lt_of_succ_le (Nat.le_of_ble_eq_true (by kernel_rfl)), by kernel_rfl, by kernel_rfl, by kernel_rfl, by kernel_rfl, by kernel_rfl, by kernel_rfl⟩
theorem next3 : (heapOf q3).next = 2002 := by kernel_rfl
noncomputable def e3 (c : Bool) : Option (Func × AFrame × AHeap) := @drawEnd Tryz.prog (orcOf Tryz.prog [] []) q3 (d3 c) 3 2013
theorem stop3 (c : Bool) : @retOf? Tryz.prog (orcOf Tryz.prog [] []) (e3 c) = some (.bool true) := by
  cases c
  · kernel_rfl
  · kernel_rfl
def nx3 : Nat → Nat
  | 0 => 2002
  | 1 => 2002
  | 2 => 2002
  | 3 => 2002
  | 4 => 2002
  | _ => 2013
theorem d3Ops (c : Bool) : (d3 c).ops = opsOf q3 := by simp only [d3]
theorem d3N (c : Bool) : (d3 c).n = nOf q3 := by simp only [d3]
theorem d3Base (c : Bool) : (d3 c).base = base3 := by simp only [d3]
theorem d3H (c : Bool) : (d3 c).H = heapOf q3 := by simp only [d3]
theorem d3End (c : Bool) : nx3 (d3 c).hands.length = 2013 := by simp only [d3]; rfl
theorem hands3 {c : Bool} {s h : Nat} (hs : (d3 c).hands[s]? = some h) : (s = 0 ∧ h = 2) ∨ (s = 1 ∧ h = 5) ∨ (s = 2 ∧ h = 10) ∨ (s = 3 ∧ h = 13) ∨ (s = 4 ∧ h = 19) ∨ (s = 5 ∧ h = 20) ∨ (s = 6 ∧ h = 23) := by
  have hs : ([2, 5, 10, 13, 19, 20, 23] : List Nat)[s]? = some h := hs
  match s, hs with
  | 0, hs => cases hs; exact Or.inl ⟨rfl, rfl⟩
  | 1, hs => cases hs; exact Or.inr (Or.inl ⟨rfl, rfl⟩)
  | 2, hs => cases hs; exact Or.inr (Or.inr (Or.inl ⟨rfl, rfl⟩))
  | 3, hs => cases hs; exact Or.inr (Or.inr (Or.inr (Or.inl ⟨rfl, rfl⟩)))
  | 4, hs => cases hs; exact Or.inr (Or.inr (Or.inr (Or.inr (Or.inl ⟨rfl, rfl⟩))))
  | 5, hs => cases hs; exact Or.inr (Or.inr (Or.inr (Or.inr (Or.inr (Or.inl ⟨rfl, rfl⟩)))))
  | 6, hs => cases hs; exact Or.inr (Or.inr (Or.inr (Or.inr (Or.inr (Or.inr ⟨rfl, rfl⟩)))))
  | s + 7, hs => simp at hs
/-- Two rows told by values. -/
theorem two_rows {ρ : Ren} {xs ys : List AV} {args : Array Value} {as' bs' : List Value} (h1 : ∀ l, RelL ρ xs l → l = as') (h2 : ∀ l, RelL ρ ys l → l = bs') (ra : RelL ρ [.agg xs, .agg ys] args.toList) : args = #[.agg as'.toArray, .agg bs'.toArray] := by
  simp only [RelL, RelV] at ra
  obtain ⟨_, _, e1, ⟨z1, rfl, r1⟩, _, _, rfl, ⟨z2, rfl, r2⟩, rfl⟩ := ra
  exact Array.toList_inj.1 (by rw [e1, ← h1 _ r1, ← h2 _ r2])
theorem k3 {x y : List T} (hx : fitsL x) (hy : fitsL y) (w : World) (vs us : List Value) (hv : RdVals tab Any w (tab.flat 32) vs x) (hu : RdVals tab Any w (tab.flat 32) us y) :
    Calls Tryz.prog 3 #[.agg vs.toArray, .agg us.toArray] w fun e w' => e = .returned (.bool true) ∧ Grows w w' := by
  have lv : vs.length = 11 := hv.len.1
  have lu : us.length = 11 := hu.len.1
  have pA : ∀ (j : Nat) z, vs[j]? = some z → (vs ++ us)[0 + j]? = some z := fun j z h => by rw [Nat.zero_add]; exact at_left h
  have pB : ∀ (j : Nat) z, us[j]? = some z → (vs ++ us)[11 + j]? = some z := fun j z h => by rw [at_app lv]; exact h
  obtain ⟨x0, id, K, hx0, ht, hpK, hsl, hn, hH⟩ := drawHead_is dh3
  rw [← d3Ops (eqB x y)] at ht
  rw [← d3N (eqB x y)] at hn
  rw [← d3Base (eqB x y)] at hsl
  rw [← d3H (eqB x y)] at hH
  letI : Orc Tryz.prog := orcOf Tryz.prog [] []
  have hes : ∀ e ∈ ([] : List Ent), EntOk Tryz.prog (vs ++ us) w e := fun _ h => by cases h
  have hcs : ∀ e ∈ ([] : List CEnt), CallOk Tryz.prog (vs ++ us) w e := fun _ h => by cases h
  letI : OrcOk Tryz.prog := okOf Tryz.prog [] [] (vs ++ us) w hes hcs
  refine Calls.sit (tb := tab) (V := vs ++ us) (es := []) (cs := []) hes hcs (by simp; omega) hx0 (by
    simp only [RelL, RelV]
    exact ⟨_, _, rfl, ⟨_, rfl, symL_vals (k := 0) hv.ones lv pA⟩, _, _, rfl, ⟨_, rfl, symL_vals (k := 11) hu.ones lu pB⟩, rfl⟩) fun ks c b hcut hg S => ?_
  simp only [runCuts, Option.some.injEq] at hcut
  refine S.seg mixes 600 fun ρ1 w1 c1 e1 S1 => ?_
  rw [hcut] at S1
  refine S1.draw (p := d3 (eqB x y)) mixes (d3ok _) ht hpK hn hsl (by rw [d3Base]; rfl) (by rw [hH])
    (fun s made => 4 < s → ∃ zs, zs.length = 11 ∧ ∀ q ∈ newFacts 2002 zs x (tab.flat 32), q ∈ made)
    (fun h => absurd h (by omega)) nx3 (by rw [← hH, d3H]; exact next3) (fun s h hs ρ H w' made st hX hnx args ra => ?_) fun ρ2 w2 c2 made hle hX S2 => ?_
  · have gr : Grows w w' := st.grows
    have sA : ∀ l, RelL ρ (symL 0 11) l → l = vs := syms_are (k := 0) (m := 11) st.base hv.ones lv pA
    have sB : ∀ l, RelL ρ (symL 11 11) l → l = us := syms_are (k := 11) (m := 11) st.base hu.ones lu pB
    have plain : ∀ {g : FuncId} {c : Bool}, (Calls Tryz.prog g args w' fun e w2 => e = .returned (.bool c) ∧ Grows w' w2) → nx3 (s + 1) = nx3 s → (4 < s + 1 → 4 < s) → Calls Tryz.prog g args w' fun e w2 => ∃ v, e = .returned v ∧ ∃ ρ' H' made', ρ.le ρ' ∧ H'.objs = H.objs ∧ H'.next = nx3 (s + 1) ∧ RelV ρ' (.bool c) v ∧ Stat Tryz.prog tab w.heap.size (vs ++ us) made' [] ρ' H' w2 ∧ (4 < s + 1 → ∃ zs, zs.length = 11 ∧ ∀ q ∈ newFacts 2002 zs x (tab.flat 32), q ∈ made') := fun {g c} hc hn1 hs1 => hc.mono fun e w2 ⟨q1, q2⟩ =>
      ⟨_, q1, ρ, H, made, Ren.le.refl ρ, rfl, by rw [hn1, hnx], by simp only [RelV], st.grown q2, fun h => hX (hs1 h)⟩
    rcases hands3 hs with ⟨rfl, rfl⟩ | ⟨rfl, rfl⟩ | ⟨rfl, rfl⟩ | ⟨rfl, rfl⟩ | ⟨rfl, rfl⟩ | ⟨rfl, rfl⟩ | ⟨rfl, rfl⟩
    · have ra : RelL ρ [avA, avB] args.toList := ra
      refine plain (g := 4) (c := eqB x y) ?_ rfl (fun h => absurd h (by omega))
      rw [two_rows sA sB ra]
      exact p4 hx w' vs us (hv.grows gr) (hu.grows gr)
    · have ra : RelL ρ [avA, avB] args.toList := ra
      refine plain (g := 5) (c := eqB x y) ?_ rfl (fun h => absurd h (by omega))
      rw [two_rows sA sB ra]
      exact r5 hx w' vs us (hv.grows gr) (hu.grows gr)
    · have ra : RelL ρ [avB, avA] args.toList := ra
      refine plain (g := 4) (c := eqB x y) ?_ rfl (fun h => absurd h (by omega))
      rw [two_rows sB sA ra, eqB_comm]
      exact p4 hy w' us vs (hu.grows gr) (hv.grows gr)
    · have ra : RelL ρ [avA, avB] args.toList := ra
      refine plain (g := 5) (c := eqB x y) ?_ rfl (fun h => absurd h (by omega))
      rw [two_rows sA sB ra]
      exact r5 hx w' vs us (hv.grows gr) (hu.grows gr)
    · have ra : RelL ρ [avA] args.toList := ra
      refine (st.callRow1 (g := 6) (E := 32) (xs := symL 0 11) (zs := vs) (x := x) (m := 11) rfl sA (hv.grows gr) (k6 hx) ra).mono fun e w2 ⟨v, q1, ρ', zs, q0, q2, q3, q4⟩ => ⟨v, q1, ρ', bump H 11, _, q2, rfl, ?_, ?_, q4, ?_⟩
      · show H.next + 11 = _; rw [hnx]; rfl
      · rw [hnx] at q3; exact q3
      · rw [hnx]
        exact fun _ => ⟨zs, q0, fun q hq => List.mem_append_left _ hq⟩
    · have ra : RelL ρ [avA, .agg (symR 2002 11)] args.toList := ra
      refine plain (g := 4) (c := true) ?_ rfl (fun _ => by omega)
      obtain ⟨zs, lz, hz⟩ := hX (by omega)
      simp only [RelL, RelV] at ra
      obtain ⟨_, _, e1, ⟨z1, rfl, r1⟩, _, _, rfl, ⟨z2, rfl, r2⟩, rfl⟩ := ra
      have e2 := sA _ r1
      have row := st.newRow (ts := tab.flat 32) lz hv.len.2 hz _ r2
      have e3 : args = #[.agg vs.toArray, .agg z2] := Array.toList_inj.1 (by rw [e1, ← e2])
      rw [e3]
      have := p4 hx w' vs z2.toList (hv.grows gr) (row.mono (Nat.le_refl _) (fun _ _ _ => rfl) fun _ _ => trivial)
      rw [eqB_pos rfl] at this
      simpa using this
    · have ra : RelL ρ [] args.toList := ra
      refine plain (g := 7) (c := true) ?_ rfl (fun _ => by omega)
      simp only [RelL] at ra
      have e3 : args = #[] := Array.toList_inj.1 (by rw [ra])
      rw [e3]
      exact awake_calls w'
  · obtain ⟨y0, hr⟩ := ret_some (stop3 (eqB x y))
    have hend : y0 = (x0.1, (seg Tryz.prog 600 ((d3 (eqB x y)).frame 3 K) ⟨(d3 (eqB x y)).H.objs, 2013⟩).1, (seg Tryz.prog 600 ((d3 (eqB x y)).frame 3 K) ⟨(d3 (eqB x y)).H.objs, 2013⟩).2) := by
      have h := hr
      unfold e3 drawEnd at h
      rw [hx0] at h
      simp only [ht] at h
      exact (Option.some.inj h).symm
    rw [d3End] at S2
    refine S2.seg mixes 600 fun ρ3 w3 c3 e3' S3 => ?_
    have S3 : Sit Tryz.prog tab 3 w.heap.size (vs ++ us) made [] ρ3 y0.2.2 w3 y0.2.1 c3 ks := by
      have h1 : y0.2.1 = (seg Tryz.prog 600 ((d3 (eqB x y)).frame 3 K) ⟨(d3 (eqB x y)).H.objs, 2013⟩).1 := by simp only [hend]
      have h2 : y0.2.2 = (seg Tryz.prog 600 ((d3 (eqB x y)).frame 3 K) ⟨(d3 (eqB x y)).H.objs, 2013⟩).2 := by simp only [hend]
      rw [h1, h2]
      exact S3
    refine S3.ret (by rw [hend]; exact hg) hr (stop3 (eqB x y)) fun u hu gr => ?_
    simp only [RelV] at hu
    rw [hu]
    exact ⟨rfl, gr⟩
end Go.Am
set_option linter.unusedSectionVars false
namespace Go.Am
open Go.Proofs Go.Proofs.YtclhjedldbkgpaaGreatDoor

/-- All types that a body's reading meets. -/
def kinds : List TypeId := [3, 9, 4, 22, 23, 24, 25, 26, 27, 28, 55, 64, 74, 75, 84, 87, 93, 98, 104, 77, 80, 83, 86, 92, 89, 97, 95, 102, 100, 106, 30, 32]
/-- The types of a type's cells. -/
def flatOf (t : TypeId) : List TypeId := match tab.elem t, tab.kind t with
  | none, none => tab.flat t
  | _, _ => [t]
def sameL : List Nat → List Nat → Bool
  | [], [] => true
  | x :: l, y :: r => Nat.beq x y && sameL l r
  | _, _ => false
def isO : Option Nat → Nat → Bool
  | some a, b => Nat.beq a b
  | none, _ => false
def hasN (t : Nat) : List Nat → Bool
  | [] => false
  | x :: l => Nat.beq t x || hasN t l
def partsOk (P : Program) : List Field → Nat → List TypeId → Bool
  | [], _, [] => true
  | [], _, _ :: _ => false
  | f :: fs, off, ts => (Nat.beq f.offset off && hasN f.type kinds) && ((isO (sizeP P f.type) (flatOf f.type).length && sameL (ts.take (flatOf f.type).length) (flatOf f.type)) && partsOk P fs (off + (flatOf f.type).length) (ts.drop (flatOf f.type).length))
def kindOk (P : Program) (t : TypeId) : Bool := match und P t with
  | some (.int .i64) => sameL (flatOf t) [t] && isO (tab.kind t) 0
  | some .string => sameL (flatOf t) [t] && isO (tab.kind t) 1
  | some .bool => sameL (flatOf t) [t] && isO (tab.kind t) 2
  | some (.slice E) => (sameL (flatOf t) [t] && isO (tab.elem t) E) && ((sameL (tab.flat E) (flatOf E) && isO (sizeP P E) (tab.flat E).length) && (Nat.ble 1 (tab.flat E).length && hasN E kinds))
  | some (.struct fs) => isO (sizeP P t) (flatOf t).length && partsOk P fs.toList 0 (flatOf t)
  | _ => false
def all1 (f : Nat → Bool) : List Nat → Bool
  | [] => true
  | x :: l => f x && all1 f l
theorem kinds_ok : all1 (kindOk Tryz.prog) kinds = true := by kernel_rfl
theorem sameL_eq : ∀ {a b : List Nat}, sameL a b = true → a = b
  | [], [], _ => rfl
  | [], _ :: _, h => by cases h
  | _ :: _, [], h => by cases h
  | x :: l, y :: r, h => by
    simp only [sameL, Bool.and_eq_true] at h
    rw [Nat.eq_of_beq_eq_true h.1, sameL_eq h.2]
theorem isO_eq {a : Option Nat} {b : Nat} (h : isO a b = true) : a = some b := by
  cases a with
  | none => cases h
  | some a => rw [Nat.eq_of_beq_eq_true h]
theorem all1Has {f : Nat → Bool} : ∀ {l : List Nat} {t : Nat}, all1 f l = true → hasN t l = true → f t = true
  | [], t, _, h => by cases h
  | x :: l, t, ha, h => by
    simp only [all1, Bool.and_eq_true] at ha
    simp only [hasN, Bool.or_eq_true] at h
    rcases h with h | h
    · rw [Nat.eq_of_beq_eq_true h]; exact ha.1
    · exact all1Has ha.2 h
theorem und_eq' {P : Program} {t : TypeId} {d : TypeDesc} (h : und P t = some d) : P.underlying t = some d := by
  letI : Orc P := orcOf P [] []
  letI : OrcOk P := okOf P [] [] [] default (fun _ h => by cases h) (fun _ h => by cases h)
  exact und_eq h
theorem cellsOf_eq {P : Program} {t : TypeId} {n : Nat} (h : sizeP P t = some n) : P.cellsOf t = n := by
  letI : Orc P := orcOf P [] []
  letI : OrcOk P := okOf P [] [] [] default (fun _ h => by cases h) (fun _ h => by cases h)
  unfold sizeP at h
  unfold Program.cellsOf
  cases hi : info P t with
  | none => rw [hi] at h; cases h
  | some i => rw [hi] at h; cases h; rw [info_eq hi]; rfl
section
variable {H : Type}
theorem bulk_one (d : DataW H) : 1 ≤ Rows.uptoBulk d := by
  cases d with
  | lit l => cases l <;> simp only [Rows.uptoBulk] <;> omega
  | _ => simp only [Rows.uptoBulk] <;> omega
theorem bulk_len : ∀ l : List (DataW H), l.length ≤ Rows.uptoBulkAll l
  | [] => by simp
  | d :: l => by
    simp only [Rows.uptoBulkAll, List.length_cons]
    have := bulk_one d
    have := bulk_len l
    omega
theorem bulk_at : ∀ {l : List (DataW H)} {i : Nat} {d : DataW H}, l[i]? = some d → Rows.uptoBulk d ≤ Rows.uptoBulkAll l
  | [], i, d, h => by simp at h
  | x :: l, 0, d, h => by
    simp only [List.getElem?_cons_zero, Option.some.injEq] at h
    subst h
    simp only [Rows.uptoBulkAll]
    omega
  | x :: l, i + 1, d, h => by
    have := bulk_at (l := l) (i := i) (d := d) (by simpa using h)
    simp only [Rows.uptoBulkAll]
    omega
end
section
variable {H : Type} {enc : TypeId × Value → H} {w : World}
theorem fitsL_app : ∀ {a b : List T}, fitsL a → fitsL b → fitsL (a ++ b)
  | [], b, _, h => h
  | x :: a, b, ha, h => by
    simp only [List.cons_append, fitsL] at *
    exact ⟨ha.1, fitsL_app ha.2 h⟩
/-- A struct's parts. -/
theorem parts_lift {P : Program} {cs : List Value} {trd : Field → Option (DataW H × List MemPlace)}
    (one : ∀ f y, hasN f.type kinds = true → sizeP P f.type = some (flatOf f.type).length → trd f = some y → Rows.uptoBulk y.1 ≤ 1048576 → ∃ ys, RdVals tab Any w (flatOf f.type) ((cs.drop f.offset).take (flatOf f.type).length) ys ∧ fitsL ys) :
    ∀ (fs : List Field) (off : Nat) (ts : List TypeId) (xs : List (DataW H × List MemPlace)), partsOk P fs off ts = true → (∀ (i : Nat) f, fs[i]? = some f → trd f = xs[i]?) → xs.length = fs.length → Rows.uptoBulkAll (xs.map (·.1)) ≤ 1048576 → cs.length = off + ts.length →
      ∃ ys, RdVals tab Any w ts (cs.drop off) ys ∧ fitsL ys
  | [], off, [], xs, _, _, _, _, hl => ⟨[], by simp only [RdVals]; exact ⟨List.drop_eq_nil_of_le (by simp at hl; omega), trivial⟩, trivial⟩
  | [], off, _ :: _, xs, h, _, _, _, _ => by cases h
  | f :: fs, off, ts, xs, h, hx, hn, hb, hl => by
    simp only [partsOk, Bool.and_eq_true] at h
    obtain ⟨⟨h1, h2⟩, ⟨h3, h4⟩, h5⟩ := h
    have h1 := Nat.eq_of_beq_eq_true h1
    have h3 := isO_eq h3
    have h4 := sameL_eq h4
    match xs, hn with
    | x :: xs, hn =>
      simp only [List.map_cons, Rows.uptoBulkAll] at hb
      have e0 : trd f = some x := by simpa using hx 0 f rfl
      obtain ⟨y1, r1, q1⟩ := one f x h2 h3 e0 (by omega)
      have lt : (flatOf f.type).length ≤ ts.length := by rw [← h4, List.length_take]; omega
      obtain ⟨y2, r2, q2⟩ := parts_lift one fs (off + (flatOf f.type).length) (ts.drop (flatOf f.type).length) xs h5 (fun i g hg => by simpa using hx (i + 1) g (by simpa using hg)) (by simpa using hn) (by omega) (by rw [List.length_drop]; omega)
      refine ⟨y1 ++ y2, ?_, fitsL_app q1 q2⟩
      have := rd_append r1 r2
      generalize hm : (flatOf f.type).length = m at *
      rw [← h4, List.take_append_drop, h1, ← List.drop_drop, List.take_append_drop] at this
      exact this
/-- A sequence's rows. -/
theorem rows_lift {E : TypeId} {b : Nat} {trd : List Value → Option (DataW H × List MemPlace)} (one : ∀ cs y, trd cs = some y → Rows.uptoBulk y.1 ≤ 1048576 → ∃ ys, RdVals tab Any w (tab.flat E) cs ys ∧ fitsL ys) :
    ∀ (xs : List (DataW H × List MemPlace)) (off : Nat), (∀ (i : Nat) y, xs[i]? = some y → (w.cells? 0 ⟨b, off + i * (tab.flat E).length, none⟩ (tab.flat E).length).bind trd = some y) → Rows.uptoBulkAll (xs.map (·.1)) ≤ 1048576 →
      ∃ rows, rows.length = xs.length ∧ RdRows tab Any w E b off rows ∧ fitsL rows
  | [], off, _, _ => ⟨[], rfl, by simp only [RdRows], trivial⟩
  | x :: xs, off, h, hb => by
    simp only [List.map_cons, Rows.uptoBulkAll] at hb
    have h0 := h 0 x rfl
    simp only [Nat.zero_mul, Nat.add_zero] at h0
    obtain ⟨cs, c1, c2⟩ := Option.bind_eq_some_iff.1 h0
    obtain ⟨ys, r1, q1⟩ := one cs x c2 (by omega)
    obtain ⟨rows, l2, r2, q2⟩ := rows_lift one xs (off + (tab.flat E).length) (fun i y hy => by
      have := h (i + 1) y (by simpa using hy)
      rw [show off + (i + 1) * (tab.flat E).length = off + (tab.flat E).length + i * (tab.flat E).length by rw [Nat.add_mul]; omega] at this
      exact this) (by omega)
    refine ⟨.row ys :: rows, by simp [l2], ?_, ?_⟩
    · simp only [RdRows, RdRow]
      refine ⟨r1.cells fun j z hj => ?_, r2⟩
      obtain ⟨_, hl, hc⟩ := World.cells?_some c1
      have hj' : j < (tab.flat E).length := by rw [← hl]; exact (List.getElem?_eq_some_iff.1 hj).1
      have := hc j hj'
      rw [hj] at this
      unfold Addr.add at this
      split at this
      · rename_i e; subst e; exact this
      · exact this
    · simp only [fitsL, T.fits]
      exact ⟨q1, q2⟩
theorem cells_spot {b off m : Nat} {sp} {n : Nat} {cs : List Value} (h : w.cells? 0 ((⟨b, off, sp⟩ : Addr).add n) m = some cs) (hm : 1 ≤ m) (hn : n = 0) : sp = none ∧ b < w.heap.size := by
  subst hn
  have h1 := World.cells?_block h hm
  obtain ⟨_, hl, hc⟩ := World.cells?_some h
  have h0 := hc 0 hm
  have : ∃ c, cs[0]? = some c := ⟨cs[0]'(by omega), List.getElem?_eq_getElem (by omega)⟩
  obtain ⟨c, e⟩ := this
  rw [e] at h0
  exact ⟨World.cell?_spot h0, h1⟩
/-- What a reading finds is data in rows. -/
theorem lift_rd (fuel : Nat) : ∀ {t : TypeId} {cs : List Value} {x : DataW H × List MemPlace}, hasN t kinds = true → DataW.trod enc Tryz.prog w 0 (fun _ => true) true fuel t cs = some x → Rows.uptoBulk x.1 ≤ 1048576 → ∃ ys, RdVals tab Any w (flatOf t) cs ys ∧ fitsL ys := by
  induction fuel with
  | zero => intro t cs x _ h _; simp [DataW.trod] at h
  | succ n ih =>
    intro t cs x ht h hb
    have hk := all1Has kinds_ok ht
    unfold kindOk at hk
    split at hk
    · rename_i hu
      simp only [Bool.and_eq_true] at hk
      obtain ⟨m, rfl, rfl, _⟩ := DataW.trod_int (und_eq' hu) h
      rw [sameL_eq hk.1]
      exact ⟨[.val (.int .i64 m)], by simp only [RdVals, RdC]; exact ⟨_, _, _, _, rfl, rfl, ⟨rfl, 0, isO_eq hk.2, _, rfl⟩, rfl, rfl⟩, trivial, trivial⟩
    · rename_i hu
      simp only [Bool.and_eq_true] at hk
      obtain ⟨m, rfl, rfl, _⟩ := DataW.trod_string (und_eq' hu) h
      rw [sameL_eq hk.1]
      exact ⟨[.val (.string m)], by simp only [RdVals, RdC]; exact ⟨_, _, _, _, rfl, rfl, ⟨rfl, 1, isO_eq hk.2, _, rfl⟩, rfl, rfl⟩, trivial, trivial⟩
    · rename_i hu
      simp only [Bool.and_eq_true] at hk
      obtain ⟨m, rfl, rfl⟩ := DataW.trod_bool (und_eq' hu) h
      rw [sameL_eq hk.1]
      exact ⟨[.val (.bool m)], by simp only [RdVals, RdC]; exact ⟨_, _, _, _, rfl, rfl, ⟨rfl, 2, isO_eq hk.2, _, rfl⟩, rfl, rfl⟩, trivial, trivial⟩
    · rename_i E hu
      simp only [Bool.and_eq_true] at hk
      obtain ⟨⟨k1, k2⟩, ⟨k3, k4⟩, k5, k6⟩ := hk
      have k2 := isO_eq k2
      have k3 := sameL_eq k3
      have k4 := cellsOf_eq (isO_eq k4)
      have k5 := Nat.le_of_ble_eq_true k5
      rw [sameL_eq k1]
      rcases DataW.trod_slice (und_eq' hu) h with ⟨rfl, rfl⟩ | ⟨a, len, cap, elems, rest, n', e1, rfl, rfl, h1, h2, h3, h4, h5, h6, _⟩
      · exact ⟨[.seq []], by simp only [RdVals, RdC]; exact ⟨_, _, _, _, rfl, rfl, ⟨E, k2, Or.inl ⟨rfl, _, rfl⟩⟩, rfl, rfl⟩, ⟨by decide, trivial⟩, trivial⟩
      · cases e1
        rw [k4] at h5 h6
        obtain ⟨h6, h7⟩ := h6 rfl
        simp only [Rows.uptoBulk] at hb
        have hle := bulk_len (elems.map (·.1))
        rw [List.length_map] at hle
        obtain ⟨b, off, sp⟩ := a
        by_cases hc : cap = 0
        · obtain rfl : len = 0 := by omega
          subst hc
          exact ⟨[.seq []], by simp only [RdVals, RdC]; exact ⟨_, _, _, _, rfl, rfl, ⟨E, k2, Or.inl ⟨rfl, _, rfl⟩⟩, rfl, rfl⟩, ⟨by decide, trivial⟩, trivial⟩
        · have hsp : sp = none ∧ b < w.heap.size := by
            by_cases hl : len = 0
            · subst hl
              have := h7 0 (by omega)
              obtain ⟨y, hy⟩ : ∃ y, rest[0]? = some y := ⟨_, List.getElem?_eq_getElem (by omega)⟩
              rw [hy] at this
              obtain ⟨cs, c1, _⟩ := Option.bind_eq_some_iff.1 this
              exact cells_spot c1 k5 (by simp)
            · have := h5 0 (by omega)
              obtain ⟨y, hy⟩ : ∃ y, elems[0]? = some y := ⟨_, List.getElem?_eq_getElem (by omega)⟩
              rw [hy] at this
              obtain ⟨cs, c1, _⟩ := Option.bind_eq_some_iff.1 this
              exact cells_spot c1 k5 (by simp)
          obtain ⟨rfl, hbs⟩ := hsp
          obtain ⟨rows, r1, r2, r3⟩ := rows_lift (E := E) (b := b) (trd := DataW.trod enc Tryz.prog w 0 (fun _ => true) true n E) (fun cs y hy hby => by rw [k3]; exact ih k6 hy hby) elems off (fun i y hy => by
            have hi : i < len := by rw [← h4]; exact (List.getElem?_eq_some_iff.1 hy).1
            have := h5 i hi
            rw [hy] at this
            unfold Addr.add at this
            split at this
            · rename_i e; rw [e, Nat.add_zero]; exact this
            · exact this) (by omega)
          refine ⟨[.seq rows], ?_, ⟨Nat.lt_of_le_of_lt (m := 1048576) (by omega) (by decide), r3⟩, trivial⟩
          simp only [RdVals, RdC]
          exact ⟨_, _, _, _, rfl, rfl, ⟨E, k2, Or.inr ⟨b, off, cap, by rw [r1, h4], by omega, hbs, trivial, r2⟩⟩, rfl, rfl⟩
    · rename_i fs hu
      simp only [Bool.and_eq_true] at hk
      obtain ⟨xs, n', e1, rfl, hl, hn, hf⟩ := DataW.trod_struct (und_eq' hu) h
      cases e1
      rw [cellsOf_eq (isO_eq hk.1)] at hl
      simp only [Rows.uptoBulk] at hb
      have := parts_lift (w := w) (P := Tryz.prog) (cs := cs) (trd := fun f => DataW.trod enc Tryz.prog w 0 (fun _ => true) true n f.type ((cs.drop f.offset).take (Tryz.prog.cellsOf f.type))) (fun f y h1 h2 h3 h4 => by
        rw [cellsOf_eq h2] at h3
        exact ih h1 h3 h4) fs.toList 0 (flatOf t) xs hk.2 (fun i f hf' => hf i f (by simpa using hf')) (by simpa using hn) (by omega) (by omega)
      simpa using this
    · cases hk
end
end Go.Am
set_option linter.unusedSectionVars false
namespace Go.Am
open Go.Proofs Go.Proofs.YtclhjedldbkgpaaGreatDoor
abbrev zeroBody : Value := .agg #[.int .i64 0, .slice none 0 0, .slice none 0 0, .slice none 0 0, .slice none 0 0, .string ⟨#[]⟩, .string ⟨#[]⟩, .string ⟨#[]⟩, .slice none 0 0, .slice none 0 0, .slice none 0 0]
abbrev zeroData {H : Type} : DataW H := .agg [.lit (.int .i64 0), .nil, .nil, .nil, .nil, .agg [.lit (.string []), .lit (.string []), .lit (.string []), .nil, .nil, .nil]]
noncomputable def doorWorld (os : Os) : World := World.doorLaid Tryz.prog 186 os
theorem door_met (os : Os) (args : Array Value) : laidMetH Tryz.prog Rows.changeBodiesUptoRow.laid ((doorWorld os).forCall (fun _ _ => 0) ⟨#[], args, []⟩).memory :=
  laidMetH_of_parts3 (fuel := 8) (laidMet_of_run' 8 (by kernel_rfl) (by kernel_rfl)) (by kernel_rfl) (by kernel_rfl)
theorem door_vars (os : Os) (args : Array Value) : ((doorWorld os).forCall (fun _ _ => 0) ⟨#[], args, []⟩).variablesRefB Tryz.checked.prog = true := by kernel_rfl
theorem door_heap (os : Os) (args : Array Value) : (((doorWorld os).forCall (fun _ _ => 0) ⟨#[], args, []⟩).heap.toList.drop Tryz.checked.prog.globals.size).take ((begin Tryz.checked.prog (fun _ _ => 0) default).world.heap.size - Tryz.checked.prog.globals.size) =
      (begin Tryz.checked.prog (fun _ _ => 0) default).world.heap.toList.drop Tryz.checked.prog.globals.size := by kernel_rfl
theorem door_args (os : Os) : Input.okWideB Tryz.checked.prog ((doorWorld os).forCall (fun _ _ => 0) ⟨#[], #[zeroBody, zeroBody], []⟩) 3 ⟨#[], #[zeroBody, zeroBody], []⟩ = true := by kernel_rfl
theorem door_reads (os : Os) {H : Type} (enc : TypeId × Value → H) : ∃ places, DataW.whole enc Tryz.prog ((doorWorld os).forCall (fun _ _ => 0) ⟨#[], #[zeroBody, zeroBody], []⟩).memory [32, 32] Rows.changeBodiesSpec.vars false #[zeroBody, zeroBody].toList 8 = some ([zeroData, zeroData], [], places) :=
  ⟨[], by kernel_rfl⟩
theorem door_own : ownKnob Tryz.prog.godebug = none := by kernel_rfl
end Go.Am
set_option linter.unusedSectionVars false
set_option linter.constructorNameAsVariable false
set_option maxRecDepth 100000
namespace Go.Am
open Go.Proofs Go.Proofs.YtclhjedldbkgpaaGreatDoor
open Go.ChangeShapes Go.WideShapes Go.ChangeAt Go.RowKit
theorem kids : Kids Tryz.prog (· < Tryz.prog.types.size) := kids_rows (by kernel_rfl) (by kernel_rfl)
theorem full : ∀ t e, t < Tryz.prog.types.size → Tryz.prog.underlying t = some (.slice e) → 0 < Tryz.prog.cellsOf e := slices_full_of Tryz.prog (by kernel_rfl)
section
variable {H : Type} {enc : TypeId × Value → H} {P : Program} {W W' : World}
theorem Grows.same (h : Grows W W') {p : MemPlace} (hp : p.block < W.heap.size) : W.sameAt W' p := by
  cases p with
  | cell b off => exact cell_heap (h.2 b hp)
  | map b => exact h.2 b hp
theorem Grows.keptBut (h : Grows W W') (may : MemPlace → Prop) : W.keptBut W' may := by
  refine ⟨h.3.1, h.3.2, fun i hi => ?_⟩
  rw [h.2 i hi]
  cases W.heap[i]? with
  | none => rfl
  | some o => cases o <;> first | exact ⟨rfl, rfl, rfl, fun _ _ => rfl⟩ | exact Or.inr ⟨rfl, rfl⟩ | rfl
theorem trodAll_grows (hg : Grows W W') {base : Nat} {sp : Nat → Bool} {hd : Bool} : ∀ {ts : List TypeId} {vs : List Value} {ds : List (DataW H)} {ps : List MemPlace}, DataW.TrodAll enc P W base sp hd ts vs ds ps → (∀ p ∈ ps, p.block < W.heap.size) → DataW.TrodAll enc P W' base sp hd ts vs ds ps
  | [], [], [], _, h, _ => h
  | _ :: _, _ :: _, _ :: _, _, ⟨p, q, ⟨n, h1⟩, h2, e⟩, hs => ⟨p, q, ⟨n, DataW.trod_carry n _ _ _ h1 fun x hx => hg.same (hs x (by rw [e]; exact List.mem_append_left _ hx))⟩, trodAll_grows hg h2 (fun x hx => hs x (by rw [e]; exact List.mem_append_right _ hx)), e⟩
/-- As the kit's law of a state that is as before, but frozen cells are asked for only where the reading treads. -/
theorem post_same {f : Func} {s : ChangeSpec} {apart fresh handsOn again : Bool} {args : Array Value} {v : Value} {ds gs : List (DataW H)} {before pa pv : List MemPlace}
    (hW : DataW.Whole enc P f.params.toList s.vars apart W args.toList ds gs before)
    (hres : ∀ (b : Nat) (sp : Nat → Bool) (hd : Bool), DataW.TrodAll enc P W' b sp hd f.resultTypes.toList (v.resultList f.resultTypes.size) (s.fn H (ds ++ gs)).results [])
    (hargs : ∀ sp : Nat → Bool, (∀ p ∈ before, sp p.block = true) → DataW.TrodAll enc P W' 0 sp true f.params.toList args.toList (s.fn H (ds ++ gs)).args pa)
    (hvars : ∀ sp : Nat → Bool, (∀ p ∈ before, sp p.block = true) → DataW.TrodVars enc P W' sp s.vars (s.fn H (ds ++ gs)).vars pv)
    (hps : before = pa ++ pv) (hk : W.keptBut W' (· ∈ before)) (hfz : ∀ b off, b < W.heap.size → W'.frozen? ⟨b, off, none⟩ = W.frozen? ⟨b, off, none⟩)
    (hok : ∀ (j : Nat) (t : TypeId) (r : Value), f.resultTypes[j]? = some t → (v.resultList f.resultTypes.size)[j]? = some r → Value.okWide P W' .any 0 t r) :
    s.post enc P f apart fresh handsOn again W args v W' := by
  have hlt := hW.lt
  have hold : ∀ p ∈ before, (fun b => decide (b < W.heap.size)) p.block = true := fun p hp => by simpa using hW.lt p hp
  refine ⟨ds, gs, before, [], pa, pv, hW, hres _ _ _, hargs _ hold, hvars _ hold, World.keptBut_mono (fun p hp => ⟨hp, ?_⟩) hk, fun _ => ?_⟩
  · rw [hps, List.mem_append] at hp
    exact Or.inr hp
  · obtain ⟨_, _, _, _, _, hz, hn⟩ := hW
    refine ⟨hok, _, _, ([] ++ pa) ++ pv, ⟨[] ++ pa, pv, trodAll_append (hargs _ (fun _ _ => rfl)) (hres _ _ _), hvars _ (fun _ _ => rfl), rfl, ?_, ?_⟩, ?_⟩
    · intro b off hp
      have hp' : MemPlace.cell b off ∈ before := by rw [hps]; simpa using hp
      rw [hfz b off (hlt _ hp')]
      exact hz b off hp'
    · intro ha
      have := hn ha
      rw [hps] at this
      simpa using this
    · intro p hp _
      rw [hps]
      simpa using hp
end
theorem und32 : ∃ fs, Tryz.prog.underlying 32 = some (.struct fs) := by
  have h : (match und Tryz.prog 32 with
    | some (.struct _) => true
    | _ => false) = true := by kernel_rfl
  split at h
  · rename_i fs e
    exact ⟨fs, und_eq' e⟩
  · cases h
theorem flat32 : flatOf 32 = tab.flat 32 := rfl
theorem body_of {W : World} {base : Nat} {v : Value} (h : Value.okWide Tryz.prog W .any base 32 v) : ∃ cs : Array Value, v = .agg cs := by
  obtain ⟨fs, e⟩ := und32
  unfold Value.okWide at h
  rw [e] at h
  obtain ⟨cs, h, _⟩ := h
  exact ⟨cs, h⟩
/-- What the runs give, for all bodies whose readings are of small bulk. -/
theorem contract (H : Type) (enc : TypeId × Value → H) (W : World) (base : Nat) (args : Array Value) (ds gs : List (DataW H)) (before : List MemPlace)
    (hval : ∀ (j : Nat) t v, Tryz.f3.params[j]? = some t → args[j]? = some v → Value.okWide Tryz.prog W .any base t v)
    (hW : DataW.Whole enc Tryz.prog Tryz.f3.params.toList Rows.changeBodiesSpec.vars false W args.toList ds gs before) (hc : Rows.uptoBulkAll (ds ++ gs) ≤ 1048576) :
    Calls Tryz.prog 3 args W fun e W' => ∃ v, e = .returned v ∧ Rows.changeBodiesSpec.post enc Tryz.prog Tryz.f3 false true false false W args v W' := by
  have hW' := hW
  obtain ⟨p, q, hA0, hV, rfl, hfz, hnd⟩ := hW
  have hlt := hW'.lt
  have hA : DataW.TrodAll enc Tryz.prog W 0 (fun _ => true) true Tryz.f3.params.toList args.toList ds p := hA0
  rw [Tryz.params3] at hA hval
  obtain ⟨v0, vs0, d0, ds0, p0, q0, hargs, rfl, rfl, h0, r0⟩ := trodAll_cons hA
  obtain ⟨v1, vs1, d1, ds1, p1, q1, rfl, rfl, rfl, h1, r1⟩ := trodAll_cons r0
  obtain ⟨rfl, rfl, rfl⟩ := trodAll_nil r1
  obtain rfl : args = #[v0, v1] := by cases args; simp_all
  obtain ⟨rfl, rfl⟩ := trodVars_none hV
  obtain ⟨cs0, rfl⟩ := body_of (hval 0 32 v0 (by simp) (by simp))
  obtain ⟨cs1, rfl⟩ := body_of (hval 1 32 v1 (by simp) (by simp))
  obtain ⟨n0, t0⟩ := h0
  obtain ⟨n1, t1⟩ := h1
  simp only [List.append_nil, Rows.uptoBulkAll, Nat.add_zero] at hc
  obtain ⟨x, hx, fx⟩ := lift_rd n0 (t := 32) rfl t0 (show Rows.uptoBulk d0 ≤ 1048576 by omega)
  obtain ⟨y, hy, fy⟩ := lift_rd n1 (t := 32) rfl t1 (show Rows.uptoBulk d1 ≤ 1048576 by omega)
  rw [flat32] at hx hy
  have key := k3 fx fy W cs0.toList cs1.toList hx hy
  simp only [Array.toArray_toList] at key
  refine key.mono fun e W' ⟨he, hg⟩ => ?_
  subst he
  have again : ∀ sp : Nat → Bool, (∀ p' ∈ (p0 ++ (p1 ++ [])) ++ [], sp p'.block = true) → DataW.TrodAll enc Tryz.prog W' 0 sp true Tryz.f3.params.toList [.agg cs0, .agg cs1] [d0, d1] (p0 ++ (p1 ++ [])) := fun sp hs =>
    DataW.TrodAll.respare kids full (fun t ht => by
      rw [Tryz.params3] at ht
      have : t = 32 := by simpa using ht
      subst this
      exact Nat.lt_of_succ_le (Nat.le_of_ble_eq_true (by kernel_rfl))) (trodAll_grows hg hA0 fun p' hp' => hlt p' (List.mem_append_left _ hp')) fun p' hp' => hs p' (List.mem_append_left _ hp')
  exact ⟨_, rfl, post_same (pa := p0 ++ (p1 ++ [])) (pv := []) hW' (fun _ _ _ => trodAll_cons_mk (shut_bool Tryz.underlying4 _) trodAll_mk0) again (fun _ _ => rfl) rfl
    (hg.keptBut _) (fun b off hb => by unfold World.frozen?; rw [hg.2 b hb]) (ok_one (by kernel_rfl) rfl (okWide_bool_mk Tryz.underlying4 _))⟩
theorem liftedUpto (os : Os) (started : os.Started) (H : Type) (enc : TypeId × Value → H) (F : Stop.Interp) :
    ReturnsInHanded {} Tryz.checked os 3 .any ((Rows.OpenSpec.upto Rows.changeBodiesSpec).preRow enc Tryz.prog Tryz.f3 Rows.changeBodiesUptoRow.domain false Rows.changeBodiesUptoRow.laid) (((Rows.OpenSpec.upto Rows.changeBodiesSpec).at F).post enc Tryz.prog Tryz.f3 false true false false) := by
  obtain ⟨places, hx⟩ := door_reads os enc
  refine returnsInHanded_of_row (C := Tryz.checked) (s := Rows.OpenSpec.upto Rows.changeBodiesSpec) door_own started (by kernel_rfl) Tryz.func3
    (witness_row_atRef (enc := enc) (C := Tryz.checked) false (doorWorld os) #[zeroBody, zeroBody] rfl (door_vars os _) (door_heap os _) (door_args os)
      (OpenSpec.preRow_of_cond 8 hx (by kernel_rfl) (fun k hk => by cases hk; kernel_rfl) (by kernel_rfl) (door_met os _))) ?_
  intro W base args ds gs before hval hW _ hcond _ hL _ _
  exact contract H enc W base args ds gs before hval hW (of_decide_eq_true (hcond _ rfl))
end Go.Am
