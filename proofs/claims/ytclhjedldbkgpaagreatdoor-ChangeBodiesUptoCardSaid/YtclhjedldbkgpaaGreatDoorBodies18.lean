/-
  Part 18 of the proof that winch/winchlaw25.ChangeBodies returns true for every two bodies of small bulk: lemmas.
  Conditions: none beyond each theorem's own premises.
  What lies here:
  The reference's comparison of charts and of bodies.
  The reference's comparison of bodies.
  The program's own comparisons: facts.
  The same as EqualFunc's law, for a closure that has captured one value. Condition: the program's own facts, named in the theorem.
  A straight comparison by a closure that has captured one value. Condition: the program's own facts, named in the theorem.
-/
import Derived.Test.YtclhjedldbkgpaaGreatDoorBodies17
set_option linter.unusedVariables false
set_option linter.unusedSimpArgs false
set_option linter.unusedSectionVars false
namespace Go.Am
open Go.Proofs
theorem f14Loop {ρ : Ren} {vals : List Value} {w : World} {raw : List (Nat × AV)} {d f m : Nat} {B : Code} {K : List AItem} {own : List (Nat × List AV)} {c : Frame} (ah : AtHead Tryz.prog ρ vals w raw d f m B K own c) (hin : ∀ e ∈ F14, e ∈ raw) {v0 v1 : Value} (h0 : vals[0]? = some v0) (h1 : vals[1]? = some v1) (o0 : v0.oneCell' = true) (o1 : v1.oneCell' = true) :
    ∀ vals2 : List Value, vals2[0]? = some v0 → vals2[1]? = some v1 → ∀ e ∈ F14, RelV (renOf vals2) e.2 (c.tmps.getD e.1 Go.undef) := by
  intro vals2 i0 i1 e he
  have hs := ah.slots e (hin e he)
  simp only [List.mem_cons, List.not_mem_nil, or_false] at he
  rcases he with rfl | rfl | rfl
  · have := sym_val (k := 0) ah.le h0 (hs fun e => by cases e)
    simp only at this ⊢
    rw [this]; exact sym_rel (k := 0) i0 o0
  · have := sym_val (k := 1) ah.le h1 (hs fun e => by cases e)
    simp only at this ⊢
    rw [this]; exact sym_rel (k := 1) i1 o1
  · have := hs fun e => by cases e
    simp only [RelV] at this ⊢
    exact this
theorem not_same {x y : List T} {j : Nat} {lx ly : List T} (hx : x[j]? = some (.seq lx)) (hy : y[j]? = some (.seq ly)) (h : lx ≠ ly) : x ≠ y := by
  rintro rfl
  rw [hx] at hy
  cases hy
  exact h rfl
theorem row_ne {x y : List T} {j : Nat} {a b : List T} (hx : x[j]? = some (.row a)) (hy : y[j]? = some (.row b)) (h : a ≠ b) : x ≠ y := by
  rintro rfl
  rw [hx] at hy
  cases hy
  exact h rfl
theorem all_same {x y : List T} (hl : x.length = y.length) (h : ∀ n, n < x.length → x[n]? = y[n]?) : x = y := by
  apply List.ext_getElem?
  intro n
  by_cases hn : n < x.length
  · exact h n hn
  · rw [List.getElem?_eq_none (by omega), List.getElem?_eq_none (by omega)]

section
variable {k : Nat} {g : Func} {ks : List Frame} {R : Ending → World → Prop} {w' : World} {p1 p2 : Nat}
/-- The third loop. -/
theorem loopD {l5 m5 : List T} {z1 z2 : Value} (bx : BoxAt tab xd [] w' l5 m5 p1 0 p2 0 z1 z2)
    (ih : ∀ (i : Nat) a b, l5[i]? = some (.row a) → m5[i]? = some (.row b) → SameRow Tryz.prog tab 14 30 ((a.drop 0).take 6) ((b.drop 0).take 6))
    (hfalse : l5 ≠ m5 → ∀ w2, Grows w' w2 → R (.returned (.bool false)) w2) (htrue : l5 = m5 → ∀ w2, Grows w' w2 → R (.returned (.bool true)) w2)
    {B : Code} {K : List AItem} (hlo : Looping Tryz.prog pD 14 k g B K) {w2 : World} {c2 : Frame} (g2 : Grows w' w2) (hF : LoopAt Tryz.prog ([] ++ seven 5 p1 0 p2 0 l5.length z1 z2) 14 k B K F14 14 0 c2) : Ends Tryz.prog c2 ks w2 R := by
  refine boxLoop mixes okD fD hlo (bx.grows g2) (fun i a b ha hb t ht => ?_) (fun hne w3 g3 => hfalse hne w3 (g2.trans g3)) (fun heq w3 c3 g3 l3 => ?_) hF
  · simp only [List.mem_cons, List.not_mem_nil, or_false] at ht
    subst ht
    exact ⟨30, rfl, rfl, ih i a b ha hb⟩
  · refine l3.ret (es := xd.esX) (cs := []) (more := []) mixes hlo (BoxAt.last okD ((bx.grows g2).grows g3) []) (fun _ h => by cases h) (by simp [seven]) sD fun ρ w4 v' _ h2 h3 => ?_
    rw [bool_val h3]
    exact htrue heq w4 (g2.trans (g3.trans h2))
/-- The second loop. -/
theorem loopC {l4 m4 : List T} {z1 z2 : Value} (bx : BoxAt tab xc [] w' l4 m4 p1 0 p2 0 z1 z2) {n : Nat}
    (hfalse : l4 ≠ m4 → ∀ w2, Grows w' w2 → R (.returned (.bool false)) w2)
    (hnext : l4 = m4 → ∀ B K, Looping Tryz.prog pD 14 k g B K → ∀ w2 c2, Grows w' w2 → (∀ vals2 : List Value, vals2[0]? = some (.pointer (some ⟨p1, 0, none⟩)) → vals2[1]? = some (.pointer (some ⟨p2, 0, none⟩)) → LoopAt Tryz.prog vals2 14 k B K F14 14 0 c2) → Ends Tryz.prog c2 ks w2 R)
    (hsub : ∀ (i : Nat) a, l4[i]? = some (.row a) → Sub n a)
    {B : Code} {K : List AItem} (hlo : Looping Tryz.prog pC 14 k g B K) {w2 : World} {c2 : Frame} (g2 : Grows w' w2) (hF : LoopAt Tryz.prog ([] ++ seven 4 p1 0 p2 0 l4.length z1 z2) 14 k B K F14 11 0 c2) : Ends Tryz.prog c2 ks w2 R := by
  refine boxLoop mixes okC fC hlo (bx.grows g2) (fun i a b ha hb t ht => ?_) (fun hne w3 g3 => hfalse hne w3 (g2.trans g3)) (fun heq w3 c3 g3 l3 => ?_) hF
  · have sa := hsub i a ha
    simp only [List.mem_cons, List.not_mem_nil, or_false] at ht
    rcases ht with rfl | rfl | rfl
    · exact ⟨_, rfl, rfl, r30' sa⟩
    · exact ⟨_, rfl, rfl, r30' sa⟩
    · refine ⟨104, rfl, rfl, ?_⟩
      have sp := sub_part sa 2 6
      refine conjFunc mixes c34 rfl (by decide) fun t ht => ?_
      simp only [List.mem_cons, List.not_mem_nil, or_false] at ht
      rcases ht with rfl | rfl | rfl | rfl | rfl | rfl
      · exact ⟨_, _, rfl, rfl, rfl, kind0⟩
      · exact ⟨_, _, rfl, rfl, rfl, kind0⟩
      · exact ⟨_, _, rfl, rfl, rfl, kind0⟩
      · exact ⟨_, _, rfl, rfl, rfl, kind1⟩
      · exact ⟨_, _, rfl, rfl, rfl, kind1⟩
      · exact ⟨_, rfl, rfl, r31' sp⟩
  · refine l3.inner (es := xc.esX) (cs := []) (more := []) (n := 600) mixes hlo (BoxAt.last okC ((bx.grows g2).grows g3) []) (fun _ h => by cases h) (by simp [seven]) (d2 := 14) (raw := F14) (own := []) hD rfl fun B2 K2 hl2 ρ w4 c4 g4 ah => ?_
    exact hnext heq B2 K2 hl2 w4 c4 (g2.trans (g3.trans g4)) fun vals2 i0 i1 => ah.loop vals2 F14 (f14Loop ah (fun _ h => h) (v0 := .pointer (some ⟨p1, 0, none⟩)) (v1 := .pointer (some ⟨p2, 0, none⟩)) rfl rfl rfl rfl vals2 i0 i1)
/-- The first loop, with a loop within. -/
theorem loopA {l3 m3 : List T} {z1 z2 : Value} (bx : BoxAt tab xa [] w' l3 m3 p1 0 p2 0 z1 z2) (hfit : fitsL l3)
    (hfalse : l3 ≠ m3 → ∀ w2, Grows w' w2 → R (.returned (.bool false)) w2)
    (hnext : l3 = m3 → ∀ B K, Looping Tryz.prog pC 14 k g B K → ∀ w2 c2, Grows w' w2 → (∀ vals2 : List Value, vals2[0]? = some (.pointer (some ⟨p1, 0, none⟩)) → vals2[1]? = some (.pointer (some ⟨p2, 0, none⟩)) → LoopAt Tryz.prog vals2 14 k B K F14 11 0 c2) → Ends Tryz.prog c2 ks w2 R)
    {B : Code} {K : List AItem} (hlo : Looping Tryz.prog pA 14 k g B K) : ∀ (i : Nat) (w2 : World) (c2 : Frame), i ≤ l3.length → Grows w' w2 → LoopAt Tryz.prog ([] ++ seven 3 p1 0 p2 0 l3.length z1 z2) 14 k B K F14 5 i c2 → (∀ j, j < i → l3[j]? = m3[j]?) → Ends Tryz.prog c2 ks w2 R := by
  intro i
  generalize hjj : l3.length - i = j
  induction j generalizing i with
  | zero =>
    intro w2 c2 hi hg l2 hp
    have hix : i = l3.length := by omega
    subst hix
    have heq := all_same bx.len hp
    refine l2.inner (es := xa.esX) (cs := []) (more := []) (n := 600) mixes hlo (BoxAt.last okA (bx.grows hg) []) (fun _ h => by cases h) (by simp [seven]) (d2 := 11) (raw := F14) (own := []) hC rfl fun B2 K2 hl2 ρ w4 c4 g4 ah => ?_
    exact hnext heq B2 K2 hl2 w4 c4 (hg.trans g4) fun vals2 i0 i1 => ah.loop vals2 F14 (f14Loop ah (fun _ h => h) (v0 := .pointer (some ⟨p1, 0, none⟩)) (v1 := .pointer (some ⟨p2, 0, none⟩)) rfl rfl rfl rfl vals2 i0 i1)
  | succ j ih =>
    intro w2 c2 hi hg l2 hp
    have hlt : i < l3.length := by omega
    obtain ⟨xs, ys, vs, us, e1, e2, e3, e4, e5⟩ := (bx.grows hg).round okA hlt
    obtain ⟨y1, tx, a1, a2, a3⟩ := e3.at 3 98 rfl
    obtain ⟨y2, ty, b1, b2, b3⟩ := e4.at 3 98 rfl
    obtain ⟨lx, rfl⟩ := rd_seq a3 rfl
    obtain ⟨ly, rfl⟩ := rd_seq b3 rfl
    have sa := sub_at (Nat.le_refl _) hfit e1
    obtain ⟨s1, s2, s3⟩ := sa _ _ a2
    obtain ⟨L, f1, f2, f3, f4, f5, f6, f7⟩ := e5 (.int .i64 lx.length) (.int .i64 ly.length)
    obtain ⟨q, q1, q2, q3⟩ := tests_split xs ys xa.tests
    obtain ⟨r1, r2⟩ := f7 q (fun t ht => by
      simp only [List.mem_cons, List.not_mem_nil, or_false] at ht
      rcases ht with rfl | rfl | rfl | rfl
      · exact ⟨_, _, rfl, rfl, rfl, kind1⟩
      · exact ⟨_, _, rfl, rfl, rfl, kind2⟩
      · exact ⟨_, _, rfl, rfl, rfl, kind1⟩
      · exact ⟨_, 102, rfl, rfl, by kernel_rfl⟩) (fun t ht => by
      simp only [List.mem_cons, List.not_mem_nil, or_false] at ht
      rcases ht with rfl | rfl | rfl | rfl
      · trivial
      · trivial
      · trivial
      · intro lx' ly' h1 h2
        rw [a2] at h1
        rw [b2] at h2
        cases h1; cases h2
        exact ⟨f3, f4⟩) q2 q3
    by_cases hq : q = 4
    case neg =>
      have hlt' : q < 4 := by have : xa.tests.length = 4 := rfl; omega
      have hne : xs ≠ ys := tests_none (List.getElem?_eq_getElem (by exact hlt')) (q3 _ (List.getElem?_eq_getElem (by exact hlt')))
      have hu := uA
      rw [List.all_eq_true] at hu
      refine l2.ret (es := xa.es q) (cs := xa.cs q) (n := 600) mixes hlo r1 r2 f1 (isB_spec (hu q (by simpa using hlt'))) fun ρ w3 v' _ g3 h3 => ?_
      rw [bool_val h3]
      exact hfalse (row_ne e1 e2 hne) w3 (hg.trans g3)
    subst hq
    have hll : lx.length = ly.length := q2 3 _ (by omega) rfl lx ly a2 b2
    refine l2.inner (es := xa.es 4) (cs := xa.cs 4) (n := 600) mixes hlo r1 r2 f1 (d2 := 8) (raw := rawB) (own := [(2000, symL 13 4), (2001, symL 17 4)]) hB oB fun B2 K2 hl2 ρ w3 c3 g3 ah => ?_
    have m1 := ah.slots (6, .ptr 2000 0) (by simp) (fun e => by cases e)
    have m2 := ah.slots (7, .ptr 2001 0) (by simp) (fun e => by cases e)
    have m3 := ah.slots (5, .sym (1000 + 7)) (by simp) (fun e => by cases e)
    simp only [RelV] at m1 m2
    obtain ⟨L1, u1, u2⟩ := m1
    obtain ⟨L2, v1, v2⟩ := m2
    obtain ⟨k1, k2⟩ := ah.cells (2000, symL 13 4) (by simp) (by simp [symL]) L1 u1
    obtain ⟨k3, k4⟩ := ah.cells (2001, symL 17 4) (by simp) (by simp [symL]) L2 v1
    have lvs := e3.len.1
    have lus := e4.len.1
    have e100 : (tab.flat xa.E2).length = 4 := rfl
    have x1 : ∀ (j : Nat) z, vs[j]? = some z → w3.cell? ⟨L1.b, 0 + j, none⟩ = some z := fun j z h => by
      have hjv := (List.getElem?_eq_some_iff.1 h).1
      obtain ⟨zz, y1, y2⟩ := k2 j _ (symL_at 4 13 j (by omega))
      rw [Nat.zero_add, y1, sym_val ah.le (f5 j z h) y2]
    have x2 : ∀ (j : Nat) z, us[j]? = some z → w3.cell? ⟨L2.b, 0 + j, none⟩ = some z := fun j z h => by
      have hjv := (List.getElem?_eq_some_iff.1 h).1
      obtain ⟨zz, y1, y2⟩ := k4 j _ (symL_at 4 17 j (by omega))
      rw [Nat.zero_add, y1, sym_val ah.le (f6 j z h) y2]
    have bx2 : BoxAt tab xb (([] ++ seven 3 p1 0 p2 0 l3.length z1 z2) ++ [.int .i64 i]) w3 lx ly L1.b 0 L2.b 0 y1 y2 := ⟨rfl, k1, k3, x1 3 _ a1, x2 3 _ b1, a3.grows g3, b3.grows g3, hll, lift s2⟩
    have hF2 : ∀ e ∈ xb.F, RelV (renOf ((([] ++ seven 3 p1 0 p2 0 l3.length z1 z2) ++ [.int .i64 i]) ++ seven 3 L1.b 0 L2.b 0 lx.length y1 y2)) e.2 (c3.tmps.getD e.1 Go.undef) := by
      intro e he
      simp only [List.mem_cons, List.not_mem_nil, or_false] at he
      have hf14 := f14Loop ah (fun e he => by simp only [List.mem_cons, List.not_mem_nil, or_false] at he ⊢; rcases he with rfl | rfl | rfl <;> simp) (v0 := .pointer (some ⟨p1, 0, none⟩)) (v1 := .pointer (some ⟨p2, 0, none⟩)) rfl rfl rfl rfl ((([] ++ seven 3 p1 0 p2 0 l3.length z1 z2) ++ [.int .i64 i]) ++ seven 3 L1.b 0 L2.b 0 lx.length y1 y2) rfl rfl
      rcases he with rfl | rfl | rfl | rfl | rfl | rfl
      · simp only; rw [u2]; exact sym_rel (k := 8) rfl rfl
      · simp only; rw [v2]; exact sym_rel (k := 9) rfl rfl
      · have := sym_val (k := 7) (v := .int .i64 i) ah.le rfl m3
        simp only at this ⊢
        rw [this]; exact sym_rel (k := 7) rfl rfl
      · exact hf14 _ (by simp)
      · exact hf14 _ (by simp)
      · exact hf14 _ (by simp)
    refine boxLoop (R := R) mixes okB fB hl2 bx2 (fun n a b ha hb t ht => ?_) (fun hne w4 g4 => ?_) (fun heq w4 c4 g4 l4 => ?_) (ah.loop _ xb.F hF2)
    · have sb := sub_at (Nat.le_refl _) s3 ha
      simp only [List.mem_cons, List.not_mem_nil, or_false] at ht
      rcases ht with rfl | rfl | rfl | rfl
      · exact ⟨_, _, rfl, rfl, rfl, kind1⟩
      · exact ⟨_, _, rfl, rfl, rfl, kind0⟩
      · exact ⟨_, _, rfl, rfl, rfl, kind0⟩
      · exact ⟨_, rfl, rfl, r10' sb⟩
    · exact hfalse (row_ne e1 e2 (not_same a2 b2 hne)) w4 (hg.trans (g3.trans g4))
    · have hxy : xs = ys := by
        have n1 := e3.len.2
        have n2 := e4.len.2
        refine all_same (by omega) fun n hn => ?_
        have hn4 : n < 4 := by omega
        by_cases h3 : n = 3
        · rw [h3, a2, b2, heq]
        · have cov : ∀ n, n < 4 → n ≠ 3 → ∃ t, xa.tests[n]? = some t ∧ t.covers n = true := by decide
          obtain ⟨t, ht, hc⟩ := cov n hn4 h3
          exact test_same hc (q2 n t hn4 ht)
      refine l4.leave (es := esY) (cs := []) (more := [.int .i64 ((i + 1 : Nat) : Int)]) (n := 600) mixes hl2 (fun e he => ?_) (fun _ h => by cases h) (by simp [seven]) hlo (vals' := [] ++ seven 3 p1 0 p2 0 l3.length z1 z2) (rest := [.int .i64 i] ++ seven 3 L1.b 0 L2.b 0 lx.length y1 y2 ++ [.int .i64 lx.length, .int .i64 ((i + 1 : Nat) : Int)]) (by simp) tY (j := 16) (i' := ((i + 1 : Nat) : Int)) rfl sY (fun e he => ⟨_, l2.slots e he⟩) fun w5 c5 g5 l5 => ?_
      · simp only [List.mem_append, List.mem_cons, List.not_mem_nil, or_false] at he
        rcases he with he | rfl
        · exact BoxAt.last okB (bx2.grows g4) [.int .i64 ((i + 1 : Nat) : Int)] e he
        · exact ent_succ (i := 7) (j := 16) (m := i) rfl rfl (by have := bx.big; omega)
      · exact ih (i + 1) (by omega) w5 c5 (by omega) (hg.trans (g3.trans (g4.trans g5))) l5 fun n hn => by
          by_cases hn' : n < i
          · exact hp n hn'
          · have : n = i := by omega
            subst this
            rw [e1, e2, hxy]
end
end Go.Am
set_option linter.unusedSectionVars false
namespace Go.Am
open Go.Proofs
theorem r14 : ∀ (n : Nat) {x y : List T}, Sub n x → SameRow Tryz.prog tab 14 30 x y := by
  intro n
  induction n with
  | zero =>
    intro x y hs w vs us hv hu
    obtain ⟨z1, tx, f1, f2, f3⟩ := hv.at 5 28 rfl
    obtain ⟨lx, rfl⟩ := rd_seq f3 rfl
    have := (hs _ _ f2).1
    omega
  | succ n ih =>
    intro x y hs w vs us hv hu
    obtain ⟨z3, tx, c1, c2, c3⟩ := hv.at 3 26 rfl
    obtain ⟨z3', ty, d1, d2, d3⟩ := hu.at 3 26 rfl
    obtain ⟨l3, rfl⟩ := rd_seq c3 rfl
    obtain ⟨m3, rfl⟩ := rd_seq d3 rfl
    obtain ⟨z4, tx, e1, e2, e3⟩ := hv.at 4 27 rfl
    obtain ⟨z4', ty, f1, f2, f3⟩ := hu.at 4 27 rfl
    obtain ⟨l4, rfl⟩ := rd_seq e3 rfl
    obtain ⟨m4, rfl⟩ := rd_seq f3 rfl
    obtain ⟨z5, tx, g1, g2, g3⟩ := hv.at 5 28 rfl
    obtain ⟨z5', ty, h1, h2, h3⟩ := hu.at 5 28 rfl
    obtain ⟨l5, rfl⟩ := rd_seq g3 rfl
    obtain ⟨m5, rfl⟩ := rd_seq h3 rfl
    obtain ⟨_, s3, s3'⟩ := hs _ _ c2
    obtain ⟨q4, s4, s4'⟩ := hs _ _ e2
    obtain ⟨q5, s5, s5'⟩ := hs _ _ g2
    refine rowsHead mixes h14 (E := 30) rfl (by decide) (by decide) (fun t ht => ?_) hv hu (fun hne w' g => ⟨by rw [eqB_neg hne], g⟩) fun hsame k g B K hlo ks w' c' p1 p2 gr b1 b2 x1 x2 hF => ?_
    · simp only [List.mem_cons, List.not_mem_nil, or_false] at ht
      rcases ht with rfl | rfl | rfl | rfl | rfl | rfl
      · exact ⟨_, _, rfl, rfl, rfl, kind1⟩
      · exact ⟨_, _, rfl, rfl, rfl, kind1⟩
      · exact ⟨_, _, rfl, rfl, rfl, kind1⟩
      · exact ⟨_, 100, rfl, rfl, by kernel_rfl⟩
      · exact ⟨_, 106, rfl, rfl, by kernel_rfl⟩
      · exact ⟨_, 30, rfl, rfl, by kernel_rfl⟩
    have bx3 : BoxAt tab xa [] w' l3 m3 p1 0 p2 0 z3 z3' := ⟨rfl, b1, b2, x1 3 _ c1, x2 3 _ d1, c3.grows gr, d3.grows gr, hsame (.ln 3 26 18 19) (by simp) _ _ c2 d2, lift s3⟩
    have bx4 : BoxAt tab xc [] w' l4 m4 p1 0 p2 0 z4 z4' := ⟨rfl, b1, b2, x1 4 _ e1, x2 4 _ f1, e3.grows gr, f3.grows gr, hsame (.ln 4 27 20 21) (by simp) _ _ e2 f2, lift s4⟩
    have bx5 : BoxAt tab xd [] w' l5 m5 p1 0 p2 0 z5 z5' := ⟨rfl, b1, b2, x1 5 _ g1, x2 5 _ h1, g3.grows gr, h3.grows gr, hsame (.ln 5 28 22 23) (by simp) _ _ g2 h2, lift s5⟩
    have no : ∀ {j : Nat} {lx ly : List T}, x[j]? = some (.seq lx) → y[j]? = some (.seq ly) → lx ≠ ly → ∀ w2, Grows w' w2 → (Ending.returned (.bool false)) = .returned (.bool (eqB x y)) ∧ Grows w w2 := fun hx hy hne w2 g2 => ⟨by rw [eqB_neg (not_same hx hy hne)], gr.trans g2⟩
    refine loopA (R := fun e w'' => e = .returned (.bool (eqB x y)) ∧ Grows w w'') bx3 s3' (no c2 d2) (fun q3 B3 K3 hl3 w3 c3' gr3 hF3 => ?_) hlo 0 w' c' (Nat.zero_le _) (Grows.refl _) (hF _ rfl rfl) (fun j hj => absurd hj (Nat.not_lt_zero _))
    refine loopC (n := n) bx4 (no e2 f2) (fun q4' B4 K4 hl4 w4 c4' gr4 hF4 => ?_) (fun i a ha => sub_at (by omega) s4' ha) hl3 gr3 (hF3 _ rfl rfl)
    refine loopD bx5 (fun i a b ha hb => ih (sub_part (sub_at (by omega) s5' ha) 0 6)) (no g2 h2) (fun q5' w5 gr5 => ⟨?_, gr.trans gr5⟩) hl4 gr4 (hF4 _ rfl rfl)
    rw [eqB_pos]
    have n1 := hv.len.2
    have n2 := hu.len.2
    have e30 : (tab.flat 30).length = 6 := rfl
    refine all_same (by omega) fun j hj => ?_
    have hj6 : j < 6 := by omega
    by_cases j3 : j = 3
    · rw [j3, c2, d2, q3]
    by_cases j4 : j = 4
    · rw [j4, e2, f2, q4']
    by_cases j5 : j = 5
    · rw [j5, g2, h2, q5']
    have cov : ∀ j, j < 6 → j ≠ 3 → j ≠ 4 → j ≠ 5 → ∃ t ∈ t14, t.covers j = true := by decide
    obtain ⟨t, ht, hc⟩ := cov j hj6 j3 j4 j5
    exact test_same hc (hsame t ht)
/-- The reference's SameBody tells whether two bodies are the same. -/
theorem r5 {x y : List T} (hf : fitsL x) : SameRow Tryz.prog tab 5 32 x y := by
  have hs := sub_row (Nat.le_refl _) hf
  refine conjFunc mixes c5 rfl (by decide) fun t ht => ?_
  simp only [List.mem_cons, List.not_mem_nil, or_false] at ht
  rcases ht with rfl | rfl | rfl | rfl | rfl | rfl
  · exact ⟨_, _, rfl, rfl, rfl, kind0⟩
  · exact ⟨_, rfl, rfl, r10' hs⟩
  · exact ⟨_, rfl, rfl, fun lx ly h1 _ => r11 (hs _ _ h1).2.2 (hs _ _ h1).2.1⟩
  · exact ⟨_, rfl, rfl, fun lx ly h1 _ => r12 (hs _ _ h1).2.2 (hs _ _ h1).2.1⟩
  · exact ⟨_, rfl, rfl, fun lx ly h1 _ => r13 (hs _ _ h1).2.2 (hs _ _ h1).2.1⟩
  · exact ⟨30, rfl, rfl, r14 _ (sub_part hs 5 6)⟩
end Go.Am
set_option linter.unusedSectionVars false
namespace Go.Am
open Go.Proofs
def eF : List (Nat × AV) := [(0, .sym 1000), (1, .sym 1001), (4, .bool false), (11, .sym 1000), (12, .sym 1002)]
theorem c29 : CmpFacts Tryz.prog 29 [.sym 1000, .sym 1001] eF 13 55 9 1 false [.sc 0 9 true] :=
  ⟨by kernel_rfl, by kernel_rfl, by kernel_rfl, by kernel_rfl, by kernel_rfl, by kernel_rfl, by kernel_rfl, by kernel_rfl, by kernel_rfl⟩
theorem c39 : CmpFacts Tryz.prog 39 [.sym 1000, .sym 1001] eF 13 64 3 1 false [.sc 0 3 true] :=
  ⟨by kernel_rfl, by kernel_rfl, by kernel_rfl, by kernel_rfl, by kernel_rfl, by kernel_rfl, by kernel_rfl, by kernel_rfl, by kernel_rfl⟩
theorem c56 : CmpFacts Tryz.prog 56 [.sym 1000, .sym 1001] eF 13 87 92 2 true [.agne 0 2 92] :=
  ⟨by kernel_rfl, by kernel_rfl, by kernel_rfl, by kernel_rfl, by kernel_rfl, by kernel_rfl, by kernel_rfl, by kernel_rfl, by kernel_rfl⟩
theorem ef77 : EfFacts Tryz.prog 77 67 74 104 6 := ⟨by kernel_rfl, by kernel_rfl, by kernel_rfl, by kernel_rfl, by kernel_rfl, by kernel_rfl⟩
theorem ef49 : EfFacts Tryz.prog 49 50 22 77 10 := ⟨by kernel_rfl, by kernel_rfl, by kernel_rfl, by kernel_rfl, by kernel_rfl, by kernel_rfl⟩
theorem ef51 : EfFacts Tryz.prog 51 52 23 83 9 := ⟨by kernel_rfl, by kernel_rfl, by kernel_rfl, by kernel_rfl, by kernel_rfl, by kernel_rfl⟩
theorem ef54 : EfFacts Tryz.prog 54 55 24 89 10 := ⟨by kernel_rfl, by kernel_rfl, by kernel_rfl, by kernel_rfl, by kernel_rfl, by kernel_rfl⟩
theorem ef58 : EfFacts Tryz.prog 58 59 25 95 6 := ⟨by kernel_rfl, by kernel_rfl, by kernel_rfl, by kernel_rfl, by kernel_rfl, by kernel_rfl⟩
theorem ef64 : EfFacts Tryz.prog 64 60 98 102 4 := ⟨by kernel_rfl, by kernel_rfl, by kernel_rfl, by kernel_rfl, by kernel_rfl, by kernel_rfl⟩
theorem ef65 : EfFacts Tryz.prog 65 66 27 106 8 := ⟨by kernel_rfl, by kernel_rfl, by kernel_rfl, by kernel_rfl, by kernel_rfl, by kernel_rfl⟩
theorem ef75 : EfFacts Tryz.prog 75 76 75 80 3 := ⟨by kernel_rfl, by kernel_rfl, by kernel_rfl, by kernel_rfl, by kernel_rfl, by kernel_rfl⟩
theorem ef78 : EfFacts Tryz.prog 78 57 84 86 8 := ⟨by kernel_rfl, by kernel_rfl, by kernel_rfl, by kernel_rfl, by kernel_rfl, by kernel_rfl⟩
theorem ef79 : EfFacts Tryz.prog 79 80 93 97 4 := ⟨by kernel_rfl, by kernel_rfl, by kernel_rfl, by kernel_rfl, by kernel_rfl, by kernel_rfl⟩
theorem ef61 : EfFacts Tryz.prog 61 44 28 30 6 := ⟨by kernel_rfl, by kernel_rfl, by kernel_rfl, by kernel_rfl, by kernel_rfl, by kernel_rfl⟩
theorem j67 : conjOk Tryz.prog 67 6 [.sc 0 3 false, .sc 1 3 false, .sc 2 3 false, .sc 3 9 false, .sc 4 9 false, .seq 5 77 (some 67)] = true := by kernel_rfl
theorem j50 : conjOk Tryz.prog 50 10 [.sc 0 3 false, .sc 1 9 false, .sc 5 3 false, .sc 9 4 false, .seq 3 29 none, .seq 2 77 (some 67), .seq 4 77 (some 67), .seq 6 49 (some 50), .seq 8 49 (some 50), .seq 7 75 (some 76)] = true := by kernel_rfl
theorem j76 : conjOk Tryz.prog 76 3 [.seq 0 77 (some 67), .seq 1 39 none, .seq 2 49 (some 50)] = true := by kernel_rfl
theorem j52 : conjOk Tryz.prog 52 9 [.sc 0 9 false, .sc 1 3 false, .sc 2 3 false, .sc 3 4 false, .sc 4 3 false, .sc 5 4 false, .sc 7 9 false, .seq 8 29 none, .seq 6 77 (some 67)] = true := by kernel_rfl
theorem j55 : conjOk Tryz.prog 55 10 [.sc 0 9 false, .seq 9 56 none, .row 1 8 57] = true := by kernel_rfl
theorem j57 : conjOk Tryz.prog 57 8 [.sc 0 3 false, .sc 1 9 false, .sc 2 3 false, .sc 6 9 false, .seq 4 29 none, .seq 3 77 (some 67), .seq 5 77 (some 67), .seq 7 78 (some 57)] = true := by kernel_rfl
theorem j59 : conjOk Tryz.prog 59 6 [.sc 0 3 false, .sc 1 3 false, .sc 2 3 false, .sc 3 9 false, .sc 4 9 false, .seq 5 79 (some 80)] = true := by kernel_rfl
theorem j80 : conjOk Tryz.prog 80 4 [.sc 0 9 false, .sc 1 3 false, .sc 3 4 false, .seq 2 77 (some 67)] = true := by kernel_rfl
theorem j60 : conjOk Tryz.prog 60 4 [.sc 0 9 false, .sc 1 3 false, .sc 2 3 false, .seq 3 49 (some 50)] = true := by kernel_rfl
theorem j66 : conjOk Tryz.prog 66 8 [.seq 0 29 none, .seq 1 29 none, .row 2 6 67] = true := by kernel_rfl
theorem j4 : conjOk Tryz.prog 4 11 [.sc 0 3 false, .seq 1 49 (some 50), .seq 2 51 (some 52), .seq 3 54 (some 55), .seq 4 58 (some 59), .row 5 6 44] = true := by kernel_rfl
end Go.Am
set_option linter.unusedSectionVars false
namespace Go.Am

def cpStart (tS : TypeId) (c : Bool) : List Ent := [(.len tS, [.sym 1000], .sym 1002), (.len tS, [.sym 1001], .sym 1004), (.neq 3, [.sym 1002, .sym 1004], .bool c)]
def cpArgs (g : FuncId) : List AV := [.sym 1000, .sym 1001, .fn (.func g) [] [.sym 1003]]
def cpF (g : FuncId) : List (Nat × AV) := [(0, .sym 1000), (1, .sym 1001), (2, .fn (.func g) [] [.sym 1003]), (6, .bool false), (15, .sym 1000), (16, .sym 1002)]
def cpEnd : List Ent := [(.lss 3, [.sym 1004, .sym 1002], .bool false)]
def cpRound (tS E : TypeId) (m : Nat) : List Ent := [(.lss 3, [.sym 1004, .sym 1002], .bool true), (.idx tS, [.sym 1000, .sym 1004], .sym 1005), (.load E, [.sym 1005], .agg (symL 8 m)),
  (.idx tS, [.sym 1001, .sym 1004], .sym 1006), (.load E, [.sym 1006], .agg (symL (8 + m) m)), (.add 3, [.sym 1004, .int .i64 1], .sym 1007)]
def cpCall (g : FuncId) (m : Nat) (c : Bool) : List CEnt := [(g, [.agg (symL 8 m), .agg (symL (8 + m) m), .sym 1003], .bool c)]
/-- What the program's own text must come to. -/
structure CpFacts (P : Program) (f g : FuncId) (tS E : TypeId) (m : Nat) : Prop where
  differ : @retF P (orcOf P (cpStart tS true) []) f (cpArgs g) 100 = some (.bool false)
  head : chkHead (@enterA P (orcOf P (cpStart tS false) []) f (cpArgs g) 100) 17 0 (cpF g) = true
  stop : @retOf? P (orcOf P cpEnd []) (@roundSeg P (orcOf P cpEnd []) (@enterA P (orcOf P (cpStart tS false) []) f (cpArgs g) 100) (cpF g) 17 4 100) = some (.bool true)
  todo : todoOf (@roundSeg P (orcOf P (cpRound tS E m) (cpCall g m true)) (@enterA P (orcOf P (cpStart tS false) []) f (cpArgs g) 100) (cpF g) 17 4 100) = wantTodo (@enterA P (orcOf P (cpStart tS false) []) f (cpArgs g) 100)
  slots : slotsOf (@roundSeg P (orcOf P (cpRound tS E m) (cpCall g m true)) (@enterA P (orcOf P (cpStart tS false) []) f (cpArgs g) 100) (cpF g) 17 4 100) ((17, .sym 1007) :: cpF g) = true
  unlike : @retOf? P (orcOf P (cpRound tS E m) (cpCall g m false)) (@roundSeg P (orcOf P (cpRound tS E m) (cpCall g m false)) (@enterA P (orcOf P (cpStart tS false) []) f (cpArgs g) 100) (cpF g) 17 4 100) = some (.bool false)
/-- A function that takes one value more tells whether two rows are the same, where a condition on memory holds. -/
def RowX (P : Program) (tb : Tab) (g : FuncId) (E : TypeId) (Q : World → Prop) (pb : Value) (x y : List T) : Prop :=
  ∀ (w : World) (vs us : List Value), Q w → RdVals tb Any w (tb.flat E) vs x → RdVals tb Any w (tb.flat E) us y → Calls P g #[.agg vs.toArray, .agg us.toArray, pb] w fun e w' => e = .returned (.bool (eqB x y)) ∧ Grows w w'
theorem cpFunc {P : Program} (hmix : P.follows .mixedOrders = true) {tb : Tab} {f g : FuncId} {tS E : TypeId} {m : Nat} (k : CpFacts P f g tS E m) (hel : tb.elem tS = some E) (hm : (tb.flat E).length = m) (hm0 : 0 < m) (hm1 : m ≤ 400) (hu : und P tS = some (.slice E)) (ha : aggP P E = some true) (hz : sizeP P E = some m)
    {x y : List T} (hx : x.length < 9223372036854775807) {Q : World → Prop} (hQ : ∀ w w', Q w → Keeps w w' → Q w') {pb : Value} (ho : pb.oneCell' = true) (hg : ∀ (i : Nat) a b, x[i]? = some (.row a) → y[i]? = some (.row b) → RowX P tb g E Q pb a b) {w : World} (q : Q w) {v u : Value} (hv : RdC tb Any w tS v (.seq x)) (hu' : RdC tb Any w tS u (.seq y)) : Calls P f #[v, u, .func (.func g) #[] #[pb]] w fun e w' => e = .returned (.bool (eqB x y)) ∧ Grows w w' := by
  have sx := seq_slice hv
  have sy := seq_slice hu'
  have ra : ∀ vals, vals[0]? = some v → vals[1]? = some u → vals[3]? = some pb → RelL (renOf vals) (cpArgs g) [v, u, .func (.func g) #[] #[pb]] := fun vals h0 h1 h3 => by
    simp only [cpArgs, RelL]
    refine ⟨_, _, rfl, sym_rel (k := 0) h0 (slice_one sx), _, _, rfl, sym_rel (k := 1) h1 (slice_one sy), _, _, rfl, ?_, rfl⟩
    simp only [RelV, RelL]
    exact ⟨g, #[], #[pb], rfl, rfl, rfl, _, _, rfl, sym_rel (k := 3) h3 ho, rfl⟩
  have start : ∀ c, (c = true ↔ x.length ≠ y.length) → ∀ e ∈ cpStart tS c, EntOk P [v, u, .int .i64 x.length, pb, .int .i64 y.length] w e := by
    intro c hc e he
    simp only [cpStart, List.mem_cons, List.not_mem_nil, or_false] at he
    rcases he with rfl | rfl | rfl
    · exact ent_len (i := 0) (j := 2) hu rfl rfl sx
    · exact ent_len (i := 1) (j := 4) hu rfl rfl sy
    · exact ent_neq (k := 0) (i := 2) (j := 4) rfl rfl ⟨_, rfl⟩ ⟨_, rfl⟩ (fun h => by cases h) (by rw [hc]; simp; omega)
  by_cases hlen : x.length = y.length
  case neg =>
    refine Calls.straight (vals := [v, u, .int .i64 x.length, pb, .int .i64 y.length]) hmix (start true (by simpa using hlen)) (fun _ h => by cases h) (by simp) 100 k.differ (ra _ rfl rfl rfl) fun ρ w' v' _ h2 h3 => ?_
    rw [bool_val h3, eqB_neg (fun e => hlen (by rw [e]))]
    exact ⟨rfl, h2⟩
  have hF : ∀ e ∈ cpF g, ∃ v', RelV (renOf [v, u, .int .i64 x.length, pb]) e.2 v' := by
    intro e he
    simp only [cpF, List.mem_cons, List.not_mem_nil, or_false] at he
    rcases he with rfl | rfl | rfl | rfl | rfl | rfl
    · exact ⟨_, sym_rel (k := 0) rfl (slice_one sx)⟩
    · exact ⟨_, sym_rel (k := 1) rfl (slice_one sy)⟩
    · exact ⟨.func (.func g) #[] #[pb], by simp only [RelV, RelL]; exact ⟨g, #[], #[pb], rfl, rfl, rfl, _, _, rfl, sym_rel (k := 3) rfl ho, rfl⟩⟩
    · exact ⟨.bool false, by simp only [RelV]⟩
    · exact ⟨_, sym_rel (k := 0) rfl (slice_one sx)⟩
    · exact ⟨_, sym_rel (k := 2) rfl rfl⟩
  refine Calls.loop (vals := [v, u, .int .i64 x.length, pb, .int .i64 y.length]) hmix (start false (by simpa using hlen)) (fun _ h => by cases h) (by simp) k.head (ra _ rfl rfl rfl) (fun e he => by
    obtain ⟨v', hv'⟩ := hF e he
    exact ⟨v', RelV.mono (renOf_le (vals := [v, u, .int .i64 x.length, pb]) (more := [.int .i64 y.length])) _ _ hv'⟩) fun fn fg B K hl ks w1 c1 g1 l1 => ?_
  have l1 : LoopAt P [v, u, .int .i64 x.length, pb] f fn B K (cpF g) 17 0 c1 :=
    ⟨l1.mode, l1.defers, l1.lone, l1.kind, l1.fn, l1.has, l1.size, plainI_any (by simpa [plainI] using hl.plain) l1.todo, fun e he => by
      obtain ⟨v', hv'⟩ := hF e he
      exact RelV.back (renOf_le (vals := [v, u, .int .i64 x.length, pb]) (more := [.int .i64 y.length])) hv' (l1.slots e he), l1.ctr⟩
  -- the rounds, with what has been compared
  have key : ∀ (i : Nat) (w2 : World) (c2 : Frame), i ≤ x.length → Grows w w2 → LoopAt P [v, u, .int .i64 x.length, pb] f fn B K (cpF g) 17 i c2 → (∀ j, j < i → x[j]? = y[j]?) → Ends P c2 ks w2 fun e w' => e = .returned (.bool (eqB x y)) ∧ Grows w w' := by
    intro i
    generalize hj : x.length - i = j
    induction j generalizing i with
    | zero =>
      intro w2 c2 hi hg2 l2 hp
      have hix : i = x.length := by omega
      refine l2.ret (es := cpEnd) (cs := []) (more := []) hmix hl (fun e he => ?_) (fun _ h => by cases h) (by simp) k.stop fun ρ w' v' _ h2 h3 => ?_
      · simp only [cpEnd, List.mem_cons, List.not_mem_nil, or_false] at he
        subst he
        exact ent_lss (i := 4) (j := 2) rfl rfl (by simp; omega)
      · rw [bool_val h3, eqB_pos]
        · exact ⟨rfl, hg2.trans h2⟩
        · apply List.ext_getElem?
          intro n
          by_cases hn : n < i
          · exact hp n hn
          · rw [List.getElem?_eq_none (by omega), List.getElem?_eq_none (by omega)]
    | succ j ih =>
      intro w2 c2 hi hg2 l2 hp
      have hlt : i < x.length := by omega
      have hv2 := hv.grows hg2
      have hu2 := hu'.grows hg2
      obtain ⟨b, off, cap, xs, vs, e1, e2, e3, _, e4, e5, e6⟩ := seq_at hel hv2 (List.getElem?_eq_getElem hlt)
      obtain ⟨b', off', cap', ys, us, d1, d2, d3, _, d4, d5, d6⟩ := seq_at hel hu2 (List.getElem?_eq_getElem (by omega : i < y.length))
      have lv := e5.len.1
      have lu := d5.len.1
      rw [hm] at lv lu e6 d6
      have hxi : x[i]? = some (.row xs) := by rw [List.getElem?_eq_getElem hlt, e4]
      have hyi : y[i]? = some (.row ys) := by rw [List.getElem?_eq_getElem (by omega : i < y.length), d4]
      have hvals : ∀ (c : Bool), ([v, u, .int .i64 x.length, pb] ++ Value.int .i64 i :: (.pointer (some ⟨b, off + i * m, none⟩) :: .pointer (some ⟨b', off' + i * m, none⟩) :: .int .i64 ((i + 1 : Nat) : Int) :: (vs ++ us))).length ≤ 1000 := fun _ => by simp; omega
      have hes : ∀ e ∈ cpRound tS E m, EntOk P ([v, u, .int .i64 x.length, pb] ++ Value.int .i64 i :: (.pointer (some ⟨b, off + i * m, none⟩) :: .pointer (some ⟨b', off' + i * m, none⟩) :: .int .i64 ((i + 1 : Nat) : Int) :: (vs ++ us))) w2 e := by
        intro e he
        simp only [cpRound, List.mem_cons, List.not_mem_nil, or_false] at he
        rcases he with rfl | rfl | rfl | rfl | rfl | rfl
        · exact ent_lss (i := 4) (j := 2) rfl rfl (by simp; omega)
        · exact ent_idx (i := 0) (j := 4) (k := 5) hu hz hm0 (by simp [e1]) e2 rfl hlt rfl
        · rw [← lv]
          exact ent_load_agg (i := 5) (k := 8) ha (by rw [lv]; exact hz) e3 e6 (by simp [lv]) fun j z hz' => ⟨by
            have := (List.getElem?_eq_some_iff.1 hz').1
            rw [show 8 + j = j + 8 by omega]
            simp
            rw [List.getElem?_append_left this]
            exact hz', e5.ones j z hz'⟩
        · exact ent_idx (i := 1) (j := 4) (k := 6) hu hz hm0 (by simp [d1]) d2 rfl (by omega) rfl
        · rw [← lu]
          exact ent_load_agg (i := 6) (k := 8 + us.length) ha (by rw [lu]; exact hz) d3 d6 (by simp [lu]) fun j z hz' => ⟨by
            rw [show 8 + us.length + j = (us.length + j) + 8 by omega]
            simp
            rw [List.getElem?_append_right (by omega), show us.length + j - vs.length = j by omega]
            exact hz', d5.ones j z hz'⟩
        · exact ent_succ (i := 4) (j := 7) rfl rfl (by omega)
      have hcs : ∀ c, c = eqB xs ys → ∀ e ∈ cpCall g m c, CallOk P ([v, u, .int .i64 x.length, pb] ++ Value.int .i64 i :: (.pointer (some ⟨b, off + i * m, none⟩) :: .pointer (some ⟨b', off' + i * m, none⟩) :: .int .i64 ((i + 1 : Nat) : Int) :: (vs ++ us))) w2 e := by
        intro c hc e he
        simp only [cpCall, List.mem_cons, List.not_mem_nil, or_false] at he
        subst he
        refine ⟨[.agg vs.toArray, .agg us.toArray, pb], .bool c, ?_, by simp only [RelV], fun w' hk => ?_⟩
        · simp only [RelL, RelV]
          refine ⟨_, _, rfl, ⟨_, rfl, ?_⟩, _, _, rfl, ⟨_, rfl, ?_⟩, _, _, rfl, ⟨_, renOf_sym (k := 3) rfl, rfl, ho⟩, rfl⟩
          · rw [← lv]
            exact symL_rel fun j z hz' => ⟨by
              have := (List.getElem?_eq_some_iff.1 hz').1
              rw [show 8 + j = j + 8 by omega]
              simp
              rw [List.getElem?_append_left this]
              exact hz', e5.ones j z hz'⟩
          · rw [← lu]
            exact symL_rel fun j z hz' => ⟨by
              rw [show 8 + us.length + j = (us.length + j) + 8 by omega]
              simp
              rw [List.getElem?_append_right (by omega), show us.length + j - vs.length = j by omega]
              exact hz', d5.ones j z hz'⟩
        · have hgw := kept_grows hk
          rw [hc]
          exact hg i xs ys hxi hyi w' vs us (hQ _ _ q (hg2.keeps.trans hgw)) (e5.keeps hgw) (d5.keeps hgw)
      by_cases hxy : xs = ys
      · refine l2.next (es := cpRound tS E m) (cs := cpCall g m true) hmix hl hes (hcs true (by rw [eqB_pos hxy])) (hvals true) k.todo (j := 7) (i' := ((i + 1 : Nat) : Int)) rfl k.slots hF fun w3 c3 g3 l3 => ?_
        exact ih (i + 1) (by omega) w3 c3 (by omega) (hg2.trans g3) l3 fun n hn => by
          by_cases hn' : n < i
          · exact hp n hn'
          · have : n = i := by omega
            subst this
            rw [hxi, hyi, hxy]
      · refine l2.ret (es := cpRound tS E m) (cs := cpCall g m false) hmix hl hes (hcs false (by rw [eqB_neg hxy])) (hvals true) k.unlike fun ρ w' v' _ h2 h3 => ?_
        rw [bool_val h3, eqB_neg]
        · exact ⟨rfl, hg2.trans h2⟩
        · intro e
          rw [e, hyi] at hxi
          injection hxi with h
          injection h with h
          exact hxy h.symm
  exact key 0 w1 c1 (Nat.zero_le _) g1 l1 fun j hj => absurd hj (Nat.not_lt_zero _)
end Go.Am
set_option linter.unusedSectionVars false
namespace Go.Am

theorem ent_load_any {P : Program} {vals : List Value} {w : World} {E : TypeId} (ha : aggP P E = some false) {v : Value} {b off : Nat} (hb : b < w.heap.size) (h : w.cell? ⟨b, off, none⟩ = some v) {i : Nat} (hi : vals[i]? = some (.pointer (some ⟨b, off, none⟩)))
    {a : AV} (hr : RelV (renOf vals) a v) : EntOk P vals w (.load E, [.sym (1000 + i)], a) := by
  refine ⟨[.pointer (some ⟨b, off, none⟩)], v, ?_, hr, fun o evc ht he w' hw => ?_⟩
  · simp only [RelL]
    exact ⟨_, _, rfl, sym_rel hi rfl, rfl⟩
  · obtain ⟨x, hop⟩ := tag_load ht
    rw [hop] at he
    have hx : evc x = .pointer (some ⟨b, off, none⟩) := by simpa [Op.operands] using he
    exact load_run hop hx (one_run ha (by rw [cell_heap (hw b hb)]; exact h))
def conjArgsX (m : Nat) : List AV := [.agg (symL 0 m), .agg (symL m m), .sym (1000 + 2 * m)]
def conjOkX (P : Program) (f m : Nat) (tests : List Test) (exE : List Ent) : Bool :=
  ((List.range (tests.length + 1)).all fun q => isB (Nat.beq q tests.length) (@retF P (orcOf P (entsQ 0 m tests q ++ exE) (callsQ 0 m tests q)) f (conjArgsX m) 400)) && ((List.range m).all fun j => tests.any fun t => t.covers j) && tests.all Test.plain
theorem conjFuncX {P : Program} (hmix : P.follows .mixedOrders = true) {tb : Tab} {f E m : Nat} {tests : List Test} {exE : List Ent} (k : conjOkX P f m tests exE = true) (hm : (tb.flat E).length = m) (hm1 : m ≤ 400) {x y : List T} (hok : ∀ t ∈ tests, t.ok P tb (tb.flat E) x y)
    {Q : World → Prop} {pb : Value} (ho : pb.oneCell' = true) (hex : ∀ (vals : List Value) (w : World), Q w → vals[2 * m]? = some pb → ∀ e ∈ exE, EntOk P vals w e) : RowX P tb f E Q pb x y := by
  intro w vs us hQ hv hu
  unfold conjOkX at k
  rw [Bool.and_eq_true, Bool.and_eq_true] at k
  obtain ⟨⟨k1, k2⟩, k3⟩ := k
  obtain ⟨q, h1, h2, h3⟩ := tests_split x y tests
  have lv := hv.len
  have lu := hu.len
  rw [hm] at lv lu
  have hA : (vs ++ us).length = 2 * m := by simp; omega
  have p1 : ∀ (j : Nat) v, vs[j]? = some v → (vs ++ us ++ [pb])[0 + j]? = some v := fun j v hj => by
    rw [Nat.zero_add, List.append_assoc]; exact at_left hj
  have p2 : ∀ (j : Nat) v, us[j]? = some v → (vs ++ us ++ [pb])[m + j]? = some v := fun j v hj => by
    rw [List.append_assoc, at_app lv.1]; exact at_left hj
  have p3 : (vs ++ us ++ [pb])[2 * m]? = some pb := by
    rw [show 2 * m = 2 * m + 0 from rfl, at_app hA]; rfl
  obtain ⟨e1, e2⟩ := entsQ_ok (P := P) (vals := vs ++ us ++ [pb]) (b1 := 0) (b2 := m) hv hu p1 p2 hok (Test.at_plain k3) h2 h3
  rw [List.all_eq_true] at k1
  have kq := isB_spec (k1 q (by simp; omega))
  refine Calls.straight (vals := vs ++ us ++ [pb]) hmix (fun e he => ?_) e2 (by rw [List.length_append, hA]; simp; omega) 400 kq ?_ fun ρ w' v' _ g1 g2 => ?_
  · rcases List.mem_append.1 he with he | he
    · exact e1 e he
    · exact hex _ w hQ p3 e he
  · simp only [conjArgsX, RelL, RelV]
    refine ⟨_, _, rfl, ⟨_, rfl, ?_⟩, _, _, rfl, ⟨_, rfl, ?_⟩, _, _, rfl, ⟨_, renOf_sym (k := 2 * m) p3, rfl, ho⟩, rfl⟩
    · have := symL_rel (vals := vs ++ us ++ [pb]) (vs := vs) (k := 0) fun j v hj => ⟨p1 j v hj, hv.ones j v hj⟩
      rw [lv.1] at this; exact this
    · have := symL_rel (vals := vs ++ us ++ [pb]) (vs := us) (k := m) fun j v hj => ⟨p2 j v hj, hu.ones j v hj⟩
      rw [lu.1] at this; exact this
  · rw [bool_val g2]
    refine ⟨?_, g1⟩
    by_cases hq : q = tests.length
    · subst hq
      rw [show Nat.beq tests.length tests.length = true from Nat.beq_refl _, eqB_pos]
      refine tests_all lv.2 lu.2 k2 fun t ht => ?_
      obtain ⟨i, hi, rfl⟩ := List.getElem_of_mem ht
      exact h2 i _ hi (List.getElem?_eq_getElem hi)
    · have hlt : q < tests.length := by omega
      rw [show Nat.beq q tests.length = false from Tree.beq_false hq, eqB_neg]
      exact tests_none (List.getElem?_eq_getElem hlt) (h3 _ (List.getElem?_eq_getElem hlt))

/-- Tables of answers, and one call that is answered by what memory holds: a closure that has captured the place of a function. -/
def capAsk (f g h : FuncId) (x y : Nat) (c : Bool) (u : FuncId) (avs : List AV) (H : AHeap) : Option AV :=
  match avs with
  | [a, b, .fn (.func g') [] [.ptr i 0]] => bif Nat.beq u f && Nat.beq g' g && AV.same a (.sym (1000 + x)) && AV.same b (.sym (1000 + y)) && cellsAre H i 0 [.fn (.func h) [] []] then some (.bool c) else none
  | _ => none
@[reducible] def orcX (P : Program) (es : List Ent) (cs : List CEnt) (f g h : FuncId) (x y : Nat) (c : Bool) : Orc P :=
  ⟨true, fun op avs => match tagOf op with
    | some tg => lookE es tg avs
    | none => none, fun u avs H => match lookC cs u avs with
    | some a => some a
    | none => capAsk f g h x y c u avs H⟩
theorem cellsAre_obj {P : Program} {ρ : Ren} {H : AHeap} {w : World} (h : ∀ i o, H.get i = some o → ∃ l, ρ i = some l ∧ l.b < w.heap.size ∧ RelO P ρ l o (w.heap[l.b]?)) {i : Nat} {l : Loc} (hi : ρ i = some l) {a : AV} (hc : cellsAre H i 0 [a] = true) :
    l.b < w.heap.size ∧ ∃ v, w.cell? ⟨l.b, 0, none⟩ = some v ∧ RelV ρ a v := by
  simp only [cellsAre, Bool.and_eq_true] at hc
  obtain ⟨h1, _⟩ := hc
  split at h1
  case h_2 => cases h1
  rename_i t size e tight ro ho
  rw [Bool.and_eq_true] at h1
  obtain ⟨h3, h4⟩ := h1
  obtain ⟨loc, q1, q2, q3⟩ := h i _ ho
  rw [hi] at q1
  cases q1
  refine ⟨q2, ?_⟩
  simp only [RelO] at q3
  obtain ⟨c, e', fz, k1, k2, k3, _, k5, _⟩ := q3
  obtain ⟨a', v, m1, m2, m3, _⟩ := k5 0 (blt_iff.1 h3)
  rw [m1] at h4
  simp only at h4
  rw [same_eq _ _ h4] at m3
  exact ⟨v, by rw [cell_of k1]; exact m2, m3⟩
/-- The one call, of two values of a memory. -/
def CapOk (P : Program) (f g h : FuncId) (v u : Value) (c : Bool) (w : World) : Prop :=
  ∀ (w' : World) (b : Nat), Keeps w w' → b < w'.heap.size → w'.cell? ⟨b, 0, none⟩ = some (.func (.func h) #[] #[]) → Calls P f #[v, u, .func (.func g) #[] #[.pointer (some ⟨b, 0, none⟩)]] w' fun x w'' => x = .returned (.bool c) ∧ Grows w' w''
@[reducible] def okX (P : Program) (es : List Ent) (cs : List CEnt) (vals : List Value) (w : World) (hes : ∀ e ∈ es, EntOk P vals w e) (hcs : ∀ e ∈ cs, CallOk P vals w e) {f g h : FuncId} {x y : Nat} {c : Bool} {v u : Value} (hx : vals[x]? = some v) (hy : vals[y]? = some u) (hc : CapOk P f g h v u c w) :
    @OrcOk P (orcX P es cs f g h x y c) :=
  letI : Orc P := orcX P es cs f g h x y c
  @OrcOk.mk P (orcX P es cs f g h x y c) (renOf vals) w (fun b => b < w.heap.size) (fun _ h => h)
    ((okOf P es cs vals w hes hcs).ok)
    (fun q avs H a ha ρ hle args hr w' hk ho => by
      have ha : (match lookC cs q avs with
        | some a => some a
        | none => capAsk f g h x y c q avs H) = some a := ha
      cases hl : lookC cs q avs with
      | some a' =>
        rw [hl] at ha
        cases ha
        obtain ⟨vs, v, h1, h2, h3⟩ := hcs _ (lookC_mem hl)
        have e := RelL.det _ hr (RelL.mono hle _ _ h1)
        have e2 : args = vs.toArray := by rw [← e]
        rw [e2]
        exact (h3 w' hk).mono fun x w'' ⟨q1, q2⟩ => ⟨v, RelV.mono hle _ _ h2, q1, q2⟩
      | none =>
        rw [hl] at ha
        simp only at ha
        unfold capAsk at ha
        split at ha
        case h_2 => cases ha
        rename_i a1 b1 g' i
        obtain ⟨hb, e1⟩ := cond_some ha rfl
        cases e1
        simp only [Bool.and_eq_true] at hb
        obtain ⟨⟨⟨⟨n1, n2⟩, n3⟩, n4⟩, n5⟩ := hb
        have n1 := Nat.eq_of_beq_eq_true n1
        have n2 := Nat.eq_of_beq_eq_true n2
        subst n1; subst n2
        rw [same_eq _ _ n3, same_eq _ _ n4] at hr
        simp only [RelL] at hr
        obtain ⟨v1, l1, e1, r1, v2, l2, rfl, r2, v3, l3, rfl, r3, rfl⟩ := hr
        have s1 := sym_val hle hx r1
        have s2 := sym_val hle hy r2
        subst s1; subst s2
        simp only [RelV, RelL] at r3
        obtain ⟨g2, aa, cc, eg, rfl, hra, v4, l4, e4, ⟨lc, q1, q2⟩, e5⟩ := r3
        cases eg
        obtain ⟨t1, fv, t2, t3⟩ := cellsAre_obj ho q1 n5
        simp only [RelV, RelL] at t3
        obtain ⟨f3, a3, c3, ef, rfl, ra3, rc3⟩ := t3
        cases ef
        have z1 : aa = #[] := Array.toList_inj.1 (by simpa using hra)
        have z2 : cc = #[.pointer (some ⟨lc.b, 0, none⟩)] := Array.toList_inj.1 (by rw [e4, e5, q2])
        have z3 : a3 = #[] := Array.toList_inj.1 (by simpa using ra3)
        have z4 : c3 = #[] := Array.toList_inj.1 (by simpa using rc3)
        have z5 : args = #[v1, v2, .func (.func b1) #[] #[.pointer (some ⟨lc.b, 0, none⟩)]] := Array.toList_inj.1 (by rw [e1, z1, z2])
        rw [z3, z4] at t2
        rw [z5]
        exact (hc w' lc.b (kept_grows hk) t1 t2).mono fun e w2 ⟨s1, s2⟩ => ⟨.bool c, by simp only [RelV], s1, s2⟩)
end Go.Am
