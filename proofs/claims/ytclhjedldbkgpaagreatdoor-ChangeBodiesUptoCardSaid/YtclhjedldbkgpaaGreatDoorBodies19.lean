/-
  Part 19 of the proof that winch/winchlaw25.ChangeBodies returns true for every two bodies of small bulk: lemmas.
  Conditions: none beyond each theorem's own premises.
  What lies here:
  The program's own comparisons of bodies' parts.
  The program's own comparison of charts and of bodies.
  Operations that the evaluator does not know, done by hand in the midst of a run: their results are new symbols.
  An append to a slice whose place is not known: rows that a function of its own has made. Condition: the types' facts, named in the theorem.
  Rounds that are cut at calls and appends.
-/
import Derived.Test.YtclhjedldbkgpaaGreatDoorBodies18
set_option linter.unusedVariables false
set_option linter.unusedSimpArgs false
set_option linter.unusedSectionVars false
namespace Go.Am
open Go.Proofs
theorem cp62 : CpFacts Tryz.prog 62 63 26 100 4 := ⟨by kernel_rfl, by kernel_rfl, by kernel_rfl, by kernel_rfl, by kernel_rfl, by kernel_rfl⟩
abbrev t63 : List Test := [.sc 0 9 false, .sc 1 4 false, .sc 2 9 false, .seq 3 64 (some 60)]
theorem j63 : conjOkX Tryz.prog 63 4 t63 [(.load 128, [.sym 1008], .fn (.func 60) [] [])] = true := by kernel_rfl
abbrev tA : List Test := [.sc 0 9 false, .sc 1 9 false, .sc 2 9 false, .seq 5 61 (some 44)]
abbrev tB : List Test := [.seq 4 65 (some 66)]
theorem j44 : ((List.range 5).all fun qa => [false, true].all fun c => (List.range 2).all fun qb => isB (Nat.beq qa 4 && c && Nat.beq qb 1) (@retF Tryz.prog (orcX Tryz.prog (entsQ 0 6 tA qa ++ entsQ 0 6 tB qb) (callsQ 0 6 tA qa ++ callsQ 0 6 tB qb) 62 63 60 3 9 c) 44 (conjArgs 6) 400)) = true := by kernel_rfl

theorem p29 {x y : List T} (hx : x.length < big) : SameSeq Tryz.prog tab 29 55 [] x y := by
  refine cmpLoop (rest := none) mixes c29 rfl rfl (by decide) (by decide) (by kernel_rfl) (by kernel_rfl) (fun _ => rfl) (by kernel_rfl) (lift hx) fun i a b ha hb t ht => ?_
  simp only [List.mem_cons, List.not_mem_nil, or_false] at ht
  subst ht
  exact ⟨_, _, rfl, rfl, rfl, kind1⟩
theorem p39 {x y : List T} (hx : x.length < big) : SameSeq Tryz.prog tab 39 64 [] x y := by
  refine cmpLoop (rest := none) mixes c39 rfl rfl (by decide) (by decide) (by kernel_rfl) (by kernel_rfl) (fun _ => rfl) (by kernel_rfl) (lift hx) fun i a b ha hb t ht => ?_
  simp only [List.mem_cons, List.not_mem_nil, or_false] at ht
  subst ht
  exact ⟨_, _, rfl, rfl, rfl, kind0⟩
theorem p56 {x y : List T} (hx : x.length < big) : SameSeq Tryz.prog tab 56 87 [] x y := by
  refine cmpLoop (rest := none) mixes c56 rfl rfl (by decide) (by decide) (by kernel_rfl) (by kernel_rfl) (fun h => by cases h) (by kernel_rfl) (lift hx) fun i a b ha hb t ht => ?_
  simp only [List.mem_cons, List.not_mem_nil, or_false] at ht
  subst ht
  exact ⟨rfl, aggne92⟩
/- A sequence in a row, by a law for sequences that are smaller. -/
theorem seq_law {f : FuncId} {t : TypeId} {rest : List Value} {n : Nat} (h : ∀ {x y : List T}, SizeOf.sizeOf x < n → fitsL x → x.length < big → SameSeq Tryz.prog tab f t rest x y) {a b : List T} (s : Sub n a) {j : Nat} : ∀ lx ly, a[j]? = some (.seq lx) → b[j]? = some (.seq ly) → SameSeq Tryz.prog tab f t rest lx ly := fun lx ly h1 _ => by
  obtain ⟨q1, q2, q3⟩ := s _ _ h1
  exact h q1 q3 q2
theorem p77 : ∀ (n : Nat) {x y : List T}, SizeOf.sizeOf x < n → fitsL x → x.length < big → SameSeq Tryz.prog tab 77 74 (fnV (some 67)) x y := by
  intro n
  induction n with
  | zero => intro x y h; omega
  | succ n ih =>
    intro x y hs hf hx
    refine eqFunc mixes ef77 rfl rfl (by decide) (by decide) (by kernel_rfl) (by kernel_rfl) (by kernel_rfl) (lift hx) fun i a b ha hb => ?_
    have sa := sub_at (n := n) (by omega) hf ha
    refine conjFunc mixes j67 rfl (by decide) fun t ht => ?_
    simp only [List.mem_cons, List.not_mem_nil, or_false] at ht
    rcases ht with rfl | rfl | rfl | rfl | rfl | rfl
    · exact ⟨_, _, rfl, rfl, rfl, kind0⟩
    · exact ⟨_, _, rfl, rfl, rfl, kind0⟩
    · exact ⟨_, _, rfl, rfl, rfl, kind0⟩
    · exact ⟨_, _, rfl, rfl, rfl, kind1⟩
    · exact ⟨_, _, rfl, rfl, rfl, kind1⟩
    · exact ⟨_, rfl, rfl, seq_law ih sa⟩
theorem p67 {n : Nat} {a b : List T} (sa : Sub n a) : SameRow Tryz.prog tab 67 104 a b := by
  refine conjFunc mixes j67 rfl (by decide) fun t ht => ?_
  simp only [List.mem_cons, List.not_mem_nil, or_false] at ht
  rcases ht with rfl | rfl | rfl | rfl | rfl | rfl
  · exact ⟨_, _, rfl, rfl, rfl, kind0⟩
  · exact ⟨_, _, rfl, rfl, rfl, kind0⟩
  · exact ⟨_, _, rfl, rfl, rfl, kind0⟩
  · exact ⟨_, _, rfl, rfl, rfl, kind1⟩
  · exact ⟨_, _, rfl, rfl, rfl, kind1⟩
  · exact ⟨_, rfl, rfl, seq_law (p77 n) sa⟩
theorem p29' {n : Nat} {a b : List T} (h : Sub n a) {j : Nat} : ∀ lx ly, a[j]? = some (.seq lx) → b[j]? = some (.seq ly) → SameSeq Tryz.prog tab 29 55 [] lx ly := fun lx ly h1 _ => p29 (h _ _ h1).2.1
theorem p49 : ∀ (n : Nat) {x y : List T}, SizeOf.sizeOf x < n → fitsL x → x.length < big → SameSeq Tryz.prog tab 49 22 (fnV (some 50)) x y := by
  intro n
  induction n with
  | zero => intro x y h; omega
  | succ n ih =>
    intro x y hs hf hx
    refine eqFunc mixes ef49 rfl rfl (by decide) (by decide) (by kernel_rfl) (by kernel_rfl) (by kernel_rfl) (lift hx) fun i a b ha hb => ?_
    have sa := sub_at (n := n) (by omega) hf ha
    refine conjFunc mixes j50 rfl (by decide) fun t ht => ?_
    simp only [List.mem_cons, List.not_mem_nil, or_false] at ht
    rcases ht with rfl | rfl | rfl | rfl | rfl | rfl | rfl | rfl | rfl | rfl
    · exact ⟨_, _, rfl, rfl, rfl, kind0⟩
    · exact ⟨_, _, rfl, rfl, rfl, kind1⟩
    · exact ⟨_, _, rfl, rfl, rfl, kind0⟩
    · exact ⟨_, _, rfl, rfl, rfl, kind2⟩
    · exact ⟨_, rfl, rfl, p29' sa⟩
    · exact ⟨_, rfl, rfl, seq_law (p77 n) sa⟩
    · exact ⟨_, rfl, rfl, seq_law (p77 n) sa⟩
    · exact ⟨_, rfl, rfl, seq_law ih sa⟩
    · exact ⟨_, rfl, rfl, seq_law ih sa⟩
    · refine ⟨_, rfl, rfl, fun lx ly h1 _ => ?_⟩
      obtain ⟨q1, q2, q3⟩ := sa _ _ h1
      refine eqFunc mixes ef75 rfl rfl (by decide) (by decide) (by kernel_rfl) (by kernel_rfl) (by kernel_rfl) (lift q2) fun i a b ha hb => ?_
      have sb := sub_at (n := n) (by omega) q3 ha
      refine conjFunc mixes j76 rfl (by decide) fun t ht => ?_
      simp only [List.mem_cons, List.not_mem_nil, or_false] at ht
      rcases ht with rfl | rfl | rfl
      · exact ⟨_, rfl, rfl, seq_law (p77 n) sb⟩
      · exact ⟨_, rfl, rfl, fun lx ly h1 _ => p39 (sb _ _ h1).2.1⟩
      · exact ⟨_, rfl, rfl, seq_law ih sb⟩
theorem p51 (n : Nat) {x y : List T} (_ : SizeOf.sizeOf x < n) (hf : fitsL x) (hx : x.length < big) : SameSeq Tryz.prog tab 51 23 (fnV (some 52)) x y := by
  refine eqFunc mixes ef51 rfl rfl (by decide) (by decide) (by kernel_rfl) (by kernel_rfl) (by kernel_rfl) (lift hx) fun i a b ha hb => ?_
  have sa := sub_at (Nat.le_refl _) hf ha
  refine conjFunc mixes j52 rfl (by decide) fun t ht => ?_
  simp only [List.mem_cons, List.not_mem_nil, or_false] at ht
  rcases ht with rfl | rfl | rfl | rfl | rfl | rfl | rfl | rfl | rfl
  · exact ⟨_, _, rfl, rfl, rfl, kind1⟩
  · exact ⟨_, _, rfl, rfl, rfl, kind0⟩
  · exact ⟨_, _, rfl, rfl, rfl, kind0⟩
  · exact ⟨_, _, rfl, rfl, rfl, kind2⟩
  · exact ⟨_, _, rfl, rfl, rfl, kind0⟩
  · exact ⟨_, _, rfl, rfl, rfl, kind2⟩
  · exact ⟨_, _, rfl, rfl, rfl, kind1⟩
  · exact ⟨_, rfl, rfl, p29' sa⟩
  · exact ⟨_, rfl, rfl, seq_law (p77 _) sa⟩
theorem p57 : ∀ (n : Nat) {x y : List T}, Sub n x → SameRow Tryz.prog tab 57 86 x y := by
  intro n
  induction n with
  | zero =>
    intro x y hs w vs us hv hu
    obtain ⟨z1, tx, f1, f2, f3⟩ := hv.at 7 84 rfl
    obtain ⟨lx, rfl⟩ := rd_seq f3 rfl
    have := (hs _ _ f2).1
    omega
  | succ n ih =>
    intro x y sa
    refine conjFunc mixes j57 rfl (by decide) fun t ht => ?_
    simp only [List.mem_cons, List.not_mem_nil, or_false] at ht
    rcases ht with rfl | rfl | rfl | rfl | rfl | rfl | rfl | rfl
    · exact ⟨_, _, rfl, rfl, rfl, kind0⟩
    · exact ⟨_, _, rfl, rfl, rfl, kind1⟩
    · exact ⟨_, _, rfl, rfl, rfl, kind0⟩
    · exact ⟨_, _, rfl, rfl, rfl, kind1⟩
    · exact ⟨_, rfl, rfl, p29' sa⟩
    · exact ⟨_, rfl, rfl, seq_law (p77 _) sa⟩
    · exact ⟨_, rfl, rfl, seq_law (p77 _) sa⟩
    · refine ⟨_, rfl, rfl, fun lx ly h1 _ => ?_⟩
      obtain ⟨q1, q2, q3⟩ := sa _ _ h1
      exact eqFunc mixes ef78 rfl rfl (by decide) (by decide) (by kernel_rfl) (by kernel_rfl) (by kernel_rfl) (lift q2) fun i a b ha hb => ih (sub_at (by omega) q3 ha)
theorem p54 (n : Nat) {x y : List T} (_ : SizeOf.sizeOf x < n) (hf : fitsL x) (hx : x.length < big) : SameSeq Tryz.prog tab 54 24 (fnV (some 55)) x y := by
  refine eqFunc mixes ef54 rfl rfl (by decide) (by decide) (by kernel_rfl) (by kernel_rfl) (by kernel_rfl) (lift hx) fun i a b ha hb => ?_
  have sa := sub_at (Nat.le_refl _) hf ha
  refine conjFunc mixes j55 rfl (by decide) fun t ht => ?_
  simp only [List.mem_cons, List.not_mem_nil, or_false] at ht
  rcases ht with rfl | rfl | rfl
  · exact ⟨_, _, rfl, rfl, rfl, kind1⟩
  · exact ⟨_, rfl, rfl, fun lx ly h1 _ => p56 (sa _ _ h1).2.1⟩
  · exact ⟨86, rfl, rfl, p57 _ (sub_part sa 1 8)⟩
theorem p58 (n : Nat) {x y : List T} (_ : SizeOf.sizeOf x < n) (hf : fitsL x) (hx : x.length < big) : SameSeq Tryz.prog tab 58 25 (fnV (some 59)) x y := by
  refine eqFunc mixes ef58 rfl rfl (by decide) (by decide) (by kernel_rfl) (by kernel_rfl) (by kernel_rfl) (lift hx) fun i a b ha hb => ?_
  have sa := sub_at (Nat.le_refl _) hf ha
  refine conjFunc mixes j59 rfl (by decide) fun t ht => ?_
  simp only [List.mem_cons, List.not_mem_nil, or_false] at ht
  rcases ht with rfl | rfl | rfl | rfl | rfl | rfl
  · exact ⟨_, _, rfl, rfl, rfl, kind0⟩
  · exact ⟨_, _, rfl, rfl, rfl, kind0⟩
  · exact ⟨_, _, rfl, rfl, rfl, kind0⟩
  · exact ⟨_, _, rfl, rfl, rfl, kind1⟩
  · exact ⟨_, _, rfl, rfl, rfl, kind1⟩
  · refine ⟨_, rfl, rfl, fun lx ly h1 _ => ?_⟩
    obtain ⟨q1, q2, q3⟩ := sa _ _ h1
    refine eqFunc mixes ef79 rfl rfl (by decide) (by decide) (by kernel_rfl) (by kernel_rfl) (by kernel_rfl) (lift q2) fun i a b ha hb => ?_
    have sb := sub_at (Nat.le_refl _) q3 ha
    refine conjFunc mixes j80 rfl (by decide) fun t ht => ?_
    simp only [List.mem_cons, List.not_mem_nil, or_false] at ht
    rcases ht with rfl | rfl | rfl | rfl
    · exact ⟨_, _, rfl, rfl, rfl, kind1⟩
    · exact ⟨_, _, rfl, rfl, rfl, kind0⟩
    · exact ⟨_, _, rfl, rfl, rfl, kind2⟩
    · exact ⟨_, rfl, rfl, seq_law (p77 _) sb⟩
theorem p64 (n : Nat) {x y : List T} (_ : SizeOf.sizeOf x < n) (hf : fitsL x) (hx : x.length < big) : SameSeq Tryz.prog tab 64 98 (fnV (some 60)) x y := by
  refine eqFunc mixes ef64 rfl rfl (by decide) (by decide) (by kernel_rfl) (by kernel_rfl) (by kernel_rfl) (lift hx) fun i a b ha hb => ?_
  have sa := sub_at (Nat.le_refl _) hf ha
  refine conjFunc mixes j60 rfl (by decide) fun t ht => ?_
  simp only [List.mem_cons, List.not_mem_nil, or_false] at ht
  rcases ht with rfl | rfl | rfl | rfl
  · exact ⟨_, _, rfl, rfl, rfl, kind1⟩
  · exact ⟨_, _, rfl, rfl, rfl, kind0⟩
  · exact ⟨_, _, rfl, rfl, rfl, kind0⟩
  · exact ⟨_, rfl, rfl, seq_law (p49 _) sa⟩
theorem p65 (n : Nat) {x y : List T} (_ : SizeOf.sizeOf x < n) (hf : fitsL x) (hx : x.length < big) : SameSeq Tryz.prog tab 65 27 (fnV (some 66)) x y := by
  refine eqFunc mixes ef65 rfl rfl (by decide) (by decide) (by kernel_rfl) (by kernel_rfl) (by kernel_rfl) (lift hx) fun i a b ha hb => ?_
  have sa := sub_at (Nat.le_refl _) hf ha
  refine conjFunc mixes j66 rfl (by decide) fun t ht => ?_
  simp only [List.mem_cons, List.not_mem_nil, or_false] at ht
  rcases ht with rfl | rfl | rfl
  · exact ⟨_, rfl, rfl, p29' sa⟩
  · exact ⟨_, rfl, rfl, p29' sa⟩
  · exact ⟨104, rfl, rfl, p67 (sub_part sa 2 6)⟩
/-- The steps of two charts, by the closure. -/
theorem p62 {x y : List T} (hf : fitsL x) (hx : x.length < big) {b : Nat} {w : World} (hb : b < w.heap.size) (hc : w.cell? ⟨b, 0, none⟩ = some (.func (.func 60) #[] #[])) {v u : Value} (hv : RdC tab Any w 26 v (.seq x)) (hu : RdC tab Any w 26 u (.seq y)) :
    Calls Tryz.prog 62 #[v, u, .func (.func 63) #[] #[.pointer (some ⟨b, 0, none⟩)]] w fun e w' => e = .returned (.bool (eqB x y)) ∧ Grows w w' := by
  refine cpFunc mixes cp62 rfl rfl (by decide) (by decide) (by kernel_rfl) (by kernel_rfl) (by kernel_rfl) (lift hx) (Q := fun w => b < w.heap.size ∧ w.cell? ⟨b, 0, none⟩ = some (.func (.func 60) #[] #[])) (fun w w' h g => ⟨Nat.lt_of_lt_of_le h.1 g.1, by rw [cell_heap (g.2 _ h.1)]; exact h.2⟩) rfl (fun i a b ha hb => ?_) ⟨hb, hc⟩ hv hu
  have sa := sub_at (Nat.le_refl _) hf ha
  refine conjFuncX mixes j63 rfl (by decide) (fun t ht => ?_) rfl fun vals w hq hp e he => ?_
  · simp only [List.mem_cons, List.not_mem_nil, or_false] at ht
    rcases ht with rfl | rfl | rfl | rfl
    · exact ⟨_, _, rfl, rfl, rfl, kind1⟩
    · exact ⟨_, _, rfl, rfl, rfl, kind2⟩
    · exact ⟨_, _, rfl, rfl, rfl, kind1⟩
    · exact ⟨_, rfl, rfl, seq_law (p64 _) sa⟩
  · simp only [List.mem_cons, List.not_mem_nil, or_false] at he
    subst he
    exact ent_load_any (i := 8) (by kernel_rfl) hq.1 hq.2 hp (by simp only [RelV, RelL]; exact ⟨_, _, _, rfl, rfl, rfl, rfl⟩)
end Go.Am
set_option linter.unusedSectionVars false
namespace Go.Am
open Go.Proofs
theorem p44 : ∀ (n : Nat) {x y : List T}, Sub n x → SameRow Tryz.prog tab 44 30 x y := by
  intro n
  induction n with
  | zero =>
    intro x y hs w vs us hv hu
    obtain ⟨z1, tx, f1, f2, f3⟩ := hv.at 5 28 rfl
    obtain ⟨lx, rfl⟩ := rd_seq f3 rfl
    have := (hs _ _ f2).1
    omega
  | succ n ih =>
    intro x y sa w vs us hv hu
    obtain ⟨z3, tx, c1, c2, c3⟩ := hv.at 3 26 rfl
    obtain ⟨z3', ty, d1, d2, d3⟩ := hu.at 3 26 rfl
    obtain ⟨l3, rfl⟩ := rd_seq c3 rfl
    obtain ⟨m3, rfl⟩ := rd_seq d3 rfl
    obtain ⟨_, s3, s3'⟩ := sa _ _ c2
    have lv := hv.len
    have lu := hu.len
    have e30 : (tab.flat 30).length = 6 := rfl
    rw [e30] at lv lu
    have p1 : ∀ (j : Nat) v, vs[j]? = some v → (vs ++ us)[0 + j]? = some v := fun j v hj => by
      rw [Nat.zero_add]; exact at_left hj
    have p2 : ∀ (j : Nat) v, us[j]? = some v → (vs ++ us)[6 + j]? = some v := fun j v hj => by
      rw [at_app lv.1]; exact hj
    obtain ⟨qa, h1, h2, h3⟩ := tests_split x y tA
    obtain ⟨qb, i1, i2, i3⟩ := tests_split x y tB
    obtain ⟨e1, e2⟩ := entsQ_ok (P := Tryz.prog) (vals := vs ++ us) (b1 := 0) (b2 := 6) hv hu p1 p2 (tests := tA) (fun t ht => by
      simp only [List.mem_cons, List.not_mem_nil, or_false] at ht
      rcases ht with rfl | rfl | rfl | rfl
      · exact ⟨_, _, rfl, rfl, rfl, kind1⟩
      · exact ⟨_, _, rfl, rfl, rfl, kind1⟩
      · exact ⟨_, _, rfl, rfl, rfl, kind1⟩
      · refine ⟨_, rfl, rfl, fun lx ly h1 _ => ?_⟩
        obtain ⟨q1, q2, q3⟩ := sa _ _ h1
        exact eqFunc mixes ef61 rfl rfl (by decide) (by decide) (by kernel_rfl) (by kernel_rfl) (by kernel_rfl) (lift q2) fun i a b ha hb => ih (sub_at (by omega) q3 ha)) (Test.at_plain rfl) h2 h3
    obtain ⟨f1, f2⟩ := entsQ_ok (P := Tryz.prog) (vals := vs ++ us) (b1 := 0) (b2 := 6) hv hu p1 p2 (tests := tB) (fun t ht => by
      simp only [List.mem_cons, List.not_mem_nil, or_false] at ht
      subst ht
      exact ⟨_, rfl, rfl, seq_law (p65 _) sa⟩) (Test.at_plain rfl) i2 i3
    have hes : ∀ e ∈ entsQ 0 6 tA qa ++ entsQ 0 6 tB qb, EntOk Tryz.prog (vs ++ us) w e := fun e he => by
      rcases List.mem_append.1 he with he | he
      · exact e1 e he
      · exact f1 e he
    have hcs : ∀ e ∈ callsQ 0 6 tA qa ++ callsQ 0 6 tB qb, CallOk Tryz.prog (vs ++ us) w e := fun e he => by
      rcases List.mem_append.1 he with he | he
      · exact e2 e he
      · exact f2 e he
    have hcap : CapOk Tryz.prog 62 63 60 z3 z3' (eqB l3 m3) w := fun w' b g hb hc => p62 s3' s3 hb hc (c3.keeps g) (d3.keeps g)
    have hx3 : (vs ++ us)[3]? = some z3 := p1 3 _ c1
    have hy3 : (vs ++ us)[9]? = some z3' := p2 3 _ d1
    have k := j44
    rw [List.all_eq_true] at k
    have k := k qa (by have : tA.length = 4 := rfl; simp; omega)
    rw [List.all_eq_true] at k
    have k := k (eqB l3 m3) (by cases eqB l3 m3 <;> simp)
    rw [List.all_eq_true] at k
    have k := isB_spec (k qb (by have : tB.length = 1 := rfl; simp; omega))
    refine @Calls.straightG Tryz.prog (vs ++ us) w _ (orcX Tryz.prog _ _ 62 63 60 3 9 (eqB l3 m3)) (okX Tryz.prog _ _ (vs ++ us) w hes hcs hx3 hy3 hcap) rfl rfl (fun _ => Iff.rfl) mixes (by simp; omega) 44 (conjArgs 6) #[.agg vs.toArray, .agg us.toArray] 400 _ k ?_ fun ρ w' v' _ g1 g2 => ?_
    · simp only [conjArgs, RelL, RelV]
      refine ⟨_, _, rfl, ⟨_, rfl, ?_⟩, _, _, rfl, ⟨_, rfl, ?_⟩, rfl⟩
      · have := symL_rel (vals := vs ++ us) (vs := vs) (k := 0) fun j v hj => ⟨p1 j v hj, hv.ones j v hj⟩
        rw [lv.1] at this; exact this
      · have := symL_rel (vals := vs ++ us) (vs := us) (k := 6) fun j v hj => ⟨p2 j v hj, hu.ones j v hj⟩
        rw [lu.1] at this; exact this
    · rw [bool_val g2]
      refine ⟨?_, g1⟩
      refine congrArg (fun b => Ending.returned (.bool b)) ?_
      by_cases hq : qa = 4
      case neg =>
        have hlt : qa < tA.length := by have : tA.length = 4 := rfl; omega
        rw [show Nat.beq qa 4 = false from Tree.beq_false hq, Bool.false_and, Bool.false_and, eqB_neg]
        exact tests_none (List.getElem?_eq_getElem hlt) (h3 _ (List.getElem?_eq_getElem hlt))
      subst hq
      by_cases hb : qb = 1
      case neg =>
        have hlt : qb < tB.length := by have : tB.length = 1 := rfl; omega
        rw [show Nat.beq qb 1 = false from Tree.beq_false hb, Bool.and_false, eqB_neg]
        exact tests_none (List.getElem?_eq_getElem hlt) (i3 _ (List.getElem?_eq_getElem hlt))
      subst hb
      by_cases hl : l3 = m3
      case neg =>
        rw [eqB_neg hl, Bool.and_false, Bool.false_and, eqB_neg]
        exact not_same c2 d2 hl
      rw [eqB_pos hl, eqB_pos]
      · rfl
      · refine all_same (by omega) fun j hj => ?_
        have hj6 : j < 6 := by omega
        by_cases j3 : j = 3
        · rw [j3, c2, d2, hl]
        by_cases j4 : j = 4
        · subst j4
          exact i2 0 (.seq 4 65 (some 66)) (by omega) rfl
        have cov : ∀ j, j < 6 → j ≠ 3 → j ≠ 4 → ∃ i, i < 4 ∧ ∃ t, tA[i]? = some t ∧ t.covers j = true := by decide
        obtain ⟨i, hi, t, ht, hc⟩ := cov j hj6 j3 j4
        exact test_same hc (h2 i t hi ht)
/-- The program's SameBody tells whether two bodies are the same. -/
theorem p4 {x y : List T} (hf : fitsL x) : SameRow Tryz.prog tab 4 32 x y := by
  have hs := sub_row (Nat.le_refl _) hf
  refine conjFunc mixes j4 rfl (by decide) fun t ht => ?_
  simp only [List.mem_cons, List.not_mem_nil, or_false] at ht
  rcases ht with rfl | rfl | rfl | rfl | rfl | rfl
  · exact ⟨_, _, rfl, rfl, rfl, kind0⟩
  · exact ⟨_, rfl, rfl, seq_law (p49 _) hs⟩
  · exact ⟨_, rfl, rfl, seq_law (p51 _) hs⟩
  · exact ⟨_, rfl, rfl, seq_law (p54 _) hs⟩
  · exact ⟨_, rfl, rfl, seq_law (p58 _) hs⟩
  · exact ⟨30, rfl, rfl, p44 _ (sub_part hs 5 6)⟩
end Go.Am
set_option linter.unusedSectionVars false
namespace Go.Am

/-- New symbols, from a number on. -/
def Ren.news (ρ : Ren) (j : Nat) (vs : List Value) : Ren := fun i => if j ≤ i then match vs[i - j]? with
  | some v => some ⟨0, 0, v⟩
  | none => ρ i
  else ρ i
theorem Ren.le_news {ρ : Ren} {j : Nat} (h : ∀ i, j ≤ i → ρ i = none) (vs : List Value) : ρ.le (ρ.news j vs) := fun i l e => by
  unfold Ren.news
  by_cases hj : j ≤ i
  · rw [h i hj] at e; cases e
  · rw [if_neg hj]; exact e
theorem Ren.news_at {ρ : Ren} {j : Nat} {vs : List Value} {k : Nat} {v : Value} (h : vs[k]? = some v) : ρ.news j vs (j + k) = some ⟨0, 0, v⟩ := by
  unfold Ren.news
  rw [if_pos (by omega), show j + k - j = k by omega, h]
theorem Ren.news_none {ρ : Ren} {j : Nat} (h : ∀ i, j ≤ i → ρ i = none) {vs : List Value} {i : Nat} (hi : j + vs.length ≤ i) : ρ.news j vs i = none := by
  unfold Ren.news
  rw [if_pos (by omega), List.getElem?_eq_none (by omega)]
  exact h i (by omega)
theorem Ren.news_low {ρ : Ren} {j : Nat} {vs : List Value} {i : Nat} (hi : i < j) : ρ.news j vs i = ρ i := by
  unfold Ren.news
  rw [if_neg (by omega)]
def bump (H : AHeap) (n : Nat) : AHeap := ⟨H.objs, H.next + n⟩
def symR (j : Nat) : Nat → List AV
  | 0 => []
  | n + 1 => .sym j :: symR (j + 1) n
def newAV (j : Nat) : Option Nat → AV
  | none => .sym j
  | some n => .agg (symR j n)
/-- A value of a shape: one cell, or so many cells side by side. -/
def shape (m : Option Nat) (v : Value) (vs : List Value) : Prop :=
  match m with
  | none => vs = [v] ∧ v.oneCell' = true
  | some n => vs.length = n ∧ v = .agg vs.toArray ∧ ∀ z ∈ vs, z.oneCell' = true
theorem symR_rel {ρ : Ren} : ∀ {vs : List Value} {j : Nat}, (∀ (k : Nat) v, vs[k]? = some v → ρ (j + k) = some ⟨0, 0, v⟩) → (∀ z ∈ vs, z.oneCell' = true) → RelL ρ (symR j vs.length) vs
  | [], j, _, _ => by simp [symR, RelL]
  | v :: vs, j, h, ho => by
    simp only [List.length_cons, symR, RelL, RelV]
    refine ⟨v, vs, rfl, ⟨_, h 0 v rfl, rfl, ho v List.mem_cons_self⟩, symR_rel (fun k u hk => ?_) fun z hz => ho z (List.mem_cons_of_mem _ hz)⟩
    rw [show j + 1 + k = j + (k + 1) by omega]
    exact h (k + 1) u (by simpa using hk)
theorem newAV_rel {ρ : Ren} {m : Option Nat} {v : Value} {vs : List Value} {j : Nat} (hs : shape m v vs) (h : ∀ (k : Nat) u, vs[k]? = some u → ρ (j + k) = some ⟨0, 0, u⟩) : RelV ρ (newAV j m) v := by
  cases m with
  | none =>
    obtain ⟨rfl, ho⟩ := hs
    simp only [newAV, RelV]
    exact ⟨_, h 0 v rfl, rfl, ho⟩
  | some n =>
    obtain ⟨rfl, rfl, ho⟩ := hs
    simp only [newAV, RelV]
    exact ⟨_, rfl, symR_rel h ho⟩

section
variable {P : Program} [Orc P] [OrcOk P] {ρ : Ren} {H : AHeap} {w w' : World} {fr fr1 fr2 : AFrame} {c : Frame} {cs : List Frame} {o : Oper} {R : Ending → World → Prop}
theorem RelH.low (h : RelH P ρ H w) {i : Nat} {x : AObj} (hi : H.get i = some x) : i < H.next := by
  obtain ⟨l, h1, _⟩ := h.obj i x hi
  rcases Nat.lt_or_ge i H.next with hl | hl
  · exact hl
  · rw [h.fresh i hl] at h1; cases h1
/-- Memory that changes where no object of the run's own lies. -/
theorem RelH.hand (h : RelH P ρ H w) (hs : w.heap.size ≤ w'.heap.size) (hobj : ∀ i x l, H.get i = some x → ρ i = some l → w'.heap[l.b]? = w.heap[l.b]?) (hk : ∀ b, OrcOk.keep P b → w'.heap[b]? = w.heap[b]?) (hst : Still w w') (vs : List Value) :
    RelH P (ρ.news H.next vs) (bump H vs.length) w' := by
  have hle := Ren.le_news h.fresh vs
  refine ⟨fun i x hx => ?_, fun i j x y l l' hx hy h1 h2 e => ?_, fun i hi => Ren.news_none h.fresh hi, h.base.trans hle, fun b hb => by rw [hk b hb]; exact h.kept b hb, Nat.le_trans h.wsize hs, fun i x l hx ho h1 => ?_, h.still.trans hst⟩
  · obtain ⟨l, h1, h2, h3⟩ := h.obj i x hx
    refine ⟨l, hle _ _ h1, Nat.lt_of_lt_of_le h2 hs, ?_⟩
    rw [hobj i x l hx h1]
    exact h3.mono hle
  · rw [Ren.news_low (h.low hx)] at h1
    rw [Ren.news_low (h.low hy)] at h2
    exact h.inj i j x y l l' hx hy h1 h2 e
  · rw [Ren.news_low (h.low hx)] at h1
    exact h.own i x l hx ho h1
/-- The operation that a frame stands at, and the frame behind it. -/
def stopAt (fr : AFrame) : Option (Oper × AFrame) :=
  match fr.todo with
  | .inRegion ops (o :: os) :: k => bif guardOk ops fr.tmps o && wantedA ops fr.tmps o then some (o, { fr with todo := .inRegion ops os :: k }) else none
  | _ => none
theorem At0.stands (a : At0 P ρ H w fr c cs) (hs : stopAt fr = some (o, fr1)) : ∃ ops i l k, AtOp c ops i l k o ∧
    ∀ {x : AV} {v : Value} {ρ' : Ren} {H' : AHeap} {w' : World}, fr1.put o.dst x = some fr2 → ρ.le ρ' → RelV ρ' x v → RelH P ρ' H' w' → At0 P ρ' H' w' fr2 (c.finish v) cs ∧ (c.finish v).fn = c.fn := by
  unfold stopAt at hs
  split at hs
  case h_2 => cases hs
  rename_i ops o' os k hto
  obtain ⟨hb, hs⟩ := cond_some hs rfl
  cases hs
  rw [Bool.and_eq_true] at hb
  have st' : St P ρ H w .no { ({ fr with todo := .inRegion ops os :: k } : AFrame) with todo := .inRegion ops (o :: os) :: k } c cs := by
    have e : ({ ({ fr with todo := .inRegion ops os :: k } : AFrame) with todo := .inRegion ops (o :: os) :: k } : AFrame) = fr := by rw [← hto]
    rw [e]; exact a.st
  obtain ⟨i, l, kk, m1, m2, m3, m4, m5⟩ := stand st' a.run
  refine ⟨ops, i, l, kk, ⟨m1, m2, m3, by rw [wanted_eq (a.st.frame.tmps (Dead.not a.run)) _ _ hb.1]; exact hb.2⟩, fun hp hle rv hh => ?_⟩
  obtain ⟨f1, f2, f3, f4, f5, f6⟩ := fin_rel (st'.frame.mono hle) (by exact a.run) rfl m2 m3 m4 rv hp
  refine ⟨⟨⟨hh, a.st.glob.mono hle, f1, f3 ▸ a.st.up.mono hle⟩, f5, ?_, f4.trans a.lone, f3.trans a.kind⟩, f2⟩
  unfold AFrame.put at hp
  split at hp
  · cases hp; exact a.plain
  · obtain ⟨_, hp⟩ := cond_some hp rfl
    cases hp; exact a.plain
/-- A call whose result is not known beforehand. -/
theorem Ends.handCall {f : FuncId} {avs : List AV} {m : Option Nat} (a : At0 P ρ H w fr c cs) (hs : stopAt fr = some (o, fr1)) (hx : execO P H (evA fr.tmps) o = some (.enter f avs)) (hp : fr1.put o.dst (newAV H.next m) = some fr2)
    {Q : Value → World → Prop} (hc : ∀ args : Array Value, RelL ρ avs args.toList → Calls P f args w fun e w' => ∃ v, e = .returned v ∧ (∃ vs, shape m v vs) ∧ Grows w w' ∧ Q v w')
    (k : ∀ ρ' w' c' v vs, ρ.le ρ' → shape m v vs → Grows w w' → Q v w' → (∀ (i : Nat) z, vs[i]? = some z → ρ' (H.next + i) = some ⟨0, 0, z⟩) → At0 P ρ' (bump H vs.length) w' fr2 c' cs → c'.fn = c.fn → Ends P c' cs w' R) : Ends P c cs w R := by
  obtain ⟨ops, i, l, kk, hat, hgo⟩ := a.stands (fr2 := fr2) hs
  have hev := evA_rel (c := c) a.st.glob (a.st.frame.tmps (Dead.not a.run))
  obtain ⟨args', h1, h2⟩ := execO_rel a.st.heap hev hx
  have s1 := mv_enter (cs := cs) hat (Or.inr (no_defer hx (fun d e => by cases e))) h1
  obtain ⟨e', w', fr', ⟨v, rfl, ⟨vs, hsh⟩, gr, hq⟩, st, _, lv⟩ := hc args' h2 (c :: cs)
  have hh := a.st.heap
  have hle := Ren.le_news hh.fresh vs
  have hh' : RelH P (ρ.news H.next vs) (bump H vs.length) w' := hh.hand gr.1 (fun i x l hx hl => by
    obtain ⟨l', q1, q2, _⟩ := hh.obj i x hx
    rw [hl] at q1
    cases q1
    exact gr.2 _ q2) (fun b hb => gr.2 b (Nat.lt_of_lt_of_le (OrcOk.inW b hb) hh.wsize)) gr.3 vs
  have rv : RelV (ρ.news H.next vs) (newAV H.next m) v := newAV_rel hsh fun k u hk => Ren.news_at hk
  obtain ⟨g1, g2⟩ := hgo hp hle rv hh'
  exact (k _ w' _ v vs hle hsh gr hq (fun i z hz => Ren.news_at hz) g1 g2).of_steps ((Steps.head s1 st).trans (Steps.one (step_leave_returned lv))) g2
/-- An operation that gives one value, run by hand; memory may change where no object of the run's own lies. -/
theorem Ends.handVal (a : At0 P ρ H w fr c cs) (hs : stopAt fr = some (o, fr1)) (hd : ∀ x, o.op ≠ .defer x) (hp : fr1.put o.dst (.sym H.next) = some fr2)
    {v : Value} {w' : World} (ho : v.oneCell' = true) (hr : (execOp c.eval o).run P w = .ok (.value v) w') (hsz : w.heap.size ≤ w'.heap.size) (hobj : ∀ i x l, H.get i = some x → ρ i = some l → w'.heap[l.b]? = w.heap[l.b]?) (hk : ∀ b, OrcOk.keep P b → w'.heap[b]? = w.heap[b]?) (hst : Still w w')
    (k : ∀ ρ' c', ρ.le ρ' → ρ' H.next = some ⟨0, 0, v⟩ → At0 P ρ' (bump H 1) w' fr2 c' cs → c'.fn = c.fn → Ends P c' cs w' R) : Ends P c cs w R := by
  obtain ⟨ops, i, l, kk, hat, hgo⟩ := a.stands (fr2 := fr2) hs
  have s1 := mv_value (cs := cs) hat (Or.inr hd) hr
  have hh := a.st.heap
  have hle := Ren.le_news hh.fresh [v]
  have hh' : RelH P (ρ.news H.next [v]) (bump H 1) w' := hh.hand hsz hobj hk hst [v]
  have hn : ρ.news H.next [v] H.next = some ⟨0, 0, v⟩ := Ren.news_at (k := 0) rfl
  obtain ⟨g1, g2⟩ := hgo hp hle (x := .sym H.next) (v := v) (by simp only [RelV]; exact ⟨_, hn, rfl, ho⟩) hh'
  exact (k _ _ hle hn g1 g2).of_steps (Steps.one s1) g2
/-- As far as the run goes. -/
theorem At0.seg (hmix : P.follows .mixedOrders = true) (n : Nat) (a : At0 P ρ H w fr c cs)
    (k : ∀ ρ' w' c', Ext ρ H w ρ' (Am.seg P n fr H).2 w' → At0 P ρ' (Am.seg P n fr H).2 w' (Am.seg P n fr H).1 c' cs → c'.fn = c.fn → Ends P c' cs w' R) : Ends P c cs w R := by
  obtain ⟨g, hm⟩ := seg_goes hmix n a.st a.run
  have key : ∀ n fr H, fr.defers = [] → (Am.seg P n fr H).1.defers = [] := by
    intro n
    induction n with
    | zero => intro fr H h1; exact h1
    | succ n ih =>
      intro fr H h1
      unfold Am.seg
      cases hmv : move P fr H with
      | none => exact h1
      | some p =>
        obtain ⟨fr2, H2⟩ := p
        cases hd : fr2.defers with
        | nil =>
          simp only [hd]
          cases Nat.beq fr2.n fr.n with
          | false => exact h1
          | true => exact ih fr2 H2 hd
        | cons d ds => simp only [hd]; exact h1
  exact Ends.goes a g hm (key n fr H a.plain) k
end
end Go.Am
set_option linter.unusedSectionVars false
namespace Go.Am

/-- What the tables say of a slice type whose elements are appended. -/
structure AppTy (P : Program) (t u E : TypeId) (m : Nat) : Prop where
  slice : und P t = some (.slice E)
  arg : ∃ dx, und P u = some dx ∧ isIntD dx = false
  elem : ∃ ie zv, info P E = some ie ∧ (zeroValue E).run P = (fun w => .ok zv w) ∧ 0 < ie.bytes ∧ ie.bytes ≤ 4096 ∧ ie.size = m ∧ zv.cells.size = m
  pos : 0 < m
def appTyOk (P : Program) (t u E m : Nat) : Bool :=
  (match und P t with
    | some (.slice e) => Nat.beq e E
    | _ => false) && (match und P u with
    | some dx => !isIntD dx
    | none => false) && (match info P E, zeroP P E with
    | some ie, some z => Nat.ble ie.bytes 4096 && Nat.blt 0 ie.bytes && Nat.beq ie.size m && Nat.beq z.cells.length m
    | _, _ => false) && Nat.blt 0 m
variable {P : Program} [Orc P] [OrcOk P]
theorem appTy {t u E m : Nat} (h : appTyOk P t u E m = true) : AppTy P t u E m := by
  unfold appTyOk at h
  simp only [Bool.and_eq_true] at h
  obtain ⟨⟨⟨h1, h2⟩, h3⟩, h4⟩ := h
  refine ⟨?_, ?_, ?_, Nat.lt_of_succ_le (Nat.le_of_ble_eq_true h4)⟩
  · split at h1
    · rename_i e he
      rw [he, Nat.eq_of_beq_eq_true h1]
    · cases h1
  · split at h2
    · rename_i dx hdx
      exact ⟨dx, hdx, by simpa using h2⟩
    · cases h2
  · split at h3
    case h_2 => cases h3
    rename_i ie z hi hz
    simp only [Bool.and_eq_true] at h3
    obtain ⟨⟨⟨a1, a2⟩, a3⟩, a4⟩ := h3
    obtain ⟨zv, hzv, rz⟩ := zeroP_all hz (renOf [])
    have hzs := rz.cells.length
    simp only [Array.length_toList] at hzs
    exact ⟨ie, zv, hi, hzv, Nat.lt_of_succ_le (Nat.le_of_ble_eq_true a2), Nat.le_of_ble_eq_true a1, Nat.eq_of_beq_eq_true a3, by rw [hzs, Nat.eq_of_beq_eq_true a4]⟩
/-- The block that a slice lies in. -/
def blockIs (v : Value) (b : Nat) : Prop := ∃ off n cap, v = .slice (some ⟨b, off, none⟩) n cap
/-- A slice of k elements of m cells, in a block of its own from its first cell on; all blocks below a number are others'. -/
def Out (w : World) (n0 : Nat) (E : TypeId) (m : Nat) (v : Value) (cells : List Value) (k : Nat) : Prop :=
  cells.length = k * m ∧ ((v = .slice none 0 0 ∧ k = 0) ∨ ∃ b cap arr, v = .slice (some ⟨b, 0, none⟩) k cap ∧ k ≤ cap ∧ n0 ≤ b ∧ b < w.heap.size ∧ w.heap[b]? = some (.cells arr E) ∧ cap * m ≤ arr.size ∧ ∀ (j : Nat) z, cells[j]? = some z → arr[j]? = some z)
theorem Out.nil (w : World) (n0 : Nat) (E : TypeId) (m : Nat) : Out w n0 E m (.slice none 0 0) [] 0 := ⟨by simp, Or.inl ⟨rfl, rfl⟩⟩
/-- Where a slice's own block stays, it is what it was. -/
theorem Out.keep {w w' : World} {n0 : Nat} {E : TypeId} {m : Nat} {v : Value} {cells : List Value} {k : Nat} (h : Out w n0 E m v cells k) (hs : w.heap.size ≤ w'.heap.size) (hb : ∀ b, blockIs v b → w'.heap[b]? = w.heap[b]?) : Out w' n0 E m v cells k := by
  obtain ⟨h1, h2⟩ := h
  refine ⟨h1, ?_⟩
  rcases h2 with h2 | ⟨b, cap, arr, rfl, q1, q2, q3, q4, q5, q6⟩
  · exact Or.inl h2
  · exact Or.inr ⟨b, cap, arr, rfl, q1, q2, Nat.lt_of_lt_of_le q3 hs, by rw [hb b ⟨_, _, _, rfl⟩]; exact q4, q5, q6⟩
theorem Out.one {w : World} {n0 : Nat} {E : TypeId} {m : Nat} {v : Value} {cells : List Value} {k : Nat} (h : Out w n0 E m v cells k) : v.oneCell' = true := by
  rcases h.2 with ⟨rfl, _⟩ | ⟨b, cap, arr, rfl, _⟩ <;> rfl
theorem out_app {t u E : TypeId} {m : Nat} (ty : AppTy P t u E m) {w : World} {n0 : Nat} {v : Value} {cells : List Value} {k : Nat} (ho : Out w n0 E m v cells k) (hn0 : n0 ≤ w.heap.size) {n : Nat} {x' : Value} {c : Array Value} (hlen : (Builtin.lenOf x').run P w = .ok n w)
    (hf : ∀ w' : World, w'.heap = w.heap → (Builtin.firstCells m n x').run P w' = .ok c w') (hc : c.size = n * m) (hone : ∀ z ∈ c.toList, z.oneCell' = true) (hmost : k + n ≤ most) (a : TypeId) :
    ∃ v' w', (Builtin.append_ #[t, u] a #[v, x']).run P w = .ok v' w' ∧ Out w' n0 E m v' (cells ++ c.toList) (k + n) ∧ w.heap.size ≤ w'.heap.size ∧ (∀ b, b < w.heap.size → ¬ blockIs v b → w'.heap[b]? = w.heap[b]?) ∧ (∀ b, blockIs v' b → blockIs v b ∨ w.heap.size ≤ b) ∧ Still w w' := by
  obtain ⟨ie, zv, hi, hz, hb0, hb1, hsz, hzs⟩ := ty.elem
  obtain ⟨dx, hx, hd⟩ := ty.arg
  have hm := ty.pos
  obtain ⟨hcl, hv⟩ := ho
  have grown : ∀ (base : Option Addr) (sCap : Nat), v = .slice base k sCap → sCap < k + n → (∀ w' : World, w'.heap = w.heap → (Builtin.firstCells m k (.slice base k sCap)).run P w' = .ok cells.toArray w') → ∃ v' w', (Builtin.append_ #[t, u] a #[v, x']).run P w = .ok v' w' ∧ Out w' n0 E m v' (cells ++ c.toList) (k + n) ∧ w.heap.size ≤ w'.heap.size ∧ (∀ b, b < w.heap.size → ¬ blockIs v b → w'.heap[b]? = w.heap[b]?) ∧ (∀ b, blockIs v' b → blockIs v b ∨ w.heap.size ≤ b) ∧ Still w w' := by
    intro base sCap hv hlt hold
    obtain ⟨w', cap, hcap, ⟨hheap, hstl⟩, hrun⟩ := append_more (w := w) (sLen := k) (sCap := sCap) (base := base) ty.slice hx hd hi hz hlen a c cells.toArray hlt hb0 hb1 hmost (by rw [hsz]; exact hf) (by rw [hsz]; exact hold)
    refine ⟨_, w', by rw [hv]; exact hrun, ⟨by simp [hcl, hc, Nat.add_mul], Or.inr ⟨w.heap.size, cap, cells.toArray ++ c ++ Builtin.zeroCells zv.cells (cap - (k + n)), rfl, hcap, hn0, by rw [hheap]; simp, by rw [hheap, Array.getElem?_push, if_pos rfl], ?_, fun j z hj => ?_⟩⟩, by rw [hheap]; simp, fun b hb _ => by rw [hheap, Array.getElem?_push, if_neg (by omega)], fun b ⟨_, _, _, e⟩ => ?_, hstl⟩
    · have hmul := mul_split m hcap
      have hadd : (k + n) * m = k * m + n * m := Nat.add_mul k n m
      have e1 : (cells.toArray ++ c ++ Builtin.zeroCells zv.cells (cap - (k + n))).size = cap * m := by
        simp only [Array.size_append, zeroCells_size, List.size_toArray, hcl, hc, hzs]
        rw [← hadd]
        exact hmul
      rw [e1]
      exact Nat.le_refl _
    · have hj' := (List.getElem?_eq_some_iff.1 hj).1
      simp only [List.length_append, Array.length_toList] at hj'
      rw [Array.getElem?_append_left (by simp; omega), ← Array.getElem?_toList]
      simpa using hj
    · cases e
      exact Or.inr (Nat.le_refl _)
  rcases hv with ⟨rfl, rfl⟩ | ⟨b, cap, arr, rfl, q1, q2, q3, q4, q5, q6⟩
  · have hc0 : cells = [] := List.length_eq_zero_iff.1 (by simpa using hcl)
    by_cases hn : n = 0
    · subst hn
      have := append_head (w := w) (sLen := 0) (sCap := 0) (base := none) ty.slice hx hd hi hlen a c (by rw [hsz]; exact hf w rfl) (by omega)
      have hc1 : c.toList = [] := List.length_eq_zero_iff.1 (by simpa using hc)
      refine ⟨_, w, this, ⟨by simp [hcl, hc1], Or.inl ⟨rfl, rfl⟩⟩, Nat.le_refl _, fun _ _ _ => rfl, fun b h => Or.inl h, Still.refl _⟩
    · refine grown none 0 rfl (by omega) fun w' _ => ?_
      rw [hc0]
      rfl
  · by_cases hfit : k + n ≤ cap
    · have := append_head (w := w) (sLen := k) (sCap := cap) (base := some ⟨b, 0, none⟩) ty.slice hx hd hi hlen a c (by rw [hsz]; exact hf w rfl) hfit
      have hkm : (k + n) * m ≤ cap * m := Nat.mul_le_mul_right m hfit
      have hadd : (k + n) * m = k * m + n * m := Nat.add_mul k n m
      obtain ⟨w', c', r1, r2, r3, r4, r5, r6, r7⟩ := storeCells_run (P := P) b (k * m) c.toList 0 arr E (0, 0) w q4 (by simp only [Array.length_toList, hc]; omega) (fun j hj => by simp) (fun z hz' => hone z hz')
      rw [hsz] at this
      simp only [addr_add, Nat.zero_add] at this r1
      rw [r1] at this
      simp only [Result.andThen_ok] at this
      refine ⟨_, w', this, ⟨by simp [hcl, hc, hadd], Or.inr ⟨b, cap, c', rfl, hfit, q2, by rw [r2]; exact q3, r4, by rw [r5]; exact q5, fun j z hj => ?_⟩⟩, by rw [r2]; exact Nat.le_refl _, fun b' hb' hnb => r3 b' fun e => hnb ⟨0, k, cap, by rw [e]⟩, fun b' ⟨_, _, _, e⟩ => ?_, r7⟩
      · rw [r6 j]
        simp only [Nat.add_zero, Array.length_toList]
        have hj' := (List.getElem?_eq_some_iff.1 hj).1
        simp only [List.length_append, Array.length_toList] at hj'
        by_cases hlo : j < k * m
        · rw [if_neg (by omega)]
          rw [List.getElem?_append_left (by omega)] at hj
          exact q6 j z hj
        · rw [if_pos (by omega)]
          rw [List.getElem?_append_right (by omega), hcl] at hj
          exact hj
      · cases e
        exact Or.inl ⟨_, _, _, rfl⟩
    · refine grown (some ⟨b, 0, none⟩) cap rfl (by omega) fun w' hw' => ?_
      have hr := run_loadCells_list (P := P) w' ⟨b, 0, none⟩ cells (fun j z hj => by
        rw [cell_same hw']
        have := q6 j z hj
        simp only [addr_add, Nat.zero_add]
        rw [cell_of q4]
        exact this)
      rw [hcl] at hr
      simpa [Builtin.firstCells] using hr
end Go.Am
set_option linter.unusedSectionVars false
namespace Go.Am

section
variable {P : Program} {vals : List Value} {w w0 : World} {R : Ending → World → Prop} {f m d : Nat} {g : Func} {B : Code} {K : List AItem} {F : List (Nat × AV)} {i : Int} {c : Frame} {ks : List Frame} {p : Option (Func × AFrame × AHeap)} {es : List Ent} {cs : List CEnt} {more : List Value}
/-- A round's start, in a memory that has grown since the function's start. -/
theorem LoopAt.at0 (hl : Looping P p f m g B K) (l : LoopAt P vals f m B K F d i c) (hes : ∀ e ∈ es, EntOk P (vals ++ .int .i64 i :: more) w0 e) (hcs : ∀ e ∈ cs, CallOk P (vals ++ .int .i64 i :: more) w0 e) (hv : (vals ++ .int .i64 i :: more).length ≤ 1000) (gr : Grows w0 w) :
    @At0 P (orcOf P es cs) (okOf P es cs (vals ++ .int .i64 i :: more) w0 hes hcs) (renOf (vals ++ .int .i64 i :: more)) H0 w (headFr f m B K F d vals.length) c ks := by
  letI : Orc P := orcOf P es cs
  letI : OrcOk P := okOf P es cs (vals ++ .int .i64 i :: more) w0 hes hcs
  have h := l.here hl.plain more
  have hh : RelH P (renOf (vals ++ .int .i64 i :: more)) H0 w := ⟨fun i o ho => by simp [H0, AHeap.get, Tree.get_leaf] at ho, fun i j o o' l l' ho => by simp [H0, AHeap.get, Tree.get_leaf] at ho, fun i hi => renOf_none hv hi, Ren.le.refl _, fun b hb => gr.2 b hb, gr.1,
    (fun i o l ho => by simp [H0, AHeap.get, Tree.get_leaf] at ho), gr.3⟩
  refine ⟨⟨hh, renOf_glob _, ⟨h.fn, h.has, fun _ => h.tmps, fun _ => h.todo, ?_, ?_, ?_⟩, h.kind⟩, h.run, h.plain, h.lone, h.kind⟩
  · rw [h.plain, h.defers]; simp only [RelDefs]
  · rw [h.run]; simp only [RelMode]; exact h.mode
  · rw [h.round]; exact h.lone
end
/-- Every object of a memory is of its own. -/
def Tree.all {α : Type} (f : α → Bool) : Tree α → Bool
  | .leaf => true
  | .node v l r => (match v with
    | some a => f a
    | none => true) && (l.all f && r.all f)
theorem Tree.all_get {α : Type} {f : α → Bool} {a : α} : ∀ {t : Tree α} {n : Nat}, t.all f = true → t.get n = some a → f a = true
  | .leaf, n, _, h => by simp [Tree.get_leaf] at h
  | .node v l r, 0, h, hg => by
    simp only [Tree.get] at hg
    subst hg
    simp only [Tree.all, Bool.and_eq_true] at h
    exact h.1
  | .node v l r, n + 1, h, hg => by
    simp only [Tree.all, Bool.and_eq_true] at h
    simp only [Tree.get] at hg
    cases hb : Nat.beq (Nat.mod n 2) 0 with
    | true => rw [hb, cond_true] at hg; exact Tree.all_get h.2.1 hg
    | false => rw [hb, cond_false] at hg; exact Tree.all_get h.2.2 hg
/-- Past a call at which a run stands. -/
def cutCall (P : Program) [Orc P] (p : AFrame × AHeap) (f : FuncId) (avs : List AV) (m : Option Nat) : Option (AFrame × AHeap) :=
  match stopAt p.1 with
  | some (o, fr1) => match execO P p.2 (evA p.1.tmps) o with
    | some (.enter g bs) => bif Nat.beq g f && AV.sames bs avs then (match fr1.put o.dst (newAV p.2.next m) with
      | some fr2 => some (fr2, bump p.2 (m.getD 1))
      | none => none) else none
    | _ => none
  | none => none
def isApp (op : Op) : Option (TypeId × TypeId × Operand × Operand) :=
  match op with
  | .call c => match c.callee, c.args.toList, c.argTypes.toList with
    | .builtin .append, [a, b], [t, u] => some (t, u, a, b)
    | _, _, _ => none
  | _ => none
/-- Past an append of a known slice of one element, of cells that are told, at which a run stands. -/
def cutPush (p : AFrame × AHeap) (t u : TypeId) (m : Nat) (s : AV) (new : List AV) : Option (AFrame × AHeap) :=
  match stopAt p.1 with
  | some (o, fr1) => match isApp o.op with
    | some (t', u', a, b) => match evA p.1.tmps a, evA p.1.tmps b, fr1.put o.dst (.sym p.2.next) with
      | some s', some x', some fr2 => match appended p.2 m x' with
        | some (n, bs) => bif (Nat.beq t t' && Nat.beq u u') && (AV.same s' s && (Nat.beq n 1 && (AV.sames bs new && p.2.objs.all AObj.own))) then some (fr2, bump p.2 1) else none
        | none => none
      | _, _, _ => none
    | none => none
  | none => none
/-- Past an append of a slice that is not known, at which a run stands. -/
def cutCopy (p : AFrame × AHeap) (t u : TypeId) (s x : AV) : Option (AFrame × AHeap) :=
  match stopAt p.1 with
  | some (o, fr1) => match isApp o.op with
    | some (t', u', a, b) => match evA p.1.tmps a, evA p.1.tmps b, fr1.put o.dst (.sym p.2.next) with
      | some s', some x', some fr2 => bif (Nat.beq t t' && Nat.beq u u') && (AV.same s' s && AV.same x' x) then some (fr2, bump p.2 1) else none
      | _, _, _ => none
    | none => none
  | none => none
section
variable {P : Program} [Orc P] [OrcOk P] {ρ : Ren} {H : AHeap} {w w' : World} {fr : AFrame} {c : Frame} {cs : List Frame} {R : Ending → World → Prop} {q : AFrame × AHeap}
theorem At0.cutCall (a : At0 P ρ H w fr c cs) {f : FuncId} {avs : List AV} {m : Option Nat} (h : Am.cutCall P (fr, H) f avs m = some q)
    {Q : Value → World → Prop} (hc : ∀ args : Array Value, RelL ρ avs args.toList → Calls P f args w fun e w' => ∃ v, e = .returned v ∧ (∃ vs, shape m v vs) ∧ Grows w w' ∧ Q v w')
    (k : ∀ ρ' w' c' v vs, ρ.le ρ' → shape m v vs → Grows w w' → Q v w' → (∀ (i : Nat) z, vs[i]? = some z → ρ' (H.next + i) = some ⟨0, 0, z⟩) → At0 P ρ' q.2 w' q.1 c' cs → c'.fn = c.fn → Ends P c' cs w' R) : Ends P c cs w R := by
  unfold Am.cutCall at h
  split at h
  case h_2 => cases h
  rename_i o fr1 hs
  split at h
  case h_2 => cases h
  rename_i g bs hx
  obtain ⟨hb, h⟩ := cond_some h rfl
  rw [Bool.and_eq_true] at hb
  split at h
  case h_2 => cases h
  rename_i fr2 hp
  cases h
  have e1 := Nat.eq_of_beq_eq_true hb.1
  have e2 := sames_eq _ _ hb.2
  subst e1; subst e2
  refine Ends.handCall a hs hx hp hc fun ρ' w' c' v vs h1 h2 h3 h4 h5 h6 h7 => k ρ' w' c' v vs h1 h2 h3 h4 h5 ?_ h7
  have e3 : vs.length = m.getD 1 := by
    cases m with
    | none => obtain ⟨rfl, _⟩ := h2; rfl
    | some n => exact h2.1
  rw [← e3]
  exact h6
/-- What an append by hand must come to. -/
def AppDoes (P : Program) [Orc P] [OrcOk P] (ρ : Ren) (H : AHeap) (w : World) (t u : TypeId) (s' x' : Value) (q : AFrame × AHeap) (c : Frame) (cs : List Frame) (R : Ending → World → Prop) : Prop :=
  ∀ ty, ∃ v w', (Builtin.append_ #[t, u] ty #[s', x']).run P w = .ok v w' ∧ v.oneCell' = true ∧ w.heap.size ≤ w'.heap.size ∧ (∀ i y l, H.get i = some y → ρ i = some l → w'.heap[l.b]? = w.heap[l.b]?) ∧ (∀ b, OrcOk.keep P b → w'.heap[b]? = w.heap[b]?) ∧ Still w w' ∧
      ∀ ρ' c', ρ.le ρ' → ρ' H.next = some ⟨0, 0, v⟩ → At0 P ρ' q.2 w' q.1 c' cs → c'.fn = c.fn → Ends P c' cs w' R
theorem Ends.handApp {fr1 fr2 : AFrame} {o : Oper} (a : At0 P ρ H w fr c cs) {t u : TypeId} {oa ob : Operand} {s x : AV} (hst : stopAt fr = some (o, fr1)) (hop : isApp o.op = some (t, u, oa, ob)) (hs' : evA fr.tmps oa = some s) (hx' : evA fr.tmps ob = some x) (hp : fr1.put o.dst (.sym H.next) = some fr2)
    (does : ∀ s' x', RelV ρ s s' → RelV ρ x x' → AppDoes P ρ H w t u s' x' (fr2, bump H 1) c cs R) : Ends P c cs w R := by
  have hev := evA_rel (c := c) a.st.glob (a.st.frame.tmps (Dead.not a.run))
  have rs := hev _ _ hs'
  have rx := hev _ _ hx'
  unfold isApp at hop
  split at hop
  case h_2 => cases hop
  rename_i cl hcl
  split at hop
  case h_2 => cases hop
  rename_i a1 b1 t1 u1 k1 k2 k3
  cases hop
  have hrun : ∃ ty, (execOp c.eval o).run P w = ((Builtin.append_ #[t, u] ty #[c.eval oa, c.eval ob]).run P w).andThen fun v w' => .ok (.value v) w' := by
    unfold execOp
    rw [hcl]
    simp only
    unfold resolve
    rw [k1]
    simp only [Sem.run_bind, Sem.run_pure, Result.andThen_ok, invoke]
    unfold builtin
    have z1 : cl.argTypes = #[t, u] := Array.toList_inj.1 (by rw [k3])
    have z2 : cl.args = #[oa, ob] := Array.toList_inj.1 (by rw [k2])
    rw [z1, z2]
    refine ⟨o.type, ?_⟩
    simp only [Sem.run_bind, Sem.run_pure, List.map_toArray, List.map_cons, List.map_nil]
  obtain ⟨ty, hrun⟩ := hrun
  obtain ⟨v, w', r1, r2, r3, r4, r5, r5', r6⟩ := does _ _ rs rx ty
  refine Ends.handVal a hst (fun y => by rw [hcl]; intro e; cases e) hp r2 ?_ r3 r4 r5 r5' r6
  rw [hrun, r1]
  rfl
theorem At0.cutPush (a : At0 P ρ H w fr c cs) {t u : TypeId} {m : Nat} {s : AV} {new : List AV} (h : Am.cutPush (fr, H) t u m s new = some q)
    (does : ∀ s' x' c', RelV ρ s s' → (Builtin.lenOf x').run P w = .ok 1 w → (∀ w' : World, w'.heap = w.heap → (Builtin.firstCells m 1 x').run P w' = .ok c' w') → RelL ρ new c'.toList → c'.size = 1 * m → (∀ i y, H.get i = some y → y.own = true) → AppDoes P ρ H w t u s' x' q c cs R) : Ends P c cs w R := by
  unfold Am.cutPush at h
  split at h
  case h_2 => cases h
  rename_i o fr1 hst
  split at h
  case h_2 => cases h
  rename_i t' u' oa ob hop
  split at h
  case h_2 => cases h
  rename_i s' x' fr2 hs' hx' hp
  split at h
  case h_2 => cases h
  rename_i n bs hb
  obtain ⟨hc, hq⟩ := cond_some h rfl
  clear h
  simp only [Bool.and_eq_true] at hc
  obtain ⟨⟨n1, n2⟩, n3, n4, n5, n6⟩ := hc
  have e1 := Nat.eq_of_beq_eq_true n1
  have e2 := Nat.eq_of_beq_eq_true n2
  have e3 := same_eq _ _ n3
  have e4 := Nat.eq_of_beq_eq_true n4
  have e5 := sames_eq _ _ n5
  subst e1; subst e2; subst e3; subst e4; subst e5
  cases hq
  refine Ends.handApp a hst hop hs' hx' hp fun s2 x2 rs rx => ?_
  obtain ⟨g1, c', g2, g3, g4⟩ := appended_rel a.st.heap rx hb
  have g5 := g3.length
  simp only [Array.length_toList] at g5
  exact does s2 x2 c' rs g1 g2 g3 (by rw [g5, g4]) fun i y hy => Tree.all_get n6 hy
theorem At0.cutCopy (a : At0 P ρ H w fr c cs) {t u : TypeId} {s x : AV} (h : Am.cutCopy (fr, H) t u s x = some q)
    (does : ∀ s' x', RelV ρ s s' → RelV ρ x x' → AppDoes P ρ H w t u s' x' q c cs R) : Ends P c cs w R := by
  unfold Am.cutCopy at h
  split at h
  case h_2 => cases h
  rename_i o fr1 hst
  split at h
  case h_2 => cases h
  rename_i t' u' oa ob hop
  split at h
  case h_2 => cases h
  rename_i s' x' fr2 hs' hx' hp
  obtain ⟨hc, hq⟩ := cond_some h rfl
  clear h
  simp only [Bool.and_eq_true] at hc
  obtain ⟨⟨n1, n2⟩, n3, n4⟩ := hc
  have e1 := Nat.eq_of_beq_eq_true n1
  have e2 := Nat.eq_of_beq_eq_true n2
  have e3 := same_eq _ _ n3
  have e4 := same_eq _ _ n4
  subst e1; subst e2; subst e3; subst e4
  cases hq
  exact Ends.handApp a hst hop hs' hx' hp does
end
end Go.Am
