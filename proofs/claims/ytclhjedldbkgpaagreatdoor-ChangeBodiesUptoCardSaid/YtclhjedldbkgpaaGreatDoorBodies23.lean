/-
  Part 23 of the proof that winch/winchlaw25.ChangeBodies returns true for every two bodies of small bulk: lemmas.
  Conditions: none beyond each theorem's own premises.
  What lies here:
  The reference's clone of lists of statements.
  The reference's clone of lists of rungs.
  Cuts of three kinds more: a call on a slice of the run's own, the place of an element and the load of a row that are symbols.
  The reference's clone of a chart: facts of its loops.
-/
import Derived.Test.YtclhjedldbkgpaaGreatDoorBodies22
set_option linter.unusedVariables false
set_option linter.unusedSimpArgs false
set_option linter.unusedSectionVars false
namespace Go.Am
open Go.Proofs
abbrev F15s : List (Nat × AV) := [(0, .sym 1000)]
noncomputable def q15s : Option (Func × AFrame × AHeap) := @enterCuts Tryz.prog (orcOf Tryz.prog [] []) 15 [.sym 1000] []
theorem lf15s : LoopFacts q15s 1001 4 3 0 F15s := ⟨by kernel_rfl, by kernel_rfl, by kernel_rfl⟩
abbrev es15s : List Ent := ent5 22 77 10 0 2 3 4 5 6
abbrev end15s : List Ent := ent2 22 0 2 3
theorem ty22s : appTyOk Tryz.prog 22 22 77 10 = true := by kernel_rfl
def cuts15s : List Cut := [.copy 55 55 .nilslice (.sym 1009) 2001, .call 35 [.sym 1008] none 2002, .call 35 [.sym 1010] none 2003, .call 15 [.sym 1012] none 2004, .call 15 [.sym 1014] none 2005]
noncomputable def i15s : Option (Func × AFrame × AHeap) := @roundCutsH Tryz.prog (orcOf Tryz.prog es15s []) q15s ((3, .sym 1001) :: F15s) 4 2 cuts15s
abbrev FI15s : List (Nat × AV) := [(0, .sym 1000), (3, .sym 1001), (4, .sym 1002), (5, .ptr 2000 0)]
theorem lfi15s : LoopFacts i15s 1016 8 7 6 FI15s := ⟨by kernel_rfl, by kernel_rfl, by kernel_rfl⟩
abbrev es15b : List Ent := ent5 75 80 3 13 17 18 19 20 21
def cuts15b : List Cut := [.copy 64 64 .nilslice (.sym 1022) 2007, .call 35 [.sym 1021] none 2008, .call 15 [.sym 1023] none 2009, .push 75 75 3 (.sym 1016) [.sym 2008, .sym 2007, .sym 2009] 2011]
noncomputable def r15b : Option (Func × AFrame × AHeap) := @roundCutsH Tryz.prog (orcOf Tryz.prog es15b []) i15s ((7, .sym 1016) :: FI15s) 8 17 cuts15b
theorem rf15b : RoundFacts i15s r15b 8 7 6 1020 2011 FI15s := ⟨by kernel_rfl, by kernel_rfl, by kernel_rfl⟩
theorem ty75s : appTyOk Tryz.prog 75 75 80 3 = true := by kernel_rfl
abbrev end15b : List Ent := ent3 75 13 17 18 2 5
def cuts15c : List Cut := [.push 22 22 10 (.sym 1001) [.sym 1006, .sym 1007, .sym 2002, .sym 2001, .sym 2003, .sym 1011, .sym 2004, .sym 1016, .sym 2005, .sym 1015] 2007]
noncomputable def r15s : Option (Func × AFrame × AHeap) := @roundCutsH Tryz.prog (orcOf Tryz.prog end15b []) i15s ((7, .sym 1016) :: FI15s) 8 17 cuts15c
theorem rf15s : RoundFacts q15s r15s 4 3 0 1005 2007 F15s := ⟨by kernel_rfl, by kernel_rfl, by kernel_rfl⟩
noncomputable def e15s : Option (Func × AFrame × AHeap) := @roundCutsH Tryz.prog (orcOf Tryz.prog end15s []) q15s ((3, .sym 1001) :: F15s) 4 2 []
theorem stop15s : @retOf? Tryz.prog (orcOf Tryz.prog end15s []) e15s = some (.sym 1001) := by kernel_rfl
theorem k15 : ∀ (n : Nat) {x : List T}, SizeOf.sizeOf x < n → fitsL x → x.length < big → Clone1 Tryz.prog tab 15 22 x := by
  intro n
  induction n with
  | zero => intro x h; omega
  | succ n ih =>
    intro x hs hf hx
    intro w v hv
    have sx := seq_slice hv
    have hu : und Tryz.prog 22 = some (.slice 77) := by kernel_rfl
    have ha : aggP Tryz.prog 77 = some true := by kernel_rfl
    have hz : sizeP Tryz.prog 77 = some 10 := by kernel_rfl
    have hu' : und Tryz.prog 75 = some (.slice 80) := by kernel_rfl
    have ha' : aggP Tryz.prog 80 = some true := by kernel_rfl
    have hz' : sizeP Tryz.prog 80 = some 3 := by kernel_rfl
    obtain ⟨x0, hx0⟩ := head_some lf15s.head
    have hes : ∀ e ∈ ([] : List Ent), EntOk Tryz.prog [v] w e := fun _ h => by cases h
    have hcs : ∀ e ∈ ([] : List CEnt), CallOk Tryz.prog ([v]) w e := fun _ h => by cases h
    letI : Orc Tryz.prog := orcOf Tryz.prog [] []
    letI : OrcOk Tryz.prog := okOf Tryz.prog [] [] _ w hes hcs
    refine Calls.sit (tb := tab) (V := [v]) (es := []) (cs := []) hes hcs (by simp) hx0 (by
      simp only [RelL]
      exact ⟨_, _, rfl, sym_rel (k := 0) rfl (slice_one sx), rfl⟩) fun ks c b hcut hg S => ?_
    simp only [runCuts, Option.some.injEq] at hcut
    refine S.seg mixes 600 fun ρ7 w7 c7 e7 S7 => ?_
    rw [hcut] at S7
    refine S7.loop hx0 hg lf15s rfl (by simp) (fun q hq => absurd hq List.not_mem_nil) 77 10 fun B K hl _ c8 h8 => ?_
    refine Ends.each (N := x.length) (A := fun i w' c => ∃ out, Head Tryz.prog w tab [v] (heapOf q15s) F15s [] [] 3 ⟨out, 77, 10, x.take i⟩ 4 (i : Nat) 15 x0.2.1.n B K (ρ7.only [v]) w' c) (fun i w2 c2 hlt ⟨out, h⟩ next => ?_) (fun w2 c2 ⟨out, h⟩ => ?_) ⟨_, h8⟩
    · obtain ⟨b, off, cap, ys, us, p1, p2, p3, _, p4, p5, p6⟩ := seq_at (E := 77) rfl hv (List.getElem?_eq_getElem hlt)
      have hxi : x[i]? = some (.row ys) := by rw [List.getElem?_eq_getElem hlt, p4]
      have lu : us.length = 10 := p5.len.1
      obtain ⟨z3, y3, f3, g3, h3⟩ := p5.at 3 55 rfl
      obtain ⟨l3, rfl⟩ := rd_seq h3 rfl
      obtain ⟨s3, b3, t3⟩ := sub_at (n := n) (by omega) hf hxi _ _ g3
      obtain ⟨z2, y2, f2, g2, h2⟩ := p5.at 2 74 rfl
      obtain ⟨l2, rfl⟩ := rd_seq h2 rfl
      obtain ⟨s2, b2, t2⟩ := sub_at (n := n) (by omega) hf hxi _ _ g2
      obtain ⟨z4, y4, f4, g4, h4⟩ := p5.at 4 74 rfl
      obtain ⟨l4, rfl⟩ := rd_seq h4 rfl
      obtain ⟨s4, b4, t4⟩ := sub_at (n := n) (by omega) hf hxi _ _ g4
      obtain ⟨z6, y6, f6, g6, h6⟩ := p5.at 6 22 rfl
      obtain ⟨l6, rfl⟩ := rd_seq h6 rfl
      obtain ⟨s6, b6, t6⟩ := sub_at (n := n) (by omega) hf hxi _ _ g6
      obtain ⟨z8, y8, f8, g8, h8⟩ := p5.at 8 22 rfl
      obtain ⟨l8, rfl⟩ := rd_seq h8 rfl
      obtain ⟨s8, b8, t8⟩ := sub_at (n := n) (by omega) hf hxi _ _ g8
      obtain ⟨z7, y7, f7, g7, h7⟩ := p5.at 7 75 rfl
      obtain ⟨l7, rfl⟩ := rd_seq h7 rfl
      obtain ⟨s7, b7, t7⟩ := sub_at (n := n) (by omega) hf hxi _ _ g7
      have P1 : ∀ (j : Nat) z, us[j]? = some z → ([v] ++ (out :: Value.int .i64 (i : Nat) :: ([.int .i64 x.length, .pointer (some ⟨b, off + i * 10, none⟩), .int .i64 ((i + 1 : Nat) : Int)] ++ us)))[6 + j]? = some z := fun j z h => by rw [show 6 + j = j + 6 by omega]; exact h
      have hes := ent5Ok (P := Tryz.prog) (W := w) (V := [v] ++ (out :: Value.int .i64 (i : Nat) :: ([.int .i64 x.length, .pointer (some ⟨b, off + i * 10, none⟩), .int .i64 ((i + 1 : Nat) : Int)] ++ us))) hu ha hz (by decide) sx hlt hx p1 p2 p3 lu p5.ones p6 0 2 3 4 5 6 rfl rfl rfl rfl rfl P1
      have hcs : ∀ e ∈ ([] : List CEnt), CallOk Tryz.prog ([v] ++ (out :: Value.int .i64 (i : Nat) :: ([.int .i64 x.length, .pointer (some ⟨b, off + i * 10, none⟩), .int .i64 ((i + 1 : Nat) : Int)] ++ us))) w e := fun _ h => by cases h
      letI : Orc Tryz.prog := orcOf Tryz.prog es15s []
      letI : OrcOk Tryz.prog := okOf Tryz.prog es15s [] _ w hes hcs
      obtain ⟨q0, S⟩ := Head.sit (es := es15s) (cs := []) (ks := ks) hl.plain h hes hcs (by simp [lu])
      simp only [List.length_singleton, Nat.reduceAdd] at S
      obtain ⟨y0, hr⟩ := head_some lfi15s.head
      obtain ⟨hcut, hgg⟩ := hl.cutsH _ hr
      have hn := runCuts_n hcut
      obtain ⟨r1, ka1, hcut⟩ := runCuts_cons hcut
      obtain ⟨r2, ka2, hcut⟩ := runCuts_cons hcut
      obtain ⟨r3, ka3, hcut⟩ := runCuts_cons hcut
      obtain ⟨r4, ka4, hcut⟩ := runCuts_cons hcut
      obtain ⟨r5, ka5, hcut⟩ := runCuts_cons hcut
      obtain ⟨na1, ka1⟩ := cut_copy ka1
      try dsimp only at na1 ka1
      obtain ⟨na2, ka2⟩ := cut_call ka2
      try dsimp only at na2 ka2
      obtain ⟨na3, ka3⟩ := cut_call ka3
      try dsimp only at na3 ka3
      obtain ⟨na4, ka4⟩ := cut_call ka4
      try dsimp only at na4 ka4
      obtain ⟨na5, ka5⟩ := cut_call ka5
      try dsimp only at na5 ka5
      simp only [runCuts, Option.some.injEq] at hcut
      refine S.seg mixes 600 fun ρS1 wS1 cS1 e1 S1 => ?_
      refine S1.copy ka1 (appTy cp55) (S1.base _ _ (renOf_sym (k := 9) (P1 3 _ f3))) (h3.grows S1.since) rfl rfl (by decide) (small_most b3) fun ρS1x wS1x cS1x ua3 eS1x S1x => ?_
      rw [na1] at S1x
      refine S1x.seg mixes 600 fun ρS1xy wS1xy cS1xy eS1xy S1xy => ?_
      refine S1xy.call ka2 (S1xy.base _ _ (renOf_sym (k := 8) (P1 2 _ f2))) (h2.grows S1xy.since) (k35 n s2 t2 b2) fun ρS1xyx wS1xyx cS1xyx ua2 eS1xyx S1xyx => ?_
      rw [na2] at S1xyx
      refine S1xyx.seg mixes 600 fun ρS1xyxy wS1xyxy cS1xyxy eS1xyxy S1xyxy => ?_
      refine S1xyxy.call ka3 (S1xyxy.base _ _ (renOf_sym (k := 10) (P1 4 _ f4))) (h4.grows S1xyxy.since) (k35 n s4 t4 b4) fun ρS1xyxyx wS1xyxyx cS1xyxyx ua4 eS1xyxyx S1xyxyx => ?_
      rw [na3] at S1xyxyx
      refine S1xyxyx.seg mixes 600 fun ρS1xyxyxy wS1xyxyxy cS1xyxyxy eS1xyxyxy S1xyxyxy => ?_
      refine S1xyxyxy.call ka4 (S1xyxyxy.base _ _ (renOf_sym (k := 12) (P1 6 _ f6))) (h6.grows S1xyxyxy.since) (ih s6 t6 b6) fun ρS1xyxyxyx wS1xyxyxyx cS1xyxyxyx ua6 eS1xyxyxyx S1xyxyxyx => ?_
      rw [na4] at S1xyxyxyx
      refine S1xyxyxyx.seg mixes 600 fun ρS1xyxyxyxy wS1xyxyxyxy cS1xyxyxyxy eS1xyxyxyxy S1xyxyxyxy => ?_
      refine S1xyxyxyxy.call ka5 (S1xyxyxyxy.base _ _ (renOf_sym (k := 14) (P1 8 _ f8))) (h8.grows S1xyxyxyxy.since) (ih s8 t8 b8) fun ρS1xyxyxyxyx wS1xyxyxyxyx cS1xyxyxyxyx ua8 eS1xyxyxyxyx S1xyxyxyxyx => ?_
      rw [na5] at S1xyxyxyxyx
      refine S1xyxyxyxyx.seg mixes 600 fun ρS1xyxyxyxyxy wS1xyxyxyxyxy cS1xyxyxyxyxy eS1xyxyxyxyxy S1xyxyxyxyxy => ?_
      rw [hcut] at S1xyxyxyxyxy
      refine S1xyxyxyxyxy.loop hr (by rw [hgg]; exact hg) lfi15s (by simp [lu]) (by simp [lu]) (by
        intro q hq
        simp only [List.mem_cons, List.not_mem_nil, or_false] at hq
        rcases hq with rfl | rfl | rfl | rfl | rfl <;> rfl) 80 3 fun B' K' hl' _ c9 h9 => ?_
      have le0 := Head.only h (more := out :: Value.int .i64 (i : Nat) :: ([.int .i64 x.length, .pointer (some ⟨b, off + i * 10, none⟩), .int .i64 ((i + 1 : Nat) : Int)] ++ us)) (q0.trans (e1.trans (eS1x.trans (eS1xy.trans (eS1xyx.trans (eS1xyxy.trans (eS1xyxyx.trans (eS1xyxyxy.trans (eS1xyxyxyx.trans (eS1xyxyxyxy.trans (eS1xyxyxyxyx.trans eS1xyxyxyxyxy)))))))))))
      have sx' := seq_slice h7
      refine Ends.each (N := l7.length) (A := fun k w' c => ∃ out', Head Tryz.prog w tab ([v] ++ (out :: Value.int .i64 (i : Nat) :: ([.int .i64 x.length, .pointer (some ⟨b, off + i * 10, none⟩), .int .i64 ((i + 1 : Nat) : Int)] ++ us))) (heapOf i15s) FI15s [⟨2005, ua8, .seq l8, 22⟩, ⟨2004, ua6, .seq l6, 22⟩, ⟨2003, ua4, .seq l4, 74⟩, ⟨2002, ua2, .seq l2, 74⟩, ⟨2001, ua3, .seq l3, 55⟩] [⟨out, 77, 10, x.take i⟩] 7 ⟨out', 80, 3, l7.take k⟩ 8 (k : Nat) 15 y0.2.1.n B' K' (ρS1xyxyxyxyxy.only ([v] ++ (out :: Value.int .i64 (i : Nat) :: ([.int .i64 x.length, .pointer (some ⟨b, off + i * 10, none⟩), .int .i64 ((i + 1 : Nat) : Int)] ++ us)))) w' c) (fun k w3 c3 hlt' ⟨out', h'⟩ next' => ?_) (fun w3 c3 ⟨out', h'⟩ => ?_) ⟨_, h9⟩
      · obtain ⟨b', off', cap', ys', us', p1', p2', p3', _, p4', p5', p6'⟩ := seq_at (E := 80) rfl h7 (List.getElem?_eq_getElem hlt')
        have hxi' : l7[k]? = some (.row ys') := by rw [List.getElem?_eq_getElem hlt', p4']
        have lu' : us'.length = 3 := p5'.len.1
        obtain ⟨z1', y1', f1', g1', h1'⟩ := p5'.at 1 64 rfl
        obtain ⟨l1', rfl⟩ := rd_seq h1' rfl
        obtain ⟨s1', b1', t1'⟩ := sub_at (n := n) (by omega) t7 hxi' _ _ g1'
        obtain ⟨z0', y0', f0', g0', h0'⟩ := p5'.at 0 74 rfl
        obtain ⟨l0', rfl⟩ := rd_seq h0' rfl
        obtain ⟨s0', b0', t0'⟩ := sub_at (n := n) (by omega) t7 hxi' _ _ g0'
        obtain ⟨z2', y2', f2', g2', h2'⟩ := p5'.at 2 22 rfl
        obtain ⟨l2', rfl⟩ := rd_seq h2' rfl
        obtain ⟨s2', b2', t2'⟩ := sub_at (n := n) (by omega) t7 hxi' _ _ g2'
        have P0' : ∀ (j : Nat) {more : List Value}, (([v] ++ (out :: Value.int .i64 (i : Nat) :: ([.int .i64 x.length, .pointer (some ⟨b, off + i * 10, none⟩), .int .i64 ((i + 1 : Nat) : Int)] ++ us))) ++ more)[16 + j]? = more[j]? := fun j more => at_app (by simp [lu])
        have P1' : ∀ (j : Nat) z, us'[j]? = some z → (([v] ++ (out :: Value.int .i64 (i : Nat) :: ([.int .i64 x.length, .pointer (some ⟨b, off + i * 10, none⟩), .int .i64 ((i + 1 : Nat) : Int)] ++ us))) ++ (out' :: Value.int .i64 (k : Nat) :: ([.int .i64 l7.length, .pointer (some ⟨b', off' + k * 3, none⟩), .int .i64 ((k + 1 : Nat) : Int)] ++ us')))[21 + j]? = some z := fun j z h => by rw [show 21 + j = 16 + (5 + j) by omega, P0', show 5 + j = j + 5 by omega]; exact h
        have hes := ent5Ok (P := Tryz.prog) (W := w) (V := ([v] ++ (out :: Value.int .i64 (i : Nat) :: ([.int .i64 x.length, .pointer (some ⟨b, off + i * 10, none⟩), .int .i64 ((i + 1 : Nat) : Int)] ++ us))) ++ (out' :: Value.int .i64 (k : Nat) :: ([.int .i64 l7.length, .pointer (some ⟨b', off' + k * 3, none⟩), .int .i64 ((k + 1 : Nat) : Int)] ++ us'))) hu' ha' hz' (by decide) sx' hlt' b7 p1' p2' p3' lu' p5'.ones p6' 13 17 18 19 20 21 (at_left (P1 7 _ f7)) (P0' 1) (P0' 2) (P0' 3) (P0' 4) P1'
        have hcs : ∀ e ∈ ([] : List CEnt), CallOk Tryz.prog (([v] ++ (out :: Value.int .i64 (i : Nat) :: ([.int .i64 x.length, .pointer (some ⟨b, off + i * 10, none⟩), .int .i64 ((i + 1 : Nat) : Int)] ++ us))) ++ (out' :: Value.int .i64 (k : Nat) :: ([.int .i64 l7.length, .pointer (some ⟨b', off' + k * 3, none⟩), .int .i64 ((k + 1 : Nat) : Int)] ++ us'))) w e := fun _ h => by cases h
        letI : Orc Tryz.prog := orcOf Tryz.prog es15b []
        letI : OrcOk Tryz.prog := okOf Tryz.prog es15b [] _ w hes hcs
        obtain ⟨q0', S⟩ := Head.sit (es := es15b) (cs := []) (ks := ks) hl'.plain h' hes hcs (by simp [lu, lu'])
        simp only [show ([v] ++ (out :: Value.int .i64 (i : Nat) :: ([.int .i64 x.length, .pointer (some ⟨b, off + i * 10, none⟩), .int .i64 ((i + 1 : Nat) : Int)] ++ us))).length = 16 by simp [lu], Nat.reduceAdd] at S
        obtain ⟨y1, hr1, _⟩ := round_some hl' rf15b.todo
        obtain ⟨hcut, _⟩ := hl'.cutsH _ hr1
        have hn1 := runCuts_n hcut
        obtain ⟨r1, kb1, hcut⟩ := runCuts_cons hcut
        obtain ⟨r2, kb2, hcut⟩ := runCuts_cons hcut
        obtain ⟨r3, kb3, hcut⟩ := runCuts_cons hcut
        obtain ⟨r4, kb4, hcut⟩ := runCuts_cons hcut
        obtain ⟨nb1, kb1⟩ := cut_copy kb1
        try dsimp only at nb1 kb1
        obtain ⟨nb2, kb2⟩ := cut_call kb2
        try dsimp only at nb2 kb2
        obtain ⟨nb3, kb3⟩ := cut_call kb3
        try dsimp only at nb3 kb3
        obtain ⟨nb4, kb4⟩ := cut_push kb4
        try dsimp only at nb4 kb4
        simp only [runCuts, Option.some.injEq] at hcut
        refine S.seg mixes 600 fun ρS1 wS1 cS1 e1 S1 => ?_
        refine S1.copy kb1 (appTy cp64) (S1.base _ _ (renOf_sym (k := 22) (P1' 1 _ f1'))) (h1'.grows S1.since) rfl rfl (by decide) (small_most b1') fun ρS1x wS1x cS1x ub1 eS1x S1x => ?_
        rw [nb1] at S1x
        refine S1x.seg mixes 600 fun ρS1xy wS1xy cS1xy eS1xy S1xy => ?_
        refine S1xy.call kb2 (S1xy.base _ _ (renOf_sym (k := 21) (P1' 0 _ f0'))) (h0'.grows S1xy.since) (k35 n s0' t0' b0') fun ρS1xyx wS1xyx cS1xyx ub0 eS1xyx S1xyx => ?_
        rw [nb2] at S1xyx
        refine S1xyx.seg mixes 600 fun ρS1xyxy wS1xyxy cS1xyxy eS1xyxy S1xyxy => ?_
        refine S1xyxy.call kb3 (S1xyxy.base _ _ (renOf_sym (k := 23) (P1' 2 _ f2'))) (h2'.grows S1xyxy.since) (ih s2' t2' b2') fun ρS1xyxyx wS1xyxyx cS1xyxyx ub2 eS1xyxyx S1xyxyx => ?_
        rw [nb3] at S1xyxyx
        refine S1xyxyx.seg mixes 600 fun ρS1xyxyxy wS1xyxyxy cS1xyxyxy eS1xyxyxy S1xyxyxy => ?_
        have hrow : rowIs tab [⟨2009, ub2, .seq l2', 22⟩, ⟨2008, ub0, .seq l0', 74⟩, ⟨2007, ub1, .seq l1', 64⟩, ⟨2005, ua8, .seq l8, 22⟩, ⟨2004, ua6, .seq l6, 22⟩, ⟨2003, ua4, .seq l4, 74⟩, ⟨2002, ua2, .seq l2, 74⟩, ⟨2001, ua3, .seq l3, 55⟩] 21 (tab.flat 80) ys' [.sym 2008, .sym 2007, .sym 2009] := by
          have hv' := p5'
          simp only [tab, RdVals] at hv'
          obtain ⟨_, _, e0, _, _, rfl, _, _, _, e1, _, _, rfl, _, _, _, e2, _, _, rfl, _, _, rfl⟩ := hv'
          simp only [List.getElem?_cons_succ, List.getElem?_cons_zero, Option.some.injEq] at g0' g1' g2'
          subst g0' g1' g2'
          exact ⟨_, _, _, _, rfl, rfl, Or.inr ⟨_, List.mem_of_getElem? (i := 1) rfl, rfl, rfl, rfl⟩, _, _, _, _, rfl, rfl, Or.inr ⟨_, List.mem_of_getElem? (i := 2) rfl, rfl, rfl, rfl⟩, _, _, _, _, rfl, rfl, Or.inr ⟨_, List.mem_of_getElem? (i := 0) rfl, rfl, rfl, rfl⟩, rfl, rfl⟩
        refine S1xyxyxy.push kb4 (appTy ty75s) (S1xyxyxy.base _ _ (renOf_sym (k := 16) (P0' 0))) (take_small b7 k) (row := ys') (S1xyxyxy.row (b0 := 21) hrow p5' P1') fun ρ4 w4 c4 out2 e4 m4 mo S4 => ?_
        rw [nb4] at m4
        refine S4.seg mixes 600 fun ρ5 w5 c5 e5 S5 => ?_
        rw [hcut] at S5
        refine S5.round h' hl' hr1 rf15b lfi15s (q0'.trans (e1.trans (eS1x.trans (eS1xy.trans (eS1xyx.trans (eS1xyxy.trans (eS1xyxyx.trans (eS1xyxyxy.trans (e4.trans e5))))))))) hn1 (S5.base _ _ (renOf_sym (k := 20) (P0' 4))) (e5 _ _ m4) mo (fun q hq => (List.mem_cons_of_mem _ (List.mem_cons_of_mem _ (List.mem_cons_of_mem _ hq)))) fun c6 h6 => next' w5 c6 ⟨out2, ?_⟩
        rw [take_next hxi']
        exact h6
      · have P0' : ∀ (j : Nat) {more : List Value}, (([v] ++ (out :: Value.int .i64 (i : Nat) :: ([.int .i64 x.length, .pointer (some ⟨b, off + i * 10, none⟩), .int .i64 ((i + 1 : Nat) : Int)] ++ us))) ++ more)[16 + j]? = more[j]? := fun j more => at_app (by simp [lu])
        have hes := ent3Ok (P := Tryz.prog) (W := w) (V := ([v] ++ (out :: Value.int .i64 (i : Nat) :: ([.int .i64 x.length, .pointer (some ⟨b, off + i * 10, none⟩), .int .i64 ((i + 1 : Nat) : Int)] ++ us))) ++ (out' :: Value.int .i64 (l7.length : Nat) :: [.int .i64 l7.length])) (k := i) hu' sx' 13 17 18 2 5 (at_left (P1 7 _ f7)) (P0' 1) (P0' 2) (by have := lift hx; omega) (at_left rfl) (at_left rfl)
        have hcs : ∀ e ∈ ([] : List CEnt), CallOk Tryz.prog (([v] ++ (out :: Value.int .i64 (i : Nat) :: ([.int .i64 x.length, .pointer (some ⟨b, off + i * 10, none⟩), .int .i64 ((i + 1 : Nat) : Int)] ++ us))) ++ (out' :: Value.int .i64 (l7.length : Nat) :: [.int .i64 l7.length])) w e := fun _ h => by cases h
        letI : Orc Tryz.prog := orcOf Tryz.prog end15b []
        letI : OrcOk Tryz.prog := okOf Tryz.prog end15b [] _ w hes hcs
        obtain ⟨q0', S⟩ := Head.sit (es := end15b) (cs := []) (ks := ks) hl'.plain h' hes hcs (by simp [lu])
        simp only [show ([v] ++ (out :: Value.int .i64 (i : Nat) :: ([.int .i64 x.length, .pointer (some ⟨b, off + i * 10, none⟩), .int .i64 ((i + 1 : Nat) : Int)] ++ us))).length = 16 by simp [lu], Nat.reduceAdd] at S
        obtain ⟨y1, hr1, _⟩ := round_some hl rf15s.todo
        obtain ⟨hcut, _⟩ := hl'.cutsH _ hr1
        have hn1 := runCuts_n hcut
        obtain ⟨r1, kc1, hcut⟩ := runCuts_cons hcut
        obtain ⟨nc1, kc1⟩ := cut_push kc1
        try dsimp only at nc1 kc1
        simp only [runCuts, Option.some.injEq] at hcut
        refine S.seg mixes 600 fun ρS1 wS1 cS1 e1 S1 => ?_
        have S2 := S1.close (j := 1016) (t := 75) (S1.base _ _ (renOf_sym (k := 16) (P0' 0))) rfl rfl (Nat.succ_pos 2)
        have hrow : rowIs tab [⟨1016, out', .seq (l7.take l7.length), 75⟩, ⟨2005, ua8, .seq l8, 22⟩, ⟨2004, ua6, .seq l6, 22⟩, ⟨2003, ua4, .seq l4, 74⟩, ⟨2002, ua2, .seq l2, 74⟩, ⟨2001, ua3, .seq l3, 55⟩] 6 (tab.flat 77) ys [.sym 1006, .sym 1007, .sym 2002, .sym 2001, .sym 2003, .sym 1011, .sym 2004, .sym 1016, .sym 2005, .sym 1015] := by
          have hv' := p5
          simp only [tab, RdVals] at hv'
          obtain ⟨_, _, e0, _, _, rfl, _, _, _, e1, _, _, rfl, _, _, _, e2, _, _, rfl, _, _, _, e3, _, _, rfl, _, _, _, e4, _, _, rfl, _, _, _, e5, _, _, rfl, _, _, _, e6, _, _, rfl, _, _, _, e7, _, _, rfl, _, _, _, e8, _, _, rfl, _, _, _, e9, _, _, rfl, _, _, rfl⟩ := hv'
          simp only [List.getElem?_cons_succ, List.getElem?_cons_zero, Option.some.injEq] at g2 g3 g4 g6 g7 g8
          subst g2 g3 g4 g6 g7 g8
          rw [List.take_length]
          exact ⟨_, _, _, _, rfl, rfl, Or.inl ⟨rfl, rfl⟩, _, _, _, _, rfl, rfl, Or.inl ⟨rfl, rfl⟩, _, _, _, _, rfl, rfl, Or.inr ⟨_, List.mem_of_getElem? (i := 4) rfl, rfl, rfl, rfl⟩, _, _, _, _, rfl, rfl, Or.inr ⟨_, List.mem_of_getElem? (i := 5) rfl, rfl, rfl, rfl⟩, _, _, _, _, rfl, rfl, Or.inr ⟨_, List.mem_of_getElem? (i := 3) rfl, rfl, rfl, rfl⟩, _, _, _, _, rfl, rfl, Or.inl ⟨rfl, rfl⟩, _, _, _, _, rfl, rfl, Or.inr ⟨_, List.mem_of_getElem? (i := 2) rfl, rfl, rfl, rfl⟩, _, _, _, _, rfl, rfl, Or.inr ⟨_, List.mem_of_getElem? (i := 0) rfl, rfl, rfl, rfl⟩, _, _, _, _, rfl, rfl, Or.inr ⟨_, List.mem_of_getElem? (i := 1) rfl, rfl, rfl, rfl⟩, _, _, _, _, rfl, rfl, Or.inl ⟨rfl, rfl⟩, rfl, rfl⟩
        refine S2.push kc1 (appTy ty22s) (S2.base _ _ (renOf_sym (k := 1) (at_left rfl))) (take_small hx i) (row := ys) (S2.row (b0 := 6) hrow p5 (fun j z h => at_left (P1 j z h))) fun ρ4 w4 c4 out2 e4 m4 mo S4 => ?_
        rw [nc1] at m4
        refine S4.seg mixes 600 fun ρ5 w5 c5 e5 S5 => ?_
        rw [hcut] at S5
        refine S5.round h hl hr1 rf15s lf15s (le0.trans (q0'.trans (e1.trans (e4.trans e5)))) (hn1.trans hn) (S5.base _ _ (renOf_sym (k := 5) (at_left rfl))) (e5 _ _ m4) mo (fun q hq => absurd hq List.not_mem_nil) fun c6 h6 => next w5 c6 ⟨out2, ?_⟩
        rw [take_next hxi]
        exact h6
    · have hes := ent2Ok (P := Tryz.prog) (W := w) (V := [v] ++ (out :: Value.int .i64 (x.length : Nat) :: [.int .i64 x.length])) hu sx 0 2 3 rfl rfl rfl
      have hcs : ∀ e ∈ ([] : List CEnt), CallOk Tryz.prog ([v] ++ (out :: Value.int .i64 (x.length : Nat) :: [.int .i64 x.length])) w e := fun _ h => by cases h
      letI : Orc Tryz.prog := orcOf Tryz.prog end15s []
      letI : OrcOk Tryz.prog := okOf Tryz.prog end15s [] _ w hes hcs
      obtain ⟨q0, S⟩ := Head.sit (es := end15s) (cs := []) (ks := ks) hl.plain h hes hcs (by simp)
      simp only [List.length_singleton, Nat.reduceAdd] at S
      obtain ⟨y0, hr⟩ := ret_some stop15s
      obtain ⟨hcut, hgg⟩ := hl.cutsH _ hr
      simp only [runCuts, Option.some.injEq] at hcut
      refine S.seg mixes 600 fun ρS1 wS1 cS1 e1 S1 => ?_
      rw [hcut] at S1
      have S2 := S1.close (j := 1001) (t := 22) (S1.base _ _ (renOf_sym (k := 1) rfl)) rfl rfl (Nat.succ_pos 9)
      refine S2.ret (by rw [hgg]; exact hg) hr stop15s fun u hu gr => ?_
      have e := sym_is (S2.named _ List.mem_cons_self) hu
      have dd := S2.data.facts _ List.mem_cons_self
      simp only [List.take_length] at dd
      simp only at e
      subst e
      exact ⟨_, rfl, ⟨[_], rfl, dd.one⟩, gr, RdC.mono (Nat.le_refl _) (fun _ _ _ => rfl) (fun b hb => ⟨hb.1, hb.2.1⟩) _ dd⟩
end Go.Am
set_option linter.unusedSectionVars false
namespace Go.Am
open Go.Proofs
theorem fitsL_mem : ∀ {l : List T}, fitsL l ↔ ∀ y ∈ l, y.fits
  | [] => ⟨fun _ y hy => absurd hy List.not_mem_nil, fun _ => trivial⟩
  | x :: l => by
    simp only [fitsL, List.mem_cons]
    rw [fitsL_mem (l := l)]
    exact ⟨fun h y hy => hy.elim (fun e => e ▸ h.1) (h.2 y), fun h => ⟨h x (Or.inl rfl), fun y hy => h y (Or.inr hy)⟩⟩
theorem fitsL_part {l : List T} (h : fitsL l) (j n : Nat) : fitsL ((l.drop j).take n) := fitsL_mem.2 fun y hy => fitsL_mem.1 h y (List.mem_of_mem_drop (List.mem_of_mem_take hy))
abbrev F17s : List (Nat × AV) := [(0, .sym 1000)]
noncomputable def q17s : Option (Func × AFrame × AHeap) := @enterCuts Tryz.prog (orcOf Tryz.prog [] []) 17 [.sym 1000] []
theorem lf17s : LoopFacts q17s 1001 4 3 0 F17s := ⟨by kernel_rfl, by kernel_rfl, by kernel_rfl⟩
abbrev es17s : List Ent := ent5 24 89 10 0 2 3 4 5 6
abbrev end17s : List Ent := ent2 24 0 2 3
theorem ty24s : appTyOk Tryz.prog 24 24 89 10 = true := by kernel_rfl
def cuts17s : List Cut := [.call 36 [.agg (symL 7 8)] (some 8) 2001, .copy 87 87 .nilslice (.sym 1015) 2009, .push 24 24 10 (.sym 1001) ([.sym 1006] ++ (symR 2001 8 ++ [.sym 2009])) 2011]
noncomputable def r17s : Option (Func × AFrame × AHeap) := @roundCutsH Tryz.prog (orcOf Tryz.prog es17s []) q17s ((3, .sym 1001) :: F17s) 4 2 cuts17s
theorem rf17s : RoundFacts q17s r17s 4 3 0 1005 2011 F17s := ⟨by kernel_rfl, by kernel_rfl, by kernel_rfl⟩
noncomputable def e17s : Option (Func × AFrame × AHeap) := @roundCutsH Tryz.prog (orcOf Tryz.prog end17s []) q17s ((3, .sym 1001) :: F17s) 4 2 []
theorem stop17s : @retOf? Tryz.prog (orcOf Tryz.prog end17s []) e17s = some (.sym 1001) := by kernel_rfl
theorem k17 (n : Nat) {x : List T} (hs : SizeOf.sizeOf x < n + 1) (hf : fitsL x) (hx : x.length < big) : Clone1 Tryz.prog tab 17 24 x := by
    intro w v hv
    have sx := seq_slice hv
    have hu : und Tryz.prog 24 = some (.slice 89) := by kernel_rfl
    have ha : aggP Tryz.prog 89 = some true := by kernel_rfl
    have hz : sizeP Tryz.prog 89 = some 10 := by kernel_rfl
    obtain ⟨x0, hx0⟩ := head_some lf17s.head
    have hes : ∀ e ∈ ([] : List Ent), EntOk Tryz.prog [v] w e := fun _ h => by cases h
    have hcs : ∀ e ∈ ([] : List CEnt), CallOk Tryz.prog ([v]) w e := fun _ h => by cases h
    letI : Orc Tryz.prog := orcOf Tryz.prog [] []
    letI : OrcOk Tryz.prog := okOf Tryz.prog [] [] _ w hes hcs
    refine Calls.sit (tb := tab) (V := [v]) (es := []) (cs := []) hes hcs (by simp) hx0 (by
      simp only [RelL]
      exact ⟨_, _, rfl, sym_rel (k := 0) rfl (slice_one sx), rfl⟩) fun ks c b hcut hg S => ?_
    simp only [runCuts, Option.some.injEq] at hcut
    refine S.seg mixes 600 fun ρ7 w7 c7 e7 S7 => ?_
    rw [hcut] at S7
    refine S7.loop hx0 hg lf17s rfl (by simp) (fun q hq => absurd hq List.not_mem_nil) 89 10 fun B K hl _ c8 h8 => ?_
    refine Ends.each (N := x.length) (A := fun i w' c => ∃ out, Head Tryz.prog w tab [v] (heapOf q17s) F17s [] [] 3 ⟨out, 89, 10, x.take i⟩ 4 (i : Nat) 17 x0.2.1.n B K (ρ7.only [v]) w' c) (fun i w2 c2 hlt ⟨out, h⟩ next => ?_) (fun w2 c2 ⟨out, h⟩ => ?_) ⟨_, h8⟩
    · obtain ⟨b, off, cap, ys, us, p1, p2, p3, _, p4, p5, p6⟩ := seq_at (E := 89) rfl hv (List.getElem?_eq_getElem hlt)
      have hxi : x[i]? = some (.row ys) := by rw [List.getElem?_eq_getElem hlt, p4]
      have lu : us.length = 10 := p5.len.1
      obtain ⟨z9, y9, f9, g9, h9⟩ := p5.at 9 87 rfl
      obtain ⟨l9, rfl⟩ := rd_seq h9 rfl
      obtain ⟨s9, b9, t9⟩ := sub_at (n := n) (by omega) hf hxi _ _ g9
      have P1 : ∀ (j : Nat) z, us[j]? = some z → ([v] ++ (out :: Value.int .i64 (i : Nat) :: ([.int .i64 x.length, .pointer (some ⟨b, off + i * 10, none⟩), .int .i64 ((i + 1 : Nat) : Int)] ++ us)))[6 + j]? = some z := fun j z h => by rw [show 6 + j = j + 6 by omega]; exact h
      have hes := ent5Ok (P := Tryz.prog) (W := w) (V := [v] ++ (out :: Value.int .i64 (i : Nat) :: ([.int .i64 x.length, .pointer (some ⟨b, off + i * 10, none⟩), .int .i64 ((i + 1 : Nat) : Int)] ++ us))) hu ha hz (by decide) sx hlt hx p1 p2 p3 lu p5.ones p6 0 2 3 4 5 6 rfl rfl rfl rfl rfl P1
      have hcs : ∀ e ∈ ([] : List CEnt), CallOk Tryz.prog ([v] ++ (out :: Value.int .i64 (i : Nat) :: ([.int .i64 x.length, .pointer (some ⟨b, off + i * 10, none⟩), .int .i64 ((i + 1 : Nat) : Int)] ++ us))) w e := fun _ h => by cases h
      letI : Orc Tryz.prog := orcOf Tryz.prog es17s []
      letI : OrcOk Tryz.prog := okOf Tryz.prog es17s [] _ w hes hcs
      obtain ⟨q0, S⟩ := Head.sit (es := es17s) (cs := []) (ks := ks) hl.plain h hes hcs (by simp [lu])
      simp only [List.length_singleton, Nat.reduceAdd] at S
      obtain ⟨y0, hr, _⟩ := round_some hl rf17s.todo
      obtain ⟨hcut, hgg⟩ := hl.cutsH _ hr
      have hn := runCuts_n hcut
      obtain ⟨r1, ka1, hcut⟩ := runCuts_cons hcut
      obtain ⟨r2, ka2, hcut⟩ := runCuts_cons hcut
      obtain ⟨r3, ka3, hcut⟩ := runCuts_cons hcut
      obtain ⟨na1, ka1⟩ := cut_call ka1
      try dsimp only at na1 ka1
      obtain ⟨na2, ka2⟩ := cut_copy ka2
      obtain ⟨na3, ka3⟩ := cut_push ka3
      simp only [runCuts, Option.some.injEq] at hcut
      have fy : fitsL ys := by
        have := fitsL_at hf hxi
        simpa only [T.fits] using this
      refine S.seg mixes 600 fun ρS1 wS1 cS1 e1 S1 => ?_
      refine S1.callRow (E := 86) (zs := (us.drop 1).take 8) (x := (ys.drop 1).take 8) ka1 rfl (syms_are (us := (us.drop 1).take 8) (k := 7) S1.base (fun j z h => p5.ones (1 + j) z (part_any h)) (by simp [lu]) (fun j z h => by rw [show 7 + j = 6 + (1 + j) by omega]; exact P1 (1 + j) z (part_any h))) (((p5.drop 1).take 8).grows S1.since) (k36 _ (Nat.lt_succ_self _) (fitsL_part fy 1 8)) fun ρS1x wS1x cS1x us' eS1x lu' S1x => ?_
      rw [na1] at S1x
      refine S1x.seg mixes 600 fun ρS2 wS2 cS2 e2 S2 => ?_
      refine S2.copy ka2 (appTy cp87) (S2.base _ _ (renOf_sym (k := 15) (P1 9 _ f9))) (h9.grows S2.since) rfl rfl (by decide) (small_most b9) fun ρS2x wS2x cS2x ua9 eS2x S2x => ?_
      rw [na2] at S2x
      refine S2x.seg mixes 600 fun ρS3 wS3 cS3 e3 S3 => ?_
      have hrow : ∀ l, RelL ρS3 ([.sym 1006] ++ (symR 2001 8 ++ [.sym 2009])) l → RdVals tab (Good w.heap.size ρS3 (seg Tryz.prog 600 r2.1 r2.2).2 wS3 [⟨out, 89, 10, x.take i⟩]) wS3 (tab.flat 89) l ys := by
        have hv' := p5
        simp only [tab, RdVals] at hv'
        obtain ⟨_, _, e0, _, _, rfl, _, _, _, e1, _, _, rfl, _, _, _, e2, _, _, rfl, _, _, _, e3, _, _, rfl, _, _, _, e4, _, _, rfl, _, _, _, e5, _, _, rfl, _, _, _, e6, _, _, rfl, _, _, _, e7, _, _, rfl, _, _, _, e8, _, _, rfl, _, _, _, e9, _, _, rfl, _, _, rfl⟩ := hv'
        simp only [List.getElem?_cons_succ, List.getElem?_cons_zero, Option.some.injEq] at g9
        subst g9
        refine rows_append (tA := [9]) (tB := tab.flat 86 ++ [87]) (xA := [e0]) (xB := [e1, e2, e3, e4, e5, e6, e7, e8] ++ [.seq l9]) (S3.row (b0 := 6) ?_ (p5.take 1) (fun j z h => P1 j z (by rw [← Nat.zero_add j]; exact part_any (j := 0) h))) (rows_append (S3.newRow (ts := tab.flat 86) lu' rfl fun q hq => List.mem_cons_of_mem _ (List.mem_append_left _ hq)) (S3.row (b0 := 15) (ts := [87]) (vs := us.drop 9) (xs := [.seq l9]) ?_ (p5.drop 9) (fun j z h => ?_)))
        · exact ⟨_, _, _, _, rfl, rfl, Or.inl ⟨rfl, rfl⟩, rfl, rfl⟩
        · exact ⟨_, _, _, _, rfl, rfl, Or.inr ⟨_, List.mem_of_getElem? (i := 0) rfl, rfl, rfl, rfl⟩, rfl, rfl⟩
        · rw [List.getElem?_drop] at h
          rw [show 15 + j = 6 + (9 + j) by omega]
          exact P1 (9 + j) z h
      refine S3.push ka3 (appTy ty24s) (S3.base _ _ (renOf_sym (k := 1) rfl)) (take_small hx i) (row := ys) hrow fun ρ4 w4 c4 out' e4 m4 mo S4 => ?_
      rw [na3] at m4
      refine S4.seg mixes 600 fun ρ5 w5 c5 e5 S5 => ?_
      rw [hcut] at S5
      refine S5.round h hl hr rf17s lf17s (q0.trans (e1.trans (eS1x.trans (e2.trans (eS2x.trans (e3.trans (e4.trans e5))))))) hn (S5.base _ _ (renOf_sym (k := 5) rfl)) (e5 _ _ m4) mo (fun q hq => absurd hq List.not_mem_nil) fun c6 h6 => next w5 c6 ⟨out', ?_⟩
      rw [take_next hxi]
      exact h6
    · have hes := ent2Ok (P := Tryz.prog) (W := w) (V := [v] ++ (out :: Value.int .i64 (x.length : Nat) :: [.int .i64 x.length])) hu sx 0 2 3 rfl rfl rfl
      have hcs : ∀ e ∈ ([] : List CEnt), CallOk Tryz.prog ([v] ++ (out :: Value.int .i64 (x.length : Nat) :: [.int .i64 x.length])) w e := fun _ h => by cases h
      letI : Orc Tryz.prog := orcOf Tryz.prog end17s []
      letI : OrcOk Tryz.prog := okOf Tryz.prog end17s [] _ w hes hcs
      obtain ⟨q0, S⟩ := Head.sit (es := end17s) (cs := []) (ks := ks) hl.plain h hes hcs (by simp)
      simp only [List.length_singleton, Nat.reduceAdd] at S
      obtain ⟨y0, hr⟩ := ret_some stop17s
      obtain ⟨hcut, hgg⟩ := hl.cutsH _ hr
      simp only [runCuts, Option.some.injEq] at hcut
      refine S.seg mixes 600 fun ρS1 wS1 cS1 e1 S1 => ?_
      rw [hcut] at S1
      have S2 := S1.close (j := 1001) (t := 24) (S1.base _ _ (renOf_sym (k := 1) rfl)) rfl rfl (Nat.succ_pos 9)
      refine S2.ret (by rw [hgg]; exact hg) hr stop17s fun u hu gr => ?_
      have e := sym_is (S2.named _ List.mem_cons_self) hu
      have dd := S2.data.facts _ List.mem_cons_self
      simp only [List.take_length] at dd
      simp only at e
      subst e
      exact ⟨_, rfl, ⟨[_], rfl, dd.one⟩, gr, RdC.mono (Nat.le_refl _) (fun _ _ _ => rfl) (fun b hb => ⟨hb.1, hb.2.1⟩) _ dd⟩
end Go.Am
set_option linter.unusedSectionVars false
namespace Go.Am

theorem one_small (x : T) : [x].length < big := (by decide : 1 < big)
inductive CutX where
  | old (k : Cut)
  | own (f : FuncId) (i m : Nat) (cells : List AV) (j : Nat)
  | ask (tag : Tag) (ys : List AV) (m : Option Nat) (j : Nat)
def cutAsk (p : AFrame × AHeap) (tag : Tag) (ys : List AV) (m : Option Nat) : Option (AFrame × AHeap) :=
  match stopAt p.1 with
  | some (o, fr1) => match tagOf o.op, evals (evA p.1.tmps) o.op.operands.toList, fr1.put o.dst (newAV p.2.next m) with
    | some tg, some bs, some fr2 => bif tagEq tg tag && AV.sames bs ys then some (fr2, bump p.2 (m.getD 1)) else none
    | _, _, _ => none
  | none => none
def cellsOk (H : AHeap) (i m : Nat) (cells : List AV) : Bool :=
  match readCells H i 0 m with
  | some l => AV.sames l cells
  | none => false
def cutX (P : Program) [Orc P] (p : AFrame × AHeap) : CutX → Option (AFrame × AHeap)
  | .old k => cutOf P p k
  | .own f i m cells j => bif Nat.beq p.2.next j && cellsOk p.2 i m cells then cutCall P p f [.slice i 0 1 m] none else none
  | .ask tag ys m j => bif Nat.beq p.2.next j then cutAsk p tag ys m else none
def runCutsX (P : Program) [Orc P] : List CutX → AFrame × AHeap → Option (AFrame × AHeap)
  | [], p => some (seg P 600 p.1 p.2)
  | k :: l, p => match cutX P (seg P 600 p.1 p.2) k with
    | some q => runCutsX P l q
    | none => none
def roundCutsX (P : Program) [Orc P] (p : Option (Func × AFrame × AHeap)) (F : List (Nat × AV)) (d q : Nat) (cuts : List CutX) : Option (Func × AFrame × AHeap) :=
  match loopOf p with
  | some (g, fr, B, K) => match runCutsX P cuts (headFr fr.fn fr.n B K F d q, heapOf p) with
    | some r => some (g, r.1, r.2)
    | none => none
  | none => none
theorem Looping.cutsX {P : Program} {p : Option (Func × AFrame × AHeap)} {f n : Nat} {g : Func} {B : Code} {K : List AItem} (hl : Looping P p f n g B K) (oc : Orc P) {F : List (Nat × AV)} {d q : Nat} {cuts : List CutX} {x : Func × AFrame × AHeap} (h : @roundCutsX P oc p F d q cuts = some x) : @runCutsX P oc cuts (headFr f n B K F d q, heapOf p) = some x.2 ∧ x.1 = g := by
  obtain ⟨fr, h1, h2, h3⟩ := hl.at'
  unfold roundCutsX at h
  rw [h1] at h
  simp only [h2, h3] at h
  split at h
  · rename_i r hr
    cases h
    exact ⟨hr, rfl⟩
  · cases h
section
variable {P : Program} [Orc P]
theorem runCutsX_cons {k : CutX} {l : List CutX} {p q : AFrame × AHeap} (h : runCutsX P (k :: l) p = some q) : ∃ r, cutX P (seg P 600 p.1 p.2) k = some r ∧ runCutsX P l r = some q := by
  simp only [runCutsX] at h
  split at h
  · rename_i r hr; exact ⟨r, hr, h⟩
  · cases h
theorem cut_old {p q : AFrame × AHeap} {k : Cut} (h : cutX P p (.old k) = some q) : cutOf P p k = some q := h
theorem cut_own {p q : AFrame × AHeap} {f : FuncId} {i m : Nat} {cells : List AV} {j : Nat} (h : cutX P p (.own f i m cells j) = some q) : p.2.next = j ∧ readCells p.2 i 0 m = some cells ∧ cutCall P p f [.slice i 0 1 m] none = some q := by
  obtain ⟨h1, h2⟩ := cond_some h rfl
  rw [Bool.and_eq_true] at h1
  refine ⟨Nat.eq_of_beq_eq_true h1.1, ?_, h2⟩
  have h3 := h1.2
  unfold cellsOk at h3
  split at h3
  · rename_i l hl
    rw [hl, sames_eq _ _ h3]
  · cases h3
theorem cut_ask {p q : AFrame × AHeap} {tag : Tag} {ys : List AV} {m : Option Nat} {j : Nat} (h : cutX P p (.ask tag ys m j) = some q) : p.2.next = j ∧ cutAsk p tag ys m = some q := by
  obtain ⟨h1, h2⟩ := cond_some h rfl
  exact ⟨Nat.eq_of_beq_eq_true h1, h2⟩
theorem cutAsk_is {p q : AFrame × AHeap} {tag : Tag} {ys : List AV} {m : Option Nat} (h : cutAsk p tag ys m = some q) : ∃ o fr1 fr2, stopAt p.1 = some (o, fr1) ∧ tagOf o.op = some tag ∧ evals (evA p.1.tmps) o.op.operands.toList = some ys ∧ fr1.put o.dst (newAV p.2.next m) = some fr2 ∧ q = (fr2, bump p.2 (m.getD 1)) := by
  unfold cutAsk at h
  split at h
  case h_2 => cases h
  rename_i o fr1 hs
  split at h
  case h_2 => cases h
  rename_i tg bs fr2 h1 h2 h3
  obtain ⟨h4, h5⟩ := cond_some h rfl
  rw [Bool.and_eq_true] at h4
  cases h5
  have e1 := tagEq_eq h4.1
  have e2 := sames_eq _ _ h4.2
  subst e1; subst e2
  exact ⟨o, fr1, fr2, hs, h1, h2, h3, rfl⟩
theorem cutX_n {p q : AFrame × AHeap} : ∀ {k : CutX}, cutX P p k = some q → q.1.n = p.1.n
  | .old k, h => cutOf_n h
  | .own f i m cells j, h => by
    have h := (cut_own h).2.2
    exact cutOf_n (k := .call f [.slice i 0 1 m] none p.2.next) (by
      show (bif Nat.beq p.2.next p.2.next then cutCall P p f [.slice i 0 1 m] none else none) = some q
      rw [Nat.beq_refl]; exact h)
  | .ask tag ys m j, h => by
    obtain ⟨o, fr1, fr2, h1, _, _, h4, rfl⟩ := cutAsk_is (cut_ask h).2
    exact (put_n h4).trans (stop_n h1)
theorem runCutsX_n : ∀ {l : List CutX} {p q : AFrame × AHeap}, runCutsX P l p = some q → q.1.n = p.1.n
  | [], p, q, h => by
    simp only [runCutsX, Option.some.injEq] at h
    rw [← h]
    exact seg_n _ _ _
  | k :: l, p, q, h => by
    obtain ⟨r, h1, h2⟩ := runCutsX_cons h
    exact (runCutsX_n h2).trans ((cutX_n h1).trans (seg_n _ _ _))
end
section
variable {P : Program} [Orc P] [OrcOk P] {ρ : Ren} {H : AHeap} {w : World} {fr fr1 fr2 : AFrame} {c : Frame} {cs : List Frame} {o : Oper} {R : Ending → World → Prop}
theorem tag_defer {op : Op} {t : Tag} (h : tagOf op = some t) : ∀ x, op ≠ .defer x := fun x e => by
  subst e
  simp [tagOf] at h
/-- An operation that leaves memory ys it is, done by hand. -/
theorem Ends.handVals {m : Option Nat} (a : At0 P ρ H w fr c cs) (hs : stopAt fr = some (o, fr1)) (hd : ∀ x, o.op ≠ .defer x) (hp : fr1.put o.dst (newAV H.next m) = some fr2)
    {v : Value} {vs : List Value} (hsh : shape m v vs) (hr : (execOp c.eval o).run P w = .ok (.value v) w)
    (k : ∀ ρ' c', ρ.le ρ' → (∀ (i : Nat) z, vs[i]? = some z → ρ' (H.next + i) = some ⟨0, 0, z⟩) → At0 P ρ' (bump H vs.length) w fr2 c' cs → c'.fn = c.fn → Ends P c' cs w R) : Ends P c cs w R := by
  obtain ⟨ops, i, l, kk, hat, hgo⟩ := a.stands (fr2 := fr2) hs
  have s1 := mv_value (cs := cs) hat (Or.inr hd) hr
  have hh := a.st.heap
  have hle := Ren.le_news hh.fresh vs
  have hh' : RelH P (ρ.news H.next vs) (bump H vs.length) w := hh.hand (Nat.le_refl _) (fun _ _ _ _ _ => rfl) (fun _ _ => rfl) (Still.refl _) vs
  have rv : RelV (ρ.news H.next vs) (newAV H.next m) v := newAV_rel hsh fun k u hk => Ren.news_at hk
  obtain ⟨g1, g2⟩ := hgo hp hle rv hh'
  exact (k _ _ hle (fun i z hz => Ren.news_at hz) g1 g2).of_steps (Steps.one s1) g2
end
section
variable {P : Program} [Orc P] [OrcOk P] {tb : Tab} {f : FuncId} {n0 : Nat} {V : List Value} {made : List Fact} {outs : List Grow} {ρ : Ren} {H : AHeap} {w : World} {fr : AFrame} {c : Frame} {cs : List Frame} {R : Ending → World → Prop} {q : AFrame × AHeap}
/-- Past an operation that is asked. -/
theorem Sit.ask (a : Sit P tb f n0 V made outs ρ H w fr c cs) {tag : Tag} {ys : List AV} {m : Option Nat} (h : cutAsk (fr, H) tag ys m = some q) {v : Value} {zs : List Value} (hsh : shape m v zs)
    (hr : ∀ vs, RelL ρ ys vs → ∀ (o : Oper) (evc : Operand → Value), tagOf o.op = some tag → o.op.operands.toList.map evc = vs → (execOp evc o).run P w = .ok (.value v) w)
    (k : ∀ ρ' c', ρ.le ρ' → (∀ (i : Nat) z, zs[i]? = some z → ρ' (H.next + i) = some ⟨0, 0, z⟩) → (∀ b, Good n0 ρ H w outs b → Good n0 ρ' q.2 w outs b) → Sit P tb f n0 V made outs ρ' q.2 w q.1 c' cs → Ends P c' cs w R) : Ends P c cs w R := by
  obtain ⟨o, fr1, fr2, h1, h2, h3, h4, rfl⟩ := cutAsk_is h
  have hev := evA_rel (c := c) a.state.st.glob (a.state.st.frame.tmps (Dead.not a.state.run))
  have ra := evals_rel hev h3
  have e3 : zs.length = m.getD 1 := by
    cases m with
    | none => obtain ⟨rfl, _⟩ := hsh; rfl
    | some n => exact hsh.1
  refine Ends.handVals a.state h1 (tag_defer h2) h4 hsh (hr _ ra o c.eval h2 rfl) fun ρ' c' g1 g2 g3 g4 => ?_
  rw [e3] at g3
  have hget : ∀ i, (bump H (m.getD 1)).get i = H.get i := fun _ => rfl
  refine k ρ' c' g1 g2 (fun b hb => ⟨hb.1, hb.2.1, fun i y l k1 k2 k3 => ?_, hb.2.2.2⟩) (a.by_hand (fs := []) g1 (Grows.refl w) hget g3 g4 fun q hq => absurd hq List.not_mem_nil)
  obtain ⟨l', q1, _, _⟩ := a.state.st.heap.obj i y k1
  have := g1 _ _ q1
  rw [k3] at this
  cases this
  exact hb.2.2.1 i y l k1 k2 q1
/-- More facts, of what memory holds already. -/
theorem Sit.more (a : Sit P tb f n0 V made outs ρ H w fr c cs) (fs : List Fact) (h : ∀ q ∈ fs, ρ q.j = some ⟨0, 0, q.z⟩ ∧ RdC tb (Good n0 ρ H w outs) w q.t q.z q.x) : Sit P tb f n0 V (fs ++ made) outs ρ H w fr c cs :=
  ⟨a.state, a.fn, a.keep, a.size, a.base, fun q hq => by
    rcases List.mem_append.1 hq with hq | hq
    · exact (h q hq).1
    · exact a.named q hq, a.data.add fs (fun q hq => (h q hq).2) fun _ h => h⟩
/-- Past a clone's call on a slice of one element, an object of the run's own. -/
theorem Sit.callOwn (a : Sit P tb f n0 V made outs ρ H w fr c cs) {g : FuncId} {i m : Nat} {cells : List AV} {t E : TypeId} {row : List T} (h : Am.cutCall P (fr, H) g [.slice i 0 1 m] none = some q) (hcells : readCells H i 0 m = some cells) (he : tb.elem t = some E) (hm : (tb.flat E).length = m)
    {S : Nat → Prop} (hrow : ∀ l, RelL ρ cells l → RdVals tb S w (tb.flat E) l row) (hc : Clone1 P tb g t [.row row])
    (k : ∀ ρ' w' c' v, ρ.le ρ' → Sit P tb f n0 V (⟨H.next, v, .seq [.row row], t⟩ :: made) outs ρ' q.2 w' q.1 c' cs → Ends P c' cs w' R) : Ends P c cs w R := by
  refine a.state.cutCall h (Q := fun v w' => RdC tb (fun b => w.heap.size ≤ b ∧ b < w'.heap.size) w' t v (.seq [.row row])) (fun args ra => ?_) fun ρ' w' c' v vs h1 h2 h3 h4 h5 h6 h7 => ?_
  · simp only [RelL, RelV] at ra
    obtain ⟨z, l', e1, ⟨loc, r1, r2, r3, rfl⟩, rfl⟩ := ra
    obtain ⟨loc', us, p1, p2, p3, p4, p5, _⟩ := readCells_rel a.state.st.heap hcells
    rw [r1] at p1
    cases p1
    have e3 : args = #[.slice (some ⟨loc.b, 0, none⟩) 1 ((loc.n - 0) / m)] := Array.toList_inj.1 (by rw [e1])
    rw [e3]
    have hlt : loc.b < w.heap.size := by
      unfold readCells at hcells
      split at hcells
      · rename_i t1 size e tight ro ho
        obtain ⟨l2, q1, q2, _⟩ := a.state.st.heap.obj _ _ ho
        rw [r1] at q1
        cases q1
        exact q2
      · cases hcells
    refine hc w _ ?_
    simp only [RdC]
    refine ⟨E, he, Or.inr ⟨loc.b, 0, _, rfl, ?_, hlt, trivial, ?_⟩⟩
    · show 1 ≤ (loc.n - 0) / m
      rw [Nat.le_div_iff_mul_le r2]
      omega
    · refine Cells.rows (cells := us) ⟨us, [], row, by simp, rfl, (hrow us p2).mono (Nat.le_refl _) (fun _ _ _ => rfl) fun _ _ => trivial, rfl⟩ fun j z hj => ?_
      have := p5 j z hj
      rw [addr_add] at this
      exact this
  · obtain ⟨rfl, ho⟩ := h2
    exact k ρ' w' c' v h1 (a.by_hand (fs := [⟨H.next, v, .seq [.row row], t⟩]) h1 h3 (cutCall_get h) h6 h7 fun q hq => by rw [List.mem_singleton] at hq; subst hq; exact ⟨h5 0 v rfl, h4⟩)
end
section
variable {P : Program} {w : World}
theorem idx_does {t E : TypeId} {m : Nat} (hu : und P t = some (.slice E)) (hz : sizeP P E = some m) (hm : 0 < m) {b off n cap x : Nat} (hn : n ≤ cap) (hx : x < n) (o : Oper) (evc : Operand → Value) (ht : tagOf o.op = some (.idx t)) (he : o.op.operands.toList.map evc = [.slice (some ⟨b, off, none⟩) n cap, .int .i64 x]) :
    (execOp evc o).run P w = .ok (.value (.pointer (some ⟨b, off + x * m, none⟩))) w := by
  obtain ⟨vs, v, h1, h2, h3⟩ := ent_idx (P := P) (vals := [.slice (some ⟨b, off, none⟩) n cap, .int .i64 x, .pointer (some ⟨b, off + x * m, none⟩)]) (w := w) (i := 0) (j := 1) (k := 2) hu hz hm rfl hn rfl hx rfl
  have e1 := RelL.det _ h1 (two_rel (i := 0) (j := 1) rfl rfl rfl rfl)
  have e2 := sym_val (k := 2) (Ren.le.refl _) rfl h2
  subst e1; subst e2
  exact h3 o evc ht he w fun _ _ => rfl
theorem load_does {E : TypeId} (ha : aggP P E = some true) {zs : List Value} (hz : sizeP P E = some zs.length) {b off : Nat} (h : ∀ (j : Nat) v, zs[j]? = some v → w.cell? ⟨b, off + j, none⟩ = some v) (o : Oper) (evc : Operand → Value) (ht : tagOf o.op = some (.load E)) (he : o.op.operands.toList.map evc = [.pointer (some ⟨b, off, none⟩)]) :
    (execOp evc o).run P w = .ok (.value (.agg zs.toArray)) w := by
  obtain ⟨x, hop⟩ := tag_load ht
  rw [hop] at he
  exact load_run hop (by simpa [Op.operands] using he) (agg_run ha hz h)
end
end Go.Am
set_option linter.unusedSectionVars false
namespace Go.Am
open Go.Proofs
noncomputable def q19 : Option (Func × AFrame × AHeap) := @enterCuts Tryz.prog (orcOf Tryz.prog [] []) 19 [.agg (symL 0 6)] []
abbrev F19 : List (Nat × AV) := [(1, .ptr 2000 0), (2, .ptr 2001 0), (3, .ptr 2002 0)]
theorem lf19 : LoopFacts q19 1006 5 4 3 F19 := ⟨by kernel_rfl, by kernel_rfl, by kernel_rfl⟩
abbrev es19a : List Ent := ent5 26 100 4 3 7 8 9 10 11
noncomputable def i19 : Option (Func × AFrame × AHeap) := @roundCutsH Tryz.prog (orcOf Tryz.prog es19a []) q19 ((4, .sym 1006) :: F19) 5 7 []
abbrev FI19 : List (Nat × AV) := [(1, .ptr 2000 0), (2, .ptr 2001 0), (3, .ptr 2002 0), (4, .sym 1006), (5, .sym 1007), (6, .ptr 2003 0)]
theorem lfi19 : LoopFacts i19 1015 8 7 4 FI19 := ⟨by kernel_rfl, by kernel_rfl, by kernel_rfl⟩
abbrev es19b : List Ent := ent5 98 102 4 14 16 17 18 19 20
def cuts19b : List Cut := [.call 15 [.sym 1023] none 2005, .push 98 98 4 (.sym 1015) [.sym 1020, .sym 1021, .sym 1022, .sym 2005] 2007]
noncomputable def r19b : Option (Func × AFrame × AHeap) := @roundCutsH Tryz.prog (orcOf Tryz.prog es19b []) i19 ((7, .sym 1015) :: FI19) 8 16 cuts19b
theorem rf19b : RoundFacts i19 r19b 8 7 4 1019 2007 FI19 := ⟨by kernel_rfl, by kernel_rfl, by kernel_rfl⟩
theorem ty98 : appTyOk Tryz.prog 98 98 102 4 = true := by kernel_rfl
abbrev end19b : List Ent := ent3 98 14 16 17 7 10
def cuts19c : List Cut := [.push 26 26 4 (.sym 1006) [.sym 1011, .sym 1012, .sym 1013, .sym 1015] 2005]
noncomputable def r19a : Option (Func × AFrame × AHeap) := @roundCutsH Tryz.prog (orcOf Tryz.prog end19b []) i19 ((7, .sym 1015) :: FI19) 8 16 cuts19c
theorem rf19a : RoundFacts q19 r19a 5 4 3 1010 2005 F19 := ⟨by kernel_rfl, by kernel_rfl, by kernel_rfl⟩
theorem ty26 : appTyOk Tryz.prog 26 26 100 4 = true := by kernel_rfl
abbrev end19a : List Ent := ent2 26 3 7 8
noncomputable def q19t : Option (Func × AFrame × AHeap) := @roundCutsH Tryz.prog (orcOf Tryz.prog end19a []) q19 ((4, .sym 1006) :: F19) 5 7 []
abbrev F19t : List (Nat × AV) := [(1, .ptr 2000 0), (2, .ptr 2001 0), (3, .ptr 2002 0), (4, .sym 1006)]
theorem lf19t : LoopFacts q19t 1009 11 10 3 F19t := ⟨by kernel_rfl, by kernel_rfl, by kernel_rfl⟩
abbrev es19t : List Ent := ent5 27 106 8 4 10 11 12 13 14
def cuts19t : List CutX := [.old (.copy 55 55 .nilslice (.sym 1014) 2004), .old (.copy 55 55 .nilslice (.sym 1015) 2005), .own 35 2006 6 (symL 16 6) 2007, .ask (.idx 74) [.sym 2007, .int .i64 0] none 2008, .ask (.load 104) [.sym 2008] (some 6) 2009, .old (.push 27 27 8 (.sym 1009) ([.sym 2004, .sym 2005] ++ symR 2009 6) 2016)]
noncomputable def r19t : Option (Func × AFrame × AHeap) := @roundCutsX Tryz.prog (orcOf Tryz.prog es19t []) q19t ((10, .sym 1009) :: F19t) 11 10 cuts19t
theorem rf19t : RoundFacts q19t r19t 11 10 3 1013 2016 F19t := ⟨by kernel_rfl, by kernel_rfl, by kernel_rfl⟩
theorem ty27 : appTyOk Tryz.prog 27 27 106 8 = true := by kernel_rfl
abbrev end19t : List Ent := ent2 27 4 10 11
noncomputable def q19u : Option (Func × AFrame × AHeap) := @roundCutsH Tryz.prog (orcOf Tryz.prog end19t []) q19t ((10, .sym 1009) :: F19t) 11 10 []
abbrev F19u : List (Nat × AV) := [(1, .ptr 2000 0), (2, .ptr 2001 0), (3, .ptr 2002 0), (4, .sym 1006), (10, .sym 1009)]
theorem lf19u : LoopFacts q19u 1012 16 15 3 F19u := ⟨by kernel_rfl, by kernel_rfl, by kernel_rfl⟩
abbrev es19u : List Ent := ent5 28 30 6 5 13 14 15 16 17
def cuts19u : List Cut := [.call 19 [.agg (symL 17 6)] (some 6) 2003, .push 28 28 6 (.sym 1012) (symR 2003 6) 2010]
noncomputable def r19u : Option (Func × AFrame × AHeap) := @roundCutsH Tryz.prog (orcOf Tryz.prog es19u []) q19u ((15, .sym 1012) :: F19u) 16 13 cuts19u
theorem rf19u : RoundFacts q19u r19u 16 15 3 1016 2010 F19u := ⟨by kernel_rfl, by kernel_rfl, by kernel_rfl⟩
theorem ty28 : appTyOk Tryz.prog 28 28 30 6 = true := by kernel_rfl
abbrev end19u : List Ent := ent2 28 5 13 14
noncomputable def e19 : Option (Func × AFrame × AHeap) := @roundCutsH Tryz.prog (orcOf Tryz.prog end19u []) q19u ((15, .sym 1012) :: F19u) 16 13 []
theorem stop19 : @retOf? Tryz.prog (orcOf Tryz.prog end19u []) e19 = some (.agg [.sym 1000, .sym 1001, .sym 1002, .sym 1006, .sym 1009, .sym 1012]) := by kernel_rfl
end Go.Am
