/-
  Part 24 of the proof that winch/winchlaw25.ChangeBodies returns true for every two bodies of small bulk: lemmas.
  Conditions: none beyond each theorem's own premises.
  What lies here:
  The reference's clone of a chart.
  A region that draws its order, with calls done by hand: an invariant of the calls that are done. Condition: what the kernel tells of the region.
-/
import Derived.Test.YtclhjedldbkgpaaGreatDoorBodies23
set_option linter.unusedVariables false
set_option linter.unusedSimpArgs false
set_option linter.unusedSectionVars false
namespace Go.Am
open Go.Proofs
theorem k19 : ∀ (n : Nat) {x : List T}, SizeOf.sizeOf x < n → fitsL x → CloneRow Tryz.prog tab 19 30 x := by
  intro n
  induction n with
  | zero => intro x h; omega
  | succ n ih =>
    intro x hs hf w vs hv
    have hu26 : und Tryz.prog 26 = some (.slice 100) := by kernel_rfl
    have ha26 : aggP Tryz.prog 100 = some true := by kernel_rfl
    have hz26 : sizeP Tryz.prog 100 = some 4 := by kernel_rfl
    have hu98 : und Tryz.prog 98 = some (.slice 102) := by kernel_rfl
    have ha98 : aggP Tryz.prog 102 = some true := by kernel_rfl
    have hz98 : sizeP Tryz.prog 102 = some 4 := by kernel_rfl
    have hu27 : und Tryz.prog 27 = some (.slice 106) := by kernel_rfl
    have ha27 : aggP Tryz.prog 106 = some true := by kernel_rfl
    have hz27 : sizeP Tryz.prog 106 = some 8 := by kernel_rfl
    have hu28 : und Tryz.prog 28 = some (.slice 30) := by kernel_rfl
    have ha28 : aggP Tryz.prog 30 = some true := by kernel_rfl
    have hz28 : sizeP Tryz.prog 30 = some 6 := by kernel_rfl
    have hu74 : und Tryz.prog 74 = some (.slice 104) := by kernel_rfl
    have ha74 : aggP Tryz.prog 104 = some true := by kernel_rfl
    have hz74 : sizeP Tryz.prog 104 = some 6 := by kernel_rfl
    have lv : vs.length = 6 := hv.len.1
    have sb := sub_row (n := n) (by omega) hf
    obtain ⟨z3, y3, f3, g3, h3⟩ := hv.at 3 26 rfl
    obtain ⟨l3, rfl⟩ := rd_seq h3 rfl
    obtain ⟨s3, b3, t3⟩ := sb _ _ g3
    have sx3 := seq_slice h3
    obtain ⟨z4, y4, f4, g4, h4⟩ := hv.at 4 27 rfl
    obtain ⟨l4, rfl⟩ := rd_seq h4 rfl
    obtain ⟨s4, b4, t4⟩ := sb _ _ g4
    have sx4 := seq_slice h4
    obtain ⟨z5, y5, f5, g5, h5⟩ := hv.at 5 28 rfl
    obtain ⟨l5, rfl⟩ := rd_seq h5 rfl
    obtain ⟨s5, b5, t5⟩ := sb _ _ g5
    have sx5 := seq_slice h5
    obtain ⟨x0, hx0⟩ := head_some lf19.head
    have hes : ∀ e ∈ ([] : List Ent), EntOk Tryz.prog vs w e := fun _ h => by cases h
    have hcs : ∀ e ∈ ([] : List CEnt), CallOk Tryz.prog (vs) w e := fun _ h => by cases h
    letI : Orc Tryz.prog := orcOf Tryz.prog [] []
    letI : OrcOk Tryz.prog := okOf Tryz.prog [] [] _ w hes hcs
    refine Calls.sit (tb := tab) (V := vs) (es := []) (cs := []) hes hcs (by omega) hx0 (by
      simp only [RelL, RelV]
      exact ⟨_, _, rfl, ⟨_, rfl, symL_vals (k := 0) hv.ones lv (fun j z h => by rw [Nat.zero_add]; exact h)⟩, rfl⟩) fun ks c b hcut hg S => ?_
    simp only [runCuts, Option.some.injEq] at hcut
    refine S.seg mixes 600 fun ρ7 w7 c7 e7 S7 => ?_
    rw [hcut] at S7
    have P0 : ∀ (j : Nat) {more : List Value}, (vs ++ more)[6 + j]? = more[j]? := fun j more => at_app lv
    refine S7.loop hx0 hg lf19 (by rw [lv]) (by omega) (fun q hq => absurd hq List.not_mem_nil) 100 4 fun B K hl _ c8 h8 => ?_
    refine Ends.each (N := l3.length) (A := fun i w' c => ∃ out, Head Tryz.prog w tab vs (heapOf q19) F19 [] [] 4 ⟨out, 100, 4, l3.take i⟩ 5 (i : Nat) 19 x0.2.1.n B K (ρ7.only vs) w' c) (fun i w2 c2 hlt ⟨out, h⟩ next => ?_) (fun w2 c2 ⟨out, h⟩ => ?_) ⟨_, h8⟩
    · obtain ⟨b, off, cap, ys, us, p1, p2, p3, _, p4, p5, p6⟩ := seq_at (E := 100) rfl h3 (List.getElem?_eq_getElem hlt)
      have hxi : l3[i]? = some (.row ys) := by rw [List.getElem?_eq_getElem hlt, p4]
      have lu : us.length = 4 := p5.len.1
      obtain ⟨za, ya, fa, g3, ha3⟩ := p5.at 3 98 rfl
      obtain ⟨la, rfl⟩ := rd_seq ha3 rfl
      obtain ⟨sa, ba, ta⟩ := sub_at (n := n) (by omega) t3 hxi _ _ g3
      have P1 : ∀ (j : Nat) z, us[j]? = some z → (vs ++ (out :: Value.int .i64 (i : Nat) :: ([.int .i64 l3.length, .pointer (some ⟨b, off + i * 4, none⟩), .int .i64 ((i + 1 : Nat) : Int)] ++ us)))[11 + j]? = some z := fun j z h => by rw [show 11 + j = 6 + (5 + j) by omega, P0, show 5 + j = j + 5 by omega]; exact h
      have hes := ent5Ok (P := Tryz.prog) (W := w) (V := vs ++ (out :: Value.int .i64 (i : Nat) :: ([.int .i64 l3.length, .pointer (some ⟨b, off + i * 4, none⟩), .int .i64 ((i + 1 : Nat) : Int)] ++ us))) hu26 ha26 hz26 (by decide) sx3 hlt b3 p1 p2 p3 lu p5.ones p6 3 7 8 9 10 11 (at_left f3) (P0 1) (P0 2) (P0 3) (P0 4) P1
      have hcs : ∀ e ∈ ([] : List CEnt), CallOk Tryz.prog (vs ++ (out :: Value.int .i64 (i : Nat) :: ([.int .i64 l3.length, .pointer (some ⟨b, off + i * 4, none⟩), .int .i64 ((i + 1 : Nat) : Int)] ++ us))) w e := fun _ h => by cases h
      letI : Orc Tryz.prog := orcOf Tryz.prog es19a []
      letI : OrcOk Tryz.prog := okOf Tryz.prog es19a [] _ w hes hcs
      obtain ⟨q0, S⟩ := Head.sit (es := es19a) (cs := []) (ks := ks) hl.plain h hes hcs (by simp [lu, lv])
      simp only [lv, Nat.reduceAdd] at S
      obtain ⟨y0, hr⟩ := head_some lfi19.head
      obtain ⟨hcut, hgg⟩ := hl.cutsH _ hr
      have hn := runCuts_n hcut
      simp only [runCuts, Option.some.injEq] at hcut
      refine S.seg mixes 600 fun ρS1 wS1 cS1 e1 S1 => ?_
      rw [hcut] at S1
      refine S1.loop hr (by rw [hgg]; exact hg) lfi19 (by simp [lu, lv]) (by simp [lu, lv]) (fun q hq => absurd hq List.not_mem_nil) 102 4 fun B' K' hl' _ c9 h9 => ?_
      have le0 := Head.only h (more := out :: Value.int .i64 (i : Nat) :: ([.int .i64 l3.length, .pointer (some ⟨b, off + i * 4, none⟩), .int .i64 ((i + 1 : Nat) : Int)] ++ us)) (q0.trans e1)
      have sx' := seq_slice ha3
      refine Ends.each (N := la.length) (A := fun k w' c => ∃ out', Head Tryz.prog w tab (vs ++ (out :: Value.int .i64 (i : Nat) :: ([.int .i64 l3.length, .pointer (some ⟨b, off + i * 4, none⟩), .int .i64 ((i + 1 : Nat) : Int)] ++ us))) (heapOf i19) FI19 [] [⟨out, 100, 4, l3.take i⟩] 7 ⟨out', 102, 4, la.take k⟩ 8 (k : Nat) 19 y0.2.1.n B' K' (ρS1.only (vs ++ (out :: Value.int .i64 (i : Nat) :: ([.int .i64 l3.length, .pointer (some ⟨b, off + i * 4, none⟩), .int .i64 ((i + 1 : Nat) : Int)] ++ us)))) w' c) (fun k w3 c3 hlt' ⟨out', h'⟩ next' => ?_) (fun w3 c3 ⟨out', h'⟩ => ?_) ⟨_, h9⟩
      · obtain ⟨b', off', cap', ys', us', p1', p2', p3', _, p4', p5', p6'⟩ := seq_at (E := 102) rfl ha3 (List.getElem?_eq_getElem hlt')
        have hxi' : la[k]? = some (.row ys') := by rw [List.getElem?_eq_getElem hlt', p4']
        have lu' : us'.length = 4 := p5'.len.1
        obtain ⟨z3', y3', f3', g3', h3'⟩ := p5'.at 3 22 rfl
        obtain ⟨l3', rfl⟩ := rd_seq h3' rfl
        obtain ⟨s3', b3', t3'⟩ := sub_at (n := n) (by omega) ta hxi' _ _ g3'
        have P0' : ∀ (j : Nat) {more : List Value}, ((vs ++ (out :: Value.int .i64 (i : Nat) :: ([.int .i64 l3.length, .pointer (some ⟨b, off + i * 4, none⟩), .int .i64 ((i + 1 : Nat) : Int)] ++ us))) ++ more)[15 + j]? = more[j]? := fun j more => at_app (by simp [lu, lv])
        have P1' : ∀ (j : Nat) z, us'[j]? = some z → ((vs ++ (out :: Value.int .i64 (i : Nat) :: ([.int .i64 l3.length, .pointer (some ⟨b, off + i * 4, none⟩), .int .i64 ((i + 1 : Nat) : Int)] ++ us))) ++ (out' :: Value.int .i64 (k : Nat) :: ([.int .i64 la.length, .pointer (some ⟨b', off' + k * 4, none⟩), .int .i64 ((k + 1 : Nat) : Int)] ++ us')))[20 + j]? = some z := fun j z h => by rw [show 20 + j = 15 + (5 + j) by omega, P0', show 5 + j = j + 5 by omega]; exact h
        have hes := ent5Ok (P := Tryz.prog) (W := w) (V := (vs ++ (out :: Value.int .i64 (i : Nat) :: ([.int .i64 l3.length, .pointer (some ⟨b, off + i * 4, none⟩), .int .i64 ((i + 1 : Nat) : Int)] ++ us))) ++ (out' :: Value.int .i64 (k : Nat) :: ([.int .i64 la.length, .pointer (some ⟨b', off' + k * 4, none⟩), .int .i64 ((k + 1 : Nat) : Int)] ++ us'))) hu98 ha98 hz98 (by decide) sx' hlt' ba p1' p2' p3' lu' p5'.ones p6' 14 16 17 18 19 20 (at_left (P1 3 _ fa)) (P0' 1) (P0' 2) (P0' 3) (P0' 4) P1'
        have hcs : ∀ e ∈ ([] : List CEnt), CallOk Tryz.prog ((vs ++ (out :: Value.int .i64 (i : Nat) :: ([.int .i64 l3.length, .pointer (some ⟨b, off + i * 4, none⟩), .int .i64 ((i + 1 : Nat) : Int)] ++ us))) ++ (out' :: Value.int .i64 (k : Nat) :: ([.int .i64 la.length, .pointer (some ⟨b', off' + k * 4, none⟩), .int .i64 ((k + 1 : Nat) : Int)] ++ us'))) w e := fun _ h => by cases h
        letI : Orc Tryz.prog := orcOf Tryz.prog es19b []
        letI : OrcOk Tryz.prog := okOf Tryz.prog es19b [] _ w hes hcs
        obtain ⟨q0', S⟩ := Head.sit (es := es19b) (cs := []) (ks := ks) hl'.plain h' hes hcs (by simp [lu, lu', lv])
        simp only [show (vs ++ (out :: Value.int .i64 (i : Nat) :: ([.int .i64 l3.length, .pointer (some ⟨b, off + i * 4, none⟩), .int .i64 ((i + 1 : Nat) : Int)] ++ us))).length = 15 by simp [lu, lv], Nat.reduceAdd] at S
        obtain ⟨y1, hr1, _⟩ := round_some hl' rf19b.todo
        obtain ⟨hcut, _⟩ := hl'.cutsH _ hr1
        have hn1 := runCuts_n hcut
        obtain ⟨r1, kb1, hcut⟩ := runCuts_cons hcut
        obtain ⟨r2, kb2, hcut⟩ := runCuts_cons hcut
        obtain ⟨nb1, kb1⟩ := cut_call kb1
        try dsimp only at nb1 kb1
        obtain ⟨nb2, kb2⟩ := cut_push kb2
        simp only [runCuts, Option.some.injEq] at hcut
        refine S.seg mixes 600 fun ρS1 wS1 cS1 e1 S1 => ?_
        refine S1.call kb1 (S1.base _ _ (renOf_sym (k := 23) (P1' 3 _ f3'))) (h3'.grows S1.since) (k15 n s3' t3' b3') fun ρS1x wS1x cS1x ub3 eS1x S1x => ?_
        rw [nb1] at S1x
        refine S1x.seg mixes 600 fun ρS1xy wS1xy cS1xy eS1xy S1xy => ?_
        have hrow : rowIs tab [⟨2005, ub3, .seq l3', 22⟩] 20 (tab.flat 102) ys' [.sym 1020, .sym 1021, .sym 1022, .sym 2005] := by
          have hv' := p5'
          simp only [tab, RdVals] at hv'
          obtain ⟨_, _, e0, _, _, rfl, _, _, _, e1, _, _, rfl, _, _, _, e2, _, _, rfl, _, _, _, e3, _, _, rfl, _, _, rfl⟩ := hv'
          simp only [List.getElem?_cons_succ, List.getElem?_cons_zero, Option.some.injEq] at g3'
          subst g3'
          exact ⟨_, _, _, _, rfl, rfl, Or.inl ⟨rfl, rfl⟩, _, _, _, _, rfl, rfl, Or.inl ⟨rfl, rfl⟩, _, _, _, _, rfl, rfl, Or.inl ⟨rfl, rfl⟩, _, _, _, _, rfl, rfl, Or.inr ⟨_, List.mem_of_getElem? (i := 0) rfl, rfl, rfl, rfl⟩, rfl, rfl⟩
        refine S1xy.push kb2 (appTy ty98) (S1xy.base _ _ (renOf_sym (k := 15) (P0' 0))) (take_small ba k) (row := ys') (S1xy.row (b0 := 20) hrow p5' P1') fun ρ4 w4 c4 out2 e4 m4 mo S4 => ?_
        rw [nb2] at m4
        refine S4.seg mixes 600 fun ρ5 w5 c5 e5 S5 => ?_
        rw [hcut] at S5
        refine S5.round h' hl' hr1 rf19b lfi19 (q0'.trans (e1.trans (eS1x.trans (eS1xy.trans (e4.trans e5))))) hn1 (S5.base _ _ (renOf_sym (k := 19) (P0' 4))) (e5 _ _ m4) mo (fun q hq => (List.mem_cons_of_mem _ hq)) fun c6 h6 => next' w5 c6 ⟨out2, ?_⟩
        rw [take_next hxi']
        exact h6
      · have P0' : ∀ (j : Nat) {more : List Value}, ((vs ++ (out :: Value.int .i64 (i : Nat) :: ([.int .i64 l3.length, .pointer (some ⟨b, off + i * 4, none⟩), .int .i64 ((i + 1 : Nat) : Int)] ++ us))) ++ more)[15 + j]? = more[j]? := fun j more => at_app (by simp [lu, lv])
        have hes := ent3Ok (P := Tryz.prog) (W := w) (V := (vs ++ (out :: Value.int .i64 (i : Nat) :: ([.int .i64 l3.length, .pointer (some ⟨b, off + i * 4, none⟩), .int .i64 ((i + 1 : Nat) : Int)] ++ us))) ++ (out' :: Value.int .i64 (la.length : Nat) :: [.int .i64 la.length])) (k := i) hu98 sx' 14 16 17 7 10 (at_left (P1 3 _ fa)) (P0' 1) (P0' 2) (by have := lift b3; omega) (at_left (P0 1)) (at_left (P0 4))
        have hcs : ∀ e ∈ ([] : List CEnt), CallOk Tryz.prog ((vs ++ (out :: Value.int .i64 (i : Nat) :: ([.int .i64 l3.length, .pointer (some ⟨b, off + i * 4, none⟩), .int .i64 ((i + 1 : Nat) : Int)] ++ us))) ++ (out' :: Value.int .i64 (la.length : Nat) :: [.int .i64 la.length])) w e := fun _ h => by cases h
        letI : Orc Tryz.prog := orcOf Tryz.prog end19b []
        letI : OrcOk Tryz.prog := okOf Tryz.prog end19b [] _ w hes hcs
        obtain ⟨q0', S⟩ := Head.sit (es := end19b) (cs := []) (ks := ks) hl'.plain h' hes hcs (by simp [lu, lv])
        simp only [show (vs ++ (out :: Value.int .i64 (i : Nat) :: ([.int .i64 l3.length, .pointer (some ⟨b, off + i * 4, none⟩), .int .i64 ((i + 1 : Nat) : Int)] ++ us))).length = 15 by simp [lu, lv], Nat.reduceAdd] at S
        obtain ⟨y1, hr1, _⟩ := round_some hl rf19a.todo
        obtain ⟨hcut, _⟩ := hl'.cutsH _ hr1
        have hn1 := runCuts_n hcut
        obtain ⟨r1, kc1, hcut⟩ := runCuts_cons hcut
        obtain ⟨nc1, kc1⟩ := cut_push kc1
        try dsimp only at nc1 kc1
        simp only [runCuts, Option.some.injEq] at hcut
        refine S.seg mixes 600 fun ρS1 wS1 cS1 e1 S1 => ?_
        have S2 := S1.close (j := 1015) (t := 98) (S1.base _ _ (renOf_sym (k := 15) (P0' 0))) rfl rfl (Nat.succ_pos 3)
        have hrow : rowIs tab [⟨1015, out', .seq (la.take la.length), 98⟩] 11 (tab.flat 100) ys [.sym 1011, .sym 1012, .sym 1013, .sym 1015] := by
          have hv' := p5
          simp only [tab, RdVals] at hv'
          obtain ⟨_, _, e0, _, _, rfl, _, _, _, e1, _, _, rfl, _, _, _, e2, _, _, rfl, _, _, _, e3, _, _, rfl, _, _, rfl⟩ := hv'
          simp only [List.getElem?_cons_succ, List.getElem?_cons_zero, Option.some.injEq] at g3
          subst g3
          rw [List.take_length]
          exact ⟨_, _, _, _, rfl, rfl, Or.inl ⟨rfl, rfl⟩, _, _, _, _, rfl, rfl, Or.inl ⟨rfl, rfl⟩, _, _, _, _, rfl, rfl, Or.inl ⟨rfl, rfl⟩, _, _, _, _, rfl, rfl, Or.inr ⟨_, List.mem_of_getElem? (i := 0) rfl, rfl, rfl, rfl⟩, rfl, rfl⟩
        refine S2.push kc1 (appTy ty26) (S2.base _ _ (renOf_sym (k := 6) (at_left (P0 0)))) (take_small b3 i) (row := ys) (S2.row (b0 := 11) hrow p5 (fun j z h => at_left (P1 j z h))) fun ρ4 w4 c4 out2 e4 m4 mo S4 => ?_
        rw [nc1] at m4
        refine S4.seg mixes 600 fun ρ5 w5 c5 e5 S5 => ?_
        rw [hcut] at S5
        refine S5.round h hl hr1 rf19a lf19 (le0.trans (q0'.trans (e1.trans (e4.trans e5)))) (hn1.trans hn) (S5.base _ _ (renOf_sym (k := 10) (at_left (P0 4)))) (e5 _ _ m4) mo (fun q hq => absurd hq List.not_mem_nil) fun c6 h6 => next w5 c6 ⟨out2, ?_⟩
        rw [take_next hxi]
        exact h6
    · have hes := ent2Ok (P := Tryz.prog) (W := w) (V := vs ++ (out :: Value.int .i64 (l3.length : Nat) :: [.int .i64 l3.length])) hu26 sx3 3 7 8 (at_left f3) (P0 1) (P0 2)
      have hcs : ∀ e ∈ ([] : List CEnt), CallOk Tryz.prog (vs ++ (out :: Value.int .i64 (l3.length : Nat) :: [.int .i64 l3.length])) w e := fun _ h => by cases h
      letI : Orc Tryz.prog := orcOf Tryz.prog end19a []
      letI : OrcOk Tryz.prog := okOf Tryz.prog end19a [] _ w hes hcs
      obtain ⟨q0, S⟩ := Head.sit (es := end19a) (cs := []) (ks := ks) hl.plain h hes hcs (by simp [lv])
      simp only [lv, Nat.reduceAdd] at S
      obtain ⟨y0, hr⟩ := head_some lf19t.head
      obtain ⟨hcut, hgg⟩ := hl.cutsH _ hr
      simp only [runCuts, Option.some.injEq] at hcut
      refine S.seg mixes 600 fun ρS1 wS1 cS1 e1 S1 => ?_
      rw [hcut] at S1
      have S2 := S1.close (j := 1006) (t := 26) (S1.base _ _ (renOf_sym (k := 6) (P0 0))) rfl rfl (Nat.succ_pos 3)
      simp only [List.take_length] at S2
      refine S2.loop hr (by rw [hgg]; exact hg) lf19t (by simp [lv]) (by simp [lv]) (by
        intro q hq
        simp only [List.mem_cons, List.not_mem_nil, or_false] at hq
        rcases hq with rfl
        rfl) 106 8 fun B2 K2 hl2 _ c9 h9 => ?_
      have P02 : ∀ (j : Nat) {more : List Value}, ((vs ++ (out :: Value.int .i64 (l3.length : Nat) :: [.int .i64 l3.length])) ++ more)[9 + j]? = more[j]? := fun j more => at_app (by simp [lv])
      refine Ends.each (N := l4.length) (A := fun i w' c => ∃ out2, Head Tryz.prog w tab (vs ++ (out :: Value.int .i64 (l3.length : Nat) :: [.int .i64 l3.length])) (heapOf q19t) F19t [⟨1006, out, .seq l3, 26⟩] [] 10 ⟨out2, 106, 8, l4.take i⟩ 11 (i : Nat) 19 y0.2.1.n B2 K2 (ρS1.only (vs ++ (out :: Value.int .i64 (l3.length : Nat) :: [.int .i64 l3.length]))) w' c) (fun i w3 c3 hlt ⟨out2, h⟩ next => ?_) (fun w3 c3 ⟨out2, h⟩ => ?_) ⟨_, h9⟩
      · obtain ⟨b, off, cap, ys, us, p1, p2, p3, _, p4, p5, p6⟩ := seq_at (E := 106) rfl h4 (List.getElem?_eq_getElem hlt)
        have hxi : l4[i]? = some (.row ys) := by rw [List.getElem?_eq_getElem hlt, p4]
        have lu : us.length = 8 := p5.len.1
        obtain ⟨za0, ya0, fa0, ga0, ha0⟩ := p5.at 0 55 rfl
        obtain ⟨la0, rfl⟩ := rd_seq ha0 rfl
        obtain ⟨sa0, ba0, ta0⟩ := sub_at (n := n) (by omega) t4 hxi _ _ ga0
        obtain ⟨za1, ya1, fa1, ga1, ha1⟩ := p5.at 1 55 rfl
        obtain ⟨la1, rfl⟩ := rd_seq ha1 rfl
        obtain ⟨sa1, ba1, ta1⟩ := sub_at (n := n) (by omega) t4 hxi _ _ ga1
        have fy : fitsL ys := by
          have := fitsL_at t4 hxi
          simpa only [T.fits] using this
        have P1 : ∀ (j : Nat) z, us[j]? = some z → ((vs ++ (out :: Value.int .i64 (l3.length : Nat) :: [.int .i64 l3.length])) ++ (out2 :: Value.int .i64 (i : Nat) :: ([.int .i64 l4.length, .pointer (some ⟨b, off + i * 8, none⟩), .int .i64 ((i + 1 : Nat) : Int)] ++ us)))[14 + j]? = some z := fun j z h => by rw [show 14 + j = 9 + (5 + j) by omega, P02, show 5 + j = j + 5 by omega]; exact h
        have hes := ent5Ok (P := Tryz.prog) (W := w) (V := (vs ++ (out :: Value.int .i64 (l3.length : Nat) :: [.int .i64 l3.length])) ++ (out2 :: Value.int .i64 (i : Nat) :: ([.int .i64 l4.length, .pointer (some ⟨b, off + i * 8, none⟩), .int .i64 ((i + 1 : Nat) : Int)] ++ us))) hu27 ha27 hz27 (by decide) sx4 hlt b4 p1 p2 p3 lu p5.ones p6 4 10 11 12 13 14 (at_left (at_left f4)) (P02 1) (P02 2) (P02 3) (P02 4) P1
        have hcs : ∀ e ∈ ([] : List CEnt), CallOk Tryz.prog ((vs ++ (out :: Value.int .i64 (l3.length : Nat) :: [.int .i64 l3.length])) ++ (out2 :: Value.int .i64 (i : Nat) :: ([.int .i64 l4.length, .pointer (some ⟨b, off + i * 8, none⟩), .int .i64 ((i + 1 : Nat) : Int)] ++ us))) w e := fun _ h => by cases h
        letI : Orc Tryz.prog := orcOf Tryz.prog es19t []
        letI : OrcOk Tryz.prog := okOf Tryz.prog es19t [] _ w hes hcs
        obtain ⟨q0, S⟩ := Head.sit (es := es19t) (cs := []) (ks := ks) hl2.plain h hes hcs (by simp [lu, lv])
        simp only [show (vs ++ (out :: Value.int .i64 (l3.length : Nat) :: [.int .i64 l3.length])).length = 9 by simp [lv], Nat.reduceAdd] at S
        obtain ⟨y1, hr1, _⟩ := round_some hl2 rf19t.todo
        obtain ⟨hcut, _⟩ := hl2.cutsX _ hr1
        have hn1 := runCutsX_n hcut
        obtain ⟨r1, ka1, hcut⟩ := runCutsX_cons hcut
        obtain ⟨r2, ka2, hcut⟩ := runCutsX_cons hcut
        obtain ⟨r3, ka3, hcut⟩ := runCutsX_cons hcut
        obtain ⟨r4, ka4, hcut⟩ := runCutsX_cons hcut
        obtain ⟨r5, ka5, hcut⟩ := runCutsX_cons hcut
        obtain ⟨r6, ka6, hcut⟩ := runCutsX_cons hcut
        obtain ⟨na1, ka1⟩ := cut_copy (cut_old ka1)
        try dsimp only at na1 ka1
        obtain ⟨na2, ka2⟩ := cut_copy (cut_old ka2)
        obtain ⟨na3, kx3, ka3⟩ := cut_own ka3
        obtain ⟨na4, ka4⟩ := cut_ask ka4
        obtain ⟨na5, ka5⟩ := cut_ask ka5
        obtain ⟨na6, ka6⟩ := cut_push (cut_old ka6)
        simp only [runCutsX, Option.some.injEq] at hcut
        refine S.seg mixes 600 fun ρS1 wS1 cS1 e1 S1 => ?_
        refine S1.copy ka1 (appTy cp55) (S1.base _ _ (renOf_sym (k := 14) (P1 0 _ fa0))) (ha0.grows S1.since) rfl rfl (by decide) (small_most ba0) fun ρa1 wa1 ca1 ua0 ea1 A1 => ?_
        rw [na1] at A1
        refine A1.seg mixes 600 fun ρa2 wa2 ca2 ea2 A2 => ?_
        refine A2.copy ka2 (appTy cp55) (A2.base _ _ (renOf_sym (k := 15) (P1 1 _ fa1))) (ha1.grows A2.since) rfl rfl (by decide) (small_most ba1) fun ρa3 wa3 ca3 ua1 ea3 A3 => ?_
        rw [na2] at A3
        refine A3.seg mixes 600 fun ρa4 wa4 ca4 ea4 A4 => ?_
        have hpart : RdVals tab Any w (tab.flat 104) ((us.drop 2).take 6) ((ys.drop 2).take 6) := (p5.drop 2).take 6
        have hsyms := syms_are (us := (us.drop 2).take 6) (k := 16) (m := 6) A4.base (fun j z h => p5.ones (2 + j) z (part_any h)) (by simp [lu]) (fun j z h => by rw [show 16 + j = 14 + (2 + j) by omega]; exact P1 (2 + j) z (part_any h))
        refine A4.callOwn (E := 104) (t := 74) (row := (ys.drop 2).take 6) (S := Any) ka3 kx3 rfl rfl (fun l hl => by rw [hsyms l hl]; exact hpart.grows A4.since) (k35 _ (Nat.lt_succ_self _) (by simp only [fitsL, T.fits]; exact ⟨fitsL_part fy 2 6, trivial⟩) (one_small _)) fun ρa5 wa5 ca5 uc ea5 A5 => ?_
        rw [na3] at A5
        refine A5.seg mixes 600 fun ρa6 wa6 ca6 ea6 A6 => ?_
        obtain ⟨bb, oo, cc, _, _, d1, d2, d3, _, _, _, _⟩ := seq_at (E := 104) (i := 0) rfl (A6.data.facts _ List.mem_cons_self) rfl
        simp only [List.length_singleton] at d1 d2
        subst d1
        have nm6 := A6.named _ List.mem_cons_self
        refine A6.ask (v := .pointer (some ⟨bb, oo + 0 * 6, none⟩)) (zs := [.pointer (some ⟨bb, oo + 0 * 6, none⟩)]) ka4 ⟨rfl, rfl⟩ (fun l hl o evc ht he => ?_) fun ρa7 ca7 ea7 mp gd7 A7 => ?_
        · simp only [RelL, RelV] at hl
          obtain ⟨u1, _, rfl, hl1, _, _, rfl, rfl, rfl⟩ := hl
          obtain ⟨loc, hl2, hl3, _⟩ := hl1
          rw [nm6] at hl2
          cases hl2
          exact idx_does (x := 0) hu74 hz74 (by decide) d2 (by decide) o evc ht (by rw [he, hl3]; rfl)
        have mp := mp 0 _ rfl
        rw [na4] at mp
        refine A7.seg mixes 600 fun ρa8 wa8 ca8 ea8 A8 => ?_
        obtain ⟨bb2, oo2, cc2, cl2, zs2, d1', d2', d3', _, d4', d5', d6'⟩ := seq_at (E := 104) (i := 0) rfl (A8.data.facts _ List.mem_cons_self) rfl
        simp only [List.length_singleton] at d1'
        cases d1'
        cases d4'
        have lz : zs2.length = 6 := d5'.len.1
        refine A8.ask (v := .agg zs2.toArray) (zs := zs2) ka5 ⟨lz, rfl, fun z hz => by
          obtain ⟨j, hj, rfl⟩ := List.getElem_of_mem hz
          exact d5'.ones j _ (List.getElem?_eq_getElem hj)⟩ (fun l hl o evc ht he => ?_) fun ρa9 ca9 ea9 mz gd9 A9 => ?_
        · simp only [RelL] at hl
          obtain ⟨u1, _, rfl, hl1, rfl⟩ := hl
          rw [sym_is (ea8 _ _ mp) hl1] at he
          exact load_does ha74 (by rw [lz]; exact hz74) d6' o evc ht he
        rw [na5] at mz
        have A9 := A9.more (newFacts 2009 zs2 ((ys.drop 2).take 6) (tab.flat 104)) (newFacts_rd (d5'.mono (Nat.le_refl _) (fun _ _ _ => rfl) gd9) mz)
        refine A9.seg mixes 600 fun ρb1 wb1 cb1 eb1 B1 => ?_
        have hrow : ∀ l, RelL ρb1 ([.sym 2004, .sym 2005] ++ symR 2009 6) l → RdVals tab (Good w.heap.size ρb1 (seg Tryz.prog 600 r5.1 r5.2).2 wb1 [⟨out2, 106, 8, l4.take i⟩]) wb1 (tab.flat 106) l ys := by
          have hv' := p5
          simp only [tab, RdVals] at hv'
          obtain ⟨_, _, e0, _, _, rfl, _, _, _, e1, _, _, rfl, _, _, _, e2, _, _, rfl, _, _, _, e3, _, _, rfl, _, _, _, e4, _, _, rfl, _, _, _, e5, _, _, rfl, _, _, _, e6, _, _, rfl, _, _, _, e7, _, _, rfl, _, _, rfl⟩ := hv'
          simp only [List.getElem?_cons_succ, List.getElem?_cons_zero, Option.some.injEq] at ga0 ga1
          subst ga0 ga1
          refine rows_append (tA := [55, 55]) (tB := tab.flat 104) (xA := [.seq la0, .seq la1]) (xB := [e2, e3, e4, e5, e6, e7]) (B1.row (b0 := 14) ?_ (p5.take 2) (fun j z h => P1 j z (by rw [← Nat.zero_add j]; exact part_any (j := 0) h))) (B1.newRow (ts := tab.flat 104) lz rfl fun q hq => List.mem_append_left _ hq)
          exact ⟨_, _, _, _, rfl, rfl, Or.inr ⟨_, List.mem_append_right _ (List.mem_of_getElem? (i := 2) rfl), rfl, rfl, rfl⟩, _, _, _, _, rfl, rfl, Or.inr ⟨_, List.mem_append_right _ (List.mem_of_getElem? (i := 1) rfl), rfl, rfl, rfl⟩, rfl, rfl⟩
        refine B1.push ka6 (appTy ty27) (B1.base _ _ (renOf_sym (k := 9) (P02 0))) (take_small b4 i) (row := ys) hrow fun ρ4 w4 c4 out3 e4 m4 mo S4 => ?_
        rw [na6] at m4
        refine S4.seg mixes 600 fun ρ5 w5 c5 e5 S5 => ?_
        rw [hcut] at S5
        refine S5.round h hl2 hr1 rf19t lf19t (q0.trans (e1.trans (ea1.trans (ea2.trans (ea3.trans (ea4.trans (ea5.trans (ea6.trans (ea7.trans (ea8.trans (ea9.trans (eb1.trans (e4.trans e5))))))))))))) hn1 (S5.base _ _ (renOf_sym (k := 13) (P02 4))) (e5 _ _ m4) mo (fun q hq => List.mem_append_right _ (List.mem_cons_of_mem _ (List.mem_cons_of_mem _ (List.mem_cons_of_mem _ hq)))) fun c6 h6 => next w5 c6 ⟨out3, ?_⟩
        rw [take_next hxi]
        exact h6
      · have hes := ent2Ok (P := Tryz.prog) (W := w) (V := (vs ++ (out :: Value.int .i64 (l3.length : Nat) :: [.int .i64 l3.length])) ++ (out2 :: Value.int .i64 (l4.length : Nat) :: [.int .i64 l4.length])) hu27 sx4 4 10 11 (at_left (at_left f4)) (P02 1) (P02 2)
        have hcs : ∀ e ∈ ([] : List CEnt), CallOk Tryz.prog ((vs ++ (out :: Value.int .i64 (l3.length : Nat) :: [.int .i64 l3.length])) ++ (out2 :: Value.int .i64 (l4.length : Nat) :: [.int .i64 l4.length])) w e := fun _ h => by cases h
        letI : Orc Tryz.prog := orcOf Tryz.prog end19t []
        letI : OrcOk Tryz.prog := okOf Tryz.prog end19t [] _ w hes hcs
        obtain ⟨q0, S⟩ := Head.sit (es := end19t) (cs := []) (ks := ks) hl2.plain h hes hcs (by simp [lv])
        simp only [show (vs ++ (out :: Value.int .i64 (l3.length : Nat) :: [.int .i64 l3.length])).length = 9 by simp [lv], Nat.reduceAdd] at S
        obtain ⟨y1, hr1⟩ := head_some lf19u.head
        obtain ⟨hcut, hgg2⟩ := hl2.cutsH _ hr1
        simp only [runCuts, Option.some.injEq] at hcut
        refine S.seg mixes 600 fun ρS1 wS1 cS1 e1 S1 => ?_
        rw [hcut] at S1
        have S2 := S1.close (j := 1009) (t := 27) (S1.base _ _ (renOf_sym (k := 9) (P02 0))) rfl rfl (Nat.succ_pos 7)
        simp only [List.take_length] at S2
        refine S2.loop hr1 (by rw [hgg2, hgg]; exact hg) lf19u (by simp [lv]) (by simp [lv]) (by
          intro q hq
          simp only [List.mem_cons, List.not_mem_nil, or_false] at hq
          rcases hq with rfl | rfl <;> rfl) 30 6 fun B3 K3 hl3 _ c9 h9 => ?_
        have P03 : ∀ (j : Nat) {more : List Value}, (((vs ++ (out :: Value.int .i64 (l3.length : Nat) :: [.int .i64 l3.length])) ++ (out2 :: Value.int .i64 (l4.length : Nat) :: [.int .i64 l4.length])) ++ more)[12 + j]? = more[j]? := fun j more => at_app (by simp [lv])
        refine Ends.each (N := l5.length) (A := fun i w' c => ∃ out3, Head Tryz.prog w tab ((vs ++ (out :: Value.int .i64 (l3.length : Nat) :: [.int .i64 l3.length])) ++ (out2 :: Value.int .i64 (l4.length : Nat) :: [.int .i64 l4.length])) (heapOf q19u) F19u [⟨1009, out2, .seq l4, 27⟩, ⟨1006, out, .seq l3, 26⟩] [] 15 ⟨out3, 30, 6, l5.take i⟩ 16 (i : Nat) 19 y1.2.1.n B3 K3 (ρS1.only ((vs ++ (out :: Value.int .i64 (l3.length : Nat) :: [.int .i64 l3.length])) ++ (out2 :: Value.int .i64 (l4.length : Nat) :: [.int .i64 l4.length]))) w' c) (fun i w4 c4 hlt ⟨out3, h⟩ next => ?_) (fun w4 c4 ⟨out3, h⟩ => ?_) ⟨_, h9⟩
        · obtain ⟨b, off, cap, ys, us, p1, p2, p3, _, p4, p5, p6⟩ := seq_at (E := 30) rfl h5 (List.getElem?_eq_getElem hlt)
          have hxi : l5[i]? = some (.row ys) := by rw [List.getElem?_eq_getElem hlt, p4]
          have lu : us.length = 6 := p5.len.1
          have P1 : ∀ (j : Nat) z, us[j]? = some z → (((vs ++ (out :: Value.int .i64 (l3.length : Nat) :: [.int .i64 l3.length])) ++ (out2 :: Value.int .i64 (l4.length : Nat) :: [.int .i64 l4.length])) ++ (out3 :: Value.int .i64 (i : Nat) :: ([.int .i64 l5.length, .pointer (some ⟨b, off + i * 6, none⟩), .int .i64 ((i + 1 : Nat) : Int)] ++ us)))[17 + j]? = some z := fun j z h => by rw [show 17 + j = 12 + (5 + j) by omega, P03, show 5 + j = j + 5 by omega]; exact h
          have hes := ent5Ok (P := Tryz.prog) (W := w) (V := ((vs ++ (out :: Value.int .i64 (l3.length : Nat) :: [.int .i64 l3.length])) ++ (out2 :: Value.int .i64 (l4.length : Nat) :: [.int .i64 l4.length])) ++ (out3 :: Value.int .i64 (i : Nat) :: ([.int .i64 l5.length, .pointer (some ⟨b, off + i * 6, none⟩), .int .i64 ((i + 1 : Nat) : Int)] ++ us))) hu28 ha28 hz28 (by decide) sx5 hlt b5 p1 p2 p3 lu p5.ones p6 5 13 14 15 16 17 (at_left (at_left (at_left f5))) (P03 1) (P03 2) (P03 3) (P03 4) P1
          have hcs : ∀ e ∈ ([] : List CEnt), CallOk Tryz.prog (((vs ++ (out :: Value.int .i64 (l3.length : Nat) :: [.int .i64 l3.length])) ++ (out2 :: Value.int .i64 (l4.length : Nat) :: [.int .i64 l4.length])) ++ (out3 :: Value.int .i64 (i : Nat) :: ([.int .i64 l5.length, .pointer (some ⟨b, off + i * 6, none⟩), .int .i64 ((i + 1 : Nat) : Int)] ++ us))) w e := fun _ h => by cases h
          letI : Orc Tryz.prog := orcOf Tryz.prog es19u []
          letI : OrcOk Tryz.prog := okOf Tryz.prog es19u [] _ w hes hcs
          obtain ⟨q0, S⟩ := Head.sit (es := es19u) (cs := []) (ks := ks) hl3.plain h hes hcs (by simp [lu, lv])
          simp only [show ((vs ++ (out :: Value.int .i64 (l3.length : Nat) :: [.int .i64 l3.length])) ++ (out2 :: Value.int .i64 (l4.length : Nat) :: [.int .i64 l4.length])).length = 12 by simp [lv], Nat.reduceAdd] at S
          obtain ⟨y2, hr2, _⟩ := round_some hl3 rf19u.todo
          obtain ⟨hcut, _⟩ := hl3.cutsH _ hr2
          have hn1 := runCuts_n hcut
          obtain ⟨r1, ka1, hcut⟩ := runCuts_cons hcut
          obtain ⟨r2, ka2, hcut⟩ := runCuts_cons hcut
          obtain ⟨na1, ka1⟩ := cut_call ka1
          try dsimp only at na1 ka1
          obtain ⟨na2, ka2⟩ := cut_push ka2
          simp only [runCuts, Option.some.injEq] at hcut
          refine S.seg mixes 600 fun ρS1 wS1 cS1 e1 S1 => ?_
          refine S1.callRow (E := 30) ka1 rfl (syms_are S1.base p5.ones lu P1) (p5.grows S1.since) (ih (by have := size_at hxi; simp only [T.row.sizeOf_spec] at this; omega) (by have := fitsL_at t5 hxi; simpa only [T.fits] using this)) fun ρ2 w2 c2 us' e2 lu' S2 => ?_
          rw [na1] at S2
          refine S2.seg mixes 600 fun ρ3 w3 c3 e3 S3 => ?_
          refine S3.push ka2 (appTy ty28) (S3.base _ _ (renOf_sym (k := 12) (P03 0))) (take_small b5 i) (row := ys) (S3.newRow (ts := tab.flat 30) lu' p5.len.2 fun q hq => List.mem_append_left _ hq) fun ρ4 w4 c4 out' e4 m4 mo S4 => ?_
          rw [na2] at m4
          refine S4.seg mixes 600 fun ρ5 w5 c5 e5 S5 => ?_
          rw [hcut] at S5
          refine S5.round h hl3 hr2 rf19u lf19u (q0.trans (e1.trans (e2.trans (e3.trans (e4.trans e5))))) hn1 (S5.base _ _ (renOf_sym (k := 16) (P03 4))) (e5 _ _ m4) mo (fun q hq => List.mem_append_right _ hq) fun c6 h6 => next w5 c6 ⟨out', ?_⟩
          rw [take_next hxi]
          exact h6
        · have hes := ent2Ok (P := Tryz.prog) (W := w) (V := ((vs ++ (out :: Value.int .i64 (l3.length : Nat) :: [.int .i64 l3.length])) ++ (out2 :: Value.int .i64 (l4.length : Nat) :: [.int .i64 l4.length])) ++ (out3 :: Value.int .i64 (l5.length : Nat) :: [.int .i64 l5.length])) hu28 sx5 5 13 14 (at_left (at_left (at_left f5))) (P03 1) (P03 2)
          have hcs : ∀ e ∈ ([] : List CEnt), CallOk Tryz.prog (((vs ++ (out :: Value.int .i64 (l3.length : Nat) :: [.int .i64 l3.length])) ++ (out2 :: Value.int .i64 (l4.length : Nat) :: [.int .i64 l4.length])) ++ (out3 :: Value.int .i64 (l5.length : Nat) :: [.int .i64 l5.length])) w e := fun _ h => by cases h
          letI : Orc Tryz.prog := orcOf Tryz.prog end19u []
          letI : OrcOk Tryz.prog := okOf Tryz.prog end19u [] _ w hes hcs
          obtain ⟨q0, S⟩ := Head.sit (es := end19u) (cs := []) (ks := ks) hl3.plain h hes hcs (by simp [lv])
          simp only [show ((vs ++ (out :: Value.int .i64 (l3.length : Nat) :: [.int .i64 l3.length])) ++ (out2 :: Value.int .i64 (l4.length : Nat) :: [.int .i64 l4.length])).length = 12 by simp [lv], Nat.reduceAdd] at S
          obtain ⟨y2, hr2⟩ := ret_some stop19
          obtain ⟨hcut, hgg3⟩ := hl3.cutsH _ hr2
          simp only [runCuts, Option.some.injEq] at hcut
          refine S.seg mixes 600 fun ρS1 wS1 cS1 e1 S1 => ?_
          rw [hcut] at S1
          have S2 := S1.close (j := 1012) (t := 28) (S1.base _ _ (renOf_sym (k := 12) (P03 0))) rfl rfl (Nat.succ_pos 5)
          simp only [List.take_length] at S2
          refine S2.ret (by rw [hgg3, hgg2, hgg]; exact hg) hr2 stop19 fun u hu gr => ?_
          simp only [RelV] at hu
          obtain ⟨us, rfl, hu⟩ := hu
          have row := Sit.fresh (S2.row (b0 := 0) (ts := tab.flat 30) (xs := x) ?_ hv (fun j z h => by rw [Nat.zero_add]; exact at_left (at_left (at_left h))) _ hu)
          · exact ⟨_, rfl, ⟨us.toList, row.len.1, by simp, fun z hz => by
              obtain ⟨j, hj, rfl⟩ := List.getElem_of_mem hz
              exact row.ones j _ (List.getElem?_eq_getElem hj)⟩, gr, us.toList, by simp, row⟩
          · have hv' := hv
            simp only [tab, RdVals] at hv'
            obtain ⟨_, _, e0, _, _, rfl, _, _, _, e1, _, _, rfl, _, _, _, e2, _, _, rfl, _, _, _, e3, _, _, rfl, _, _, _, e4, _, _, rfl, _, _, _, e5, _, _, rfl, _, _, rfl⟩ := hv'
            simp only [List.getElem?_cons_succ, List.getElem?_cons_zero, Option.some.injEq] at g3 g4 g5
            subst g3 g4 g5
            exact ⟨_, _, _, _, rfl, rfl, Or.inl ⟨rfl, rfl⟩, _, _, _, _, rfl, rfl, Or.inl ⟨rfl, rfl⟩, _, _, _, _, rfl, rfl, Or.inl ⟨rfl, rfl⟩, _, _, _, _, rfl, rfl, Or.inr ⟨_, List.mem_of_getElem? (i := 2) rfl, rfl, rfl, rfl⟩, _, _, _, _, rfl, rfl, Or.inr ⟨_, List.mem_of_getElem? (i := 1) rfl, rfl, rfl, rfl⟩, _, _, _, _, rfl, rfl, Or.inr ⟨_, List.mem_of_getElem? (i := 0) rfl, rfl, rfl, rfl⟩, rfl, rfl⟩
end Go.Am
set_option linter.unusedSectionVars false
namespace Go.Am

/-- A region: its operations, what comes before each, the temporaries from before it, the values that its operations give, its calls in their order, the frame's size, the run's own memory. -/
structure Draw where
  ops : Array Oper
  ms : List Nat
  base : List (Nat × AV)
  val : Nat → AV
  hands : List Nat
  call : Nat → FuncId × List AV
  n : Nat
  H : AHeap
def Draw.last (p : Draw) : Nat := p.ops.size - 1
def slotsN (ops : Array Oper) (val : Nat → AV) (m : Nat) : Nat → List (Nat × AV)
  | 0 => []
  | k + 1 => bif bit m k then (match (opN ops k).dst with
    | some d => (d, val k) :: slotsN ops val m k
    | none => slotsN ops val m k) else slotsN ops val m k
/-- What an operation may look at, as a tree. -/
def Draw.tree (p : Draw) (i : Nat) : Tree AV := mkTree p.n (p.base ++ slotsN p.ops p.val (mkN p.ms i) p.last)
def isQ : Cls → Bool
  | .pure => true
  | .reads => true
  | _ => false
def enterIs (x : Option AOut) (g : FuncId × List AV) : Bool :=
  match x with
  | some (.enter f xs) => Nat.beq f g.1 && AV.sames xs g.2
  | _ => false
def valueIs (x : Option AOut) (v : AV) : Bool :=
  match x with
  | some (.value u _) => AV.same u v
  | _ => false
def Draw.chk (P : Program) (p : Draw) (i : Nat) : Bool :=
  guardOk p.ops (p.tree i) (opN p.ops i) &&
  (bif wantedA p.ops (p.tree i) (opN p.ops i) then
    (bif p.hands.contains i then enterIs (execA P p.H (evA (p.tree i)) (opN p.ops i)) (p.call i)
      else isQ (clsOf (opN p.ops i)) && valueIs (execA P p.H (evA (p.tree i)) (opN p.ops i)) (p.val i))
  else !p.hands.contains i && AV.same (p.val i) .undef)
def fstNot (d : Nat) : List (Nat × AV) → Bool
  | [] => true
  | (e, _) :: l => !(Nat.beq e d) && fstNot d l
/-- The kernel's word on a region. -/
structure Draw.Ok (P : Program) (p : Draw) : Prop where
  bef : befores [] p.ops.toList = some p.ms
  pos : 0 < p.ops.size
  dsts : dstsOk (p.ops.toList.take p.last) = true
  free : ((List.range p.last).all fun i => match (opN p.ops i).dst with
    | some d => Nat.blt d p.n && fstNot d p.base
    | none => true) = true
  end' : ((List.range p.last).all fun i => bit (mkN p.ms p.last) i) = true
  chain : ((List.range p.hands.length).all fun a => (List.range a).all fun b => bit (mkN p.ms (p.hands.getD a 0)) (p.hands.getD b 0)) = true
  low : (p.hands.all fun h => Nat.blt h p.last) = true
  ops' : ((List.range p.last).all fun i => p.chk P i) = true
/-- The midst of a region. -/
structure RegAt (p : Draw) (C : Nat → Bool) (s : Nat) (f : FuncId) (K : List Item) (l : List Nat) (ρ : Ren) (c : Frame) : Prop where
  mode : c.mode = .run
  defers : c.defers = []
  lone : c.roundOf = none
  kind : c.kind = .normal
  fn : c.fn = f
  todo : c.todo = .inRegion p.ops l :: K
  size : c.tmps.size = p.n
  base : ∀ e ∈ p.base, RelV ρ e.2 (c.tmps.getD e.1 Go.undef)
  val : ∀ j, C j = true → ∀ d, (opN p.ops j).dst = some d → RelV ρ (p.val j) (c.tmps.getD d Go.undef)
  low : ∀ j, C j = true → j < p.last
  clos : Closed p.ops (fun j => C j = true)
  stage : ∀ t h, p.hands[t]? = some h → (C h = true ↔ t < s)
  sle : s ≤ p.hands.length
theorem slotsN_mem {ops : Array Oper} {val : Nat → AV} {m : Nat} : ∀ {k : Nat} {e : Nat × AV}, e ∈ slotsN ops val m k → ∃ j, j < k ∧ bit m j = true ∧ (opN ops j).dst = some e.1 ∧ e.2 = val j
  | 0, e, h => by simp [slotsN] at h
  | k + 1, e, h => by
    unfold slotsN at h
    cases hb : bit m k with
    | false =>
      rw [hb, cond_false] at h
      obtain ⟨j, h1, h2⟩ := slotsN_mem h
      exact ⟨j, by omega, h2⟩
    | true =>
      rw [hb, cond_true] at h
      split at h
      · rename_i d hd
        rcases List.mem_cons.1 h with rfl | h
        · exact ⟨k, by omega, hb, hd, rfl⟩
        · obtain ⟨j, h1, h2⟩ := slotsN_mem h
          exact ⟨j, by omega, h2⟩
      · obtain ⟨j, h1, h2⟩ := slotsN_mem h
        exact ⟨j, by omega, h2⟩
section
variable {P : Program} {p : Draw} {C : Nat → Bool} {i s : Nat} {f : FuncId} {K : List Item} {l : List Nat} {ρ : Ren} {c : Frame}
theorem Draw.Ok.len (k : p.Ok P) : p.ms.length = p.ops.size := by
  have := (befores_spec k.bef).1
  simpa using this
theorem Draw.Ok.mask (k : p.Ok P) (t : Turn p.ops C i) (hc : Closed p.ops (fun i => C i = true)) {a : Nat} (h : bit (mkN p.ms i) a = true) : C a = true :=
  (mask_closed k.bef hc (opN_get t.size) (mkN_get (by rw [k.len]; exact t.size)) t.waits a h).1
theorem RegAt.rel (k : p.Ok P) (r : RegAt p C s f K l ρ c) (t : Turn p.ops C i) : RelT ρ p.n (p.tree i) c.tmps := mkTree_rel r.size fun e he => by
  rcases List.mem_append.1 he with he | he
  · exact r.base e he
  · obtain ⟨j, h1, h2, h3, h4⟩ := slotsN_mem he
    rw [h4]
    exact r.val j (k.mask t r.clos h2) _ h3
theorem Draw.Ok.chk_at (k : p.Ok P) (hi : i < p.last) : p.chk P i = true := by
  have := k.ops'
  rw [List.all_eq_true] at this
  exact this i (by simpa using hi)
theorem fstNot_spec {d : Nat} : ∀ {l : List (Nat × AV)}, fstNot d l = true → ∀ e ∈ l, e.1 ≠ d
  | [], _, e, he => by cases he
  | (a, x) :: l, h, e, he => by
    simp only [fstNot, Bool.and_eq_true] at h
    rcases List.mem_cons.1 he with rfl | he
    · intro e'
      have h1 := h.1
      simp only at e'
      rw [e', Nat.beq_refl] at h1
      cases h1
    · exact fstNot_spec h.2 e he
theorem Draw.Ok.dst (k : p.Ok P) (hi : i < p.last) {d : Tmp} (hd : (opN p.ops i).dst = some d) : d < p.n ∧ ∀ e ∈ p.base, e.1 ≠ d := by
  have := k.free
  rw [List.all_eq_true] at this
  have := this i (by simpa using hi)
  rw [hd] at this
  simp only [Bool.and_eq_true] at this
  exact ⟨Nat.lt_of_succ_le (Nat.le_of_ble_eq_true this.1), fstNot_spec this.2⟩
theorem Draw.last_lt (k : p.Ok P) (hi : i < p.last) : i < p.ops.size := by
  unfold Draw.last at hi
  omega
theorem Draw.Ok.dst_inj (k : p.Ok P) {j : Nat} {d : Tmp} (hi : i < p.last) (hj : j < p.last) (di : (opN p.ops i).dst = some d) (dj : (opN p.ops j).dst = some d) : i = j := by
  have h1 : (p.ops.toList.take p.last)[i]? = some (opN p.ops i) := by
    rw [List.getElem?_take, if_pos hi, Array.getElem?_toList]; exact opN_get (Draw.last_lt k hi)
  have h2 : (p.ops.toList.take p.last)[j]? = some (opN p.ops j) := by
    rw [List.getElem?_take, if_pos hj, Array.getElem?_toList]; exact opN_get (Draw.last_lt k hj)
  exact dstsOk_spec k.dsts i j _ _ d h1 h2 di dj
/-- Behind an operation. -/
theorem RegAt.done (k : p.Ok P) (r : RegAt p C s f K (i :: l) ρ c) (t : Turn p.ops C i) (hi : i < p.last) {ρ' : Ren} (hle : ρ.le ρ') {v : Value} (hv : RelV ρ' (p.val i) v) {s' : Nat} (hst : ∀ t h, p.hands[t]? = some h → (addN C i h = true ↔ t < s')) (hsl : s' ≤ p.hands.length) :
    RegAt p (addN C i) s' f K l ρ' (c.finish v) := by
  have hf := finish_eq (ops := p.ops) (Draw.last_lt k hi) r.todo v
  have hb : ∀ e, (opN p.ops i).dst = some e → e < c.tmps.size := fun e he => by rw [r.size]; exact (k.dst hi he).1
  rw [hf]
  refine ⟨r.mode, r.defers, r.lone, r.kind, r.fn, rfl, by show (putD _ _ _).size = _; rw [putD_size]; exact r.size, fun e he => ?_, fun j hj d hd => ?_, fun j hj => ?_, fun j hj => ?_, hst, hsl⟩
  · show RelV ρ' e.2 ((putD c.tmps _ v).getD e.1 Go.undef)
    rw [putD_get hb, if_neg fun h => (k.dst hi h).2 e he rfl]
    exact RelV.mono hle _ _ (r.base e he)
  · show RelV ρ' (p.val j) ((putD c.tmps _ v).getD d Go.undef)
    rw [putD_get hb]
    rcases addN_iff.1 hj with rfl | hj
    · rw [if_pos hd]; exact hv
    · by_cases e : (opN p.ops i).dst = some d
      · have := k.dst_inj hi (r.low j hj) e hd
        subst this
        rw [t.out] at hj
        cases hj
      · rw [if_neg e]
        exact RelV.mono hle _ _ (r.val j hj d hd)
  · rcases addN_iff.1 hj with rfl | hj
    · exact hi
    · exact r.low j hj
  · have hj : addN C i j = true := hj
    rcases addN_iff.1 hj with rfl | hj
    · exact ⟨_, opN_get t.size, fun e he hb => addN_iff.2 (Or.inr (t.waits e he hb))⟩
    · obtain ⟨o, h1, h2⟩ := r.clos j hj
      exact ⟨o, h1, fun e he hb => addN_iff.2 (Or.inr (h2 e he hb))⟩
theorem stage_same (r : RegAt p C s f K (i :: l) ρ c) (hi : p.hands.contains i = false) : ∀ t h, p.hands[t]? = some h → (addN C i h = true ↔ t < s) := fun t h ht => by
  rw [← r.stage t h ht]
  have hne : h ≠ i := fun e => by
    subst e
    have := List.mem_of_getElem? ht
    rw [← List.contains_iff_mem, hi] at this
    cases this
  rw [addN_other hne]
theorem hands_at (k : p.Ok P) {a b ha hb : Nat} (h1 : p.hands[a]? = some ha) (h2 : p.hands[b]? = some hb) (hlt : b < a) : bit (mkN p.ms ha) hb = true := by
  have := k.chain
  rw [List.all_eq_true] at this
  have hal := (List.getElem?_eq_some_iff.1 h1).1
  have := this a (by simpa using hal)
  rw [List.all_eq_true] at this
  have := this b (by simpa using hlt)
  simpa [List.getD_eq_getElem?_getD, h1, h2] using this
/-- Whose turn it is among the calls. -/
theorem RegAt.turn (k : p.Ok P) (r : RegAt p C s f K (i :: l) ρ c) (t : Turn p.ops C i) (hi : p.hands.contains i = true) : p.hands[s]? = some i ∧ ∀ t h, p.hands[t]? = some h → (addN C i h = true ↔ t < s + 1) := by
  rw [List.contains_iff_mem] at hi
  obtain ⟨a, hal, ha⟩ := List.getElem_of_mem hi
  have ha' : p.hands[a]? = some i := by rw [List.getElem?_eq_getElem hal, ha]
  have h1 : ¬ a < s := fun h => by
    have := (r.stage a i ha').2 h
    rw [t.out] at this
    cases this
  have h2 : ¬ s < a := fun h => by
    have hs : p.hands[s]? = some (p.hands[s]'(by omega)) := List.getElem?_eq_getElem _
    have := (r.stage s _ hs).1 (k.mask t r.clos (hands_at k ha' hs h))
    omega
  have h3 : a = s := by omega
  subst h3
  refine ⟨ha', fun b h hb => ?_⟩
  by_cases e : h = i
  · subst e
    have h4 : ¬ b < a := fun h => by
      have := k.mask t r.clos (hands_at k ha' hb h)
      rw [t.out] at this
      cases this
    have h5 : ¬ a < b := fun h => by
      have := k.mask t r.clos (hands_at k hb ha' h)
      rw [t.out] at this
      cases this
    constructor
    · intro; omega
    · intro; exact addN_iff.2 (Or.inl rfl)
  · rw [addN_other e, r.stage b h hb]
    constructor
    · intro; omega
    · intro hlt
      have : b ≠ a := fun eb => by
        subst eb
        rw [ha'] at hb
        cases hb
        exact e rfl
      omega
end
end Go.Am
