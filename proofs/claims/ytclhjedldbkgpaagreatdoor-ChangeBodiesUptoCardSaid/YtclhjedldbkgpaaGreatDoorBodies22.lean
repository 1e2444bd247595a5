/-
  Part 22 of the proof that winch/winchlaw25.ChangeBodies returns true for every two bodies of small bulk: lemmas.
  Conditions: none beyond each theorem's own premises.
  What lies here:
  The reference's clones of lists of values and of lines.
  The reference's clone of a power.
  A head's naming goes into that of an inner loop's head; rows in parts; types of plain copies.
-/
import Derived.Test.YtclhjedldbkgpaaGreatDoorBodies21
set_option linter.unusedVariables false
set_option linter.unusedSimpArgs false
set_option linter.unusedSectionVars false
namespace Go.Am
open Go.Proofs
theorem cp55 : appTyOk Tryz.prog 55 55 9 1 = true := by kernel_rfl
abbrev F35s : List (Nat × AV) := [(0, .sym 1000)]
noncomputable def q35s : Option (Func × AFrame × AHeap) := @enterCuts Tryz.prog (orcOf Tryz.prog [] []) 35 [.sym 1000] []
theorem lf35s : LoopFacts q35s 1001 4 3 0 F35s := ⟨by kernel_rfl, by kernel_rfl, by kernel_rfl⟩
abbrev es35s : List Ent := ent5 74 104 6 0 2 3 4 5 6
abbrev end35s : List Ent := ent2 74 0 2 3
theorem ty74s : appTyOk Tryz.prog 74 74 104 6 = true := by kernel_rfl
def cuts35s : List Cut := [.call 35 [.sym 1011] none 2001, .push 74 74 6 (.sym 1001) [.sym 1006, .sym 1007, .sym 1008, .sym 1009, .sym 1010, .sym 2001] 2003]
noncomputable def r35s : Option (Func × AFrame × AHeap) := @roundCutsH Tryz.prog (orcOf Tryz.prog es35s []) q35s ((3, .sym 1001) :: F35s) 4 2 cuts35s
theorem rf35s : RoundFacts q35s r35s 4 3 0 1005 2003 F35s := ⟨by kernel_rfl, by kernel_rfl, by kernel_rfl⟩
noncomputable def e35s : Option (Func × AFrame × AHeap) := @roundCutsH Tryz.prog (orcOf Tryz.prog end35s []) q35s ((3, .sym 1001) :: F35s) 4 2 []
theorem stop35s : @retOf? Tryz.prog (orcOf Tryz.prog end35s []) e35s = some (.sym 1001) := by kernel_rfl
theorem k35 : ∀ (n : Nat) {x : List T}, SizeOf.sizeOf x < n → fitsL x → x.length < big → Clone1 Tryz.prog tab 35 74 x := by
  intro n
  induction n with
  | zero => intro x h; omega
  | succ n ih =>
    intro x hs hf hx
    intro w v hv
    have sx := seq_slice hv
    have hu : und Tryz.prog 74 = some (.slice 104) := by kernel_rfl
    have ha : aggP Tryz.prog 104 = some true := by kernel_rfl
    have hz : sizeP Tryz.prog 104 = some 6 := by kernel_rfl
    obtain ⟨x0, hx0⟩ := head_some lf35s.head
    have hes : ∀ e ∈ ([] : List Ent), EntOk Tryz.prog [v] w e := fun _ h => by cases h
    have hcs : ∀ e ∈ ([] : List CEnt), CallOk Tryz.prog ([v]) w e := fun _ h => by cases h
    letI : Orc Tryz.prog := orcOf Tryz.prog [] []
    letI : OrcOk Tryz.prog := okOf Tryz.prog [] [] _ w hes hcs
    refine Calls.sit (tb := tab) (V := [v]) (es := []) (cs := []) hes hcs (by simp) hx0 (by
      simp only [RelL]
      exact ⟨_, _, rfl, sym_rel (k := 0) rfl (slice_one sx), rfl⟩) fun ks c b hcut hg S => ?_
    simp only [runCuts, Option.some.injEq] at hcut
    refine S.seg mixes 600 fun ρ7 w7 c7 e7 S7 => ?_
    rw [hcut] at S7
    refine S7.loop hx0 hg lf35s rfl (by simp) (fun q hq => absurd hq List.not_mem_nil) 104 6 fun B K hl _ c8 h8 => ?_
    refine Ends.each (N := x.length) (A := fun i w' c => ∃ out, Head Tryz.prog w tab [v] (heapOf q35s) F35s [] [] 3 ⟨out, 104, 6, x.take i⟩ 4 (i : Nat) 35 x0.2.1.n B K (ρ7.only [v]) w' c) (fun i w2 c2 hlt ⟨out, h⟩ next => ?_) (fun w2 c2 ⟨out, h⟩ => ?_) ⟨_, h8⟩
    · obtain ⟨b, off, cap, ys, us, p1, p2, p3, _, p4, p5, p6⟩ := seq_at (E := 104) rfl hv (List.getElem?_eq_getElem hlt)
      have hxi : x[i]? = some (.row ys) := by rw [List.getElem?_eq_getElem hlt, p4]
      have lu : us.length = 6 := p5.len.1
      obtain ⟨z5, y5, f5, g5, h5⟩ := p5.at 5 74 rfl
      obtain ⟨l5, rfl⟩ := rd_seq h5 rfl
      obtain ⟨s5, b5, t5⟩ := sub_at (n := n) (by omega) hf hxi _ _ g5
      have P1 : ∀ (j : Nat) z, us[j]? = some z → ([v] ++ (out :: Value.int .i64 (i : Nat) :: ([.int .i64 x.length, .pointer (some ⟨b, off + i * 6, none⟩), .int .i64 ((i + 1 : Nat) : Int)] ++ us)))[6 + j]? = some z := fun j z h => by rw [show 6 + j = j + 6 by omega]; exact h
      have hes := ent5Ok (P := Tryz.prog) (W := w) (V := [v] ++ (out :: Value.int .i64 (i : Nat) :: ([.int .i64 x.length, .pointer (some ⟨b, off + i * 6, none⟩), .int .i64 ((i + 1 : Nat) : Int)] ++ us))) hu ha hz (by decide) sx hlt hx p1 p2 p3 lu p5.ones p6 0 2 3 4 5 6 rfl rfl rfl rfl rfl P1
      have hcs : ∀ e ∈ ([] : List CEnt), CallOk Tryz.prog ([v] ++ (out :: Value.int .i64 (i : Nat) :: ([.int .i64 x.length, .pointer (some ⟨b, off + i * 6, none⟩), .int .i64 ((i + 1 : Nat) : Int)] ++ us))) w e := fun _ h => by cases h
      letI : Orc Tryz.prog := orcOf Tryz.prog es35s []
      letI : OrcOk Tryz.prog := okOf Tryz.prog es35s [] _ w hes hcs
      obtain ⟨q0, S⟩ := Head.sit (es := es35s) (cs := []) (ks := ks) hl.plain h hes hcs (by simp [lu])
      simp only [List.length_singleton, Nat.reduceAdd] at S
      obtain ⟨y0, hr, _⟩ := round_some hl rf35s.todo
      obtain ⟨hcut, hgg⟩ := hl.cutsH _ hr
      have hn := runCuts_n hcut
      obtain ⟨r1, ka1, hcut⟩ := runCuts_cons hcut
      obtain ⟨r2, ka2, hcut⟩ := runCuts_cons hcut
      obtain ⟨na1, ka1⟩ := cut_call ka1
      try dsimp only at na1 ka1
      obtain ⟨na2, ka2⟩ := cut_push ka2
      try dsimp only at na2 ka2
      simp only [runCuts, Option.some.injEq] at hcut
      refine S.seg mixes 600 fun ρS1 wS1 cS1 e1 S1 => ?_
      refine S1.call ka1 (S1.base _ _ (renOf_sym (k := 11) (P1 5 _ f5))) (h5.grows S1.since) (ih s5 t5 b5) fun ρS1x wS1x cS1x ua5 eS1x S1x => ?_
      rw [na1] at S1x
      refine S1x.seg mixes 600 fun ρS1xy wS1xy cS1xy eS1xy S1xy => ?_
      have hrow : rowIs tab [⟨2001, ua5, .seq l5, 74⟩] 6 (tab.flat 104) ys [.sym 1006, .sym 1007, .sym 1008, .sym 1009, .sym 1010, .sym 2001] := by
        have hv' := p5
        simp only [tab, RdVals] at hv'
        obtain ⟨_, _, e0, _, _, rfl, _, _, _, e1, _, _, rfl, _, _, _, e2, _, _, rfl, _, _, _, e3, _, _, rfl, _, _, _, e4, _, _, rfl, _, _, _, e5, _, _, rfl, _, _, rfl⟩ := hv'
        simp only [List.getElem?_cons_succ, List.getElem?_cons_zero, Option.some.injEq] at g5
        subst g5
        exact ⟨_, _, _, _, rfl, rfl, Or.inl ⟨rfl, rfl⟩, _, _, _, _, rfl, rfl, Or.inl ⟨rfl, rfl⟩, _, _, _, _, rfl, rfl, Or.inl ⟨rfl, rfl⟩, _, _, _, _, rfl, rfl, Or.inl ⟨rfl, rfl⟩, _, _, _, _, rfl, rfl, Or.inl ⟨rfl, rfl⟩, _, _, _, _, rfl, rfl, Or.inr ⟨_, List.mem_of_getElem? (i := 0) rfl, rfl, rfl, rfl⟩, rfl, rfl⟩
      refine S1xy.push ka2 (appTy ty74s) (S1xy.base _ _ (renOf_sym (k := 1) rfl)) (take_small hx i) (row := ys) (S1xy.row (b0 := 6) hrow p5 P1) fun ρ4 w4 c4 out' e4 m4 mo S4 => ?_
      rw [na2] at m4
      refine S4.seg mixes 600 fun ρ5 w5 c5 e5 S5 => ?_
      rw [hcut] at S5
      refine S5.round h hl hr rf35s lf35s (q0.trans (e1.trans (eS1x.trans (eS1xy.trans (e4.trans e5))))) hn (S5.base _ _ (renOf_sym (k := 5) rfl)) (e5 _ _ m4) mo (fun q hq => (List.mem_cons_of_mem _ hq)) fun c6 h6 => next w5 c6 ⟨out', ?_⟩
      rw [take_next hxi]
      exact h6
    · have hes := ent2Ok (P := Tryz.prog) (W := w) (V := [v] ++ (out :: Value.int .i64 (x.length : Nat) :: [.int .i64 x.length])) hu sx 0 2 3 rfl rfl rfl
      have hcs : ∀ e ∈ ([] : List CEnt), CallOk Tryz.prog ([v] ++ (out :: Value.int .i64 (x.length : Nat) :: [.int .i64 x.length])) w e := fun _ h => by cases h
      letI : Orc Tryz.prog := orcOf Tryz.prog end35s []
      letI : OrcOk Tryz.prog := okOf Tryz.prog end35s [] _ w hes hcs
      obtain ⟨q0, S⟩ := Head.sit (es := end35s) (cs := []) (ks := ks) hl.plain h hes hcs (by simp)
      simp only [List.length_singleton, Nat.reduceAdd] at S
      obtain ⟨y0, hr⟩ := ret_some stop35s
      obtain ⟨hcut, hgg⟩ := hl.cutsH _ hr
      simp only [runCuts, Option.some.injEq] at hcut
      refine S.seg mixes 600 fun ρS1 wS1 cS1 e1 S1 => ?_
      rw [hcut] at S1
      have S2 := S1.close (j := 1001) (t := 74) (S1.base _ _ (renOf_sym (k := 1) rfl)) rfl rfl (Nat.succ_pos 5)
      refine S2.ret (by rw [hgg]; exact hg) hr stop35s fun u hu gr => ?_
      have e := sym_is (S2.named _ List.mem_cons_self) hu
      have dd := S2.data.facts _ List.mem_cons_self
      simp only [List.take_length] at dd
      simp only at e
      subst e
      exact ⟨_, rfl, ⟨[_], rfl, dd.one⟩, gr, RdC.mono (Nat.le_refl _) (fun _ _ _ => rfl) (fun b hb => ⟨hb.1, hb.2.1⟩) _ dd⟩
abbrev F16s : List (Nat × AV) := [(0, .sym 1000)]
noncomputable def q16s : Option (Func × AFrame × AHeap) := @enterCuts Tryz.prog (orcOf Tryz.prog [] []) 16 [.sym 1000] []
theorem lf16s : LoopFacts q16s 1001 4 3 0 F16s := ⟨by kernel_rfl, by kernel_rfl, by kernel_rfl⟩
abbrev es16s : List Ent := ent5 23 83 9 0 2 3 4 5 6
abbrev end16s : List Ent := ent2 23 0 2 3
theorem ty23s : appTyOk Tryz.prog 23 23 83 9 = true := by kernel_rfl
def cuts16s : List Cut := [.copy 55 55 .nilslice (.sym 1014) 2001, .call 35 [.sym 1012] none 2002, .push 23 23 9 (.sym 1001) [.sym 1006, .sym 1007, .sym 1008, .sym 1009, .sym 1010, .sym 1011, .sym 2002, .sym 1013, .sym 2001] 2004]
noncomputable def r16s : Option (Func × AFrame × AHeap) := @roundCutsH Tryz.prog (orcOf Tryz.prog es16s []) q16s ((3, .sym 1001) :: F16s) 4 2 cuts16s
theorem rf16s : RoundFacts q16s r16s 4 3 0 1005 2004 F16s := ⟨by kernel_rfl, by kernel_rfl, by kernel_rfl⟩
noncomputable def e16s : Option (Func × AFrame × AHeap) := @roundCutsH Tryz.prog (orcOf Tryz.prog end16s []) q16s ((3, .sym 1001) :: F16s) 4 2 []
theorem stop16s : @retOf? Tryz.prog (orcOf Tryz.prog end16s []) e16s = some (.sym 1001) := by kernel_rfl
theorem k16 (n : Nat) {x : List T} (hs : SizeOf.sizeOf x < n + 1) (hf : fitsL x) (hx : x.length < big) : Clone1 Tryz.prog tab 16 23 x := by
    intro w v hv
    have sx := seq_slice hv
    have hu : und Tryz.prog 23 = some (.slice 83) := by kernel_rfl
    have ha : aggP Tryz.prog 83 = some true := by kernel_rfl
    have hz : sizeP Tryz.prog 83 = some 9 := by kernel_rfl
    obtain ⟨x0, hx0⟩ := head_some lf16s.head
    have hes : ∀ e ∈ ([] : List Ent), EntOk Tryz.prog [v] w e := fun _ h => by cases h
    have hcs : ∀ e ∈ ([] : List CEnt), CallOk Tryz.prog ([v]) w e := fun _ h => by cases h
    letI : Orc Tryz.prog := orcOf Tryz.prog [] []
    letI : OrcOk Tryz.prog := okOf Tryz.prog [] [] _ w hes hcs
    refine Calls.sit (tb := tab) (V := [v]) (es := []) (cs := []) hes hcs (by simp) hx0 (by
      simp only [RelL]
      exact ⟨_, _, rfl, sym_rel (k := 0) rfl (slice_one sx), rfl⟩) fun ks c b hcut hg S => ?_
    simp only [runCuts, Option.some.injEq] at hcut
    refine S.seg mixes 600 fun ρ7 w7 c7 e7 S7 => ?_
    rw [hcut] at S7
    refine S7.loop hx0 hg lf16s rfl (by simp) (fun q hq => absurd hq List.not_mem_nil) 83 9 fun B K hl _ c8 h8 => ?_
    refine Ends.each (N := x.length) (A := fun i w' c => ∃ out, Head Tryz.prog w tab [v] (heapOf q16s) F16s [] [] 3 ⟨out, 83, 9, x.take i⟩ 4 (i : Nat) 16 x0.2.1.n B K (ρ7.only [v]) w' c) (fun i w2 c2 hlt ⟨out, h⟩ next => ?_) (fun w2 c2 ⟨out, h⟩ => ?_) ⟨_, h8⟩
    · obtain ⟨b, off, cap, ys, us, p1, p2, p3, _, p4, p5, p6⟩ := seq_at (E := 83) rfl hv (List.getElem?_eq_getElem hlt)
      have hxi : x[i]? = some (.row ys) := by rw [List.getElem?_eq_getElem hlt, p4]
      have lu : us.length = 9 := p5.len.1
      obtain ⟨z8, y8, f8, g8, h8⟩ := p5.at 8 55 rfl
      obtain ⟨l8, rfl⟩ := rd_seq h8 rfl
      obtain ⟨s8, b8, t8⟩ := sub_at (n := n) (by omega) hf hxi _ _ g8
      obtain ⟨z6, y6, f6, g6, h6⟩ := p5.at 6 74 rfl
      obtain ⟨l6, rfl⟩ := rd_seq h6 rfl
      obtain ⟨s6, b6, t6⟩ := sub_at (n := n) (by omega) hf hxi _ _ g6
      have P1 : ∀ (j : Nat) z, us[j]? = some z → ([v] ++ (out :: Value.int .i64 (i : Nat) :: ([.int .i64 x.length, .pointer (some ⟨b, off + i * 9, none⟩), .int .i64 ((i + 1 : Nat) : Int)] ++ us)))[6 + j]? = some z := fun j z h => by rw [show 6 + j = j + 6 by omega]; exact h
      have hes := ent5Ok (P := Tryz.prog) (W := w) (V := [v] ++ (out :: Value.int .i64 (i : Nat) :: ([.int .i64 x.length, .pointer (some ⟨b, off + i * 9, none⟩), .int .i64 ((i + 1 : Nat) : Int)] ++ us))) hu ha hz (by decide) sx hlt hx p1 p2 p3 lu p5.ones p6 0 2 3 4 5 6 rfl rfl rfl rfl rfl P1
      have hcs : ∀ e ∈ ([] : List CEnt), CallOk Tryz.prog ([v] ++ (out :: Value.int .i64 (i : Nat) :: ([.int .i64 x.length, .pointer (some ⟨b, off + i * 9, none⟩), .int .i64 ((i + 1 : Nat) : Int)] ++ us))) w e := fun _ h => by cases h
      letI : Orc Tryz.prog := orcOf Tryz.prog es16s []
      letI : OrcOk Tryz.prog := okOf Tryz.prog es16s [] _ w hes hcs
      obtain ⟨q0, S⟩ := Head.sit (es := es16s) (cs := []) (ks := ks) hl.plain h hes hcs (by simp [lu])
      simp only [List.length_singleton, Nat.reduceAdd] at S
      obtain ⟨y0, hr, _⟩ := round_some hl rf16s.todo
      obtain ⟨hcut, hgg⟩ := hl.cutsH _ hr
      have hn := runCuts_n hcut
      obtain ⟨r1, ka1, hcut⟩ := runCuts_cons hcut
      obtain ⟨r2, ka2, hcut⟩ := runCuts_cons hcut
      obtain ⟨r3, ka3, hcut⟩ := runCuts_cons hcut
      obtain ⟨na1, ka1⟩ := cut_copy ka1
      try dsimp only at na1 ka1
      obtain ⟨na2, ka2⟩ := cut_call ka2
      try dsimp only at na2 ka2
      obtain ⟨na3, ka3⟩ := cut_push ka3
      try dsimp only at na3 ka3
      simp only [runCuts, Option.some.injEq] at hcut
      refine S.seg mixes 600 fun ρS1 wS1 cS1 e1 S1 => ?_
      refine S1.copy ka1 (appTy cp55) (S1.base _ _ (renOf_sym (k := 14) (P1 8 _ f8))) (h8.grows S1.since) rfl rfl (by decide) (small_most b8) fun ρS1x wS1x cS1x ua8 eS1x S1x => ?_
      rw [na1] at S1x
      refine S1x.seg mixes 600 fun ρS1xy wS1xy cS1xy eS1xy S1xy => ?_
      refine S1xy.call ka2 (S1xy.base _ _ (renOf_sym (k := 12) (P1 6 _ f6))) (h6.grows S1xy.since) (k35 n s6 t6 b6) fun ρS1xyx wS1xyx cS1xyx ua6 eS1xyx S1xyx => ?_
      rw [na2] at S1xyx
      refine S1xyx.seg mixes 600 fun ρS1xyxy wS1xyxy cS1xyxy eS1xyxy S1xyxy => ?_
      have hrow : rowIs tab [⟨2002, ua6, .seq l6, 74⟩, ⟨2001, ua8, .seq l8, 55⟩] 6 (tab.flat 83) ys [.sym 1006, .sym 1007, .sym 1008, .sym 1009, .sym 1010, .sym 1011, .sym 2002, .sym 1013, .sym 2001] := by
        have hv' := p5
        simp only [tab, RdVals] at hv'
        obtain ⟨_, _, e0, _, _, rfl, _, _, _, e1, _, _, rfl, _, _, _, e2, _, _, rfl, _, _, _, e3, _, _, rfl, _, _, _, e4, _, _, rfl, _, _, _, e5, _, _, rfl, _, _, _, e6, _, _, rfl, _, _, _, e7, _, _, rfl, _, _, _, e8, _, _, rfl, _, _, rfl⟩ := hv'
        simp only [List.getElem?_cons_succ, List.getElem?_cons_zero, Option.some.injEq] at g6 g8
        subst g6 g8
        exact ⟨_, _, _, _, rfl, rfl, Or.inl ⟨rfl, rfl⟩, _, _, _, _, rfl, rfl, Or.inl ⟨rfl, rfl⟩, _, _, _, _, rfl, rfl, Or.inl ⟨rfl, rfl⟩, _, _, _, _, rfl, rfl, Or.inl ⟨rfl, rfl⟩, _, _, _, _, rfl, rfl, Or.inl ⟨rfl, rfl⟩, _, _, _, _, rfl, rfl, Or.inl ⟨rfl, rfl⟩, _, _, _, _, rfl, rfl, Or.inr ⟨_, List.mem_of_getElem? (i := 0) rfl, rfl, rfl, rfl⟩, _, _, _, _, rfl, rfl, Or.inl ⟨rfl, rfl⟩, _, _, _, _, rfl, rfl, Or.inr ⟨_, List.mem_of_getElem? (i := 1) rfl, rfl, rfl, rfl⟩, rfl, rfl⟩
      refine S1xyxy.push ka3 (appTy ty23s) (S1xyxy.base _ _ (renOf_sym (k := 1) rfl)) (take_small hx i) (row := ys) (S1xyxy.row (b0 := 6) hrow p5 P1) fun ρ4 w4 c4 out' e4 m4 mo S4 => ?_
      rw [na3] at m4
      refine S4.seg mixes 600 fun ρ5 w5 c5 e5 S5 => ?_
      rw [hcut] at S5
      refine S5.round h hl hr rf16s lf16s (q0.trans (e1.trans (eS1x.trans (eS1xy.trans (eS1xyx.trans (eS1xyxy.trans (e4.trans e5))))))) hn (S5.base _ _ (renOf_sym (k := 5) rfl)) (e5 _ _ m4) mo (fun q hq => (List.mem_cons_of_mem _ (List.mem_cons_of_mem _ hq))) fun c6 h6 => next w5 c6 ⟨out', ?_⟩
      rw [take_next hxi]
      exact h6
    · have hes := ent2Ok (P := Tryz.prog) (W := w) (V := [v] ++ (out :: Value.int .i64 (x.length : Nat) :: [.int .i64 x.length])) hu sx 0 2 3 rfl rfl rfl
      have hcs : ∀ e ∈ ([] : List CEnt), CallOk Tryz.prog ([v] ++ (out :: Value.int .i64 (x.length : Nat) :: [.int .i64 x.length])) w e := fun _ h => by cases h
      letI : Orc Tryz.prog := orcOf Tryz.prog end16s []
      letI : OrcOk Tryz.prog := okOf Tryz.prog end16s [] _ w hes hcs
      obtain ⟨q0, S⟩ := Head.sit (es := end16s) (cs := []) (ks := ks) hl.plain h hes hcs (by simp)
      simp only [List.length_singleton, Nat.reduceAdd] at S
      obtain ⟨y0, hr⟩ := ret_some stop16s
      obtain ⟨hcut, hgg⟩ := hl.cutsH _ hr
      simp only [runCuts, Option.some.injEq] at hcut
      refine S.seg mixes 600 fun ρS1 wS1 cS1 e1 S1 => ?_
      rw [hcut] at S1
      have S2 := S1.close (j := 1001) (t := 23) (S1.base _ _ (renOf_sym (k := 1) rfl)) rfl rfl (Nat.succ_pos 8)
      refine S2.ret (by rw [hgg]; exact hg) hr stop16s fun u hu gr => ?_
      have e := sym_is (S2.named _ List.mem_cons_self) hu
      have dd := S2.data.facts _ List.mem_cons_self
      simp only [List.take_length] at dd
      simp only at e
      subst e
      exact ⟨_, rfl, ⟨[_], rfl, dd.one⟩, gr, RdC.mono (Nat.le_refl _) (fun _ _ _ => rfl) (fun b hb => ⟨hb.1, hb.2.1⟩) _ dd⟩
end Go.Am
set_option linter.unusedSectionVars false
namespace Go.Am
open Go.Proofs
theorem lf36 : LoopFacts q36 1008 6 5 6 F36 := ⟨hd36, ok36, next36⟩
theorem rf36 : RoundFacts q36 r36' 6 5 6 1012 2015 F36 := ⟨todo36, slots36, by kernel_rfl⟩
noncomputable def e36 : Option (Func × AFrame × AHeap) := @roundCutsH Tryz.prog (orcOf Tryz.prog end36 []) q36 ((5, .sym 1008) :: F36) 6 9 []
theorem ty84 : appTyOk Tryz.prog 84 84 86 8 = true := by kernel_rfl
theorem k36 : ∀ (n : Nat) {x : List T}, SizeOf.sizeOf x < n → fitsL x → CloneRow Tryz.prog tab 36 86 x := by
  intro n
  induction n with
  | zero => intro x h; omega
  | succ n ih =>
    intro x hs hf w vs hv
    have hu : und Tryz.prog 84 = some (.slice 86) := by kernel_rfl
    have ha : aggP Tryz.prog 86 = some true := by kernel_rfl
    have hz : sizeP Tryz.prog 86 = some 8 := by kernel_rfl
    have lv : vs.length = 8 := hv.len.1
    obtain ⟨z3, y3, f3, g3, h3⟩ := hv.at 3 74 rfl
    obtain ⟨z4, y4, f4, g4, h4⟩ := hv.at 4 55 rfl
    obtain ⟨z5, y5, f5, g5, h5⟩ := hv.at 5 74 rfl
    obtain ⟨z7, y7, f7, g7, h7⟩ := hv.at 7 84 rfl
    obtain ⟨l3, rfl⟩ := rd_seq h3 rfl
    obtain ⟨l4, rfl⟩ := rd_seq h4 rfl
    obtain ⟨l5, rfl⟩ := rd_seq h5 rfl
    obtain ⟨l7, rfl⟩ := rd_seq h7 rfl
    have sb := sub_row (n := n) (by omega) hf
    obtain ⟨s3, b3, t3⟩ := sb _ _ g3
    obtain ⟨s4, b4, t4⟩ := sb _ _ g4
    obtain ⟨s5, b5, t5⟩ := sb _ _ g5
    obtain ⟨s7, b7, t7⟩ := sb _ _ g7
    have sx := seq_slice h7
    obtain ⟨x0, hx0⟩ := head_some hd36
    letI : Orc Tryz.prog := orcOf Tryz.prog [] []
    have he0 : ∀ e ∈ ([] : List Ent), EntOk Tryz.prog vs w e := fun _ h => by cases h
    have hc0 : ∀ e ∈ ([] : List CEnt), CallOk Tryz.prog vs w e := fun _ h => by cases h
    letI : OrcOk Tryz.prog := okOf Tryz.prog [] [] vs w he0 hc0
    refine Calls.sit (tb := tab) (V := vs) (es := []) (cs := []) he0 hc0 (by omega) hx0 (by
      simp only [RelL, RelV]
      exact ⟨_, _, rfl, ⟨_, rfl, symL_vals (k := 0) hv.ones lv (fun j z h => by rw [Nat.zero_add]; exact h)⟩, rfl⟩) fun ks c b hcut hg S => ?_
    obtain ⟨r1, k1, hcut⟩ := runCuts_cons hcut
    obtain ⟨r2, k2, hcut⟩ := runCuts_cons hcut
    obtain ⟨r3, k3, hcut⟩ := runCuts_cons hcut
    obtain ⟨n1, k1⟩ := cut_copy k1
    obtain ⟨n2, k2⟩ := cut_call k2
    obtain ⟨n3, k3⟩ := cut_call k3
    have hfin : seg Tryz.prog 600 r3.1 r3.2 = x0.2 := by simpa only [runCuts, Option.some.injEq] using hcut
    refine S.seg mixes 600 fun ρ1 w1 c1 e1 S1 => ?_
    refine S1.copy k1 (appTy cp55) (S1.base _ _ (renOf_sym (k := 4) f4)) (h4.grows S1.since) rfl rfl (by decide) (small_most b4) fun ρ2 w2 c2 u4 e2 S2 => ?_
    rw [n1] at S2
    refine S2.seg mixes 600 fun ρ3 w3 c3 e3 S3 => ?_
    refine S3.call k2 (S3.base _ _ (renOf_sym (k := 3) f3)) (h3.grows S3.since) (k35 n s3 t3 b3) fun ρ4 w4 c4 u3 e4 S4 => ?_
    rw [n2] at S4
    refine S4.seg mixes 600 fun ρ5 w5 c5 e5 S5 => ?_
    refine S5.call k3 (S5.base _ _ (renOf_sym (k := 5) f5)) (h5.grows S5.since) (k35 n s5 t5 b5) fun ρ6 w6 c6 u5 e6 S6 => ?_
    rw [n3] at S6
    refine S6.seg mixes 600 fun ρ7 w7 c7 e7 S7 => ?_
    rw [hfin] at S7
    refine S7.loop hx0 hg lf36 (by rw [lv]) (by omega) (by
      intro q hq
      simp only [List.mem_cons, List.not_mem_nil, or_false] at hq
      rcases hq with rfl | rfl | rfl <;> rfl) 86 8 fun B K hl _ c8 h8 => ?_
    refine Ends.each (N := l7.length) (A := fun i w' c => ∃ out, Head Tryz.prog w tab vs (heapOf q36) F36 [⟨2005, u5, .seq l5, 74⟩, ⟨2004, u3, .seq l3, 74⟩, ⟨2003, u4, .seq l4, 55⟩] [] 5 ⟨out, 86, 8, l7.take i⟩ 6 (i : Nat) 36 x0.2.1.n B K (ρ7.only vs) w' c) (fun i w2 c2 hlt ⟨out, h⟩ next => ?_) (fun w2 c2 ⟨out, h⟩ => ?_) ⟨_, h8⟩
    · obtain ⟨b, off, cap, ys, us, p1, p2, p3, _, p4, p5, p6⟩ := seq_at (E := 86) rfl h7 (List.getElem?_eq_getElem hlt)
      have hxi : l7[i]? = some (.row ys) := by rw [List.getElem?_eq_getElem hlt, p4]
      have lu : us.length = 8 := p5.len.1
      have P0 : ∀ (j : Nat) {more : List Value}, (vs ++ more)[8 + j]? = more[j]? := fun j more => at_app lv
      have P1 : ∀ (j : Nat) z, us[j]? = some z → (vs ++ (out :: Value.int .i64 (i : Nat) :: ([.int .i64 l7.length, .pointer (some ⟨b, off + i * 8, none⟩), .int .i64 ((i + 1 : Nat) : Int)] ++ us)))[13 + j]? = some z := fun j z h => by
        rw [show 13 + j = 8 + (5 + j) by omega, P0, show 5 + j = j + 5 by omega]; exact h
      have hes := ent5Ok (P := Tryz.prog) (W := w) (V := vs ++ (out :: Value.int .i64 (i : Nat) :: ([.int .i64 l7.length, .pointer (some ⟨b, off + i * 8, none⟩), .int .i64 ((i + 1 : Nat) : Int)] ++ us))) hu ha hz (by decide) sx hlt b7 p1 p2 p3 lu p5.ones p6 7 9 10 11 12 13 (at_left f7) (P0 1) (P0 2) (P0 3) (P0 4) P1
      have hcs : ∀ e ∈ ([] : List CEnt), CallOk Tryz.prog (vs ++ (out :: Value.int .i64 (i : Nat) :: ([.int .i64 l7.length, .pointer (some ⟨b, off + i * 8, none⟩), .int .i64 ((i + 1 : Nat) : Int)] ++ us))) w e := fun _ h => by cases h
      letI : Orc Tryz.prog := orcOf Tryz.prog es36 []
      letI : OrcOk Tryz.prog := okOf Tryz.prog es36 [] _ w hes hcs
      obtain ⟨q0, S⟩ := Head.sit (es := es36) (cs := []) (ks := ks) hl.plain h hes hcs (by simp [lv, lu])
      obtain ⟨y0, hr, _⟩ := round_some hl rf36.todo
      obtain ⟨hcut, _⟩ := hl.cutsH _ hr
      have hn := runCuts_n hcut
      obtain ⟨r1, k1, hcut⟩ := runCuts_cons hcut
      obtain ⟨r2, k2, hcut⟩ := runCuts_cons hcut
      obtain ⟨n1, k1⟩ := cut_call k1
      obtain ⟨n2, k2⟩ := cut_push k2
      have hfin : seg Tryz.prog 600 r2.1 r2.2 = y0.2 := by simpa only [runCuts, Option.some.injEq] using hcut
      simp only [lv, Nat.reduceAdd] at S
      refine S.seg mixes 600 fun ρ1 w1 c1 e1 S1 => ?_
      dsimp only at k1 n1
      refine S1.callRow (E := 86) k1 rfl (syms_are S1.base p5.ones lu P1) (p5.grows S1.since) (ih (by have := size_at hxi; simp only [T.row.sizeOf_spec] at this; omega) (by have := fitsL_at t7 hxi; simpa only [T.fits] using this)) fun ρ2 w2 c2 us' e2 lu' S2 => ?_
      rw [n1] at S2
      refine S2.seg mixes 600 fun ρ3 w3 c3 e3 S3 => ?_
      refine S3.push k2 (appTy ty84) (S3.base _ _ (renOf_sym (k := 8) (P0 0))) (take_small b7 i) (row := ys) (S3.newRow (ts := tab.flat 86) lu' p5.len.2 fun q hq => List.mem_append_left _ hq) fun ρ4 w4 c4 out' e4 m2 mo S4 => ?_
      rw [n2] at m2
      refine S4.seg mixes 600 fun ρ5 w5 c5 e5 S5 => ?_
      rw [hfin] at S5
      refine S5.round h hl hr rf36 lf36 (q0.trans (e1.trans (e2.trans (e3.trans (e4.trans e5))))) hn (S5.base _ _ (renOf_sym (k := 12) (P0 4))) (e5 _ _ m2) mo (fun q hq => List.mem_append_right _ hq) fun c6 h6 => next w5 c6 ⟨out', ?_⟩
      rw [take_next hxi]
      exact h6
    · have P0 : ∀ (j : Nat) {more : List Value}, (vs ++ more)[8 + j]? = more[j]? := fun j more => at_app lv
      have hes := ent2Ok (P := Tryz.prog) (W := w) (V := vs ++ (out :: Value.int .i64 (l7.length : Nat) :: [.int .i64 l7.length])) hu sx 7 9 10 (at_left f7) (P0 1) (P0 2)
      have hcs : ∀ e ∈ ([] : List CEnt), CallOk Tryz.prog (vs ++ (out :: Value.int .i64 (l7.length : Nat) :: [.int .i64 l7.length])) w e := fun _ h => by cases h
      letI : Orc Tryz.prog := orcOf Tryz.prog end36 []
      letI : OrcOk Tryz.prog := okOf Tryz.prog end36 [] _ w hes hcs
      obtain ⟨q0, S⟩ := Head.sit (es := end36) (cs := []) (ks := ks) hl.plain h hes hcs (by simp [lv])
      obtain ⟨y0, hr⟩ := ret_some stop36
      obtain ⟨hcut, hgg⟩ := hl.cutsH _ hr
      simp only [runCuts, Option.some.injEq] at hcut
      have hfin := hcut
      simp only [lv, Nat.reduceAdd] at S
      refine S.seg mixes 600 fun ρ1 w1 c1 e1 S1 => ?_
      rw [hfin] at S1
      have S2 := S1.close (t := 84) (S1.base _ _ (renOf_sym (k := 8) (P0 0))) rfl rfl (Nat.succ_pos 7)
      refine S2.ret (by rw [hgg]; exact hg) hr stop36 fun u hu gr => ?_
      simp only [RelV] at hu
      obtain ⟨us, rfl, hu⟩ := hu
      have row := Sit.fresh (S2.row (b0 := 0) (ts := tab.flat 86) (xs := x) ?_ hv (fun j z h => by rw [Nat.zero_add]; exact at_left h) _ hu)
      · exact ⟨_, rfl, ⟨us.toList, row.len.1, by simp, fun z hz => by
          obtain ⟨j, hj, rfl⟩ := List.getElem_of_mem hz
          exact row.ones j _ (List.getElem?_eq_getElem hj)⟩, gr, us.toList, by simp, row⟩
      · have hv' := hv
        simp only [tab, RdVals] at hv'
        obtain ⟨_, _, y0, _, _, rfl, _, _, _, y1, _, _, rfl, _, _, _, y2, _, _, rfl, _, _, _, y3, _, _, rfl, _, _, _, y4, _, _, rfl, _, _, _, y5, _, _, rfl, _, _, _, y6, _, _, rfl, _, _, _, y7, _, _, rfl, _, _, rfl⟩ := hv'
        simp only [List.getElem?_cons_succ, List.getElem?_cons_zero, Option.some.injEq] at g3 g4 g5 g7
        subst g3 g4 g5 g7
        rw [List.take_length]
        exact ⟨_, _, _, _, rfl, rfl, Or.inl ⟨rfl, rfl⟩, _, _, _, _, rfl, rfl, Or.inl ⟨rfl, rfl⟩, _, _, _, _, rfl, rfl, Or.inl ⟨rfl, rfl⟩, _, _, _, _, rfl, rfl, Or.inr ⟨_, List.mem_of_getElem? (i := 2) rfl, rfl, rfl, rfl⟩, _, _, _, _, rfl, rfl, Or.inr ⟨_, List.mem_of_getElem? (i := 3) rfl, rfl, rfl, rfl⟩, _, _, _, _, rfl, rfl, Or.inr ⟨_, List.mem_of_getElem? (i := 1) rfl, rfl, rfl, rfl⟩, _, _, _, _, rfl, rfl, Or.inl ⟨rfl, rfl⟩, _, _, _, _, rfl, rfl, Or.inr ⟨_, List.mem_of_getElem? (i := 0) rfl, rfl, rfl, rfl⟩, rfl, rfl⟩
end Go.Am
set_option linter.unusedSectionVars false
namespace Go.Am
open Go.Proofs
theorem Head.only {P : Program} {tb : Tab} {W w : World} {pre more : List Value} {H : AHeap} {F : List (Nat × AV)} {made : List Fact} {rest : List Grow} {dO d : Nat} {o : Grow} {i : Int} {f n : Nat} {B : Code} {K : List AItem} {ρ ρ' : Ren} {c : Frame} (h : Head P W tb pre H F made rest dO o d i f n B K ρ w c) (hle : ρ.le ρ') : ρ.le (ρ'.only (pre ++ more)) := fun j l e => by
  unfold Ren.only
  by_cases hj : j < 2000
  · rw [if_pos hj]
    rw [h.loop.syms j hj] at e
    exact renOf_le j l e
  · rw [if_neg hj]
    exact hle j l e
section
variable {tb : Tab} {S : Nat → Prop} {w : World} {ρ : Ren}
theorem rd_append : ∀ {tA tB : List TypeId} {lA lB : List Value} {xA xB : List T}, RdVals tb S w tA lA xA → RdVals tb S w tB lB xB → RdVals tb S w (tA ++ tB) (lA ++ lB) (xA ++ xB)
  | [], tB, lA, lB, xA, xB, h, k => by
    simp only [RdVals] at h
    obtain ⟨rfl, rfl⟩ := h
    exact k
  | t :: tA, tB, lA, lB, xA, xB, h, k => by
    simp only [RdVals] at h
    obtain ⟨v, vs', x, xs', rfl, rfl, h3, h4⟩ := h
    simp only [List.cons_append, RdVals]
    exact ⟨v, vs' ++ lB, x, xs' ++ xB, rfl, rfl, h3, rd_append h4 k⟩
theorem rel_split : ∀ {a b : List AV} {l : List Value}, RelL ρ (a ++ b) l → ∃ l1 l2, l = l1 ++ l2 ∧ RelL ρ a l1 ∧ RelL ρ b l2
  | [], b, l, h => ⟨[], l, rfl, by simp only [RelL], h⟩
  | x :: a, b, l, h => by
    simp only [List.cons_append, RelL] at h
    obtain ⟨v, vs, rfl, h1, h2⟩ := h
    obtain ⟨l1, l2, rfl, q1, q2⟩ := rel_split h2
    exact ⟨v :: l1, l2, rfl, by simp only [RelL]; exact ⟨v, l1, rfl, h1, q1⟩, q2⟩
/-- A row in two parts. -/
theorem rows_append {A B : List AV} {tA tB : List TypeId} {xA xB : List T} (hA : ∀ l, RelL ρ A l → RdVals tb S w tA l xA) (hB : ∀ l, RelL ρ B l → RdVals tb S w tB l xB) : ∀ l, RelL ρ (A ++ B) l → RdVals tb S w (tA ++ tB) l (xA ++ xB) := fun l hl => by
  obtain ⟨l1, l2, rfl, q1, q2⟩ := rel_split hl
  exact rd_append (hA l1 q1) (hB l2 q2)
theorem part_any {α : Type} {a : List α} {j l i : Nat} {z : α} (h : ((a.drop j).take l)[i]? = some z) : a[j + i]? = some z := by
  rw [List.getElem?_take] at h
  split at h
  · rw [List.getElem?_drop] at h; exact h
  · cases h
end
theorem cp64 : appTyOk Tryz.prog 64 64 3 1 = true := by kernel_rfl
theorem cp87 : appTyOk Tryz.prog 87 87 92 2 = true := by kernel_rfl
end Go.Am
