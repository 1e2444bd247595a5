/-
  Part 15 of the proof that winch/winchlaw25.ChangeBodies returns true for every two bodies of small bulk: lemmas.
  Conditions: none beyond each theorem's own premises.
  What lies here:
  A function that compares two slices element by element, by tests. Condition: the program's own facts, named in the theorem.
  Rounds of a loop that compares; the fields of a row in memory.
  From a round to a loop within it, and back.
-/
import Derived.Test.YtclhjedldbkgpaaGreatDoorBodies14
set_option linter.unusedVariables false
set_option linter.unusedSimpArgs false
set_option linter.unusedSectionVars false
namespace Go.Am

/-- A value that every naming gives one value: the first symbols, truths, whole numbers, functions. -/
def simpleAV (p : Nat) : AV → Bool
  | .sym i => Nat.ble 1000 i && Nat.blt i (1000 + p)
  | .bool _ => true
  | .int _ _ => true
  | .fn (.func _) [] [] => true
  | .nilslice => true
  | _ => false
def simpleF (p : Nat) : List (Nat × AV) → Bool
  | [] => true
  | (_, a) :: l => simpleAV p a && simpleF p l
theorem simpleAV_rel {vals : List Value} {p : Nat} (hp : p ≤ vals.length) (ho : ∀ v ∈ vals, v.oneCell' = true) {a : AV} (h : simpleAV p a = true) : ∃ v, RelV (renOf vals) a v := by
  unfold simpleAV at h
  split at h
  · rename_i i
    rw [Bool.and_eq_true] at h
    have h1 := Nat.le_of_ble_eq_true h.1
    have h2 := blt_iff.1 h.2
    have hlt : i - 1000 < vals.length := by omega
    have hv := List.getElem?_eq_getElem hlt
    have := sym_rel hv (ho _ (List.getElem_mem hlt))
    rw [show 1000 + (i - 1000) = i by omega] at this
    exact ⟨_, this⟩
  · rename_i b; exact ⟨.bool b, by simp only [RelV]⟩
  · rename_i k n; exact ⟨.int k n, by simp only [RelV]⟩
  · rename_i f
    exact ⟨.func (.func f) #[] #[], by simp only [RelV, RelL]; exact ⟨f, #[], #[], rfl, rfl, rfl, rfl⟩⟩
  · exact ⟨.slice none 0 0, by simp only [RelV]⟩
  · cases h
theorem simpleF_rel {vals : List Value} {p : Nat} (hp : p ≤ vals.length) (ho : ∀ v ∈ vals, v.oneCell' = true) : ∀ {F : List (Nat × AV)}, simpleF p F = true → ∀ e ∈ F, ∃ v, RelV (renOf vals) e.2 v
  | [], _, e, he => by cases he
  | (d, a) :: l, h, e, he => by
    simp only [simpleF, Bool.and_eq_true] at h
    rcases List.mem_cons.1 he with rfl | he
    · exact simpleAV_rel hp ho h.1
    · exact simpleF_rel hp ho h.2 e he

/-- What a load of an element gives. -/
def ldAV (ag : Bool) (k m : Nat) : AV := bif ag then .agg (symL k m) else .sym (1000 + k)
def cmpRound (tS E : TypeId) (m : Nat) (ag : Bool) (tests : List Test) (q : Nat) : List Ent :=
  [(.lss 3, [.sym 1003, .sym 1002], .bool true), (.len tS, [.sym 1000], .sym 1002), (.idx tS, [.sym 1000, .sym 1003], .sym 1004), (.load E, [.sym 1004], ldAV ag 7 m),
  (.idx tS, [.sym 1001, .sym 1003], .sym 1005), (.load E, [.sym 1005], ldAV ag (7 + m) m), (.add 3, [.sym 1003, .int .i64 1], .sym 1006)] ++ entsQ 7 (7 + m) tests q
def cmpEnd (tS : TypeId) : List Ent := [(.lss 3, [.sym 1003, .sym 1002], .bool false), (.len tS, [.sym 1000], .sym 1002)]
/-- What the program's own text must come to. -/
structure CmpFacts (P : Program) (f : FuncId) (args : List AV) (F : List (Nat × AV)) (d : Nat) (tS E : TypeId) (m : Nat) (ag : Bool) (tests : List Test) : Prop where
  simple : simpleF 3 F = true
  differ : @retF P (orcOf P (efStart tS true) []) f args 100 = some (.bool false)
  head : chkHead (@enterA P (orcOf P (efStart tS false) []) f args 100) d 0 F = true
  stop : @retOf? P (orcOf P (cmpEnd tS) []) (@roundSeg P (orcOf P (cmpEnd tS) []) (@enterA P (orcOf P (efStart tS false) []) f args 100) F d 3 100) = some (.bool true)
  todo : todoOf (@roundSeg P (orcOf P (cmpRound tS E m ag tests tests.length) (callsQ 7 (7 + m) tests tests.length)) (@enterA P (orcOf P (efStart tS false) []) f args 100) F d 3 400) = wantTodo (@enterA P (orcOf P (efStart tS false) []) f args 100)
  slots : slotsOf (@roundSeg P (orcOf P (cmpRound tS E m ag tests tests.length) (callsQ 7 (7 + m) tests tests.length)) (@enterA P (orcOf P (efStart tS false) []) f args 100) F d 3 400) ((d, .sym 1006) :: F) = true
  unlike : ((List.range tests.length).all fun q => isB false (@retOf? P (orcOf P (cmpRound tS E m ag tests q) (callsQ 7 (7 + m) tests q)) (@roundSeg P (orcOf P (cmpRound tS E m ag tests q) (callsQ 7 (7 + m) tests q)) (@enterA P (orcOf P (efStart tS false) []) f args 100) F d 3 400))) = true
  covers : ((List.range m).all fun j => tests.any fun t => t.covers j) = true
  noln : (tests.all Test.plain) = true

theorem cmpLoop {P : Program} (hmix : P.follows .mixedOrders = true) {tb : Tab} {f : FuncId} {rest : Option FuncId} {F : List (Nat × AV)} {d : Nat} {tS E : TypeId} {m : Nat} {ag : Bool} {tests : List Test} (k : CmpFacts P f (.sym 1000 :: .sym 1001 :: fnAV rest) F d tS E m ag tests)
    (hel : tb.elem tS = some E) (hm : (tb.flat E).length = m) (hm0 : 0 < m) (hm1 : m ≤ 400) (hu : und P tS = some (.slice E)) (ha : aggP P E = some ag) (hag : ag = false → m = 1) (hz : sizeP P E = some m)
    {x y : List T} (hx : x.length < 9223372036854775807) (hok : ∀ (i : Nat) a b, x[i]? = some (.row a) → y[i]? = some (.row b) → ∀ t ∈ tests, t.ok P tb (tb.flat E) a b) : SameSeq P tb f tS (fnV rest) x y := by
  intro w v u hv hu'
  have sx := seq_slice hv
  have sy := seq_slice hu'
  have ra : ∀ vals, vals[0]? = some v → vals[1]? = some u → RelL (renOf vals) (.sym 1000 :: .sym 1001 :: fnAV rest) (v :: u :: fnV rest) := fun vals h0 h1 => by
    simp only [RelL]
    exact ⟨_, _, rfl, sym_rel (k := 0) h0 (slice_one sx), _, _, rfl, sym_rel (k := 1) h1 (slice_one sy), fn_rel rest⟩
  have start : ∀ c, (c = true ↔ x.length ≠ y.length) → ∀ e ∈ efStart tS c, EntOk P [v, u, .int .i64 x.length, .int .i64 y.length] w e := by
    intro c hc e he
    simp only [efStart, List.mem_cons, List.not_mem_nil, or_false] at he
    rcases he with rfl | rfl | rfl
    · exact ent_len (i := 0) (j := 2) hu rfl rfl sx
    · exact ent_len (i := 1) (j := 3) hu rfl rfl sy
    · exact ent_neq (k := 0) (i := 2) (j := 3) rfl rfl ⟨_, rfl⟩ ⟨_, rfl⟩ (fun h => by cases h) (by rw [hc]; simp; omega)
  by_cases hlen : x.length = y.length
  case neg =>
    refine Calls.straight (vals := [v, u, .int .i64 x.length, .int .i64 y.length]) hmix (start true (by simpa using hlen)) (fun _ h => by cases h) (by simp) 100 k.differ (ra _ rfl rfl) fun ρ w' v' _ h2 h3 => ?_
    rw [bool_val h3, eqB_neg (fun e => hlen (by rw [e]))]
    exact ⟨rfl, h2⟩
  have hF := simpleF_rel (vals := [v, u, .int .i64 x.length]) (p := 3) (by simp) (fun z hz => by
    simp only [List.mem_cons, List.not_mem_nil, or_false] at hz
    rcases hz with rfl | rfl | rfl
    · exact slice_one sx
    · exact slice_one sy
    · rfl) k.simple
  refine Calls.loop (vals := [v, u, .int .i64 x.length, .int .i64 y.length]) hmix (start false (by simpa using hlen)) (fun _ h => by cases h) (by simp) k.head (ra _ rfl rfl) (fun e he => by
    obtain ⟨v', hv'⟩ := hF e he
    exact ⟨v', RelV.mono (renOf_le (vals := [v, u, .int .i64 x.length]) (more := [.int .i64 y.length])) _ _ hv'⟩) fun fn fg B K hl ks w1 c1 g1 l1 => ?_
  have l1 : LoopAt P [v, u, .int .i64 x.length] f fn B K F d 0 c1 :=
    ⟨l1.mode, l1.defers, l1.lone, l1.kind, l1.fn, l1.has, l1.size, plainI_any (by simpa [plainI] using hl.plain) l1.todo, fun e he => by
      obtain ⟨v', hv'⟩ := hF e he
      exact RelV.back (renOf_le (vals := [v, u, .int .i64 x.length]) (more := [.int .i64 y.length])) hv' (l1.slots e he), l1.ctr⟩
  have key : ∀ (i : Nat) (w2 : World) (c2 : Frame), i ≤ x.length → Grows w w2 → LoopAt P [v, u, .int .i64 x.length] f fn B K F d i c2 → (∀ j, j < i → x[j]? = y[j]?) → Ends P c2 ks w2 fun e w' => e = .returned (.bool (eqB x y)) ∧ Grows w w' := by
    intro i
    generalize hj : x.length - i = j
    induction j generalizing i with
    | zero =>
      intro w2 c2 hi hg2 l2 hp
      have hix : i = x.length := by omega
      refine l2.ret (es := cmpEnd tS) (cs := []) (more := []) hmix hl (fun e he => ?_) (fun _ h => by cases h) (by simp) k.stop fun ρ w' v' _ h2 h3 => ?_
      · simp only [cmpEnd, List.mem_cons, List.not_mem_nil, or_false] at he
        rcases he with rfl | rfl
        · exact ent_lss (i := 3) (j := 2) rfl rfl (by simp; omega)
        · exact ent_len (i := 0) (j := 2) hu rfl rfl sx
      · rw [bool_val h3, eqB_pos]
        · exact ⟨rfl, hg2.trans h2⟩
        · apply List.ext_getElem?
          intro n
          by_cases hn : n < i
          · exact hp n hn
          · rw [List.getElem?_eq_none (by omega), List.getElem?_eq_none (by omega)]
    | succ j ih =>
      intro w2 c2 hi hg2 l2 hp
      have hlt : i < x.length := by omega
      have hv2 := hv.grows hg2
      have hu2 := hu'.grows hg2
      obtain ⟨b, off, cap, xs, vs, e1, e2, e3, _, e4, e5, e6⟩ := seq_at hel hv2 (List.getElem?_eq_getElem hlt)
      obtain ⟨b', off', cap', ys, us, d1, d2, d3, _, d4, d5, d6⟩ := seq_at hel hu2 (List.getElem?_eq_getElem (by omega : i < y.length))
      have lv := e5.len.1
      have lu := d5.len.1
      have lxs := e5.len.2
      have lys := d5.len.2
      rw [hm] at lv lu e6 d6 lxs lys
      have hxi : x[i]? = some (.row xs) := by rw [List.getElem?_eq_getElem hlt, e4]
      have hyi : y[i]? = some (.row ys) := by rw [List.getElem?_eq_getElem (by omega : i < y.length), d4]
      generalize hV : ([v, u, .int .i64 x.length] ++ Value.int .i64 i :: (.pointer (some ⟨b, off + i * m, none⟩) :: .pointer (some ⟨b', off' + i * m, none⟩) :: .int .i64 ((i + 1 : Nat) : Int) :: (vs ++ us))) = V
      have hvals : V.length ≤ 1000 := by rw [← hV]; simp; omega
      have P1 : ∀ (j : Nat) z, vs[j]? = some z → V[7 + j]? = some z := fun j z hz' => by
        have := (List.getElem?_eq_some_iff.1 hz').1
        rw [← hV, show 7 + j = j + 7 by omega]
        simp
        rw [List.getElem?_append_left this]
        exact hz'
      have P2 : ∀ (j : Nat) z, us[j]? = some z → V[7 + m + j]? = some z := fun j z hz' => by
        rw [← hV, show 7 + m + j = (m + j) + 7 by omega]
        simp
        rw [List.getElem?_append_right (by omega), show m + j - vs.length = j by omega]
        exact hz'
      have ld : ∀ {b off k : Nat} {zs : List Value} {i' : Nat} {xz : List T}, RdVals tb Any w2 (tb.flat E) zs xz → zs.length = m → b < w2.heap.size → (∀ (j : Nat) z, zs[j]? = some z → w2.cell? ⟨b, off + j, none⟩ = some z) → V[i']? = some (.pointer (some ⟨b, off, none⟩)) → (∀ (j : Nat) z, zs[j]? = some z → V[k + j]? = some z) →
          EntOk P V w2 (.load E, [.sym (1000 + i')], ldAV ag k m) := fun {b off k zs i' xz} r hl hb hc hi' hk => by
        cases hb' : ag with
        | true =>
          rw [hb'] at ha
          have := ent_load_agg (P := P) (vals := V) (w := w2) (i := i') (k := k) ha (vs := zs) (by rw [hl]; exact hz) hb hc hi' fun j z hz' => ⟨hk j z hz', r.ones j z hz'⟩
          rw [hl] at this
          exact this
        | false =>
          rw [hb'] at ha
          have h1 := hag hb'
          have hz0 : ∃ z, zs[0]? = some z := ⟨zs[0]'(by omega), List.getElem?_eq_getElem _⟩
          obtain ⟨z, hz0⟩ := hz0
          exact ent_load_one (P := P) (vals := V) (w := w2) (i := i') (k := k) ha (r.ones 0 z hz0) hb (by simpa using hc 0 z hz0) hi' (by simpa using hk 0 z hz0)
      obtain ⟨q, q1, q2, q3⟩ := tests_split xs ys tests
      obtain ⟨t1, t2⟩ := entsQ_ok (P := P) (vals := V) (b1 := 7) (b2 := 7 + m) e5 d5 P1 P2 (hok i xs ys hxi hyi) (Test.at_plain k.noln) q2 q3
      have hes : ∀ e ∈ cmpRound tS E m ag tests q, EntOk P V w2 e := by
        intro e he
        simp only [cmpRound, List.mem_append, List.mem_cons, List.not_mem_nil, or_false] at he
        rcases he with (rfl | rfl | rfl | rfl | rfl | rfl | rfl) | he
        · exact ent_lss (i := 3) (j := 2) (m := i) (n := x.length) (by rw [← hV]; rfl) (by rw [← hV]; rfl) (by simp; omega)
        · exact ent_len (i := 0) (j := 2) (v := v) (n := x.length) hu (by rw [← hV]; rfl) (by rw [← hV]; rfl) sx
        · exact ent_idx (i := 0) (j := 3) (k := 4) (b := b) (off := off) (n := x.length) (cap := cap) hu hz hm0 (by rw [← hV]; exact congrArg some e1) e2 (by rw [← hV]; rfl) hlt (by rw [← hV]; rfl)
        · exact ld e5 lv e3 e6 (i' := 4) (by rw [← hV]; rfl) P1
        · exact ent_idx (i := 1) (j := 3) (k := 5) (b := b') (off := off') (n := y.length) (cap := cap') hu hz hm0 (by rw [← hV]; exact congrArg some d1) d2 (by rw [← hV]; rfl) (by omega) (by rw [← hV]; rfl)
        · exact ld d5 lu d3 d6 (i' := 5) (by rw [← hV]; rfl) P2
        · exact ent_succ (i := 3) (j := 6) (m := i) (by rw [← hV]; rfl) (by rw [← hV]; rfl) (by omega)
        · exact t1 e he
      by_cases hq : q = tests.length
      · subst hq
        have hxy : xs = ys := tests_all lxs lys k.covers fun t ht => by
          obtain ⟨n, hn, rfl⟩ := List.getElem_of_mem ht
          exact q2 n _ hn (List.getElem?_eq_getElem hn)
        refine l2.next (es := cmpRound tS E m ag tests tests.length) (cs := callsQ 7 (7 + m) tests tests.length) hmix hl (by rw [hV]; exact hes) (by rw [hV]; exact t2) (by rw [hV]; exact hvals) k.todo (j := 6) (i' := ((i + 1 : Nat) : Int)) rfl k.slots hF fun w3 c3 g3 l3 => ?_
        exact ih (i + 1) (by omega) w3 c3 (by omega) (hg2.trans g3) l3 fun n hn => by
          by_cases hn' : n < i
          · exact hp n hn'
          · have : n = i := by omega
            subst this
            rw [hxi, hyi, hxy]
      · have hlt' : q < tests.length := by omega
        have hxy : xs ≠ ys := tests_none (List.getElem?_eq_getElem hlt') (q3 _ (List.getElem?_eq_getElem hlt'))
        have hu'' := k.unlike
        rw [List.all_eq_true] at hu''
        refine l2.ret (es := cmpRound tS E m ag tests q) (cs := callsQ 7 (7 + m) tests q) hmix hl (by rw [hV]; exact hes) (by rw [hV]; exact t2) (by rw [hV]; exact hvals) (isB_spec (hu'' q (by simpa using hlt'))) fun ρ w' v' _ h2 h3 => ?_
        rw [bool_val h3, eqB_neg]
        · exact ⟨rfl, hg2.trans h2⟩
        · intro e
          rw [e, hyi] at hxi
          injection hxi with h
          injection h with h
          exact hxy h.symm
  exact key 0 w1 c1 (Nat.zero_le _) g1 l1 fun j hj => absurd hj (Nat.not_lt_zero _)
end Go.Am
set_option linter.unusedSectionVars false
namespace Go.Am

section
variable {P : Program} {vals : List Value} {w : World} {R : Ending → World → Prop} {f m n d jn : Nat} {g : Func} {B : Code} {K : List AItem} {F : List (Nat × AV)} {ks : List Frame} {p : Option (Func × AFrame × AHeap)} {es : Nat → List Ent} {cs : Nat → List CEnt} {nt N : Nat} {A : Nat → Prop}
/-- Rounds by numbers: each tells whether two elements are the same; the first that are not end the call. -/
theorem cmpRounds (hmix : P.follows .mixedOrders = true) (hl : Looping P p f m g B K) (hF : ∀ e ∈ F, ∃ v, RelV (renOf vals) e.2 v)
    (round : ∀ k, k < N → ∀ w2, Grows w w2 → ∃ more q, (vals ++ .int .i64 k :: more).length ≤ 1000 ∧ (vals ++ Value.int .i64 k :: more)[jn]? = some (.int .i64 ((k + 1 : Nat) : Int)) ∧ ((q = nt ∧ A k) ∨ (q < nt ∧ ¬ A k)) ∧
      (∀ e ∈ es q, EntOk P (vals ++ .int .i64 k :: more) w2 e) ∧ ∀ e ∈ cs q, CallOk P (vals ++ .int .i64 k :: more) w2 e)
    (todo : todoOf (@roundSeg P (orcOf P (es nt) (cs nt)) p F d vals.length n) = wantTodo p)
    (slots : slotsOf (@roundSeg P (orcOf P (es nt) (cs nt)) p F d vals.length n) ((d, .sym (1000 + jn)) :: F) = true)
    (unlike : ((List.range nt).all fun q => isB false (@retOf? P (orcOf P (es q) (cs q)) (@roundSeg P (orcOf P (es q) (cs q)) p F d vals.length n))) = true)
    (hfalse : (∃ k, k < N ∧ ¬ A k) → ∀ w', Grows w w' → R (.returned (.bool false)) w')
    (hdone : (∀ k, k < N → A k) → ∀ w2 c2, Grows w w2 → LoopAt P vals f m B K F d N c2 → Ends P c2 ks w2 R) :
    ∀ (i : Nat) (w2 : World) (c2 : Frame), i ≤ N → Grows w w2 → LoopAt P vals f m B K F d i c2 → (∀ k, k < i → A k) → Ends P c2 ks w2 R := by
  intro i
  generalize hj : N - i = j
  induction j generalizing i with
  | zero =>
    intro w2 c2 hi hg l hA
    have : i = N := by omega
    subst this
    exact hdone hA w2 c2 hg l
  | succ j ih =>
    intro w2 c2 hi hg l hA
    have hlt : i < N := by omega
    obtain ⟨more, q, h1, h2, h3, h4, h5⟩ := round i hlt w2 hg
    rcases h3 with ⟨rfl, hAi⟩ | ⟨hq, hAi⟩
    · refine l.next (es := es q) (cs := cs q) hmix hl h4 h5 h1 todo h2 slots hF fun w3 c3 g3 l3 => ?_
      exact ih (i + 1) (by omega) w3 c3 (by omega) (hg.trans g3) l3 fun k hk => by
        by_cases hk' : k < i
        · exact hA k hk'
        · have : k = i := by omega
          subst this
          exact hAi
    · rw [List.all_eq_true] at unlike
      refine l.ret (es := es q) (cs := cs q) hmix hl h4 h5 h1 (isB_spec (unlike q (by simpa using hq))) fun ρ w' v' _ g2 hv => ?_
      rw [bool_val hv]
      exact hfalse ⟨i, hlt, hAi⟩ w' (hg.trans g2)

/-- What a round's run leaves in a temporary. -/
theorem Here.slot {ρ : Ren} {fr : AFrame} {c : Frame} (h : Here P ρ fr c) {e : Nat × AV} {l : List (Nat × AV)} (hs : slotsAre fr.tmps l = true) (he : e ∈ l) (hj : e.2 ≠ .junk) : RelV ρ e.2 (c.tmps.getD e.1 Go.undef) := by
  have h3 := h.tmps.val e.1
  rw [slotsAre_spec hs e he] at h3
  exact h3.known hj
/-- The cells of an object of the run's own. -/
def cellsAre (H : AHeap) (i : Nat) (off : Nat) : List AV → Bool
  | [] => true
  | a :: l => (match H.get i with
    | some (.cells t size _ _ _) => Nat.blt off size && (match t.get off with
      | some b => AV.same b a
      | none => false)
    | _ => false) && cellsAre H i (off + 1) l
theorem cellsAre_spec {P : Program} [Orc P] [OrcOk P] {ρ : Ren} {H : AHeap} {w : World} (h : RelH P ρ H w) {i : Nat} {l : Loc} (hi : ρ i = some l) : ∀ {avs : List AV} {off : Nat}, cellsAre H i off avs = true → avs ≠ [] →
    l.b < w.heap.size ∧ ∀ (j : Nat) a, avs[j]? = some a → ∃ v, w.cell? ⟨l.b, off + j, none⟩ = some v ∧ RelV ρ a v
  | [], off, _, hne => absurd rfl hne
  | a :: avs, off, hc, _ => by
    simp only [cellsAre, Bool.and_eq_true] at hc
    obtain ⟨h1, h2⟩ := hc
    split at h1
    case h_2 => cases h1
    rename_i t size e tight ro ho
    rw [Bool.and_eq_true] at h1
    obtain ⟨h3, h4⟩ := h1
    obtain ⟨loc, q1, q2, q3⟩ := h.obj i _ ho
    rw [hi] at q1
    cases q1
    refine ⟨q2, fun j b hj => ?_⟩
    cases j with
    | zero =>
      simp only [List.getElem?_cons_zero, Option.some.injEq] at hj
      subst hj
      simp only [RelO] at q3
      obtain ⟨c, e', fz, k1, k2, k3, _, k5, _⟩ := q3
      obtain ⟨a', v, m1, m2, m3, _⟩ := k5 off (blt_iff.1 h3)
      rw [m1] at h4
      simp only at h4
      rw [same_eq _ _ h4] at m3
      exact ⟨v, by rw [Nat.add_zero, cell_of k1]; exact m2, m3⟩
    | succ j =>
      have hne : avs ≠ [] := fun e => by subst e; simp at hj
      have := (cellsAre_spec h hi h2 hne).2 j b (by simpa using hj)
      rw [show off + (j + 1) = off + 1 + j by omega]
      exact this

/-- A field of a row: its number, where it begins, how many cells it has, its type, whether it is an aggregate. -/
structure Fld where
  f : Nat
  off : Nat
  cnt : Nat
  t : TypeId
  ag : Bool
/-- The answers on a row that lies in memory: the row's pointer, the fields' pointers from a number on, the cells from a number on. -/
def fldEnts (E : TypeId) (pt pf base : Nat) : List Fld → List Ent
  | [] => []
  | x :: l => (.fld E x.f, [.sym (1000 + pt)], .sym (1000 + (pf + x.f))) :: (.load x.t, [.sym (1000 + (pf + x.f))], ldAV x.ag (base + x.off) x.cnt) :: fldEnts E pt pf base l
def fldOk (P : Program) (E : TypeId) (m : Nat) (x : Fld) : Bool :=
  fieldOk P E x.f x.off && Nat.ble (x.off + x.cnt) m && Nat.blt 0 x.cnt && (match aggP P x.t with
    | some b => boolEq b x.ag
    | none => false) && (match sizeP P x.t with
    | some n => Nat.beq n x.cnt
    | none => false) && (x.ag || Nat.beq x.cnt 1)
theorem ld_ok {E : TypeId} {ag : Bool} {m : Nat} (ha : aggP P E = some ag) (hag : ag = false → m = 1) (hz : sizeP P E = some m) {b off k : Nat} {zs : List Value} {i' : Nat} (hl : zs.length = m) (ho : ∀ (j : Nat) z, zs[j]? = some z → z.oneCell' = true) (hb : b < w.heap.size) (hc : ∀ (j : Nat) z, zs[j]? = some z → w.cell? ⟨b, off + j, none⟩ = some z)
    (hi' : vals[i']? = some (.pointer (some ⟨b, off, none⟩))) (hk : ∀ (j : Nat) z, zs[j]? = some z → vals[k + j]? = some z) : EntOk P vals w (.load E, [.sym (1000 + i')], ldAV ag k m) := by
  cases hb' : ag with
  | true =>
    rw [hb'] at ha
    have := ent_load_agg (P := P) (vals := vals) (w := w) (i := i') (k := k) ha (vs := zs) (by rw [hl]; exact hz) hb hc hi' fun j z hz' => ⟨hk j z hz', ho j z hz'⟩
    rw [hl] at this
    exact this
  | false =>
    rw [hb'] at ha
    have h1 := hag hb'
    have hz0 : ∃ z, zs[0]? = some z := ⟨zs[0]'(by omega), List.getElem?_eq_getElem _⟩
    obtain ⟨z, hz0⟩ := hz0
    exact ent_load_one (P := P) (vals := vals) (w := w) (i := i') (k := k) ha (ho 0 z hz0) hb (by simpa using hc 0 z hz0) hi' (by simpa using hk 0 z hz0)
theorem fldEnts_ok {E : TypeId} {pt pf base mm b off : Nat} {vs : List Value} (hl : vs.length = mm) (ho : ∀ (j : Nat) z, vs[j]? = some z → z.oneCell' = true) (hb : b < w.heap.size) (hc : ∀ (j : Nat) z, vs[j]? = some z → w.cell? ⟨b, off + j, none⟩ = some z) (hp : vals[pt]? = some (.pointer (some ⟨b, off, none⟩))) (hk : ∀ (j : Nat) z, vs[j]? = some z → vals[base + j]? = some z) :
    ∀ {l : List Fld}, (l.all fun x => fldOk P E mm x) = true → (∀ x ∈ l, vals[pf + x.f]? = some (.pointer (some ⟨b, off + x.off, none⟩))) → ∀ e ∈ fldEnts E pt pf base l, EntOk P vals w e
  | [], _, _, e, he => by simp [fldEnts] at he
  | x :: l, hx, hpf, e, he => by
    rw [List.all_cons, Bool.and_eq_true] at hx
    obtain ⟨h1, h2⟩ := hx
    unfold fldOk at h1
    simp only [Bool.and_eq_true] at h1
    obtain ⟨⟨⟨⟨⟨a1, a2⟩, a3⟩, a4⟩, a5⟩, a6⟩ := h1
    have a2 := Nat.le_of_ble_eq_true a2
    simp only [fldEnts, List.mem_cons] at he
    rcases he with rfl | rfl | he
    · exact ent_fld (fieldOk_is a1) hp (hpf x List.mem_cons_self)
    · have e1 : aggP P x.t = some x.ag := by
        cases hq : aggP P x.t with
        | none => rw [hq] at a4; cases a4
        | some q => rw [hq] at a4; simp only [boolEq_eq, beq_iff_eq] at a4; rw [a4]
      have e2 : sizeP P x.t = some x.cnt := by
        cases hq : sizeP P x.t with
        | none => rw [hq] at a5; cases a5
        | some q => rw [hq] at a5; rw [Nat.eq_of_beq_eq_true a5]
      refine ld_ok (zs := (vs.drop x.off).take x.cnt) e1 (fun h => by rw [h] at a6; exact Nat.eq_of_beq_eq_true (by simpa using a6)) e2 (by simp; omega) (fun j z hz => ?_) hb (fun j z hz => ?_) (hpf x List.mem_cons_self) fun j z hz => ?_
      all_goals
        rw [List.getElem?_take] at hz
        split at hz
        case isFalse => cases hz
        rw [List.getElem?_drop] at hz
      · exact ho _ _ hz
      · rw [Nat.add_assoc]; exact hc _ _ hz
      · rw [Nat.add_assoc]; exact hk _ _ hz
    · exact fldEnts_ok hl ho hb hc hp hk h2 (fun y hy => hpf y (List.mem_cons_of_mem _ hy)) e he
end
end Go.Am
set_option linter.unusedSectionVars false
namespace Go.Am

def ownOk (p : Option (Func × AFrame × AHeap)) (i : Nat) (avs : List AV) : Bool :=
  match p with
  | some (_, _, H) => cellsAre H i 0 avs
  | none => false
section
variable {P : Program} {vals : List Value} {w : World} {R : Ending → World → Prop} {f m n d : Nat} {g : Func} {B : Code} {K : List AItem} {F : List (Nat × AV)} {i : Int} {c : Frame} {ks : List Frame} {p : Option (Func × AFrame × AHeap)} {es : List Ent} {cs : List CEnt} {more : List Value}
/-- What is known where a piece of a run stands at a loop's head. -/
structure AtHead (P : Program) (ρ : Ren) (vals : List Value) (w' : World) (raw : List (Nat × AV)) (d2 f m : Nat) (B : Code) (K : List AItem) (own : List (Nat × List AV)) (c : Frame) : Prop where
  le : (renOf vals).le ρ
  slots : ∀ e ∈ raw, e.2 ≠ .junk → RelV ρ e.2 (c.tmps.getD e.1 Go.undef)
  cells : ∀ o ∈ own, o.2 ≠ [] → ∀ l, ρ o.1 = some l → l.b < w'.heap.size ∧ ∀ (j : Nat) a, o.2[j]? = some a → ∃ v, w'.cell? ⟨l.b, j, none⟩ = some v ∧ RelV ρ a v
  loop : ∀ (vals2 : List Value) (F2 : List (Nat × AV)), (∀ e ∈ F2, RelV (renOf vals2) e.2 (c.tmps.getD e.1 Go.undef)) → LoopAt P vals2 f m B K F2 d2 0 c
/-- From a round to an inner loop. -/
theorem LoopAt.inner (hmix : P.follows .mixedOrders = true) (hl : Looping P p f m g B K) (l : LoopAt P vals f m B K F d i c) (hes : ∀ e ∈ es, EntOk P (vals ++ .int .i64 i :: more) w e) (hcs : ∀ e ∈ cs, CallOk P (vals ++ .int .i64 i :: more) w e) (hv : (vals ++ .int .i64 i :: more).length ≤ 1000)
    {d2 : Nat} {raw : List (Nat × AV)} {own : List (Nat × List AV)} (he : chkHead (@roundSeg P (orcOf P es cs) p F d vals.length n) d2 0 raw = true) (ho : (own.all fun o => ownOk (@roundSeg P (orcOf P es cs) p F d vals.length n) o.1 o.2) = true)
    (k : ∀ B2 K2, Looping P (@roundSeg P (orcOf P es cs) p F d vals.length n) f m g B2 K2 → ∀ ρ w' c', Grows w w' → AtHead P ρ (vals ++ .int .i64 i :: more) w' raw d2 f m B2 K2 own c' → Ends P c' ks w' R) : Ends P c ks w R := by
  have hseg := hl.seg (orcOf P es cs) F d vals.length n
  unfold chkHead at he
  split at he
  case h_2 => cases he
  rename_i g' fr B2 K2 hlo
  rw [Bool.and_eq_true] at he
  obtain ⟨H, hp, ht⟩ := loopOf_spec hlo
  rw [hseg] at hp
  have e1 := Option.some.inj hp
  have eg : g = g' := congrArg Prod.fst e1
  have ef : (@seg P (orcOf P es cs) n (headFr f m B K F d vals.length) H0).1 = fr := congrArg (fun x => x.2.1) e1
  have eh : (@seg P (orcOf P es cs) n (headFr f m B K F d vals.length) H0).2 = H := congrArg (fun x => x.2.2) e1
  subst eg
  have hfrn : fr.n = m := by rw [← ef, @seg_n P (orcOf P es cs)]; rfl
  refine Ends.seg hmix hes hcs hv (l.here hl.plain more) n fun ρ w' c' h1 h2 h3 h4 h5 => ?_
  rw [ef] at h3
  rw [eh] at h5
  have hfrf : fr.fn = f := by rw [← h3.fn, h4, l.fn]
  have hto := h3.todo
  rw [ht] at hto
  simp only [RelItems, RelItem] at hto
  obtain ⟨x, xs, q1, rfl, q2⟩ := hto
  letI : Orc P := orcOf P es cs
  letI : OrcOk P := okOf P es cs (vals ++ .int .i64 i :: more) w hes hcs
  have s1 := mv_loop (P := P) (cs := ks) (w := w') h3.mode q1
  refine Ends.of_steps (Steps.one s1) rfl (k B2 K2 ⟨⟨fr, hlo, hfrf, hfrn⟩, he.1, hl.has⟩ ρ w' _ h2 ⟨h1, fun e he' hj => ?_, fun o ho' hne lo hlo' => ?_, fun vals2 F2 hF2 => ?_⟩)
  · exact h3.slot (l := (d2, .int .i64 0) :: raw) he.2 (List.mem_cons_of_mem _ he') hj
  · rw [List.all_eq_true] at ho
    have h6 := ho o ho'
    unfold ownOk at h6
    rw [hseg] at h6
    simp only [eh] at h6
    have h7 := cellsAre_spec (P := P) h5 hlo' h6 hne
    simpa using h7
  · refine ⟨h3.mode, h3.defers, h3.lone, h3.kind, h4.trans l.fn, l.has, by rw [← hfrn]; exact h3.tmps.size, ?_, hF2, ?_⟩
    · simp only [RelItems, RelItem]
      exact ⟨_, _, rfl, rfl, _, _, rfl, rfl, plainI_any he.1 q2⟩
    · have h8 := h3.slot (l := (d2, .int .i64 0) :: raw) (e := (d2, .int .i64 0)) he.2 List.mem_cons_self (fun e => by cases e)
      simp only [RelV] at h8
      exact h8
/-- From an inner loop's last round to a round of the loop around it. -/
theorem LoopAt.leave (hmix : P.follows .mixedOrders = true) (hl : Looping P p f m g B K) (l : LoopAt P vals f m B K F d i c) (hes : ∀ e ∈ es, EntOk P (vals ++ .int .i64 i :: more) w e) (hcs : ∀ e ∈ cs, CallOk P (vals ++ .int .i64 i :: more) w e) (hv : (vals ++ .int .i64 i :: more).length ≤ 1000)
    {p' : Option (Func × AFrame × AHeap)} {B' : Code} {K' : List AItem} {g' : Func} (hl' : Looping P p' f m g' B' K') {vals' rest : List Value} (hpre : vals ++ .int .i64 i :: more = vals' ++ rest) {F' : List (Nat × AV)} {d' : Nat}
    (ht : todoOf (@roundSeg P (orcOf P es cs) p F d vals.length n) = wantTodo p') {j : Nat} {i' : Int} (hj : (vals ++ .int .i64 i :: more)[j]? = some (.int .i64 i')) (hs : slotsOf (@roundSeg P (orcOf P es cs) p F d vals.length n) ((d', .sym (1000 + j)) :: F') = true)
    (hF : ∀ e ∈ F', ∃ v, RelV (renOf vals') e.2 v) (k : ∀ w' c', Grows w w' → LoopAt P vals' f m B' K' F' d' i' c' → Ends P c' ks w' R) : Ends P c ks w R := by
  have hw : wantTodo p' = some (.inLoop B' :: K') := by
    obtain ⟨fr, h1, _⟩ := hl'.at'
    unfold wantTodo
    rw [h1]
  rw [hw, hl.seg] at ht
  rw [hl.seg] at hs
  have ht := Option.some.inj ht
  refine Ends.seg hmix hes hcs hv (l.here hl.plain more) n fun ρ w' c' h1 h2 h3 h4 h5 => ?_
  exact Ends.nextRound hl'.plain h1 h3 ⟨rest, hpre⟩ (by rw [@seg_n P (orcOf P es cs)]; rfl) (by rw [← h3.fn, h4, l.fn]) ht hj hs hF fun c2 l2 => k w' c2 h2 l2
end
end Go.Am
