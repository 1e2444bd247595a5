/-
  Part 16 of the proof that winch/winchlaw25.ChangeBodies returns true for every two bodies of small bulk: lemmas.
  Conditions: none beyond each theorem's own premises.
  What lies here:
  A function that compares two slices, in each round further by a loop within. Condition: the program's own facts, named in the theorem.
  The program's types as a table of data; the data within data.
  The reference's comparisons of bodies' parts.
  The reference's comparisons that have a loop within a loop.
-/
import Derived.Test.YtclhjedldbkgpaaGreatDoorBodies15
import Derived.Test.YtclhjedldbkgpaaGreatDoorProg
import Derived.KernelRfl
set_option linter.unusedVariables false
set_option linter.unusedSimpArgs false
set_option linter.unusedSectionVars false
namespace Go.Am

/-- Slots of two local copies of the rows, and their objects' numbers. -/
structure Own where
  s1 : Nat
  s2 : Nat
  o1 : Nat
  o2 : Nat
structure Nest where
  f : FuncId
  F : List (Nat × AV)
  d : Nat
  tS : TypeId
  E : TypeId
  m : Nat
  flds : List Fld
  tests : List Test
  own : Option Own
  jc : Nat
  fc : Nat
  t2 : TypeId
  E2 : TypeId
  m2 : Nat
  ag2 : Bool
  d2 : Nat
  flds2 : List Fld
  tests2 : List Test
namespace Nest
variable (N : Nest)
def b1 : Nat := 9 + 2 * N.flds.length
def b2 : Nat := N.b1 + N.m
def c1 : Nat := 16 + 2 * N.flds2.length
def c2 : Nat := N.c1 + N.m2
def es1 (q : Nat) : List Ent := [(.lss 3, [.sym 1003, .sym 1002], .bool true), (.len N.tS, [.sym 1000], .sym 1002), (.idx N.tS, [.sym 1000, .sym 1003], .sym 1004), (.load N.E, [.sym 1004], ldAV true N.b1 N.m),
  (.idx N.tS, [.sym 1001, .sym 1003], .sym 1005), (.load N.E, [.sym 1005], ldAV true N.b2 N.m), (.add 3, [.sym 1003, .int .i64 1], .sym 1006)] ++ fldEnts N.E 4 9 N.b1 N.flds ++ fldEnts N.E 5 (9 + N.flds.length) N.b2 N.flds ++ entsQ N.b1 N.b2 N.tests q
def cs1 (q : Nat) : List CEnt := callsQ N.b1 N.b2 N.tests q
def ownRaw : List (Nat × AV) := match N.own with
  | none => []
  | some o => [(o.s1, .ptr o.o1 0), (o.s2, .ptr o.o2 0)]
def ownSym : List (Nat × AV) := match N.own with
  | none => []
  | some o => [(o.s1, .sym 1004), (o.s2, .sym 1005)]
def ownCells : List (Nat × List AV) := match N.own with
  | none => []
  | some o => [(o.o1, symL N.b1 N.m), (o.o2, symL N.b2 N.m)]
def raw : List (Nat × AV) := N.ownRaw ++ ((N.d, .sym 1003) :: N.F)
def F2 : List (Nat × AV) := N.ownSym ++ ((N.d, .sym 1003) :: N.F)
def pre : List Ent := (match N.own with
  | none => [(.idx N.tS, [.sym 1000, .sym 1003], .sym 1004), (.idx N.tS, [.sym 1001, .sym 1003], .sym 1005)]
  | some _ => []) ++ [(.fld N.E N.fc, [.sym 1004], .sym 1007), (.load N.t2, [.sym 1007], .sym 1009), (.fld N.E N.fc, [.sym 1005], .sym 1008), (.load N.t2, [.sym 1008], .sym 1010), (.len N.t2, [.sym 1009], .sym 1006)]
def es2 (q : Nat) : List Ent := N.pre ++ [(.lss 3, [.sym 1012, .sym 1006], .bool true), (.idx N.t2, [.sym 1009, .sym 1012], .sym 1013), (.load N.E2, [.sym 1013], ldAV N.ag2 N.c1 N.m2), (.idx N.t2, [.sym 1010, .sym 1012], .sym 1014), (.load N.E2, [.sym 1014], ldAV N.ag2 N.c2 N.m2),
  (.add 3, [.sym 1012, .int .i64 1], .sym 1015)] ++ fldEnts N.E2 13 16 N.c1 N.flds2 ++ fldEnts N.E2 14 (16 + N.flds2.length) N.c2 N.flds2 ++ entsQ N.c1 N.c2 N.tests2 q
def cs2 (q : Nat) : List CEnt := callsQ N.c1 N.c2 N.tests2 q
def esX : List Ent := N.pre ++ [(.lss 3, [.sym 1012, .sym 1006], .bool false), (.add 3, [.sym 1003, .int .i64 1], .sym 1011)]
def p (P : Program) : Option (Func × AFrame × AHeap) := @enterA P (orcOf P (efStart N.tS false) []) N.f [.sym 1000, .sym 1001] 100
def p1 (P : Program) (q : Nat) : Option (Func × AFrame × AHeap) := @roundSeg P (orcOf P (N.es1 q) (N.cs1 q)) (N.p P) N.F N.d 3 600
def p2 (P : Program) (q : Nat) : Option (Func × AFrame × AHeap) := @roundSeg P (orcOf P (N.es2 q) (N.cs2 q)) (N.p1 P N.tests.length) N.F2 N.d2 12 600
def pX (P : Program) : Option (Func × AFrame × AHeap) := @roundSeg P (orcOf P N.esX []) (N.p1 P N.tests.length) N.F2 N.d2 12 600
/-- What the program's own text must come to. -/
structure Facts (P : Program) : Prop where
  simple : simpleF 3 N.F = true
  differ : @retF P (orcOf P (efStart N.tS true) []) N.f [.sym 1000, .sym 1001] 100 = some (.bool false)
  head : chkHead (N.p P) N.d 0 N.F = true
  stop : @retOf? P (orcOf P (cmpEnd N.tS) []) (@roundSeg P (orcOf P (cmpEnd N.tS) []) (N.p P) N.F N.d 3 100) = some (.bool true)
  unlike : ((List.range N.tests.length).all fun q => isB false (@retOf? P (orcOf P (N.es1 q) (N.cs1 q)) (N.p1 P q))) = true
  inner : chkHead (N.p1 P N.tests.length) N.d2 0 N.raw = true
  cells : (N.ownCells.all fun o => ownOk (N.p1 P N.tests.length) o.1 o.2) = true
  todo2 : todoOf (N.p2 P N.tests2.length) = wantTodo (N.p1 P N.tests.length)
  slots2 : slotsOf (N.p2 P N.tests2.length) ((N.d2, .sym 1015) :: N.F2) = true
  unlike2 : ((List.range N.tests2.length).all fun q => isB false (@retOf? P (orcOf P (N.es2 q) (N.cs2 q)) (N.p2 P q))) = true
  todoX : todoOf (N.pX P) = wantTodo (N.p P)
  slotsX : slotsOf (N.pX P) ((N.d, .sym 1011) :: N.F) = true
  covers : ((List.range N.m).all fun j => Nat.beq j N.jc || N.tests.any fun t => t.covers j) = true
  covers2 : ((List.range N.m2).all fun j => N.tests2.any fun t => t.covers j) = true
  noln2 : (N.tests2.all Test.plain) = true
  ownJ : (match N.own with
    | none => true
    | some o => Nat.ble 2000 o.o1 && Nat.ble 2000 o.o2) = true
  flds : ((N.flds.all fun x => fldOk P N.E N.m x) && (N.flds.map Fld.f == List.range N.flds.length)) = true
  flds2 : ((N.flds2.all fun x => fldOk P N.E2 N.m2 x) && (N.flds2.map Fld.f == List.range N.flds2.length)) = true
  fld : fieldOk P N.E N.fc N.jc = true
  lnOk : (N.tests.all fun t => match t with
    | .ln j t k1 k2 => Nat.beq j N.jc && Nat.beq t N.t2 && Nat.beq k1 7 && Nat.beq k2 8
    | _ => true) = true
  lnIn : (N.tests.any fun t => match t with
    | .ln _ _ _ _ => true
    | _ => false) = true
end Nest

/-- The fields' pointers. -/
def ptrs (b off : Nat) (l : List Fld) : List Value := l.map fun x => .pointer (some ⟨b, off + x.off, none⟩)
theorem ptrs_at {b off : Nat} {l : List Fld} (h : l.map Fld.f = List.range l.length) {x : Fld} (hx : x ∈ l) : (ptrs b off l)[x.f]? = some (.pointer (some ⟨b, off + x.off, none⟩)) := by
  obtain ⟨i, hi, rfl⟩ := List.getElem_of_mem hx
  have h1 : (l.map Fld.f)[i]? = some l[i].f := by simp [hi]
  rw [h, List.getElem?_range hi] at h1
  have hif : i = l[i].f := Option.some.inj h1
  unfold ptrs
  rw [List.getElem?_map, ← hif, List.getElem?_eq_getElem hi]
  rfl
theorem at_app {α : Type} {A L : List α} {n j : Nat} (hn : A.length = n) : (A ++ L)[n + j]? = L[j]? := by
  rw [List.getElem?_append_right (by omega), show n + j - A.length = j by omega]
theorem at_left {α : Type} {A L : List α} {j : Nat} {a : α} (h : A[j]? = some a) : (A ++ L)[j]? = some a := by
  rw [List.getElem?_append_left (List.getElem?_eq_some_iff.1 h).1]; exact h
theorem ptrs_len {b off : Nat} {l : List Fld} : (ptrs b off l).length = l.length := by simp [ptrs]

theorem nestLoop {P : Program} (hmix : P.follows .mixedOrders = true) {tb : Tab} (N : Nest) (k : N.Facts P) (hel : tb.elem N.tS = some N.E) (hm : (tb.flat N.E).length = N.m) (hm0 : 0 < N.m) (hm1 : N.m ≤ 100) (hu : und P N.tS = some (.slice N.E)) (ha : aggP P N.E = some true) (hz : sizeP P N.E = some N.m)
    (hj : (tb.flat N.E)[N.jc]? = some N.t2) (hk2 : tb.kind N.t2 = none) (hel2 : tb.elem N.t2 = some N.E2) (hmm2 : (tb.flat N.E2).length = N.m2) (hm20 : 0 < N.m2) (hm21 : N.m2 ≤ 100) (hu2 : und P N.t2 = some (.slice N.E2)) (ha2 : aggP P N.E2 = some N.ag2) (hag2 : N.ag2 = false → N.m2 = 1) (hz2 : sizeP P N.E2 = some N.m2)
    (hat2 : aggP P N.t2 = some false) (hnf : N.flds.length ≤ 100) (hnf2 : N.flds2.length ≤ 100) {x y : List T} (hx : x.length < 9223372036854775807) (hx2 : ∀ (i : Nat) a lx, x[i]? = some (.row a) → a[N.jc]? = some (.seq lx) → lx.length < 9223372036854775807)
    (hok1 : ∀ (i : Nat) a b, x[i]? = some (.row a) → y[i]? = some (.row b) → ∀ t ∈ N.tests, t.ok P tb (tb.flat N.E) a b)
    (hok2 : ∀ (i : Nat) a b lx ly, x[i]? = some (.row a) → y[i]? = some (.row b) → a[N.jc]? = some (.seq lx) → b[N.jc]? = some (.seq ly) → ∀ (n : Nat) a2 b2, lx[n]? = some (.row a2) → ly[n]? = some (.row b2) → ∀ t ∈ N.tests2, t.ok P tb (tb.flat N.E2) a2 b2) :
    SameSeq P tb N.f N.tS [] x y := by
  intro w v u hv hu'
  have sx := seq_slice hv
  have sy := seq_slice hu'
  have ra : ∀ vals, vals[0]? = some v → vals[1]? = some u → RelL (renOf vals) [.sym 1000, .sym 1001] [v, u] := fun vals h0 h1 => by
    simp only [RelL]
    exact ⟨_, _, rfl, sym_rel (k := 0) h0 (slice_one sx), _, _, rfl, sym_rel (k := 1) h1 (slice_one sy), rfl⟩
  have start : ∀ c, (c = true ↔ x.length ≠ y.length) → ∀ e ∈ efStart N.tS c, EntOk P [v, u, .int .i64 x.length, .int .i64 y.length] w e := by
    intro c hc e he
    simp only [efStart, List.mem_cons, List.not_mem_nil, or_false] at he
    rcases he with rfl | rfl | rfl
    · exact ent_len (i := 0) (j := 2) hu rfl rfl sx
    · exact ent_len (i := 1) (j := 3) hu rfl rfl sy
    · exact ent_neq (k := 0) (i := 2) (j := 3) rfl rfl ⟨_, rfl⟩ ⟨_, rfl⟩ (fun h => by cases h) (by rw [hc]; simp; omega)
  by_cases hlen : x.length = y.length
  case neg =>
    refine Calls.straight (vals := [v, u, .int .i64 x.length, .int .i64 y.length]) hmix (start true (by simpa using hlen)) (fun _ h => by cases h) (by simp) 100 k.differ (ra _ rfl rfl) fun ρ w' v' _ h2 h3 => ?_
    rw [bool_val h3, eqB_neg (fun e => hlen (by rw [e]))]
    exact ⟨rfl, h2⟩
  have hF := simpleF_rel (vals := [v, u, .int .i64 x.length]) (p := 3) (by simp) (fun z hz => by
    simp only [List.mem_cons, List.not_mem_nil, or_false] at hz
    rcases hz with rfl | rfl | rfl
    · exact slice_one sx
    · exact slice_one sy
    · rfl) k.simple
  refine Calls.loop (vals := [v, u, .int .i64 x.length, .int .i64 y.length]) hmix (start false (by simpa using hlen)) (fun _ h => by cases h) (by simp) k.head (ra _ rfl rfl) (fun e he => by
    obtain ⟨v', hv'⟩ := hF e he
    exact ⟨v', RelV.mono (renOf_le (vals := [v, u, .int .i64 x.length]) (more := [.int .i64 y.length])) _ _ hv'⟩) fun fn fg B K hl ks w1 c1 g1 l1 => ?_
  have l1 : LoopAt P [v, u, .int .i64 x.length] N.f fn B K N.F N.d 0 c1 :=
    ⟨l1.mode, l1.defers, l1.lone, l1.kind, l1.fn, l1.has, l1.size, plainI_any (by simpa [plainI] using hl.plain) l1.todo, fun e he => by
      obtain ⟨v', hv'⟩ := hF e he
      exact RelV.back (renOf_le (vals := [v, u, .int .i64 x.length]) (more := [.int .i64 y.length])) hv' (l1.slots e he), l1.ctr⟩
  have hfl := k.flds
  rw [Bool.and_eq_true, beq_iff_eq] at hfl
  have hfl2 := k.flds2
  rw [Bool.and_eq_true, beq_iff_eq] at hfl2
  have key : ∀ (i : Nat) (w2 : World) (c2 : Frame), i ≤ x.length → Grows w w2 → LoopAt P [v, u, .int .i64 x.length] N.f fn B K N.F N.d i c2 → (∀ j, j < i → x[j]? = y[j]?) → Ends P c2 ks w2 fun e w' => e = .returned (.bool (eqB x y)) ∧ Grows w w' := by
    intro i
    generalize hjj : x.length - i = j
    induction j generalizing i with
    | zero =>
      intro w2 c2 hi hg2 l2 hp
      have hix : i = x.length := by omega
      refine l2.ret (es := cmpEnd N.tS) (cs := []) (more := []) hmix hl (fun e he => ?_) (fun _ h => by cases h) (by simp) k.stop fun ρ w' v' _ h2 h3 => ?_
      · simp only [cmpEnd, List.mem_cons, List.not_mem_nil, or_false] at he
        rcases he with rfl | rfl
        · exact ent_lss (i := 3) (j := 2) rfl rfl (by simp; omega)
        · exact ent_len (i := 0) (j := 2) hu rfl rfl sx
      · rw [bool_val h3, eqB_pos]
        · exact ⟨rfl, hg2.trans h2⟩
        · apply List.ext_getElem?
          intro n
          by_cases hn : n < i
          · exact hp n hn
          · rw [List.getElem?_eq_none (by omega), List.getElem?_eq_none (by omega)]
    | succ j ih =>
      intro w2 c2 hi hg2 l2 hp
      have hlt : i < x.length := by omega
      have hv2 := hv.grows hg2
      have hu2' := hu'.grows hg2
      obtain ⟨b, off, cap, xs, vs, e1, e2, e3, _, e4, e5, e6⟩ := seq_at hel hv2 (List.getElem?_eq_getElem hlt)
      obtain ⟨b', off', cap', ys, us, d1, d2, d3, _, d4, d5, d6⟩ := seq_at hel hu2' (List.getElem?_eq_getElem (by omega : i < y.length))
      have lv := e5.len.1
      have lu := d5.len.1
      have lxs := e5.len.2
      have lys := d5.len.2
      rw [hm] at lv lu e6 d6 lxs lys
      have hxi : x[i]? = some (.row xs) := by rw [List.getElem?_eq_getElem hlt, e4]
      have hyi : y[i]? = some (.row ys) := by rw [List.getElem?_eq_getElem (by omega : i < y.length), d4]
      obtain ⟨z1, tx, f1, f2, f3⟩ := e5.at N.jc N.t2 hj
      obtain ⟨z2, ty, g1', g2', g3'⟩ := d5.at N.jc N.t2 hj
      obtain ⟨lx, rfl⟩ := rd_seq f3 hk2
      obtain ⟨ly, rfl⟩ := rd_seq g3' hk2
      have hjm : N.jc < N.m := by rw [← hm]; exact (List.getElem?_eq_some_iff.1 hj).1
      -- the first piece of the round
      generalize hV : ([v, u, .int .i64 x.length] ++ Value.int .i64 i :: (([.pointer (some ⟨b, off + i * N.m, none⟩), .pointer (some ⟨b', off' + i * N.m, none⟩), .int .i64 ((i + 1 : Nat) : Int), .int .i64 lx.length, .int .i64 ly.length] ++ (ptrs b (off + i * N.m) N.flds ++ (ptrs b' (off' + i * N.m) N.flds ++ (vs ++ us)))))) = V
      have hV' : V = [v, u, .int .i64 x.length, .int .i64 i, .pointer (some ⟨b, off + i * N.m, none⟩), .pointer (some ⟨b', off' + i * N.m, none⟩), .int .i64 ((i + 1 : Nat) : Int), .int .i64 lx.length, .int .i64 ly.length] ++ (ptrs b (off + i * N.m) N.flds ++ (ptrs b' (off' + i * N.m) N.flds ++ (vs ++ us))) := by rw [← hV]; rfl
      have hA9 : ([v, u, .int .i64 x.length, .int .i64 i, .pointer (some ⟨b, off + i * N.m, none⟩), .pointer (some ⟨b', off' + i * N.m, none⟩), .int .i64 ((i + 1 : Nat) : Int), .int .i64 lx.length, .int .i64 ly.length] : List Value).length = 9 := rfl
      have hvals : V.length ≤ 1000 := by rw [hV']; simp [ptrs_len]; omega
      have Q1 : ∀ (j : Nat) z, (ptrs b (off + i * N.m) N.flds)[j]? = some z → V[9 + j]? = some z := fun j z h => by rw [hV', at_app hA9]; exact at_left h
      have Q2 : ∀ (j : Nat) z, (ptrs b' (off' + i * N.m) N.flds)[j]? = some z → V[9 + N.flds.length + j]? = some z := fun j z h => by rw [hV', Nat.add_assoc, at_app hA9, at_app ptrs_len]; exact at_left h
      have P1 : ∀ (j : Nat) z, vs[j]? = some z → V[N.b1 + j]? = some z := fun j z h => by
        rw [hV', show N.b1 + j = 9 + (N.flds.length + (N.flds.length + j)) by unfold Nest.b1; omega, at_app hA9, at_app ptrs_len, at_app ptrs_len]; exact at_left h
      have P2 : ∀ (j : Nat) z, us[j]? = some z → V[N.b2 + j]? = some z := fun j z h => by
        rw [hV', show N.b2 + j = 9 + (N.flds.length + (N.flds.length + (N.m + j))) by unfold Nest.b2 Nest.b1; omega, at_app hA9, at_app ptrs_len, at_app ptrs_len, at_app lv]; exact h
      obtain ⟨q, q1, q2, q3⟩ := tests_split xs ys N.tests
      have hat : ∀ t ∈ N.tests, t.at V xs ys := fun t ht => by
        have h := k.lnOk
        rw [List.all_eq_true] at h
        have h := h t ht
        cases t with
        | ln j t k1 k2 =>
          simp only [Bool.and_eq_true] at h
          have r1 := Nat.eq_of_beq_eq_true h.1.1.1
          have r3 := Nat.eq_of_beq_eq_true h.1.2
          have r4 := Nat.eq_of_beq_eq_true h.2
          subst r1; subst r3; subst r4
          intro lx' ly' s1 s2
          rw [f2] at s1
          rw [g2'] at s2
          cases s1; cases s2
          exact ⟨by rw [hV']; rfl, by rw [hV']; rfl⟩
        | _ => trivial
      obtain ⟨t1, t2⟩ := entsQ_ok (P := P) (vals := V) (b1 := N.b1) (b2 := N.b2) e5 d5 P1 P2 (hok1 i xs ys hxi hyi) hat q2 q3
      have hes : ∀ e ∈ N.es1 q, EntOk P V w2 e := by
        intro e he
        simp only [Nest.es1, List.mem_append, List.mem_cons, List.not_mem_nil, or_false] at he
        rcases he with (((rfl | rfl | rfl | rfl | rfl | rfl | rfl) | he) | he) | he
        · exact ent_lss (i := 3) (j := 2) (m := i) (n := x.length) (by rw [hV']; rfl) (by rw [hV']; rfl) (by simp; omega)
        · exact ent_len (i := 0) (j := 2) (v := v) (n := x.length) hu (by rw [hV']; rfl) (by rw [hV']; rfl) sx
        · exact ent_idx (i := 0) (j := 3) (k := 4) (b := b) (off := off) (n := x.length) (cap := cap) hu hz hm0 (by rw [hV']; exact congrArg some e1) e2 (by rw [hV']; rfl) hlt (by rw [hV']; rfl)
        · exact ld_ok (zs := vs) (i' := 4) ha (fun h => by cases h) hz lv (fun j z h => e5.ones j z h) e3 e6 (by rw [hV']; rfl) P1
        · exact ent_idx (i := 1) (j := 3) (k := 5) (b := b') (off := off') (n := y.length) (cap := cap') hu hz hm0 (by rw [hV']; exact congrArg some d1) d2 (by rw [hV']; rfl) (by omega) (by rw [hV']; rfl)
        · exact ld_ok (zs := us) (i' := 5) ha (fun h => by cases h) hz lu (fun j z h => d5.ones j z h) d3 d6 (by rw [hV']; rfl) P2
        · exact ent_succ (i := 3) (j := 6) (m := i) (by rw [hV']; rfl) (by rw [hV']; rfl) (by omega)
        · exact fldEnts_ok (mm := N.m) (b := b) (off := off + i * N.m) lv (fun j z h => e5.ones j z h) e3 e6 (by rw [hV']; rfl) P1 hfl.1 (fun z hz' => Q1 _ _ (ptrs_at hfl.2 hz')) e he
        · exact fldEnts_ok (mm := N.m) (b := b') (off := off' + i * N.m) lu (fun j z h => d5.ones j z h) d3 d6 (by rw [hV']; rfl) P2 hfl.1 (fun z hz' => Q2 _ _ (ptrs_at hfl.2 hz')) e he
        · exact t1 e he
      by_cases hq : q = N.tests.length
      case neg =>
        have hlt' : q < N.tests.length := by omega
        have hxy : xs ≠ ys := tests_none (List.getElem?_eq_getElem hlt') (q3 _ (List.getElem?_eq_getElem hlt'))
        have hu'' := k.unlike
        rw [List.all_eq_true] at hu''
        refine l2.ret (es := N.es1 q) (cs := N.cs1 q) hmix hl (by rw [hV]; exact hes) (by rw [hV]; exact t2) (by rw [hV]; exact hvals) (isB_spec (hu'' q (by simpa using hlt'))) fun ρ w' v' _ h2 h3 => ?_
        rw [bool_val h3, eqB_neg]
        · exact ⟨rfl, hg2.trans h2⟩
        · intro e
          rw [e, hyi] at hxi
          injection hxi with h
          injection h with h
          exact hxy h.symm
      subst hq
      have hll : lx.length = ly.length := by
        obtain ⟨t, ht, hti⟩ := List.any_eq_true.1 k.lnIn
        have h := k.lnOk
        rw [List.all_eq_true] at h
        have h := h t ht
        cases t with
        | ln j t k1 k2 =>
          simp only [Bool.and_eq_true] at h
          have r1 := Nat.eq_of_beq_eq_true h.1.1.1
          subst r1
          obtain ⟨n, hn, hnt⟩ := List.getElem_of_mem ht
          have := q2 n _ hn (by rw [List.getElem?_eq_getElem hn, hnt])
          exact this lx ly f2 g2'
        | _ => cases hti
      refine l2.inner (es := N.es1 N.tests.length) (cs := N.cs1 N.tests.length) hmix hl (by rw [hV]; exact hes) (by rw [hV]; exact t2) (by rw [hV]; exact hvals) (d2 := N.d2) (raw := N.raw) (own := N.ownCells) k.inner k.cells fun B2 K2 hl2 ρ w3 c3 g3 ah => ?_
      have hle := ah.le
      rw [hV] at hle
      -- the rows' places avs the inner loop sees them
      have rows : ∃ q1 o1 q2 o2, q1 < w3.heap.size ∧ q2 < w3.heap.size ∧ (∀ (j : Nat) z, vs[j]? = some z → w3.cell? ⟨q1, o1 + j, none⟩ = some z) ∧ (∀ (j : Nat) z, us[j]? = some z → w3.cell? ⟨q2, o2 + j, none⟩ = some z) ∧
          (N.own = none → q1 = b ∧ o1 = off + i * N.m ∧ q2 = b' ∧ o2 = off' + i * N.m) ∧ (∀ o, N.own = some o → c3.tmps.getD o.s1 Go.undef = .pointer (some ⟨q1, o1, none⟩) ∧ c3.tmps.getD o.s2 Go.undef = .pointer (some ⟨q2, o2, none⟩)) := by
        cases how : N.own with
        | none =>
          exact ⟨b, off + i * N.m, b', off' + i * N.m, Nat.lt_of_lt_of_le e3 g3.1, Nat.lt_of_lt_of_le d3 g3.1, fun j z h => by rw [cell_heap (g3.2 b e3)]; exact e6 j z h, fun j z h => by rw [cell_heap (g3.2 b' d3)]; exact d6 j z h, fun _ => ⟨rfl, rfl, rfl, rfl⟩, fun o h => by cases h⟩
        | some o =>
          have m1 := ah.slots (o.s1, .ptr o.o1 0) (by simp [Nest.raw, Nest.ownRaw, how]) (fun e => by cases e)
          have m2 := ah.slots (o.s2, .ptr o.o2 0) (by simp [Nest.raw, Nest.ownRaw, how]) (fun e => by cases e)
          simp only [RelV] at m1 m2
          obtain ⟨L1, r1, r2⟩ := m1
          obtain ⟨L2, s1, s2⟩ := m2
          have hne1 : symL N.b1 N.m ≠ [] := by
            cases hq : N.m with
            | zero => omega
            | succ n => simp [symL]
          have hne2 : symL N.b2 N.m ≠ [] := by
            cases hq : N.m with
            | zero => omega
            | succ n => simp [symL]
          obtain ⟨k1, k2⟩ := ah.cells (o.o1, symL N.b1 N.m) (by simp [Nest.ownCells, how]) hne1 L1 r1
          obtain ⟨k3, k4⟩ := ah.cells (o.o2, symL N.b2 N.m) (by simp [Nest.ownCells, how]) hne2 L2 s1
          have symAt : ∀ (n a j : Nat), j < n → (symL a n)[j]? = some (.sym (1000 + (a + j))) := by
            intro n
            induction n with
            | zero => intro a j h; omega
            | succ n ih => intro a j h; cases j with
              | zero => simp [symL]
              | succ j => simp only [symL, List.getElem?_cons_succ]; rw [ih (a + 1) j (by omega), show a + 1 + j = a + (j + 1) by omega]
          refine ⟨L1.b, 0, L2.b, 0, k1, k3, fun j z h => ?_, fun j z h => ?_, fun h => (by cases h), fun o' h => by cases h; exact ⟨r2, s2⟩⟩
          · have hjv := (List.getElem?_eq_some_iff.1 h).1
            obtain ⟨zz, y1, y2⟩ := k2 j _ (symAt N.m N.b1 j (by omega))
            rw [Nat.zero_add, y1, sym_val hle (P1 j z h) y2]
          · have hjv := (List.getElem?_eq_some_iff.1 h).1
            obtain ⟨zz, y1, y2⟩ := k4 j _ (symAt N.m N.b2 j (by omega))
            rw [Nat.zero_add, y1, sym_val hle (P2 j z h) y2]
      obtain ⟨p1, o1, p2, o2, h1, h2, h3, h4, hown0, hown1⟩ := rows
      generalize hW : ([v, u, .int .i64 x.length, .int .i64 i, .pointer (some ⟨p1, o1, none⟩), .pointer (some ⟨p2, o2, none⟩), .int .i64 lx.length, .pointer (some ⟨p1, o1 + N.jc, none⟩), .pointer (some ⟨p2, o2 + N.jc, none⟩), z1, z2, .int .i64 ((i + 1 : Nat) : Int)] : List Value) = W2
      have hWl : W2.length = 12 := by rw [← hW]; rfl
      have hWo : ∀ z ∈ W2, z.oneCell' = true := by
        rw [← hW]
        intro z hz'
        simp only [List.mem_cons, List.not_mem_nil, or_false] at hz'
        rcases hz' with rfl | rfl | rfl | rfl | rfl | rfl | rfl | rfl | rfl | rfl | rfl | rfl
        · exact slice_one sx
        · exact slice_one sy
        · rfl
        · rfl
        · rfl
        · rfl
        · rfl
        · rfl
        · rfl
        · exact f3.one
        · exact g3'.one
        · rfl
      have W3 : [v, u, .int .i64 x.length] ++ (W2.drop 3) = W2 := by rw [← hW]; rfl
      have hF2 : ∀ e ∈ N.F2, RelV (renOf W2) e.2 (c3.tmps.getD e.1 Go.undef) := by
        intro e he
        simp only [Nest.F2, List.mem_append, List.mem_cons] at he
        rcases he with he | rfl | he
        · cases how : N.own with
          | none => simp [Nest.ownSym, how] at he
          | some o =>
            obtain ⟨r1, r2⟩ := hown1 o how
            simp only [Nest.ownSym, how, List.mem_cons, List.not_mem_nil, or_false] at he
            rcases he with rfl | rfl
            · simp only; rw [r1]; exact sym_rel (k := 4) (by rw [← hW]; rfl) rfl
            · simp only; rw [r2]; exact sym_rel (k := 5) (by rw [← hW]; rfl) rfl
        · have := ah.slots (N.d, .sym 1003) (by simp [Nest.raw]) (fun e => by cases e)
          have h5 := sym_val (k := 3) hle (by rw [hV']; rfl) this
          simp only at h5 ⊢
          rw [h5]
          exact sym_rel (k := 3) (by rw [← hW]; rfl) rfl
        · obtain ⟨v', hv'⟩ := hF e he
          have hnj : e.2 ≠ .junk := fun ej => by rw [ej] at hv'; simp only [RelV] at hv'
          have h5 := ah.slots e (by simp [Nest.raw, he]) hnj
          have hle3 : (renOf [v, u, .int .i64 x.length]).le ρ := by
            rw [← hV] at hle
            exact Ren.le.trans renOf_le hle
          have h6 := RelV.back hle3 hv' h5
          rw [← W3]
          exact RelV.mono renOf_le _ _ h6
      have L2 := ah.loop W2 N.F2 hF2
      have hg23 := hg2.trans g3
      have preOk : ∀ (kk : Nat) (more : List Value) (w4 : World), Grows w3 w4 → ∀ e ∈ N.pre, EntOk P (W2 ++ Value.int .i64 kk :: more) w4 e := by
        intro kk more w4 g4 e he
        have at2 : ∀ (j : Nat) z, W2[j]? = some z → (W2 ++ Value.int .i64 kk :: more)[j]? = some z := fun j z h => at_left h
        simp only [Nest.pre, List.mem_append, List.mem_cons, List.not_mem_nil, or_false] at he
        rcases he with he | rfl | rfl | rfl | rfl | rfl
        · cases how : N.own with
          | some o => simp [how] at he
          | none =>
            obtain ⟨r1, r2, r3, r4⟩ := hown0 how
            simp only [how, List.mem_cons, List.not_mem_nil, or_false] at he
            rcases he with rfl | rfl
            · exact ent_idx (i := 0) (j := 3) (k := 4) (b := b) (off := off) (n := x.length) (cap := cap) hu hz hm0 (at2 _ _ (by rw [← hW]; exact congrArg some e1)) e2 (at2 _ _ (by rw [← hW]; rfl)) hlt (at2 _ _ (by rw [← hW, r1, r2]; rfl))
            · exact ent_idx (i := 1) (j := 3) (k := 5) (b := b') (off := off') (n := y.length) (cap := cap') hu hz hm0 (at2 _ _ (by rw [← hW]; exact congrArg some d1)) d2 (at2 _ _ (by rw [← hW]; rfl)) (by omega) (at2 _ _ (by rw [← hW, r3, r4]; rfl))
        · exact ent_fld (fieldOk_is k.fld) (i := 4) (j := 7) (b := p1) (off := o1) (at2 _ _ (by rw [← hW]; rfl)) (at2 _ _ (by rw [← hW]; rfl))
        · exact ent_load_one (i := 7) (k := 9) (b := p1) (off := o1 + N.jc) hat2 f3.one (Nat.lt_of_lt_of_le h1 g4.1) (by rw [cell_heap (g4.2 p1 h1)]; exact h3 _ _ f1) (at2 _ _ (by rw [← hW]; rfl)) (at2 _ _ (by rw [← hW]; rfl))
        · exact ent_fld (fieldOk_is k.fld) (i := 5) (j := 8) (b := p2) (off := o2) (at2 _ _ (by rw [← hW]; rfl)) (at2 _ _ (by rw [← hW]; rfl))
        · exact ent_load_one (i := 8) (k := 10) (b := p2) (off := o2 + N.jc) hat2 g3'.one (Nat.lt_of_lt_of_le h2 g4.1) (by rw [cell_heap (g4.2 p2 h2)]; exact h4 _ _ g1') (at2 _ _ (by rw [← hW]; rfl)) (at2 _ _ (by rw [← hW]; rfl))
        · exact ent_len (i := 9) (j := 6) (v := z1) (n := lx.length) hu2 (at2 _ _ (by rw [← hW]; rfl)) (at2 _ _ (by rw [← hW]; rfl)) (seq_slice f3)
      have hxl := hx2 i xs lx hxi f2
      have ht2 := k.todo2
      have hs2 := k.slots2
      have hn2 := k.unlike2
      unfold Nest.p2 at ht2 hs2 hn2
      have htX := k.todoX
      have hsX := k.slotsX
      unfold Nest.pX at htX hsX
      refine cmpRounds (w := w3) (R := fun e w' => e = .returned (.bool (eqB x y)) ∧ Grows w w') (n := 600) (jn := 15) (N := lx.length) (nt := N.tests2.length) (es := N.es2) (cs := N.cs2) (A := fun n => lx[n]? = ly[n]?) hmix hl2 (fun e he => ⟨_, hF2 e he⟩) (fun kk hkk w4 g4 => ?_) (by rw [hWl]; exact ht2) (by rw [hWl]; exact hs2) (by rw [hWl]; exact hn2) ?_ ?_ 0 w3 c3 (Nat.zero_le _) (Grows.refl _) L2 (fun n hn => absurd hn (Nat.not_lt_zero _))
      · -- a round of the inner loop
        have f3' := (f3.grows (g3.trans g4))
        have g3'' := (g3'.grows (g3.trans g4))
        obtain ⟨ba, oa, ca, xs2, vs2, a1, a2, a3, _, a4, a5, a6⟩ := seq_at hel2 f3' (List.getElem?_eq_getElem hkk)
        obtain ⟨bb, ob, cb, ys2, us2, b1, b2, b3, _, b4, b5, b6⟩ := seq_at hel2 g3'' (List.getElem?_eq_getElem (by omega : kk < ly.length))
        have lv2 := a5.len.1
        have lu2 := b5.len.1
        have lxs2 := a5.len.2
        have lys2 := b5.len.2
        rw [hmm2] at lv2 lu2 a6 b6 lxs2 lys2
        have hxk : lx[kk]? = some (.row xs2) := by rw [List.getElem?_eq_getElem hkk, a4]
        have hyk : ly[kk]? = some (.row ys2) := by rw [List.getElem?_eq_getElem (by omega : kk < ly.length), b4]
        generalize hU : (W2 ++ Value.int .i64 kk :: ([.pointer (some ⟨ba, oa + kk * N.m2, none⟩), .pointer (some ⟨bb, ob + kk * N.m2, none⟩), .int .i64 ((kk + 1 : Nat) : Int)] ++ (ptrs ba (oa + kk * N.m2) N.flds2 ++ (ptrs bb (ob + kk * N.m2) N.flds2 ++ (vs2 ++ us2))))) = U
        have hU' : U = (W2 ++ [.int .i64 kk, .pointer (some ⟨ba, oa + kk * N.m2, none⟩), .pointer (some ⟨bb, ob + kk * N.m2, none⟩), .int .i64 ((kk + 1 : Nat) : Int)]) ++ (ptrs ba (oa + kk * N.m2) N.flds2 ++ (ptrs bb (ob + kk * N.m2) N.flds2 ++ (vs2 ++ us2))) := by rw [← hU]; simp
        have hlen16 : (W2 ++ [Value.int .i64 kk, .pointer (some ⟨ba, oa + kk * N.m2, none⟩), .pointer (some ⟨bb, ob + kk * N.m2, none⟩), .int .i64 ((kk + 1 : Nat) : Int)]).length = 16 := by simp [hWl]
        have hUl : U.length ≤ 1000 := by rw [hU']; simp [ptrs_len, hWl]; omega
        have at2 : ∀ (j : Nat) z, W2[j]? = some z → U[j]? = some z := fun j z h => by rw [← hU]; exact at_left h
        have at3 : ∀ (j : Nat), U[12 + j]? = (Value.int .i64 kk :: ([.pointer (some ⟨ba, oa + kk * N.m2, none⟩), .pointer (some ⟨bb, ob + kk * N.m2, none⟩), .int .i64 ((kk + 1 : Nat) : Int)] ++ (ptrs ba (oa + kk * N.m2) N.flds2 ++ (ptrs bb (ob + kk * N.m2) N.flds2 ++ (vs2 ++ us2)))))[j]? := fun j => by rw [← hU]; exact at_app hWl
        have R1 : ∀ (j : Nat) z, (ptrs ba (oa + kk * N.m2) N.flds2)[j]? = some z → U[16 + j]? = some z := fun j z h => by rw [hU', at_app hlen16]; exact at_left h
        have R2 : ∀ (j : Nat) z, (ptrs bb (ob + kk * N.m2) N.flds2)[j]? = some z → U[16 + N.flds2.length + j]? = some z := fun j z h => by rw [hU', Nat.add_assoc, at_app hlen16, at_app ptrs_len]; exact at_left h
        have S1 : ∀ (j : Nat) z, vs2[j]? = some z → U[N.c1 + j]? = some z := fun j z h => by
          rw [hU', show N.c1 + j = 16 + (N.flds2.length + (N.flds2.length + j)) by unfold Nest.c1; omega, at_app hlen16, at_app ptrs_len, at_app ptrs_len]; exact at_left h
        have S2 : ∀ (j : Nat) z, us2[j]? = some z → U[N.c2 + j]? = some z := fun j z h => by
          rw [hU', show N.c2 + j = 16 + (N.flds2.length + (N.flds2.length + (N.m2 + j))) by unfold Nest.c2 Nest.c1; omega, at_app hlen16, at_app ptrs_len, at_app ptrs_len, at_app lv2]; exact h
        obtain ⟨q', q1', q2', q3'⟩ := tests_split xs2 ys2 N.tests2
        obtain ⟨t1', t2'⟩ := entsQ_ok (P := P) (vals := U) (w := w4) (b1 := N.c1) (b2 := N.c2) a5 b5 S1 S2 (hok2 i xs ys lx ly hxi hyi f2 g2' kk xs2 ys2 hxk hyk) (Test.at_plain k.noln2) q2' q3'
        refine ⟨_, q', by rw [hU]; exact hUl, by rw [hU, show (15 : Nat) = 12 + 3 from rfl, at3]; rfl, ?_, ?_, by rw [hU]; exact t2'⟩
        · by_cases hq' : q' = N.tests2.length
          · left
            refine ⟨hq', ?_⟩
            rw [hxk, hyk, tests_all lxs2 lys2 k.covers2 fun t ht => by
              obtain ⟨n, hn, rfl⟩ := List.getElem_of_mem ht
              exact q2' n _ (by omega) (List.getElem?_eq_getElem hn)]
          · right
            have hlt' : q' < N.tests2.length := by omega
            refine ⟨hlt', fun e => ?_⟩
            rw [hxk, hyk] at e
            injection e with e
            injection e with e
            exact tests_none (List.getElem?_eq_getElem hlt') (q3' _ (List.getElem?_eq_getElem hlt')) e
        · intro e he
          simp only [Nest.es2, List.mem_append, List.mem_cons, List.not_mem_nil, or_false] at he
          rcases he with (((he | (rfl | rfl | rfl | rfl | rfl | rfl)) | he) | he) | he
          · exact preOk kk _ w4 g4 e he
          all_goals rw [hU]
          · exact ent_lss (i := 12) (j := 6) (m := kk) (n := lx.length) (at3 0) (at2 6 _ (by rw [← hW]; rfl)) (by simp; omega)
          · exact ent_idx (i := 9) (j := 12) (k := 13) (b := ba) (off := oa) (n := lx.length) (cap := ca) hu2 hz2 hm20 (at2 9 _ (by rw [← hW]; exact congrArg some a1)) a2 (at3 0) hkk (at3 1)
          · exact ld_ok (zs := vs2) (i' := 13) ha2 hag2 hz2 lv2 (fun j z h => a5.ones j z h) a3 a6 (at3 1) S1
          · exact ent_idx (i := 10) (j := 12) (k := 14) (b := bb) (off := ob) (n := ly.length) (cap := cb) hu2 hz2 hm20 (at2 10 _ (by rw [← hW]; exact congrArg some b1)) b2 (at3 0) (by omega) (at3 2)
          · exact ld_ok (zs := us2) (i' := 14) ha2 hag2 hz2 lu2 (fun j z h => b5.ones j z h) b3 b6 (at3 2) S2
          · exact ent_succ (i := 12) (j := 15) (m := kk) (at3 0) (at3 3) (by omega)
          · exact fldEnts_ok (mm := N.m2) (b := ba) (off := oa + kk * N.m2) lv2 (fun j z h => a5.ones j z h) a3 a6 (at3 1) S1 hfl2.1 (fun z hz' => R1 _ _ (ptrs_at hfl2.2 hz')) e he
          · exact fldEnts_ok (mm := N.m2) (b := bb) (off := ob + kk * N.m2) lu2 (fun j z h => b5.ones j z h) b3 b6 (at3 2) S2 hfl2.1 (fun z hz' => R2 _ _ (ptrs_at hfl2.2 hz')) e he
          · exact t1' e he
      · -- two elements within that are not the same
        intro ⟨n, hn, hna⟩ w' gw
        refine ⟨?_, hg23.trans gw⟩
        rw [eqB_neg]
        intro e
        rw [e, hyi] at hxi
        injection hxi with h
        injection h with h
        rw [← h, g2'] at f2
        injection f2 with f2
        injection f2 with f2
        exact hna (by rw [f2])
      · -- all are the same
        intro hall w4 c4 g4 l4
        have hlxy : lx = ly := by
          apply List.ext_getElem?
          intro n
          by_cases hn : n < lx.length
          · exact hall n hn
          · rw [List.getElem?_eq_none (by omega), List.getElem?_eq_none (by omega)]
        have hxy : xs = ys := by
          apply List.ext_getElem?
          intro n
          by_cases hnj : n = N.jc
          · rw [hnj, f2, g2', hlxy]
          by_cases hn : n < N.m
          · have hc := k.covers
            rw [List.all_eq_true] at hc
            have hc := hc n (by simpa using hn)
            rw [Bool.or_eq_true] at hc
            rcases hc with hc | hc
            · exact absurd (Nat.eq_of_beq_eq_true hc) hnj
            · obtain ⟨t, ht, hcov⟩ := List.any_eq_true.1 hc
              obtain ⟨a, ha', rfl⟩ := List.getElem_of_mem ht
              exact test_same hcov (q2 a _ ha' (List.getElem?_eq_getElem ha'))
          · rw [List.getElem?_eq_none (by omega), List.getElem?_eq_none (by omega)]
        refine l4.leave (es := N.esX) (cs := []) (more := []) (n := 600) hmix hl2 (fun e he => ?_) (fun _ h => by cases h) (by simp [hWl]) hl (vals' := [v, u, .int .i64 x.length]) (rest := W2.drop 3 ++ [Value.int .i64 lx.length]) (by rw [← List.append_assoc, W3]) (by rw [hWl]; exact htX) (j := 11) (i' := ((i + 1 : Nat) : Int)) (by rw [← hW]; rfl) (by rw [hWl]; exact hsX) hF fun w5 c5 g5 l5 => ?_
        · simp only [Nest.esX, List.mem_append, List.mem_cons, List.not_mem_nil, or_false] at he
          rcases he with he | rfl | rfl
          · exact preOk lx.length [] w4 g4 e he
          · exact ent_lss (i := 12) (j := 6) (m := lx.length) (n := lx.length) (by rw [← hW]; rfl) (by rw [← hW]; rfl) (by simp)
          · exact ent_succ (i := 3) (j := 11) (m := i) (by rw [← hW]; rfl) (by rw [← hW]; rfl) (by omega)
        · exact ih (i + 1) (by omega) w5 c5 (by omega) (hg23.trans (g4.trans g5)) l5 fun n hn => by
            by_cases hn' : n < i
            · exact hp n hn'
            · have : n = i := by omega
              subst this
              rw [hxi, hyi, hxy]
  exact key 0 w1 c1 (Nat.zero_le _) g1 l1 fun j hj => absurd hj (Nat.not_lt_zero _)
end Go.Am
set_option linter.unusedSectionVars false
namespace Go.Am
open Go.Proofs

def tab : Tab where
  elem := fun t => match t with
    | 22 => some 77
    | 23 => some 83
    | 24 => some 89
    | 25 => some 95
    | 26 => some 100
    | 27 => some 106
    | 28 => some 30
    | 55 => some 9
    | 64 => some 3
    | 74 => some 104
    | 75 => some 80
    | 84 => some 86
    | 87 => some 92
    | 93 => some 97
    | 98 => some 102
    | _ => none
  flat := fun t => match t with
    | 3 => [3]
    | 9 => [9]
    | 104 => [3, 3, 3, 9, 9, 74]
    | 77 => [3, 9, 74, 55, 74, 3, 22, 75, 22, 4]
    | 80 => [74, 64, 22]
    | 83 => [9, 3, 3, 4, 3, 4, 74, 9, 55]
    | 86 => [3, 9, 3, 74, 55, 74, 9, 84]
    | 92 => [3, 9]
    | 89 => [9, 3, 9, 3, 74, 55, 74, 9, 84, 87]
    | 97 => [9, 3, 74, 4]
    | 95 => [3, 3, 3, 9, 9, 93]
    | 102 => [9, 3, 3, 22]
    | 100 => [9, 4, 9, 98]
    | 106 => [55, 55, 3, 3, 3, 9, 9, 74]
    | 30 => [9, 9, 9, 26, 27, 28]
    | 32 => [3, 22, 23, 24, 25, 9, 9, 9, 26, 27, 28]
    | _ => []
  kind := fun t => match t with
    | 3 => some 0
    | 9 => some 1
    | 4 => some 2
    | _ => none

/-- No sequence is longer than what an append makes. -/
abbrev big : Nat := 16777216
theorem lift {n : Nat} (h : n < big) : n < 9223372036854775807 := Nat.lt_trans h (by decide)
mutual
/-- Every sequence within is as short as a slice can be. -/
def T.fits : T → Prop
  | .val _ => True
  | .row l => fitsL l
  | .seq l => l.length < big ∧ fitsL l
def fitsL : List T → Prop
  | [] => True
  | x :: r => x.fits ∧ fitsL r
end
theorem fitsL_at : ∀ {x : List T}, fitsL x → ∀ {i : Nat} {y : T}, x[i]? = some y → y.fits
  | [], _, i, y, h => by simp at h
  | a :: r, hf, i, y, h => by
    simp only [fitsL] at hf
    cases i with
    | zero => simp only [List.getElem?_cons_zero, Option.some.injEq] at h; rw [← h]; exact hf.1
    | succ i => exact fitsL_at hf.2 (by simpa using h)
/-- The sequences in a row are smaller than a number, and fit. -/
def Sub (n : Nat) (a : List T) : Prop := ∀ (i : Nat) l, a[i]? = some (.seq l) → SizeOf.sizeOf l < n ∧ l.length < big ∧ fitsL l
theorem size_at {x : List T} {i : Nat} {y : T} (h : x[i]? = some y) : SizeOf.sizeOf y < SizeOf.sizeOf x := by
  obtain ⟨hi, rfl⟩ := List.getElem?_eq_some_iff.1 h
  exact List.sizeOf_lt_of_mem (List.getElem_mem hi)
theorem sub_row {n : Nat} {a : List T} (hs : SizeOf.sizeOf a ≤ n) (hf : fitsL a) : Sub n a := fun i l h => by
  have h1 := size_at h
  have h2 := fitsL_at hf h
  simp only [T.seq.sizeOf_spec] at h1
  simp only [T.fits] at h2
  exact ⟨by omega, h2⟩
theorem sub_at {n : Nat} {x : List T} (hs : SizeOf.sizeOf x ≤ n) (hf : fitsL x) {i : Nat} {a : List T} (h : x[i]? = some (.row a)) : Sub n a := by
  have h1 := size_at h
  have h2 := fitsL_at hf h
  simp only [T.row.sizeOf_spec] at h1
  simp only [T.fits] at h2
  exact sub_row (by omega) h2
theorem part_at {a : List T} {j l i : Nat} {z : T} (h : ((a.drop j).take l)[i]? = some z) : a[j + i]? = some z := by
  rw [List.getElem?_take] at h
  split at h
  · rw [List.getElem?_drop] at h; exact h
  · cases h
theorem sub_part {n : Nat} {a : List T} (h : Sub n a) (j l : Nat) : Sub n ((a.drop j).take l) := fun i z hz => h _ _ (part_at hz)
theorem kind0 : KindIs Tryz.prog 0 3 := fun h => by cases h
theorem kind1 : KindIs Tryz.prog 1 9 := fun h => by cases h
theorem kind2 : KindIs Tryz.prog 2 4 := fun _ => by kernel_rfl
end Go.Am
set_option linter.unusedSectionVars false
namespace Go.Am
open Go.Proofs
def rF : List (Nat × AV) := [(0, .sym 1000), (1, .sym 1001), (4, .bool false)]
theorem mixes : Tryz.prog.follows .mixedOrders = true := by kernel_rfl
theorem c31 : CmpFacts Tryz.prog 31 [.sym 1000, .sym 1001] rF 5 74 104 6 true [.row 0 6 34] :=
  ⟨by kernel_rfl, by kernel_rfl, by kernel_rfl, by kernel_rfl, by kernel_rfl, by kernel_rfl, by kernel_rfl, by kernel_rfl, by kernel_rfl⟩
theorem c30 : CmpFacts Tryz.prog 30 [.sym 1000, .sym 1001] rF 5 55 9 1 false [.sc 0 9 true] :=
  ⟨by kernel_rfl, by kernel_rfl, by kernel_rfl, by kernel_rfl, by kernel_rfl, by kernel_rfl, by kernel_rfl, by kernel_rfl, by kernel_rfl⟩
theorem c32 : CmpFacts Tryz.prog 32 [.sym 1000, .sym 1001] rF 5 64 3 1 false [.sc 0 3 true] :=
  ⟨by kernel_rfl, by kernel_rfl, by kernel_rfl, by kernel_rfl, by kernel_rfl, by kernel_rfl, by kernel_rfl, by kernel_rfl, by kernel_rfl⟩
theorem c34 : conjOk Tryz.prog 34 6 [.sc 0 3 false, .sc 1 3 false, .sc 2 3 false, .sc 3 9 false, .sc 4 9 false, .seq 5 31 none] = true := by kernel_rfl
theorem c11 : CmpFacts Tryz.prog 11 [.sym 1000, .sym 1001] rF 5 23 83 9 true [.sc 0 9 true, .sc 1 3 true, .sc 2 3 true, .sc 3 4 true, .sc 4 3 true, .sc 5 4 true, .sc 7 9 true, .seq 8 30 none, .seq 6 31 none] :=
  ⟨by kernel_rfl, by kernel_rfl, by kernel_rfl, by kernel_rfl, by kernel_rfl, by kernel_rfl, by kernel_rfl, by kernel_rfl, by kernel_rfl⟩

theorem r30 {x y : List T} (hx : x.length < big) : SameSeq Tryz.prog tab 30 55 [] x y := by
  refine cmpLoop (rest := none) mixes c30 rfl rfl (by decide) (by decide) (by kernel_rfl) (by kernel_rfl) (fun _ => rfl) (by kernel_rfl) (lift hx) fun i a b ha hb t ht => ?_
  simp only [List.mem_cons, List.not_mem_nil, or_false] at ht
  subst ht
  exact ⟨_, _, rfl, rfl, rfl, kind1⟩
theorem r32 {x y : List T} (hx : x.length < big) : SameSeq Tryz.prog tab 32 64 [] x y := by
  refine cmpLoop (rest := none) mixes c32 rfl rfl (by decide) (by decide) (by kernel_rfl) (by kernel_rfl) (fun _ => rfl) (by kernel_rfl) (lift hx) fun i a b ha hb t ht => ?_
  simp only [List.mem_cons, List.not_mem_nil, or_false] at ht
  subst ht
  exact ⟨_, _, rfl, rfl, rfl, kind0⟩
theorem r31 : ∀ (n : Nat) {x y : List T}, SizeOf.sizeOf x < n → fitsL x → x.length < big → SameSeq Tryz.prog tab 31 74 [] x y := by
  intro n
  induction n with
  | zero => intro x y h; omega
  | succ n ih =>
    intro x y hs hf hx
    refine cmpLoop (rest := none) mixes c31 rfl rfl (by decide) (by decide) (by kernel_rfl) (by kernel_rfl) (fun h => by cases h) (by kernel_rfl) (lift hx) fun i a b ha hb t ht => ?_
    simp only [List.mem_cons, List.not_mem_nil, or_false] at ht
    subst ht
    refine ⟨104, rfl, rfl, ?_⟩
    have sa := sub_part (sub_at (n := n) (by omega) hf ha) 0 6
    refine conjFunc mixes c34 rfl (by decide) fun t ht => ?_
    simp only [List.mem_cons, List.not_mem_nil, or_false] at ht
    rcases ht with rfl | rfl | rfl | rfl | rfl | rfl
    · exact ⟨_, _, rfl, rfl, rfl, kind0⟩
    · exact ⟨_, _, rfl, rfl, rfl, kind0⟩
    · exact ⟨_, _, rfl, rfl, rfl, kind0⟩
    · exact ⟨_, _, rfl, rfl, rfl, kind1⟩
    · exact ⟨_, _, rfl, rfl, rfl, kind1⟩
    · refine ⟨74, rfl, rfl, fun lx ly h1 h2 => ?_⟩
      obtain ⟨q1, q2, q3⟩ := sa _ _ h1
      exact ih q1 q3 q2
/-- Lists of values. -/
theorem r31' {n : Nat} {a b : List T} (h : Sub n a) {j : Nat} : ∀ lx ly, a[j]? = some (.seq lx) → b[j]? = some (.seq ly) → SameSeq Tryz.prog tab 31 74 [] lx ly := fun lx ly h1 _ => by
  obtain ⟨q1, q2, q3⟩ := h _ _ h1
  exact r31 n q1 q3 q2
theorem r30' {n : Nat} {a b : List T} (h : Sub n a) {j : Nat} : ∀ lx ly, a[j]? = some (.seq lx) → b[j]? = some (.seq ly) → SameSeq Tryz.prog tab 30 55 [] lx ly := fun lx ly h1 _ => r30 (h _ _ h1).2.1
theorem r32' {n : Nat} {a b : List T} (h : Sub n a) {j : Nat} : ∀ lx ly, a[j]? = some (.seq lx) → b[j]? = some (.seq ly) → SameSeq Tryz.prog tab 32 64 [] lx ly := fun lx ly h1 _ => r32 (h _ _ h1).2.1
theorem r11 {x y : List T} (hf : fitsL x) (hx : x.length < big) : SameSeq Tryz.prog tab 11 23 [] x y := by
  refine cmpLoop (rest := none) mixes c11 rfl rfl (by decide) (by decide) (by kernel_rfl) (by kernel_rfl) (fun h => by cases h) (by kernel_rfl) (lift hx) fun i a b ha hb t ht => ?_
  have sa := sub_at (Nat.le_refl _) hf ha
  simp only [List.mem_cons, List.not_mem_nil, or_false] at ht
  rcases ht with rfl | rfl | rfl | rfl | rfl | rfl | rfl | rfl | rfl
  · exact ⟨_, _, rfl, rfl, rfl, kind1⟩
  · exact ⟨_, _, rfl, rfl, rfl, kind0⟩
  · exact ⟨_, _, rfl, rfl, rfl, kind0⟩
  · exact ⟨_, _, rfl, rfl, rfl, kind2⟩
  · exact ⟨_, _, rfl, rfl, rfl, kind0⟩
  · exact ⟨_, _, rfl, rfl, rfl, kind2⟩
  · exact ⟨_, _, rfl, rfl, rfl, kind1⟩
  · exact ⟨_, rfl, rfl, r30' sa⟩
  · exact ⟨_, rfl, rfl, r31' sa⟩
end Go.Am
set_option linter.unusedSectionVars false
namespace Go.Am
open Go.Proofs
abbrev n10 : Nest := { f := 10, F := rF, d := 5, tS := 22, E := 77, m := 10, flds := [], tests := [.sc 0 3 true, .sc 1 9 true, .sc 5 3 true, .sc 9 4 true, .seq 3 30 none, .seq 2 31 none, .seq 4 31 none, .seq 6 10 none, .seq 8 10 none, .ln 7 75 7 8], own := some ⟨6, 7, 2000, 2001⟩, jc := 7, fc := 7, t2 := 75, E2 := 80, m2 := 3, ag2 := true, d2 := 8, flds2 := [⟨0, 0, 1, 74, false⟩, ⟨1, 1, 1, 64, false⟩, ⟨2, 2, 1, 22, false⟩], tests2 := [.seq 0 31 none, .seq 1 32 none, .seq 2 10 none] }
theorem n10F : n10.Facts Tryz.prog := {
  simple := by kernel_rfl,
  differ := by kernel_rfl,
  head := by kernel_rfl,
  stop := by kernel_rfl,
  unlike := by kernel_rfl,
  inner := by kernel_rfl,
  cells := by kernel_rfl,
  todo2 := by kernel_rfl,
  slots2 := by kernel_rfl,
  unlike2 := by kernel_rfl,
  todoX := by kernel_rfl,
  slotsX := by kernel_rfl,
  covers := by kernel_rfl,
  covers2 := by kernel_rfl,
  noln2 := by kernel_rfl,
  ownJ := by kernel_rfl,
  flds := by kernel_rfl,
  flds2 := by kernel_rfl,
  fld := by kernel_rfl,
  lnOk := by kernel_rfl,
  lnIn := by kernel_rfl }
abbrev n12 : Nest := { f := 12, F := rF, d := 5, tS := 24, E := 89, m := 10, flds := [⟨0, 0, 1, 9, false⟩, ⟨1, 1, 8, 86, true⟩, ⟨2, 9, 1, 87, false⟩], tests := [.sc 0 9 true, .row 1 8 33, .ln 9 87 7 8], own := none, jc := 9, fc := 2, t2 := 87, E2 := 92, m2 := 2, ag2 := true, d2 := 6, flds2 := [], tests2 := [.agne 0 2 92] }
theorem n12F : n12.Facts Tryz.prog := {
  simple := by kernel_rfl,
  differ := by kernel_rfl,
  head := by kernel_rfl,
  stop := by kernel_rfl,
  unlike := by kernel_rfl,
  inner := by kernel_rfl,
  cells := by kernel_rfl,
  todo2 := by kernel_rfl,
  slots2 := by kernel_rfl,
  unlike2 := by kernel_rfl,
  todoX := by kernel_rfl,
  slotsX := by kernel_rfl,
  covers := by kernel_rfl,
  covers2 := by kernel_rfl,
  noln2 := by kernel_rfl,
  ownJ := by kernel_rfl,
  flds := by kernel_rfl,
  flds2 := by kernel_rfl,
  fld := by kernel_rfl,
  lnOk := by kernel_rfl,
  lnIn := by kernel_rfl }
abbrev n13 : Nest := { f := 13, F := rF, d := 5, tS := 25, E := 95, m := 6, flds := [], tests := [.sc 0 3 true, .sc 1 3 true, .sc 2 3 true, .sc 3 9 true, .sc 4 9 true, .ln 5 93 7 8], own := some ⟨6, 7, 2000, 2001⟩, jc := 5, fc := 5, t2 := 93, E2 := 97, m2 := 4, ag2 := true, d2 := 8, flds2 := [], tests2 := [.sc 0 9 true, .sc 1 3 true, .sc 3 4 true, .seq 2 31 none] }
theorem n13F : n13.Facts Tryz.prog := {
  simple := by kernel_rfl,
  differ := by kernel_rfl,
  head := by kernel_rfl,
  stop := by kernel_rfl,
  unlike := by kernel_rfl,
  inner := by kernel_rfl,
  cells := by kernel_rfl,
  todo2 := by kernel_rfl,
  slots2 := by kernel_rfl,
  unlike2 := by kernel_rfl,
  todoX := by kernel_rfl,
  slotsX := by kernel_rfl,
  covers := by kernel_rfl,
  covers2 := by kernel_rfl,
  noln2 := by kernel_rfl,
  ownJ := by kernel_rfl,
  flds := by kernel_rfl,
  flds2 := by kernel_rfl,
  fld := by kernel_rfl,
  lnOk := by kernel_rfl,
  lnIn := by kernel_rfl }

theorem r10 : ∀ (n : Nat) {x y : List T}, SizeOf.sizeOf x < n → fitsL x → x.length < big → SameSeq Tryz.prog tab 10 22 [] x y := by
  intro n
  induction n with
  | zero => intro x y h; omega
  | succ n ih =>
    intro x y hs hf hx
    have ih' : ∀ {a b : List T} {j : Nat}, Sub n a → ∀ lx ly, a[j]? = some (.seq lx) → b[j]? = some (.seq ly) → SameSeq Tryz.prog tab 10 22 [] lx ly := fun h lx ly h1 _ => by
      obtain ⟨q1, q2, q3⟩ := h _ _ h1
      exact ih q1 q3 q2
    refine nestLoop mixes n10 n10F rfl rfl (by decide) (by decide) (by kernel_rfl) (by kernel_rfl) (by kernel_rfl) rfl rfl rfl rfl (by decide) (by decide) (by kernel_rfl) (by kernel_rfl) (fun h => by cases h) (by kernel_rfl) (by kernel_rfl) (by decide) (by decide) (lift hx) ?_ ?_ ?_
    · intro i a lx ha hl
      exact lift (sub_at (Nat.le_refl _) hf ha _ _ hl).2.1
    · intro i a b ha hb t ht
      have sa := sub_at (n := n) (by omega) hf ha
      simp only [n10, List.mem_cons, List.not_mem_nil, or_false] at ht
      rcases ht with rfl | rfl | rfl | rfl | rfl | rfl | rfl | rfl | rfl | rfl
      · exact ⟨_, _, rfl, rfl, rfl, kind0⟩
      · exact ⟨_, _, rfl, rfl, rfl, kind1⟩
      · exact ⟨_, _, rfl, rfl, rfl, kind0⟩
      · exact ⟨_, _, rfl, rfl, rfl, kind2⟩
      · exact ⟨_, rfl, rfl, r30' sa⟩
      · exact ⟨_, rfl, rfl, r31' sa⟩
      · exact ⟨_, rfl, rfl, r31' sa⟩
      · exact ⟨_, rfl, rfl, ih' sa⟩
      · exact ⟨_, rfl, rfl, ih' sa⟩
      · exact ⟨_, 80, rfl, rfl, by kernel_rfl⟩
    · intro i a b lx ly ha hb hlx hly k a2 b2 h1 h2 t ht
      obtain ⟨q1, q2, q3⟩ := sub_at (n := n) (by omega) hf ha _ _ hlx
      have sa := sub_at (n := n) (by omega) q3 h1
      simp only [n10, List.mem_cons, List.not_mem_nil, or_false] at ht
      rcases ht with rfl | rfl | rfl
      · exact ⟨_, rfl, rfl, r31' sa⟩
      · exact ⟨_, rfl, rfl, r32' sa⟩
      · exact ⟨_, rfl, rfl, ih' sa⟩
theorem r10' {n : Nat} {a b : List T} (h : Sub n a) {j : Nat} : ∀ lx ly, a[j]? = some (.seq lx) → b[j]? = some (.seq ly) → SameSeq Tryz.prog tab 10 22 [] lx ly := fun lx ly h1 _ => by
  obtain ⟨q1, q2, q3⟩ := h _ _ h1
  exact r10 n q1 q3 q2
theorem r13 {x y : List T} (hf : fitsL x) (hx : x.length < big) : SameSeq Tryz.prog tab 13 25 [] x y := by
  refine nestLoop mixes n13 n13F rfl rfl (by decide) (by decide) (by kernel_rfl) (by kernel_rfl) (by kernel_rfl) rfl rfl rfl rfl (by decide) (by decide) (by kernel_rfl) (by kernel_rfl) (fun h => by cases h) (by kernel_rfl) (by kernel_rfl) (by decide) (by decide) (lift hx) ?_ ?_ ?_
  · intro i a lx ha hl
    exact lift (sub_at (Nat.le_refl _) hf ha _ _ hl).2.1
  · intro i a b ha hb t ht
    have sa := sub_at (Nat.le_refl _) hf ha
    simp only [n13, List.mem_cons, List.not_mem_nil, or_false] at ht
    rcases ht with rfl | rfl | rfl | rfl | rfl | rfl
    · exact ⟨_, _, rfl, rfl, rfl, kind0⟩
    · exact ⟨_, _, rfl, rfl, rfl, kind0⟩
    · exact ⟨_, _, rfl, rfl, rfl, kind0⟩
    · exact ⟨_, _, rfl, rfl, rfl, kind1⟩
    · exact ⟨_, _, rfl, rfl, rfl, kind1⟩
    · exact ⟨_, 97, rfl, rfl, by kernel_rfl⟩
  · intro i a b lx ly ha hb hlx hly k a2 b2 h1 h2 t ht
    obtain ⟨q1, q2, q3⟩ := sub_at (Nat.le_refl _) hf ha _ _ hlx
    have sa := sub_at (Nat.le_refl _) q3 h1
    simp only [n13, List.mem_cons, List.not_mem_nil, or_false] at ht
    rcases ht with rfl | rfl | rfl | rfl
    · exact ⟨_, _, rfl, rfl, rfl, kind1⟩
    · exact ⟨_, _, rfl, rfl, rfl, kind0⟩
    · exact ⟨_, _, rfl, rfl, rfl, kind2⟩
    · exact ⟨_, rfl, rfl, r31' sa⟩
end Go.Am
