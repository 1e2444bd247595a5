/-
  Part 4 of the proof that winch/winchlaw25.ChangeBodies returns true for every two bodies of small bulk: lemmas.
  Conditions: none beyond each theorem's own premises.
  What lies here:
  The small evaluator's arithmetic and comparisons against the machine's.
  The small evaluator's equality, keys and constants against the machine's.
  The small evaluator's binary operators, constants and map keys against the machine's.
  The small evaluator's operations against the machine's, first part: helpers, and the operations without maps and calls.
-/
import Derived.Test.YtclhjedldbkgpaaGreatDoorBodies3
import Derived.Laws.StructEq
import Derived.IntWalk
import Derived.Laws.BitsLemmas
import Derived.Laws.Bits64
set_option linter.unusedVariables false
set_option linter.unusedSimpArgs false
set_option linter.unusedSectionVars false
namespace Go.Am
variable {P : Program} [Orc P] [OrcOk P] {ρ : Ren} {H : AHeap} {w : World}

theorem wrapA_eq (k : IntKind) (n : Int) : wrapA k n = k.wrap n := by
  unfold wrapA
  cases hf : fits k n with
  | false => rfl
  | true =>
    simp only [cond_true]
    cases k <;> cases n <;> simp only [fits] at hf <;> (try cases hf) <;>
      (have h' := Nat.le_of_ble_eq_true hf
       simp only [IntKind.wrap_i64, IntKind.wrap_u8, IntKind.wrap_u64, IntKind.wrap_i32, Int.ofNat_eq_natCast, Int.negSucc_eq]
       omega)
theorem ieq_eq (a b : Int) : ieq a b = (a == b) := by
  cases a <;> cases b <;> simp only [ieq, Int.ofNat_eq_natCast, Int.negSucc_eq]
  · rename_i m n
    cases h : Nat.beq m n with
    | true => have := Nat.eq_of_beq_eq_true h; subst this; simp
    | false => have := Nat.ne_of_beq_eq_false h; symm; rw [beq_eq_false_iff_ne]; omega
  · symm; rw [beq_eq_false_iff_ne]; omega
  · symm; rw [beq_eq_false_iff_ne]; omega
  · rename_i m n
    cases h : Nat.beq m n with
    | true => have := Nat.eq_of_beq_eq_true h; subst this; simp
    | false => have := Nat.ne_of_beq_eq_false h; symm; rw [beq_eq_false_iff_ne]; omega
theorem ble_eq (m n : Nat) : Nat.ble m n = decide (m ≤ n) := by
  cases h : Nat.ble m n with
  | true => exact (decide_eq_true (Nat.le_of_ble_eq_true h)).symm
  | false => symm; rw [decide_eq_false_iff_not]; intro hl; rw [Nat.ble_eq_true_of_le hl] at h; cases h
theorem ile_eq (a b : Int) : ile a b = decide (a ≤ b) := by
  cases a <;> cases b <;> simp only [ile, Int.ofNat_eq_natCast, Int.negSucc_eq]
  · rw [ble_eq]; congr 1; apply propext; constructor <;> intro h <;> omega
  · symm; rw [decide_eq_false_iff_not]; omega
  · symm; rw [decide_eq_true_iff]; omega
  · rw [ble_eq]; congr 1; apply propext; constructor <;> intro h <;> omega
theorem boolEq_eq (a b : Bool) : boolEq a b = (a == b) := by cases a <;> cases b <;> rfl
theorem nbeq_eq (a b : Nat) : Nat.beq a b = (a == b) := by
  cases h : Nat.beq a b with
  | true => have := Nat.eq_of_beq_eq_true h; subst this; simp
  | false => have := Nat.ne_of_beq_eq_false h; symm; rw [beq_eq_false_iff_ne]; exact this
theorem kindEq_true {k j : IntKind} (h : kindEq k j = true) : k = j := by cases k <;> cases j <;> first | rfl | cases h
theorem seq_eq : ∀ (x y : List UInt8), seq x y = (x == y)
  | [], [] => rfl
  | [], _ :: _ => rfl
  | _ :: _, [] => rfl
  | a :: x, b :: y => by
    simp only [seq]
    rw [seq_eq x y]
    have : (a :: x == b :: y) = ((a == b) && (x == y)) := rfl
    rw [this]
    have hab : Nat.beq a.toNat b.toNat = (a == b) := by
      rw [nbeq_eq]
      by_cases e : a = b
      · subst e; simp
      · have : ¬ a.toNat = b.toNat := fun h => e (UInt8.toNat_inj.1 h)
        rw [beq_eq_false_iff_ne.2 e, beq_eq_false_iff_ne.2 this]
    rw [hab]
    cases a == b <;> rfl
theorem slt_eq : ∀ (x y : List UInt8), slt x y = Op.bytesLess x y
  | _, [] => by unfold slt Op.bytesLess; rfl
  | [], _ :: _ => rfl
  | a :: x, b :: y => by
    simp only [slt, Op.bytesLess]
    rw [slt_eq x y]
    have h1 : Nat.blt a.toNat b.toNat = decide (a < b) := by
      show Nat.ble (a.toNat + 1) b.toNat = _
      rw [ble_eq]; congr 1
    have h2 : Nat.beq a.toNat b.toNat = (a == b) := by
      rw [nbeq_eq]
      by_cases e : a = b
      · subst e; simp
      · have : ¬ a.toNat = b.toNat := fun h => e (UInt8.toNat_inj.1 h)
        rw [beq_eq_false_iff_ne.2 e, beq_eq_false_iff_ne.2 this]
    rw [h1, h2]
    cases decide (a < b) <;> cases a == b <;> simp

theorem intBin_rel {op : BinOp} {k : IntKind} {a b : Int} {r : AV} (h : intBin op k a b = some r) (x y : Operand) (t : TypeId) :
    ∃ v, (do eqGuard op t x y (.int k a) (.int k b); binOp op t (.int k a) (.int k b) : Sem Value).run P w = .ok v w ∧ RelV ρ r v := by
  have hg : (eqGuard op t x y (.int k a) (.int k b)).run P w = .ok () w := by
    unfold eqGuard
    cases op <;> simp
  simp only [Sem.run_bind, hg, Result.andThen_ok]
  cases op <;> simp only [intBin] at h
  case shl => cases h
  case shr => cases h
  case quo =>
    cases hb : ieq b 0 with
    | true => simp [hb] at h
    | false =>
      simp only [hb, cond_false] at h; cases h
      rw [ieq_eq] at hb
      have : ¬ b = 0 := by simpa using hb
      exact ⟨_, by simp [binOp, Op.intDiv, this]; rfl, by simp only [RelV]; rw [wrapA_eq]⟩
  case rem =>
    cases hb : ieq b 0 with
    | true => simp [hb] at h
    | false =>
      simp only [hb, cond_false] at h; cases h
      rw [ieq_eq] at hb
      have : ¬ b = 0 := by simpa using hb
      exact ⟨_, by simp [binOp, Op.intDiv, this]; rfl, by simp only [RelV]⟩
  all_goals cases h
  case add => exact ⟨_, by simp [binOp, Op.intArith]; rfl, by simp only [RelV]; rw [wrapA_eq]; rfl⟩
  case sub => exact ⟨_, by simp [binOp, Op.intArith]; rfl, by simp only [RelV]; rw [wrapA_eq]; rfl⟩
  case mul => exact ⟨_, by simp [binOp, Op.intArith]; rfl, by simp only [RelV]; rw [wrapA_eq]; rfl⟩
  case and => exact ⟨_, by simp only [binOp, ne_eq, not_true_eq_false, if_false, Op.intBits, Sem.run_pure]; rfl, by simp only [RelV]⟩
  case or => exact ⟨_, by simp only [binOp, ne_eq, not_true_eq_false, if_false, Op.intBits, Sem.run_pure]; rfl, by simp only [RelV]⟩
  case xor => exact ⟨_, by simp only [binOp, ne_eq, not_true_eq_false, if_false, Op.intBits, Sem.run_pure]; rfl, by simp only [RelV]⟩
  case andNot => exact ⟨_, by simp only [binOp, ne_eq, not_true_eq_false, if_false, Op.intBits, Sem.run_pure]; rfl, by simp only [RelV]⟩
  case eql => exact ⟨_, by simp [binOp, Op.intCmp]; rfl, by simp only [RelV]; rw [ieq_eq]⟩
  case neq => exact ⟨_, by simp [binOp, Op.intCmp]; rfl, by simp only [RelV]; rw [ieq_eq]; rfl⟩
  case lss => exact ⟨_, by simp [binOp, Op.intCmp]; rfl, by simp only [RelV]; rw [ile_eq]; congr 1; by_cases hh : a < b <;> simp [hh] <;> omega⟩
  case leq => exact ⟨_, by simp [binOp, Op.intCmp]; rfl, by simp only [RelV]; rw [ile_eq]⟩
  case gtr => exact ⟨_, by simp [binOp, Op.intCmp]; rfl, by simp only [RelV]; rw [ile_eq]; congr 1; by_cases hh : b < a <;> simp [hh] <;> omega⟩
  case geq => exact ⟨_, by simp [binOp, Op.intCmp]; rfl, by simp only [RelV]; rw [ile_eq]⟩

theorem shiftA_rel {op : BinOp} {k j : IntKind} {a b : Int} {r : AV} (h : shiftA op k a b = some r) (x y : Operand) (t : TypeId) :
    ∃ v, (do eqGuard op t x y (.int k a) (.int j b); binOp op t (.int k a) (.int j b) : Sem Value).run P w = .ok v w ∧ RelV ρ r v := by
  unfold shiftA at h
  cases hb : ile 0 b with
  | false => simp [hb] at h
  | true =>
    simp only [hb, cond_true] at h
    rw [ile_eq, decide_eq_true_iff] at hb
    have hn : ¬ b < 0 := by omega
    cases op <;> simp only at h
    case shl => cases h; exact ⟨_, by simp [eqGuard, binOp, Op.shift, hn]; rfl, by simp only [RelV]⟩
    case shr => cases h; exact ⟨_, by simp [eqGuard, binOp, Op.shift, hn]; rfl, by simp only [RelV]⟩
    all_goals cases h

theorem strBin_rel {op : BinOp} {a b : List UInt8} {r : AV} (h : strBin op a b = some r) (x y : Operand) (t : TypeId) :
    ∃ v, (do eqGuard op t x y (.string ⟨⟨a⟩⟩) (.string ⟨⟨b⟩⟩); binOp op t (.string ⟨⟨a⟩⟩) (.string ⟨⟨b⟩⟩) : Sem Value).run P w = .ok v w ∧ RelV ρ r v := by
  have hg : (eqGuard op t x y (.string ⟨⟨a⟩⟩) (.string ⟨⟨b⟩⟩)).run P w = .ok () w := by
    unfold eqGuard
    cases op <;> simp
  have ha : (⟨⟨a⟩⟩ : ByteArray).toList = a := ByteArray.toList_mk a
  have hb : (⟨⟨b⟩⟩ : ByteArray).toList = b := ByteArray.toList_mk b
  simp only [Sem.run_bind, hg, Result.andThen_ok]
  cases op <;> simp only [strBin] at h <;> (try cases h)
  case add =>
    rw [ble_eq] at h
    by_cases hl : a.length + b.length ≤ 4611686018427387904
    · simp only [hl, decide_true, cond_true] at h; cases h
      have hs : ¬ ((((⟨⟨a⟩⟩ : ByteArray).size + (⟨⟨b⟩⟩ : ByteArray).size : Nat) : Int) > IntKind.i64.max) := by
        have : IntKind.i64.max = 9223372036854775807 := by decide
        rw [this]
        show ¬ ((a.length + b.length : Nat) : Int) > _
        omega
      refine ⟨.string (⟨⟨a⟩⟩ ++ ⟨⟨b⟩⟩), ?_, ?_⟩
      · simp only [binOp, Op.stringOp]
        rw [if_neg hs]; rfl
      · simp only [RelV]
        congr 1
    · simp [hl] at h
  case eql => exact ⟨_, by simp [binOp, Op.stringOp, ha, hb]; rfl, by simp only [RelV]; rw [seq_eq]⟩
  case neq => exact ⟨_, by simp [binOp, Op.stringOp, ha, hb]; rfl, by simp only [RelV]; rw [seq_eq]⟩
  case lss => exact ⟨_, by simp [binOp, Op.stringOp, ha, hb]; rfl, by simp only [RelV]; rw [slt_eq]⟩
  case leq => exact ⟨_, by simp only [binOp, Op.stringOp, ha, hb]; rfl, by simp only [RelV]; rw [slt_eq, seq_eq]⟩
  case gtr => exact ⟨_, by simp only [binOp, Op.stringOp, ha, hb]; rfl, by simp only [RelV]; rw [slt_eq, seq_eq]⟩
  case geq => exact ⟨_, by simp only [binOp, Op.stringOp, ha, hb]; rfl, by simp only [RelV]; rw [slt_eq]⟩
end Go.Am
set_option linter.unusedSectionVars false
namespace Go.Am
variable {P : Program} [Orc P] [OrcOk P] {ρ : Ren} {H : AHeap} {w : World}

theorem plain_agg {t : TypeId} {d : TypeDesc} {x : AV} (hu : und P t = some d) (hp : plainD d x = true) : aggP P t = some false := by
  unfold aggP
  rw [hu]
  cases d <;> first | rfl | (cases x <;> cases hp)
theorem part_run {t : TypeId} {cs : Array Value} {off : Nat} {v : Value} (ha : aggP P t = some false) (hv : cs[off]? = some v) : (part t cs off).run P w = .ok v w := by
  unfold part
  simp [run_agg ha, hv]

theorem eqScalar_rel {d : TypeDesc} {t : TypeId} {x y : AV} {x' y' : Value} {r : Bool} (hu : und P t = some d) (hx : plainD d x = true) (h : eqScalar x y = some r)
    (rx : RelV ρ x x') (ry : RelV ρ y y') (n : Nat) : (Op.equalIn (n + 1) t x' y').run P w = .ok r w := by
  have hU := und_eq hu
  cases x <;> cases y <;> simp only [eqScalar] at h <;> (try cases h) <;> simp only [RelV] at rx ry
  · subst rx; subst ry
    cases d <;> (try cases hx)
    rw [run_equalIn_bool w n t _ _ hU, boolEq_eq]
  · subst rx; subst ry
    cases d <;> (try cases hx)
    rename_i k a j b kk
    cases hk : kindEq k j with
    | false => simp [hk] at h
    | true =>
      simp only [hk, cond_true] at h; cases h
      obtain rfl := kindEq_true hk
      rw [run_equalIn_int w n t k kk a b hU, ieq_eq]
  · subst rx; subst ry
    cases d <;> (try cases hx)
    rw [run_equalIn_string w n t _ _ hU, seq_eq]
    simp only [ByteArray.toList_mk]

theorem eqFields_rel {xs ys : List AV} {xs' ys' : Array Value} (rx : RelL ρ xs xs'.toList) (ry : RelL ρ ys ys'.toList) (n : Nat) :
    ∀ {fs : List Field} {r : Bool}, eqFields P fs xs ys = some r → (Op.eqFields (n + 1) xs' ys' fs).run P w = .ok r w
  | [], r, h => by simp only [eqFields] at h; cases h; rfl
  | f :: fs, r, h => by
    simp only [eqFields] at h
    split at h
    case h_2 => cases h
    rename_i d x y hu hx hy
    cases hb : (plainD d x && plainD d y && !(f.name == "_")) with
    | false => simp [hb] at h
    | true =>
      simp only [hb, cond_true] at h
      simp only [Bool.and_eq_true, Bool.not_eq_true', beq_eq_false_iff_ne, ne_eq] at hb
      obtain ⟨⟨px, py⟩, hn⟩ := hb
      obtain ⟨x', ex, rx'⟩ := rx.get hx
      obtain ⟨y', ey, ry'⟩ := ry.get hy
      have hagg := plain_agg hu px
      have p1 : (part f.type xs' f.offset).run P w = .ok x' w := part_run hagg (by simpa using ex)
      have p2 : (part f.type ys' f.offset).run P w = .ok y' w := part_run hagg (by simpa using ey)
      simp only [Op.eqFields]
      rw [if_pos hn]
      cases he : eqScalar x y with
      | none => simp [he] at h
      | some b =>
        have q := eqScalar_rel (w := w) hu px he rx' ry' n
        cases b with
        | true =>
          simp only [he] at h
          simp only [Sem.run_bind, p1, p2, q, Result.andThen_ok, Bool.not_true, Bool.false_eq_true, if_false]
          exact eqFields_rel rx ry n h
        | false =>
          simp only [he] at h; cases h
          simp [p1, p2, q]

theorem eqStruct_rel {t : TypeId} {fs : Array Field} {xs ys : List AV} {xs' ys' : Array Value} {r : Bool} (hu : und P t = some (.struct fs)) (hs : P.stoodInHeld t = false)
    (rx : RelL ρ xs xs'.toList) (ry : RelL ρ ys ys'.toList) (h : eqFields P fs.toList xs ys = some r) (n : Nat) : (Op.equalIn (n + 2) t (.agg xs') (.agg ys')).run P w = .ok r w := by
  have hU := und_eq hu
  have hF : P.fieldsOf t = fs := by unfold Program.fieldsOf; rw [hU]
  rw [run_equalIn_struct w (n + 1) t xs' ys' (by rw [hF]; exact hU) hs, hF]
  exact eqFields_rel rx ry n h

theorem eqA_rel {t : TypeId} {x y : AV} {x' y' : Value} {r : Bool} (h : eqA P t x y = some r) (rx : RelV ρ x x') (ry : RelV ρ y y') (n : Nat) :
    (Op.equalIn (n + 2) t x' y').run P w = .ok r w := by
  unfold eqA at h
  cases hu : und P t with
  | none => simp [hu] at h
  | some d =>
    simp only [hu] at h
    have hU := und_eq hu
    have hR := fun w => run_und hu w
    split at h
    case h_1 => exact eqScalar_rel (x := .bool _) (y := .bool _) (n := n + 1) hu rfl h rx ry
    case h_2 => exact eqScalar_rel (x := .str _) (y := .str _) (n := n + 1) hu rfl h rx ry
    case h_3 => exact eqScalar_rel (x := .int _ _) (y := .int _ _) (n := n + 1) hu rfl h rx ry
    case h_21 =>
      rename_i fs xs ys
      cases hs : P.stoodInHeld t with
      | true => simp [hs] at h
      | false =>
        simp only [hs, cond_false] at h
        simp only [RelV] at rx ry
        obtain ⟨xs', rfl, rx⟩ := rx
        obtain ⟨ys', rfl, ry⟩ := ry
        exact eqStruct_rel hu hs rx ry h n
    case h_20 =>
      rename_i ms t1 v1 u1 w1
      cases hb : Nat.beq t1 u1 with
      | true => simp [hb] at h
      | false =>
        simp only [hb, cond_false] at h; cases h
        have hne := Nat.ne_of_beq_eq_false hb
        simp only [RelV] at rx ry
        obtain ⟨a, rfl, _⟩ := rx
        obtain ⟨b, rfl, _⟩ := ry
        unfold Op.equalIn
        simp [hR, hne]
    case h_22 => cases h
    all_goals
      cases h
      simp only [RelV] at rx ry
      first
        | (subst rx; subst ry; unfold Op.equalIn; simp [hR]; done)
        | (subst rx; obtain ⟨l, _, rfl⟩ := ry; unfold Op.equalIn; simp [hR]; done)
        | (obtain ⟨l, _, rfl⟩ := rx; subst ry; unfold Op.equalIn; simp [hR]; done)
        | (subst rx; obtain ⟨l, _, _, _, rfl⟩ := ry; unfold Op.equalIn; simp [hR]; done)
        | (obtain ⟨l, _, _, _, rfl⟩ := rx; subst ry; unfold Op.equalIn; simp [hR]; done)
        | (subst rx; obtain ⟨f, a', c', _, rfl, _, _⟩ := ry; unfold Op.equalIn; simp [hR]; done)
        | (obtain ⟨f, a', c', _, rfl, _, _⟩ := rx; subst ry; unfold Op.equalIn; simp [hR]; done)
        | (subst rx; obtain ⟨x', rfl, _⟩ := ry; unfold Op.equalIn; simp [hR]; done)
        | (obtain ⟨x', rfl, _⟩ := rx; subst ry; unfold Op.equalIn; simp [hR]; done)

theorem equal_rel {t : TypeId} {x y : AV} {x' y' : Value} {r : Bool} (h : eqA P t x y = some r) (rx : RelV ρ x x') (ry : RelV ρ y y') :
    (Op.equal t x' y').run P w = .ok r w := eqA_rel h rx ry 9998

/-- No guard where no two nil interface values meet. -/
theorem guard_run {op : BinOp} {t : TypeId} {x y : Operand} {a b : AV} {a' b' : Value} (ra : RelV ρ a a') (rb : RelV ρ b b')
    (h1 : ¬ (a' = .nilIface ∧ b' = .nilIface)) (h2 : (∃ c d, a' = .agg c ∧ b' = .agg d) → P.eqGuardType P.depth t = false) : (eqGuard op t x y a' b').run P w = .ok () w := by
  unfold eqGuard
  cases op <;> first | rfl | skip
  all_goals
    simp only [Bool.not_true, Bool.false_eq_true, if_false]
    split
    · exact absurd ⟨rfl, rfl⟩ h1
    · simp [h2 ⟨_, _, rfl, rfl⟩]
    · rfl

theorem nilPair_run {op : BinOp} {t : TypeId} {x y : Operand} (h : nilPair P t x y = true) : (eqGuard op t x y .nilIface .nilIface).run P w = .ok () w ∧ (Op.equal t .nilIface .nilIface).run P w = .ok true w := by
  unfold nilPair at h
  split at h
  case h_2 => cases h
  rename_i ms hu
  refine ⟨?_, ?_⟩
  · have hg : ms.isEmpty = true → (Op.eqGuardIn Op.maxDepth t .nilIface .nilIface).run P w = .ok false w := fun he => by
      show (Op.eqGuardIn (9999 + 1) t .nilIface .nilIface).run P w = _
      unfold Op.eqGuardIn
      simp only [Sem.run_bind, run_und hu, Result.andThen_ok]
      simp [he]
    unfold eqGuard
    cases op <;> first | rfl | skip
    all_goals
      cases x <;> cases y <;> first
        | rfl
        | (simp only [isConstA, Bool.false_or] at h
           have hg := hg h
           simp [hg])
  · show (Op.equalIn (9999 + 1) t .nilIface .nilIface).run P w = _
    unfold Op.equalIn
    simp [run_und hu]
end Go.Am
set_option linter.unusedSectionVars false
namespace Go.Am
variable {P : Program} [Orc P] [OrcOk P] {ρ : Ren} {H : AHeap} {w : World}

theorem relV_int {x : AV} {k : IntKind} {n : Int} (hs : ∀ i, x ≠ .sym i) (h : RelV ρ x (.int k n)) : x = .int k n := by
  cases x <;> simp only [RelV] at h
  case sym i => exact absurd rfl (hs i)
  all_goals first
    | (cases h; done)
    | (cases h; rfl)
    | (obtain ⟨_, _, h⟩ := h; cases h; done)
    | (obtain ⟨_, _, _, _, h⟩ := h; cases h; done)
    | (obtain ⟨_, h, _⟩ := h; cases h; done)
    | (obtain ⟨_, _, _, _, h, _⟩ := h; cases h; done)
theorem relV_str {x : AV} {s : ByteArray} (hs : ∀ i, x ≠ .sym i) (h : RelV ρ x (.string s)) : ∃ l, x = .str l := by
  cases x <;> simp only [RelV] at h
  case sym i => exact absurd rfl (hs i)
  all_goals first
    | exact ⟨_, rfl⟩
    | (cases h; done)
    | (obtain ⟨_, _, h⟩ := h; cases h; done)
    | (obtain ⟨_, _, _, _, h⟩ := h; cases h; done)
    | (obtain ⟨_, h, _⟩ := h; cases h; done)
    | (obtain ⟨_, _, _, _, h, _⟩ := h; cases h; done)
theorem relV_float {x : AV} {k : FloatKind} {n : Nat} (hs : ∀ i, x ≠ .sym i) (h : RelV ρ x (.float k n)) : False := by
  cases x <;> simp only [RelV] at h
  case sym i => exact absurd rfl (hs i)
  all_goals first
    | (cases h; done)
    | (obtain ⟨_, _, h⟩ := h; cases h; done)
    | (obtain ⟨_, _, _, _, h⟩ := h; cases h; done)
    | (obtain ⟨_, h, _⟩ := h; cases h; done)
    | (obtain ⟨_, _, _, _, h, _⟩ := h; cases h; done)
theorem relV_complex {x : AV} {k : FloatKind} {n m : Nat} (hs : ∀ i, x ≠ .sym i) (h : RelV ρ x (.complex k n m)) : False := by
  cases x <;> simp only [RelV] at h
  case sym i => exact absurd rfl (hs i)
  all_goals first
    | (cases h; done)
    | (obtain ⟨_, _, h⟩ := h; cases h; done)
    | (obtain ⟨_, _, _, _, h⟩ := h; cases h; done)
    | (obtain ⟨_, h, _⟩ := h; cases h; done)
    | (obtain ⟨_, _, _, _, h, _⟩ := h; cases h; done)
theorem relV_nilIface {x : AV} (hs : ∀ i, x ≠ .sym i) (h : RelV ρ x .nilIface) : x = .nilIface := by
  cases x <;> simp only [RelV] at h
  case sym i => exact absurd rfl (hs i)
  all_goals first
    | rfl
    | (cases h; done)
    | (obtain ⟨_, _, h⟩ := h; cases h; done)
    | (obtain ⟨_, _, _, _, h⟩ := h; cases h; done)
    | (obtain ⟨_, h, _⟩ := h; cases h; done)
    | (obtain ⟨_, _, _, _, h, _⟩ := h; cases h; done)
theorem relV_agg {x : AV} {c : Array Value} (hs : ∀ i, x ≠ .sym i) (h : RelV ρ x (.agg c)) : ∃ l, x = .agg l := by
  cases x <;> simp only [RelV] at h
  case sym i => exact absurd rfl (hs i)
  all_goals first
    | exact ⟨_, rfl⟩
    | (cases h; done)
    | (obtain ⟨_, _, h⟩ := h; cases h; done)
    | (obtain ⟨_, _, _, _, h⟩ := h; cases h; done)
    | (obtain ⟨_, h, _⟩ := h; cases h; done)
    | (obtain ⟨_, _, _, _, h, _⟩ := h; cases h; done)

theorem binOp_eql {t : TypeId} {x y : Value} (h1 : ∀ k a j b, ¬ (x = .int k a ∧ y = .int j b)) (h2 : ∀ a b, ¬ (x = .string a ∧ y = .string b))
    (h3 : ∀ k a, x ≠ .float k a) (h4 : ∀ k a b, x ≠ .complex k a b) : (binOp .eql t x y).run P w = ((Op.equal t x y).run P w).andThen fun r w => .ok (.bool r) w := by
  cases x <;> cases y <;> first
    | exact absurd rfl (h3 _ _)
    | exact absurd rfl (h4 _ _ _)
    | exact absurd ⟨rfl, rfl⟩ (h1 _ _ _ _)
    | exact absurd ⟨rfl, rfl⟩ (h2 _ _)
    | (simp only [binOp, Sem.run_bind, Sem.run_pure]; done)
theorem binOp_neq {t : TypeId} {x y : Value} (h1 : ∀ k a j b, ¬ (x = .int k a ∧ y = .int j b)) (h2 : ∀ a b, ¬ (x = .string a ∧ y = .string b))
    (h3 : ∀ k a, x ≠ .float k a) (h4 : ∀ k a b, x ≠ .complex k a b) : (binOp .neq t x y).run P w = ((Op.equal t x y).run P w).andThen fun r w => .ok (.bool (!r)) w := by
  cases x <;> cases y <;> first
    | exact absurd rfl (h3 _ _)
    | exact absurd rfl (h4 _ _ _)
    | exact absurd ⟨rfl, rfl⟩ (h1 _ _ _ _)
    | exact absurd ⟨rfl, rfl⟩ (h2 _ _)
    | (simp only [binOp, Sem.run_bind, Sem.run_pure]; done)

theorem eqA_symL {t : TypeId} {i : Nat} {y : AV} : eqA P t (.sym i) y = none := by
  unfold eqA
  cases und P t with
  | none => rfl
  | some d => cases d <;> cases y <;> rfl
theorem eqA_symR {t : TypeId} {i : Nat} {x : AV} : eqA P t x (.sym i) = none := by
  unfold eqA
  cases und P t with
  | none => rfl
  | some d => cases d <;> cases x <;> rfl
theorem binA_rel {op : BinOp} {t : TypeId} {a b : Operand} {x y : AV} {x' y' : Value} {r : AV} (h : binA P op t a b x y = some r) (rx : RelV ρ x x') (ry : RelV ρ y y') :
    ∃ v, (do eqGuard op t a b x' y'; binOp op t x' y' : Sem Value).run P w = .ok v w ∧ RelV ρ r v := by
  unfold binA at h
  split at h
  · simp only [RelV] at rx ry; subst rx; subst ry; exact shiftA_rel h a b t
  · simp only [RelV] at rx ry; subst rx; subst ry; exact shiftA_rel h a b t
  · rename_i k m j n _ _
    cases hk : kindEq k j with
    | false => simp [hk] at h
    | true =>
      simp only [hk, cond_true] at h
      obtain rfl := kindEq_true hk
      simp only [RelV] at rx ry; subst rx; subst ry; exact intBin_rel h a b t
  · simp only [RelV] at rx ry; subst rx; subst ry; exact strBin_rel h a b t
  · cases hp : nilPair P t a b with
    | false => simp [hp] at h
    | true =>
      simp only [hp, cond_true] at h; cases h
      simp only [RelV] at rx ry; subst rx; subst ry
      obtain ⟨g, e⟩ := nilPair_run (op := .eql) (w := w) hp
      refine ⟨.bool true, ?_, by simp only [RelV]⟩
      rw [Sem.run_bind, g, Result.andThen_ok, binOp_eql (by simp) (by simp) (by simp) (by simp), e]
      rfl
  · cases hp : nilPair P t a b with
    | false => simp [hp] at h
    | true =>
      simp only [hp, cond_true] at h; cases h
      simp only [RelV] at rx ry; subst rx; subst ry
      obtain ⟨g, e⟩ := nilPair_run (op := .neq) (w := w) hp
      refine ⟨.bool false, ?_, by simp only [RelV]⟩
      rw [Sem.run_bind, g, Result.andThen_ok, binOp_neq (by simp) (by simp) (by simp) (by simp), e]
      rfl
  · rename_i xs ys
    cases hg : P.eqGuardType P.depth t with
    | true => simp [hg] at h
    | false =>
      simp only [hg, cond_false] at h
      cases he : eqA P t (.agg xs) (.agg ys) with
      | none => simp [he] at h
      | some r0 =>
        simp only [he] at h; cases h
        have q := equal_rel (w := w) he rx ry
        simp only [RelV] at rx ry
        obtain ⟨c, rfl, rx⟩ := rx
        obtain ⟨d, rfl, ry⟩ := ry
        have g : (eqGuard .eql t a b (.agg c) (.agg d)).run P w = .ok () w := guard_run (ρ := ρ) (a := .agg xs) (b := .agg ys) (by simp only [RelV]; exact ⟨_, rfl, rx⟩) (by simp only [RelV]; exact ⟨_, rfl, ry⟩) (by simp) (fun _ => hg)
        refine ⟨.bool r0, ?_, by simp only [RelV]⟩
        rw [Sem.run_bind, g, Result.andThen_ok, binOp_eql (by simp) (by simp) (by simp) (by simp), q]
        rfl
  · rename_i xs ys
    cases hg : P.eqGuardType P.depth t with
    | true => simp [hg] at h
    | false =>
      simp only [hg, cond_false] at h
      cases he : eqA P t (.agg xs) (.agg ys) with
      | none => simp [he] at h
      | some r0 =>
        simp only [he] at h; cases h
        have q := equal_rel (w := w) he rx ry
        simp only [RelV] at rx ry
        obtain ⟨c, rfl, rx⟩ := rx
        obtain ⟨d, rfl, ry⟩ := ry
        have g : (eqGuard .neq t a b (.agg c) (.agg d)).run P w = .ok () w := guard_run (ρ := ρ) (a := .agg xs) (b := .agg ys) (by simp only [RelV]; exact ⟨_, rfl, rx⟩) (by simp only [RelV]; exact ⟨_, rfl, ry⟩) (by simp) (fun _ => hg)
        refine ⟨.bool (!r0), ?_, by simp only [RelV]⟩
        rw [Sem.run_bind, g, Result.andThen_ok, binOp_neq (by simp) (by simp) (by simp) (by simp), q]
        rfl
  · rename_i n1 n2 n3 n4 n5 n6
    cases he : eqA P t x y with
    | none => simp [he] at h
    | some r0 =>
      simp only [he] at h; cases h
      have sx : ∀ i, x ≠ .sym i := fun i e => by subst e; rw [eqA_symL] at he; cases he
      have sy : ∀ i, y ≠ .sym i := fun i e => by subst e; rw [eqA_symR] at he; cases he
      have q := equal_rel (w := w) he rx ry
      have g : (eqGuard .eql t a b x' y').run P w = .ok () w := guard_run rx ry
        (fun ⟨h1, h2⟩ => by subst h1; subst h2; obtain rfl := relV_nilIface sx rx; obtain rfl := relV_nilIface sy ry; simp_all)
        (fun ⟨c, d, h1, h2⟩ => by subst h1; subst h2; obtain ⟨l, rfl⟩ := relV_agg sx rx; obtain ⟨m, rfl⟩ := relV_agg sy ry; simp_all)
      refine ⟨.bool r0, ?_, by simp only [RelV]⟩
      rw [Sem.run_bind, g, Result.andThen_ok, binOp_eql
        (fun k m j n ⟨h1, h2⟩ => by subst h1; subst h2; obtain rfl := relV_int sx rx; obtain rfl := relV_int sy ry; exact n3 _ _ _ _ rfl rfl)
        (fun m n ⟨h1, h2⟩ => by subst h1; subst h2; obtain ⟨l, rfl⟩ := relV_str sx rx; obtain ⟨m, rfl⟩ := relV_str sy ry; simp_all)
        (fun k m h1 => by subst h1; exact relV_float sx rx) (fun k m n h1 => by subst h1; exact relV_complex sx rx), q]
      rfl
  · rename_i n1 n2 n3 n4 n5 n6
    cases he : eqA P t x y with
    | none => simp [he] at h
    | some r0 =>
      simp only [he] at h; cases h
      have sx : ∀ i, x ≠ .sym i := fun i e => by subst e; rw [eqA_symL] at he; cases he
      have sy : ∀ i, y ≠ .sym i := fun i e => by subst e; rw [eqA_symR] at he; cases he
      have q := equal_rel (w := w) he rx ry
      have g : (eqGuard .neq t a b x' y').run P w = .ok () w := guard_run rx ry
        (fun ⟨h1, h2⟩ => by subst h1; subst h2; obtain rfl := relV_nilIface sx rx; obtain rfl := relV_nilIface sy ry; simp_all)
        (fun ⟨c, d, h1, h2⟩ => by subst h1; subst h2; obtain ⟨l, rfl⟩ := relV_agg sx rx; obtain ⟨m, rfl⟩ := relV_agg sy ry; simp_all)
      refine ⟨.bool (!r0), ?_, by simp only [RelV]⟩
      rw [Sem.run_bind, g, Result.andThen_ok, binOp_neq
        (fun k m j n ⟨h1, h2⟩ => by subst h1; subst h2; obtain rfl := relV_int sx rx; obtain rfl := relV_int sy ry; exact n3 _ _ _ _ rfl rfl)
        (fun m n ⟨h1, h2⟩ => by subst h1; subst h2; obtain ⟨l, rfl⟩ := relV_str sx rx; obtain ⟨m, rfl⟩ := relV_str sy ry; simp_all)
        (fun k m h1 => by subst h1; exact relV_float sx rx) (fun k m n h1 => by subst h1; exact relV_complex sx rx), q]
      rfl
  · cases h

/- Constants. -/
mutual
theorem ofValue_rel : ∀ (k : Nat) {v : Value} {a : AV}, ofValue k v = some a → RelV ρ a v
  | 0, v, a, h => by unfold ofValue at h; cases h
  | k + 1, v, a, h => by
    unfold ofValue at h
    split at h
    case h_9 =>
      rename_i cs
      cases hl : ofValues k cs.toList with
      | none => simp [hl] at h
      | some l => simp only [hl] at h; cases h; simp only [RelV]; exact ⟨cs, rfl, ofValues_rel k hl⟩
    case h_10 =>
      rename_i cs
      cases hl : ofValues k cs.toList with
      | none => simp [hl] at h
      | some l => simp only [hl] at h; cases h; simp only [RelV]; exact ⟨cs, rfl, ofValues_rel k hl⟩
    case h_11 => cases h
    all_goals (cases h; simp only [RelV])
theorem ofValues_rel : ∀ (k : Nat) {l : List Value} {a : List AV}, ofValues k l = some a → RelL ρ a l
  | 0, v, a, h => by unfold ofValues at h; cases h
  | k + 1, [], a, h => by unfold ofValues at h; cases h; simp only [RelL]
  | k + 1, v :: l, a, h => by
    unfold ofValues at h
    cases h1 : ofValue k v with
    | none => simp [h1] at h
    | some x =>
      simp only [h1] at h
      cases h2 : ofValues k l with
      | none => simp [h2] at h
      | some r =>
        simp only [h2] at h; cases h
        simp only [RelL]
        exact ⟨v, l, rfl, ofValue_rel k h1, ofValues_rel k h2⟩
end
theorem ofConst_rel {v : Value} {a : AV} (h : ofConst v = some a) : RelV ρ a v := ofValue_rel _ h
theorem zeroP_rel {t : TypeId} {a : AV} (h : zeroP P t = some a) : ∃ v, (zeroValue t).run P w = .ok v w ∧ RelV ρ a v := by
  unfold zeroP at h
  cases hi : info P t with
  | none => simp [hi] at h
  | some i =>
    simp only [hi] at h
    cases hz : i.zero with
    | none => simp [hz] at h
    | some v =>
      simp only [hz] at h
      exact ⟨v, by unfold zeroValue; simp [run_info hi, hz], ofConst_rel h⟩
end Go.Am
set_option linter.unusedSectionVars false
namespace Go.Am
variable {P : Program} [Orc P] [OrcOk P] {ρ : Ren} {H : AHeap} {w : World}

def RunsV (P : Program) [Orc P] [OrcOk P] (ρ : Ren) (H : AHeap) (w : World) (r : Result Next) (a : AV) (H' : AHeap) : Prop :=
  ∃ ρ' v w', r = .ok (.value v) w' ∧ RelV ρ' a v ∧ RelH P ρ' H' w' ∧ Ext ρ H w ρ' H' w'
def RunsS (P : Program) [Orc P] [OrcOk P] (ρ : Ren) (H : AHeap) (w : World) (r : Result Next) (H' : AHeap) : Prop :=
  ∃ ρ' w', r = .ok .skip w' ∧ RelH P ρ' H' w' ∧ Ext ρ H w ρ' H' w'
theorem RunsV.same (h : RelH P ρ H w) {r : Result Next} {a : AV} {v : Value} (hr : r = .ok (.value v) w) (hv : RelV ρ a v) : RunsV P ρ H w r a H :=
  ⟨ρ, v, w, hr, hv, h, Ext.refl _ _ _⟩

/-- A value, and memory as it was. -/
def QuietV (P : Program) [Orc P] [OrcOk P] (ρ : Ren) (w : World) (r : Result Next) (a : AV) : Prop := ∃ v, r = .ok (.value v) w ∧ RelV ρ a v
theorem QuietV.same (_ : RelH P ρ H w) {r : Result Next} {a : AV} {v : Value} (hr : r = .ok (.value v) w) (hv : RelV ρ a v) : QuietV P ρ w r a := ⟨v, hr, hv⟩
theorem QuietV.runs (h : RelH P ρ H w) {r : Result Next} {a : AV} (q : QuietV P ρ w r a) : RunsV P ρ H w r a H := by
  obtain ⟨v, hr, hv⟩ := q
  exact RunsV.same h hr hv

theorem evals_rel {ev : Operand → Option AV} {evc : Operand → Value} (hev : ∀ x a, ev x = some a → RelV ρ a (evc x)) :
    ∀ {l : List Operand} {r : List AV}, evals ev l = some r → RelL ρ r (l.map evc)
  | [], r, h => by unfold evals at h; cases h; simp only [List.map_nil, RelL]
  | x :: l, r, h => by
    unfold evals at h
    cases h1 : ev x with
    | none => simp [h1] at h
    | some v =>
      simp only [h1] at h
      cases h2 : evals ev l with
      | none => simp [h2] at h
      | some s =>
        simp only [h2] at h; cases h
        simp only [List.map_cons, RelL]
        exact ⟨_, _, rfl, hev x v h1, evals_rel hev h2⟩

/-- New cells. -/
theorem row_rel (h : RelH P ρ H w) {l : List AV} (elem : TypeId) (tight : Bool) (hl : noAggs l = true) {c : Array Value} (hc : RelL ρ l c.toList) (e : TypeId) {w' : World}
    (hw : w'.heap = w.heap.push (.cells c e)) (hst : Still w w') :
    RelH P (ρ.add H.next ⟨w.heap.size, c.size, Go.undef⟩) (H.row l elem tight) w' ∧ Ext ρ H w (ρ.add H.next ⟨w.heap.size, c.size, Go.undef⟩) (H.row l elem tight) w' := by
  have hlen := hc.length
  simp only [Array.length_toList] at hlen
  refine h.push c.size hw hst ?_
  simp only [RelO]
  refine ⟨c, e, (0, 0), rfl, rfl, by omega, fun _ => hlen.symm, fun j hj => ?_, fun _ j _ => by simp⟩
  obtain ⟨v, hv, hr⟩ := hc.get (List.getElem?_eq_getElem hj)
  refine ⟨l[j], v, ?_, by simpa using hv, RelV.mono (Ren.le_add (h.fresh _ (Nat.le_refl _))) _ _ hr, noAggs_one hl _ (List.getElem_mem hj)⟩
  rw [Tree.get_putList]
  simp [hj]

theorem run_newVar (t : TypeId) (v : Value) (w : World) : (newVar t v).run P w = .ok ⟨w.heap.size, 0, none⟩ { w with heap := w.heap.push (.cells v.cells t) } := by
  simp [newVar, newRow]

theorem ptr_new (ρ : Ren) (i : Nat) (l : Loc) : RelV (ρ.add i l) (.ptr i 0) (.pointer (some ⟨l.b, 0, none⟩)) := by
  simp only [RelV]
  exact ⟨l, Ren.add_same _ _ _, rfl⟩

theorem alloc_rel (h : RelH P ρ H w) {elem : TypeId} {z : AV} (hz : zeroP P elem = some z) (ho : noAggs z.cells = true) {o : Oper} (hop : o.op = .alloc elem) (evc : Operand → Value) :
    RunsV P ρ H w ((execOp evc o).run P w) (.ptr H.next 0) (H.row z.cells elem true) := by
  obtain ⟨v, hv, rv⟩ := zeroP_rel (ρ := ρ) (w := w) hz
  have hr := row_rel h elem true ho rv.cells elem (w' := { w with heap := w.heap.push (.cells v.cells elem) }) rfl ⟨rfl, rfl⟩
  refine ⟨_, .pointer (some ⟨w.heap.size, 0, none⟩), _, ?_, ptr_new _ _ _, hr.1, hr.2⟩
  unfold execOp
  rw [hop]
  simp [Instr.alloc, hv, run_newVar]

theorem box_rel (h : RelH P ρ H w) {elem : TypeId} {a : AV} {x : Operand} {evc : Operand → Value} (ha : RelV ρ a (evc x)) (ho : noAggs a.cells = true) {o : Oper} (hop : o.op = .box elem x) :
    RunsV P ρ H w ((execOp evc o).run P w) (.ptr H.next 0) (H.row a.cells elem true) := by
  have hr := row_rel h elem true ho ha.cells elem (w' := { w with heap := w.heap.push (.cells (evc x).cells elem) }) rfl ⟨rfl, rfl⟩
  refine ⟨_, .pointer (some ⟨w.heap.size, 0, none⟩), _, ?_, ptr_new _ _ _, hr.1, hr.2⟩
  unfold execOp
  rw [hop]
  simp [Instr.box, run_newVar]

/- Aggregates out of parts. -/
theorem setAt_length : ∀ (l : List AV) (i : Nat) (x : AV), (setAt l i x).length = l.length
  | [], _, _ => rfl
  | _ :: _, 0, _ => rfl
  | _ :: l, n + 1, x => by simp [setAt, setAt_length l n x]
theorem setAt_rel : ∀ {l : List AV} {v : List Value} {i : Nat} {x : AV} {y : Value}, RelL ρ l v → RelV ρ x y → RelL ρ (setAt l i x) (v.set i y)
  | [], v, i, x, y, h, _ => by simp only [RelL] at h; subst h; simp [setAt, RelL]
  | a :: l, w, 0, x, y, h, hx => by
    simp only [RelL] at h
    obtain ⟨v, vs, rfl, _, h3⟩ := h
    simp only [setAt, List.set_cons_zero, RelL]
    exact ⟨y, vs, rfl, hx, h3⟩
  | a :: l, w, n + 1, x, y, h, hx => by
    simp only [RelL] at h
    obtain ⟨v, vs, rfl, h2, h3⟩ := h
    simp only [setAt, List.set_cons_succ, RelL]
    exact ⟨v, vs.set n y, rfl, h2, setAt_rel h3 hx⟩
theorem setAll_length : ∀ (xs : List AV) (cs : List AV) (off : Nat), (setAll cs off xs).length = cs.length
  | [], _, _ => rfl
  | x :: xs, cs, off => by simp only [setAll]; rw [setAll_length xs, setAt_length]
theorem setAll_rel : ∀ {xs : List AV} {ys : List Value} {cs : List AV} {ds : List Value} {off k : Nat}, RelL ρ cs ds → RelL ρ xs ys →
    RelL ρ (setAll cs (off + k) xs) ((ys.zipIdx k).foldl (fun (acc : List Value) p => acc.set (off + p.2) p.1) ds)
  | [], ys, cs, ds, off, k, h, hx => by simp only [RelL] at hx; subst hx; simpa [setAll] using h
  | x :: xs, l, cs, ds, off, k, h, hx => by
    simp only [RelL] at hx
    obtain ⟨y, ys, rfl, h2, h3⟩ := hx
    simp only [setAll, List.zipIdx_cons, List.foldl_cons]
    have := setAll_rel (off := off) (k := k + 1) (setAt_rel (i := off + k) h h2) h3
    rw [show off + k + 1 = off + (k + 1) from by omega]
    exact this
theorem foldl_toList : ∀ (ps : List (Value × Nat)) (off : Nat) (cs : Array Value), (ps.foldl (fun (cs : Array Value) p => cs.setIfInBounds (off + p.2) p.1) cs).toList = ps.foldl (fun (acc : List Value) p => acc.set (off + p.2) p.1) cs.toList
  | [], _, _ => rfl
  | p :: ps, off, cs => by simp only [List.foldl_cons]; rw [foldl_toList ps]; simp
def RelParts (ρ : Ren) : List (Nat × AV) → List (Nat × Value) → Prop
  | [], l => l = []
  | (i, a) :: avs, l => ∃ v vs, l = (i, v) :: vs ∧ RelV ρ a v ∧ RelParts ρ avs vs
theorem evalParts_rel {ev : Operand → Option AV} {evc : Operand → Value} (hev : ∀ x a, ev x = some a → RelV ρ a (evc x)) :
    ∀ {l : List (Nat × Operand)} {r : List (Nat × AV)}, evalParts ev l = some r → RelParts ρ r (l.map fun p => (p.1, evc p.2))
  | [], r, h => by unfold evalParts at h; cases h; simp only [List.map_nil, RelParts]
  | (i, x) :: l, r, h => by
    unfold evalParts at h
    cases h1 : ev x with
    | none => simp [h1] at h
    | some v =>
      simp only [h1] at h
      cases h2 : evalParts ev l with
      | none => simp [h2] at h
      | some s =>
        simp only [h2] at h; cases h
        simp only [List.map_cons, RelParts]
        exact ⟨_, _, rfl, hev x v h1, evalParts_rel hev h2⟩
theorem fillA_rel {place : Nat → Option (Nat × Nat)} : ∀ {ps : List (Nat × AV)} {qs : List (Nat × Value)} {cs : List AV} {ds : Array Value} {r : List AV},
    RelParts ρ ps qs → RelL ρ cs ds.toList → fillA place cs ps = some r → ∃ rs, Instr.fill place ds qs = some rs ∧ RelL ρ r rs.toList ∧ r.length = cs.length
  | [], qs, cs, ds, r, hp, hc, h => by
    simp only [RelParts] at hp; subst hp
    unfold fillA at h; cases h
    exact ⟨ds, rfl, hc, rfl⟩
  | (i, a) :: ps, l, cs, ds, r, hp, hc, h => by
    simp only [RelParts] at hp
    obtain ⟨v, qs, rfl, h2, h3⟩ := hp
    unfold fillA at h
    cases hpl : place i with
    | none => simp [hpl] at h
    | some p =>
      obtain ⟨off, size⟩ := p
      simp only [hpl] at h
      cases hb : (Nat.beq a.cells.length size && Nat.ble (off + a.cells.length) cs.length) with
      | false => simp [hb] at h
      | true =>
        simp only [hb, cond_true] at h
        rw [Bool.and_eq_true] at hb
        have e1 : a.cells.length = size := Nat.eq_of_beq_eq_true hb.1
        have e2 : off + a.cells.length ≤ cs.length := Nat.le_of_ble_eq_true hb.2
        have hl1 := h2.cells.length
        have hl2 := hc.length
        simp only [Array.length_toList] at hl1 hl2
        have key : RelL ρ (setAll cs off a.cells) (v.cells.zipIdx.foldl (fun (cs : Array Value) (p : Value × Nat) => cs.setIfInBounds (off + p.2) p.1) ds).toList := by
          rw [← Array.foldl_toList, foldl_toList, Array.toList_zipIdx]
          have := setAll_rel (off := off) (k := 0) hc h2.cells
          simpa using this
        obtain ⟨rs, f1, f2, f3⟩ := fillA_rel h3 key h
        refine ⟨rs, ?_, f2, by rw [f3, setAll_length]⟩
        unfold Instr.fill
        simp only [hpl]
        rw [if_neg (by simp; omega)]
        exact f1
theorem placesP_rel : ∀ {fs : List Field} {pl : List (Nat × Nat)}, placesP P fs = some pl →
    (fs.mapM fun f => do pure (f.offset, ← sizeOf f.type) : Sem (List (Nat × Nat))).run P w = .ok pl w
  | [], pl, h => by unfold placesP at h; cases h; rfl
  | f :: fs, pl, h => by
    unfold placesP at h
    cases h1 : sizeP P f.type with
    | none => simp [h1] at h
    | some n =>
      simp only [h1] at h
      cases h2 : placesP P fs with
      | none => simp [h2] at h
      | some l =>
        simp only [h2] at h; cases h
        have ih := placesP_rel h2
        simp only [List.mapM_cons, Sem.run_bind, run_size h1, Result.andThen_ok, Sem.run_pure]
        rw [ih]
        rfl
theorem build_rel (h : RelH P ρ H w) {t : TypeId} {parts : Array (Nat × Operand)} {z : AV} {ps : List (Nat × AV)} {ev : Operand → Option AV} {evc : Operand → Value} (hev : ∀ x a, ev x = some a → RelV ρ a (evc x))
    (hz : zeroP P t = some z) (hp : evalParts ev parts.toList = some ps) {o : Oper} (hop : o.op = .build t parts) {place : Nat → Option (Nat × Nat)} {cs : List AV} (hf : fillA place z.cells ps = some cs)
    (hu : (∃ fs pl, und P t = some (.struct fs) ∧ placesP P fs.toList = some pl ∧ place = (pl[·]?)) ∨ (∃ n elem m, und P t = some (.array n elem) ∧ sizeP P elem = some m ∧ place = fun i => some (i * m, m))) :
    QuietV P ρ w ((execOp evc o).run P w) (.agg cs) := by
  obtain ⟨v, hv, rv⟩ := zeroP_rel (ρ := ρ) (w := w) hz
  obtain ⟨rs, f1, f2, _⟩ := fillA_rel (evalParts_rel hev hp) rv.cells hf
  refine QuietV.same h (v := .agg rs) ?_ (by simp only [RelV]; exact ⟨rs, rfl, f2⟩)
  unfold execOp
  rw [hop]
  simp only [Sem.run_bind, Instr.build, hv, Result.andThen_ok]
  rcases hu with ⟨fs, pl, hu, hpl, rfl⟩ | ⟨n, elem, m, hu, hm, rfl⟩
  · have hm := placesP_rel (w := w) hpl
    rw [run_und hu]
    simp only [Result.andThen_ok, Sem.run_bind]
    have hA : (fs.mapM fun f => do pure (f.offset, ← sizeOf f.type) : Sem (Array (Nat × Nat))).run P w = .ok pl.toArray w := by
      rw [Array.mapM_eq_mapM_toList, Sem.run_map, hm]; rfl
    rw [hA]
    simp only [Result.andThen_ok]
    have e : (fun (x : Nat) => pl.toArray[x]?) = (fun (x : Nat) => pl[x]?) := by funext x; simp
    have e2 : (Array.map (fun x => (x.fst, evc x.snd)) parts).toList = parts.toList.map fun p => (p.1, evc p.2) := by simp
    rw [e, e2, f1]
    rfl
  · rw [run_und hu]
    simp only [Result.andThen_ok, Sem.run_bind, run_size hm]
    have e2 : (Array.map (fun x => (x.fst, evc x.snd)) parts).toList = parts.toList.map fun p => (p.1, evc p.2) := by simp
    rw [e2, f1]
    rfl
end Go.Am
