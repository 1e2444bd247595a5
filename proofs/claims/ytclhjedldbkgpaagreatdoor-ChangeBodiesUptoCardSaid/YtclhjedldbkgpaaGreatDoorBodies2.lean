/-
  Part 2 of the proof that winch/winchlaw25.ChangeBodies returns true for every two bodies of small bulk: lemmas.
  Conditions: none beyond each theorem's own premises.
  What lies here:
  A small evaluator of loaded code, second part: frames, regions that draw, calls, loops over functions, deferred calls, recover. Condition: none (definitions).
  Facts on the trees of the small evaluator: what a place holds behind a change.
-/
import Derived.Test.YtclhjedldbkgpaaGreatDoorBodies1
import Derived.Orders
set_option linter.unusedVariables false
set_option linter.unusedSimpArgs false
namespace Go.Am

inductive AItem where
  | code (c : Code)
  | inBlock (id : Nat)
  | inLoop (body : Code)
  | inScope (body : Code)
  | inRegion (ops : Array Oper) (rest : List Oper)
  | endRangeFunc (l : Nat)
  | beginRound

inductive AMode where
  | run
  | returning
  | panicking (chain : List (AV × Bool))

structure AFrame where
  fn : FuncId
  n : Nat
  tmps : Tree AV
  todo : List AItem
  defers : List ADef
  mode : AMode
  round : Option Nat

/-- How a frame was entered: by a call, or as a deferred call out of a frame in some mode. -/
inductive AUp where
  | no
  | deferred (m : AMode)

inductive AEnd where
  | returned (v : AV)
  | panicked (chain : List (AV × Bool))

abbrev ARes := Option (AEnd × AUp × AHeap)
abbrev ARec := AUp → AFrame → AHeap → ARes

def tmpOf (t : Tree AV) (i : Nat) : AV :=
  match t.get i with
  | some v => v
  | none => .undef
/-- A value that counts. -/
def noJ : AV → Option AV
  | .junk => none
  | v => some v
def evA (t : Tree AV) : Operand → Option AV
  | .tmp i => noJ (tmpOf t i)
  | .const v => ofConst v
  | .global g => bif Nat.blt g 1000 then some (.ptr g 0) else none
  | .func f => some (.fn (.func f) [] [])
def AFrame.put (fr : AFrame) (dst : Option Tmp) (v : AV) : Option AFrame :=
  match dst with
  | none => some fr
  | some d => bif Nat.blt d fr.n then some { fr with tmps := fr.tmps.put d v } else none
def wantedA (ops : Array Oper) (t : Tree AV) (o : Oper) : Bool :=
  match o.guard with
  | none => true
  | some (j, want) =>
    match ops.toList[j]? with
    | none => false
    | some p => match p.dst with
      | none => false
      | some d => match t.get d with
        | some (.bool b) => boolEq b want
        | _ => false
/-- The guard's value is known. -/
def knownG : AV → Bool
  | .sym _ => false
  | .junk => false
  | _ => true
def guardOk (ops : Array Oper) (t : Tree AV) (o : Oper) : Bool :=
  match o.guard with
  | none => true
  | some (j, _) =>
    match ops.toList[j]? with
    | none => true
    | some p => match p.dst with
      | none => true
      | some d => knownG (tmpOf t d)
def entered (f : FuncId) (n : Nat) (args : List AV) (c : Code) : AFrame :=
  { fn := f, n := n, tmps := Tree.putList .leaf 0 args, todo := [.code c], defers := [], mode := .run, round := none }
/-- A call of a function with a body. -/
def callF (P : Program) [Orc P] (rec : ARec) (up : AUp) (f : FuncId) (args : List AV) (H : AHeap) : ARes :=
  match (funcs P).get f with
  | none => none
  | some g => match g.body with
    | none => none
    | some c => bif Nat.ble args.length g.ntmps then rec up (entered f g.ntmps args c) H else none
/-- A call by an operation; the answers from outside first. -/
def callO (P : Program) [Orc P] (rec : ARec) (f : FuncId) (args : List AV) (H : AHeap) : ARes :=
  match (bif Orc.on P then Orc.call P f args H else none) with
  | some v => some (.returned v, .no, H)
  | none => callF P rec .no f args H
/-- The same, of a function value that is called by no operation. -/
def callC (P : Program) [Orc P] (rec : ARec) (up : AUp) (f : FuncId) (args : List AV) (H : AHeap) : ARes :=
  match callA P (.func f) args with
  | some (.enter g avs) => callF P rec up g avs H
  | _ => none
def bindTmps (t : Tree AV) (n : Nat) : List Tmp → List AV → Option (Tree AV)
  | [], [] => some t
  | p :: ps, a :: l => bif Nat.blt p n then bindTmps (t.put p a) n ps l else none
  | _, _ => none
/-- A round of a loop over a function. -/
def yieldF (rec : ARec) (l : Nat) (args : List AV) (H : AHeap) : ARes :=
  match H.get l with
  | some (.loop r) => match bindTmps r.tmps r.n r.params.toList args with
    | none => none
    | some t => rec .no { fn := r.fn, n := r.n, tmps := t, todo := [.code r.assign, .beginRound, .code r.body], defers := [], mode := .run, round := some l } H
  | _ => none

def AFrame.raise (fr : AFrame) (ch : List (AV × Bool)) : AFrame :=
  match fr.mode with
  | .panicking old => { fr with mode := .panicking (ch ++ old) }
  | _ => { fr with mode := .panicking ch }

/-- The value that a recover gives, and how the frame above is then. -/
def recoverA : AUp → AV × AUp
  | .deferred (.panicking ((v, false) :: older)) => (v, .deferred (.panicking ((v, true) :: older)))
  | up => (.nilIface, up)

/-- What an operation does to a frame (not in a region that draws). -/
def operA (P : Program) [Orc P] (rec : ARec) (up : AUp) (fr : AFrame) (H : AHeap) (o : Oper) : Option (AUp × AFrame × AHeap) :=
  match execO P H (evA fr.tmps) o with
  | none => none
  | some out =>
    match out with
    | .value v H' => match fr.put o.dst v with
      | some fr' => some (up, fr', H')
      | none => none
    | .skip H' => match fr.put o.dst .undef with
      | some fr' => some (up, fr', H')
      | none => none
    | .enter f args => match callO P rec f args H with
      | some (.returned v, _, H') => match fr.put o.dst v with
        | some fr' => some (up, fr', H')
        | none => none
      | some (.panicked ch, _, H') => some (up, fr.raise ch, H')
      | none => none
    | .yield l args => match yieldF rec l args H with
      | some (.returned v, _, H') => match fr.put o.dst v with
        | some fr' => some (up, fr', H')
        | none => none
      | some (.panicked ch, _, H') => some (up, fr.raise ch, H')
      | none => none
    | .defer d => match fr.round with
      | some _ => none
      | none => match fr.put o.dst .undef with
        | some fr' => some (up, { fr' with defers := d :: fr'.defers }, H)
        | none => none
    | .recover => match fr.round with
      | some _ => none
      | none => match recoverA up with
        | (v, up') => match fr.put o.dst v with
          | some fr' => some (up', fr', H)
          | none => none
    | .panic v => some (up, fr.raise [(v, false)], H)

def isActs : Cls → Bool
  | .acts => true
  | _ => false
def bit (m i : Nat) : Bool := Nat.beq (Nat.land (Nat.shiftRight m i) 1) 1
/-- What comes before an operation, however the edges lead; none: an edge leads on. -/
def predMask (acc : List Nat) : List Edge → Option Nat
  | [] => some 0
  | e :: es =>
    match predMask acc es with
    | none => none
    | some m => bif Region.binds .any e then
        match acc[e.on]? with
        | none => none
        | some b => some (Nat.lor (Nat.lor (Nat.pow 2 e.on) b) m)
      else some m
def befores : List Nat → List Oper → Option (List Nat)
  | acc, [] => some acc
  | acc, o :: os => match predMask acc o.after.toList with
    | none => none
    | some m => befores (acc ++ [m]) os
def tmpsIn : List Operand → List Tmp
  | [] => []
  | .tmp t :: l => t :: tmpsIn l
  | _ :: l => tmpsIn l
/-- The temporaries that an operation looks at. -/
def looks (ops : List Oper) (o : Oper) : List Tmp :=
  match o.guard with
  | none => tmpsIn o.op.operands.toList
  | some (j, _) => match ops[j]? with
    | none => tmpsIn o.op.operands.toList
    | some p => match p.dst with
      | none => tmpsIn o.op.operands.toList
      | some d => d :: tmpsIn o.op.operands.toList
/-- Who writes a temporary, of operations from a number on: who writes it stands before or behind the operation with a number and a mask. -/
def writerOk (i mi : Nat) (t : Tmp) : List Oper → List Nat → Nat → Bool
  | o :: os, m :: ms, j =>
    (match o.dst with
      | none => true
      | some d => !(Nat.beq d t) || Nat.beq j i || bit mi j || bit m i) && writerOk i mi t os ms (j + 1)
  | _, _, _ => true
def allTmps (i mi : Nat) (ops : List Oper) (ms : List Nat) : List Tmp → Bool
  | [] => true
  | t :: l => writerOk i mi t ops ms 0 && allTmps i mi ops ms l
def looksOk (ops : List Oper) (ms : List Nat) : List Oper → List Nat → Nat → Bool
  | o :: os, m :: rest, i => allTmps i m ops ms (looks ops o) && looksOk ops ms os rest (i + 1)
  | _, _, _ => true
def notDst (d : Tmp) : List Oper → Bool
  | [] => true
  | o :: os => (match o.dst with
    | none => true
    | some e => !(Nat.beq d e)) && notDst d os
def dstsOk : List Oper → Bool
  | [] => true
  | o :: os => (match o.dst with
    | none => true
    | some d => notDst d os) && dstsOk os
/-- The masks of the operations of some kinds, in their order; each must stand before the next one. -/
def pickMasks (sel : Cls → Bool) : List Oper → List Nat → Nat → List (Nat × Nat)
  | o :: os, m :: ms, i => bif sel (clsOf o) then (i, m) :: pickMasks sel os ms (i + 1) else pickMasks sel os ms (i + 1)
  | _, _, _ => []
def isFills : Cls → Bool
  | .fills => true
  | _ => false
abbrev actMasks := pickMasks isActs
abbrev fillMasks := pickMasks isFills
def chain : List (Nat × Nat) → Bool
  | (i, _) :: (j, m) :: l => bit m i && chain ((j, m) :: l)
  | _ => true
/-- How many of the acts stand before. -/
def countBefore (m : Nat) : List (Nat × Nat) → Nat
  | [] => 0
  | (j, _) :: l => bif bit m j then countBefore m l + 1 else countBefore m l
/-- How many of the acts don't wait for it. -/
def countFree (i : Nat) : List (Nat × Nat) → Nat
  | [] => 0
  | (_, m) :: l => bif bit m i then countFree i l else countFree i l + 1
def countIndex (i : Nat) : List (Nat × Nat) → Nat
  | [] => 0
  | (j, _) :: l => bif Nat.blt j i then countIndex i l + 1 else countIndex i l
structure RI where
  o : Oper
  cls : Cls
  lo : Nat
  hi : Nat
def infos (acts : List (Nat × Nat)) : List Oper → List Nat → Nat → Option (List RI)
  | o :: os, m :: ms, i =>
    match infos acts os ms (i + 1) with
    | none => none
    | some l =>
      match clsOf o with
      | .makes => bif Nat.beq (countBefore m acts) (countIndex i acts) && Nat.beq (countFree i acts) (countIndex i acts) then some (⟨o, .makes, countBefore m acts, countFree i acts⟩ :: l) else none
      | .fills => bif Nat.beq (countBefore m acts) (countIndex i acts) && Nat.beq (countFree i acts) (countIndex i acts) then some (⟨o, .fills, countBefore m acts, countFree i acts⟩ :: l) else none
      | c => some (⟨o, c, countBefore m acts, countFree i acts⟩ :: l)
  | _, _, _ => some []
def plan (ops : Array Oper) : Option (List RI) :=
  match befores [] ops.toList with
  | none => none
  | some ms =>
    bif dstsOk ops.toList && looksOk ops.toList ms ops.toList ms 0 && chain (actMasks ops.toList ms 0) && chain (fillMasks ops.toList ms 0) then
      infos (actMasks ops.toList ms 0) ops.toList ms 0
    else none

mutual
def AV.same : AV → AV → Bool
  | .bool a, .bool b => boolEq a b
  | .int k a, .int j b => kindEq k j && ieq a b
  | .str a, .str b => seq a b
  | .ptr i o, .ptr j p => Nat.beq i j && Nat.beq o p
  | .nilptr, .nilptr => true
  | .slice i o l e, .slice j p m f => Nat.beq i j && Nat.beq o p && Nat.beq l m && Nat.beq e f
  | .nilslice, .nilslice => true
  | .map i, .map j => Nat.beq i j
  | .nilmap, .nilmap => true
  | .fn (.func f) a c, .fn (.func g) b d => Nat.beq f g && AV.sames a b && AV.sames c d
  | .yieldf a, .yieldf b => Nat.beq a b
  | .nilfunc, .nilfunc => true
  | .iface t v, .iface u w => Nat.beq t u && AV.same v w
  | .nilIface, .nilIface => true
  | .sym i, .sym j => Nat.beq i j
  | .agg a, .agg b => AV.sames a b
  | .tuple a, .tuple b => AV.sames a b
  | _, _ => false
def AV.sames : List AV → List AV → Bool
  | [], [] => true
  | a :: l, b :: m => AV.same a b && AV.sames l m
  | _, _ => false
end

def memT (d : Tmp) : List Tmp → Bool
  | [] => false
  | e :: l => Nat.beq e d || memT d l
/-- What an operation sees: its own operands only. -/
def evR (o : Oper) (t : Tree AV) : Operand → Option AV
  | .tmp i => bif memT i (tmpsIn o.op.operands.toList) then noJ (tmpOf t i) else none
  | .const v => ofConst v
  | .global g => bif Nat.blt g 1000 then some (.ptr g 0) else none
  | .func f => some (.fn (.func f) [] [])
/-- Which object an insertion fills: one that is no elder than a memory's last. -/
def fillsNew (o : Oper) (t : Tree AV) (n : Nat) : Bool :=
  match o.op with
  | .insert _ (.tmp m) _ _ => match tmpOf t m with
    | .map i => Nat.ble n i
    | _ => false
  | _ => false
/-- In some elder memories an operation gives a value. -/
def heldIn (P : Program) [Orc P] (o : Oper) (t : Tree AV) (v : AV) : Nat → List AHeap → Bool
  | 0, _ => true
  | _ + 1, [] => false
  | k + 1, H :: l =>
    (match execO P H (evR o t) o with
      | some (.value u _) => AV.same u v
      | _ => false) && heldIn P o t v k l
structure Pend where
  o : Oper
  t : Tree AV
  v : AV
  hi : Nat
/-- What was read in this region, and may yet be read, reads so still. -/
def heldNow (P : Program) [Orc P] (H : AHeap) (stage : Nat) : List Pend → Bool
  | [] => true
  | p :: l =>
    (bif Nat.ble stage p.hi then
      (match execO P H (evR p.o p.t) p.o with
        | some (.value u _) => AV.same u p.v
        | _ => false)
    else true) && heldNow P H stage l

/-- All that is left waits for the act that stands here. -/
def allLater (stage : Nat) : List RI → Bool
  | [] => true
  | r :: l => Nat.blt stage r.lo && allLater stage l
/-- How far a region that draws has come. 'base': the memory behind the last act; 'snaps': behind those before it; 'pend': what was read. -/
structure DS where
  stage : Nat
  base : AHeap
  snaps : List AHeap
  pend : List Pend
  fr : AFrame
  H : AHeap
/-- Behind an act. -/
def DS.acted (P : Program) [Orc P] (S : DS) (o : Oper) (v : AV) (H' : AHeap) : Option (Sum DS (AFrame × AHeap)) :=
  match S.fr.put o.dst v with
  | some fr' => bif heldNow P H' (S.stage + 1) S.pend then some (.inl ⟨S.stage + 1, H', S.base :: S.snaps, S.pend, fr', H'⟩) else none
  | none => none
/-- An act raises. -/
def DS.raised (S : DS) (rest : List RI) (ch : List (AV × Bool)) (H' : AHeap) : Option (Sum DS (AFrame × AHeap)) :=
  match S.fr.defers with
  | [] => bif allLater S.stage rest then some (.inr (S.fr.raise ch, H')) else none
  | _ :: _ => none
/-- One operation of a region that draws. -/
def drawn1 (P : Program) [Orc P] (rec : ARec) (ops : Array Oper) (rest : List RI) (r : RI) (S : DS) : Option (Sum DS (AFrame × AHeap)) :=
  bif guardOk ops S.fr.tmps r.o then
  (bif wantedA ops S.fr.tmps r.o then
    match r.cls with
    | .pure => match execO P S.H (evR r.o S.fr.tmps) r.o with
      | some (.value v _) => match S.fr.put r.o.dst v with
        | some fr' => some (.inl { S with fr := fr' })
        | none => none
      | _ => none
    | .reads => match execO P S.base (evR r.o S.fr.tmps) r.o with
      | some (.value v _) => match S.fr.put r.o.dst v with
        | some fr' => bif heldIn P r.o S.fr.tmps v (S.stage - r.lo) S.snaps then some (.inl { S with fr := fr', pend := ⟨r.o, S.fr.tmps, v, r.hi⟩ :: S.pend }) else none
        | none => none
      | _ => none
    | .makes => match execO P S.H (evR r.o S.fr.tmps) r.o with
      | some (.value v H') => match S.fr.put r.o.dst v with
        | some fr' => some (.inl { S with fr := fr', H := H' })
        | none => none
      | _ => none
    | .fills => bif fillsNew r.o S.fr.tmps S.base.next then match execO P S.H (evR r.o S.fr.tmps) r.o with
      | some (.skip H') => match S.fr.put r.o.dst .undef with
        | some fr' => some (.inl { S with fr := fr', H := H' })
        | none => none
      | _ => none
      else none
    | .acts => match execO P S.H (evR r.o S.fr.tmps) r.o with
      | some (.panic v) => S.raised rest [(v, false)] S.H
      | some (.value v H') => S.acted P r.o v H'
      | some (.skip H') => S.acted P r.o .undef H'
      | some (.enter f args) => match callO P rec f args S.H with
        | some (.returned v, _, H') => S.acted P r.o v H'
        | some (.panicked ch, _, H') => S.raised rest ch H'
        | none => none
      | some (.yield l args) => match yieldF rec l args S.H with
        | some (.returned v, _, H') => S.acted P r.o v H'
        | some (.panicked ch, _, H') => S.raised rest ch H'
        | none => none
      | _ => none
  else bif isActs r.cls then S.acted P r.o .undef S.H else match S.fr.put r.o.dst .undef with
    | some fr' => some (.inl { S with fr := fr' })
    | none => none)
  else none
/-- The operations of a region that draws, in the order of their numbers. -/
def drawnA (P : Program) [Orc P] (rec : ARec) (up : AUp) (ops : Array Oper) : List RI → DS → Option (AUp × AFrame × AHeap)
  | [], S => some (up, S.fr, S.H)
  | r :: rest, S => match drawn1 P rec ops rest r S with
    | none => none
    | some (.inr (fr, H)) => some (up, fr, H)
    | some (.inl S') => drawnA P rec up ops rest S'

def exitToA (id : Nat) : List AItem → Option (List AItem)
  | .inBlock j :: k => bif Nat.beq j id then some k else exitToA id k
  | _ :: k => exitToA id k
  | [] => none

def resultsA (P : Program) [Orc P] (H : AHeap) (t : Tree AV) : List ResultVar → Option (List AV)
  | [] => some []
  | r :: l =>
    match (match r with
      | .tmp i => noJ (tmpOf t i)
      | .cell a ty => match tmpOf t a with
        | .ptr i off => readVar P H ty i off
        | _ => none), resultsA P H t l with
    | some v, some vs => some (v :: vs)
    | _, _ => none

/-- The end of a round. -/
def leaveA (up : AUp) (fr : AFrame) (H : AHeap) (jump : Option Code) : Option (Sum (AFrame × AHeap) (AEnd × AUp × AHeap)) :=
  match fr.round with
  | none => match jump with
    | none => some (.inl ({ fr with mode := .returning }, H))
    | some .ret => some (.inl ({ fr with mode := .returning }, H))
    | some _ => none
  | some l => match H.get l with
    | some (.loop r) =>
      some (.inr (.returned (.bool jump.isNone), up, H.put l (.loop { r with state := bif jump.isNone then .ready else .done, pending := jump })))
    | _ => none

def pendingThen (c : Option Code) (k : List AItem) : List AItem :=
  match c with
  | none => k
  | some c => .code c :: k

def onto (rec : ARec) (up : AUp) : Option (Sum (AFrame × AHeap) (AEnd × AUp × AHeap)) → ARes
  | none => none
  | some (.inl (fr, H)) => rec up fr H
  | some (.inr r) => some r

/-- One move of a frame that runs. -/
def stepA (P : Program) [Orc P] (rec : ARec) (up : AUp) (fr : AFrame) (H : AHeap) : ARes :=
  match fr.todo with
  | [] => onto rec up (leaveA up fr H none)
  | item :: k =>
    match item with
    | .inBlock _ => rec up { fr with todo := k } H
    | .inScope _ => rec up { fr with todo := k } H
    | .inLoop body => rec up { fr with todo := .code body :: .inLoop body :: k } H
    | .beginRound => match fr.round with
      | none => none
      | some l => match H.get l with
        | some (.loop r) => match r.state with
          | .ready => rec up { fr with todo := k } (H.put l (.loop { r with state := .busy }))
          | _ => none
        | _ => none
    | .endRangeFunc l => match H.get l with
      | some (.loop r) => match r.state with
        | .busy => none
        | _ => rec up { fr with todo := pendingThen r.pending k } (H.put l (.loop { r with state := .exhausted }))
      | _ => none
    | .inRegion ops rest => match rest with
      | [] => rec up { fr with todo := k } H
      | o :: os =>
        bif guardOk ops fr.tmps o then
        (bif wantedA ops fr.tmps o then
          match operA P rec up { fr with todo := .inRegion ops os :: k } H o with
          | some (up', fr', H') => rec up' fr' H'
          | none => none
        else match ({ fr with todo := .inRegion ops os :: k } : AFrame).put o.dst .undef with
          | some fr' => rec up fr' H
          | none => none)
        else none
    | .code c =>
      match c with
      | .skip => rec up { fr with todo := k } H
      | .label _ => rec up { fr with todo := k } H
      | .seq a b => rec up { fr with todo := .code a :: .code b :: k } H
      | .cond x a b => match evA fr.tmps x with
        | some (.bool true) => rec up { fr with todo := .code a :: k } H
        | some (.bool false) => rec up { fr with todo := .code b :: k } H
        | _ => none
      | .block id body => rec up { fr with todo := .code body :: .inBlock id :: k } H
      | .loop body => rec up { fr with todo := .code body :: .inLoop body :: k } H
      | .scope body => rec up { fr with todo := .code body :: .inScope body :: k } H
      | .exit id => match exitToA id k with
        | some k' => rec up { fr with todo := k' } H
        | none => onto rec up (leaveA up fr H (some (.exit id)))
      | .ret => onto rec up (leaveA up fr H (some .ret))
      | .region _ ops false => rec up { fr with todo := .inRegion ops ops.toList :: k } H
      | .region _ ops true => match plan ops with
        | none => none
        | some pl => match drawnA P rec up ops pl ⟨0, H, [], [], { fr with todo := k }, H⟩ with
          | some (up', fr', H') => rec up' fr' H'
          | none => none
      | .rangeFunc f params assign body =>
        match fr.round, evA fr.tmps f with
        | none, some (.fn (.func g) first captured) =>
          match callC P rec .no g (first ++ [.yieldf (H.next + 1)] ++ captured)
            ((H.push (.deferred (some []))).push (.loop { state := .ready, pending := none, fn := fr.fn, n := fr.n, tmps := fr.tmps, params := params, assign := assign, body := body, defers := H.next })) with
          | some (.returned _, _, H') => rec up { fr with todo := .endRangeFunc (H.next + 1) :: k, defers := .collected H.next :: fr.defers } H'
          | some (.panicked ch, _, H') => rec up (({ fr with todo := .endRangeFunc (H.next + 1) :: k, defers := .collected H.next :: fr.defers } : AFrame).raise ch) H'
          | none => none
        | some l, some (.fn (.func g) first captured) =>
          match H.get l with
          | some (.loop r0) =>
            match callC P rec .no g (first ++ [.yieldf H.next] ++ captured)
              (H.push (.loop { state := .ready, pending := none, fn := fr.fn, n := fr.n, tmps := fr.tmps, params := params, assign := assign, body := body, defers := r0.defers })) with
            | some (.returned _, _, H') => rec up { fr with todo := .endRangeFunc H.next :: k } H'
            | some (.panicked ch, _, H') => rec up (({ fr with todo := .endRangeFunc H.next :: k } : AFrame).raise ch) H'
            | none => none
          | _ => none
        | _, _ => none
      | .goto _ => none
      | .refuse _ => none

def settleA : AMode → AMode
  | .panicking ((_, true) :: _) => .returning
  | m => m

/-- One move of a frame that leaves. -/
def unwindA (P : Program) [Orc P] (rec : ARec) (up : AUp) (fr : AFrame) (H : AHeap) : ARes :=
  match fr.defers with
  | .collected b :: ds => match H.get b with
    | some (.deferred (some calls)) => rec up { fr with defers := calls ++ ds } (H.put b (.deferred none))
    | _ => none
  | .call (.func f) args :: ds =>
    match callC P rec (.deferred fr.mode) f args H with
    | some (.returned _, .deferred m, H') => match settleA m with
      | .run => none
      | m' => rec up { fr with defers := ds, mode := m' } H'
    | some (.panicked ch, .deferred m, H') => rec up (({ fr with defers := ds, mode := m } : AFrame).raise ch) H'
    | _ => none
  | .call _ _ :: _ => none
  | [] =>
    match fr.mode with
    | .run => none
    | .panicking ch => some (.panicked ch, up, H)
    | .returning => match fr.round, (funcs P).get fr.fn with
      | none, some g => match resultsA P H fr.tmps g.results.toList with
        | some [v] => some (.returned v, up, H)
        | some vs => some (.returned (.tuple vs), up, H)
        | none => none
      | _, _ => none

def runF (P : Program) [Orc P] : Nat → ARec
  | 0 => fun _ _ _ => none
  | k + 1 => fun up fr H =>
    match fr.mode with
    | .run => stepA P (runF P k) up fr H
    | _ => unwindA P (runF P k) up fr H

/-- A call, from outside. -/
def call (P : Program) [Orc P] (k : Nat) (f : FuncId) (args : List AV) (H : AHeap) : Option (AEnd × AHeap) :=
  match callF P (runF P k) .no f args H with
  | some (e, _, H') => some (e, H')
  | none => none
end Go.Am
namespace Go.Am.Tree
variable {α : Type}

theorem half_inj {n m : Nat} (h : n % 2 = m % 2) (h' : n / 2 = m / 2) : n = m := by omega

theorem beq_false {a b : Nat} (h : a ≠ b) : Nat.beq a b = false := by
  cases hb : Nat.beq a b with
  | false => rfl
  | true => exact absurd (Nat.eq_of_beq_eq_true hb) h
theorem beq_self (a : Nat) : Nat.beq a a = true := by
  cases hb : Nat.beq a a with
  | true => rfl
  | false => exact absurd rfl (Nat.ne_of_beq_eq_false hb)

theorem get_leaf (n : Nat) : (Tree.leaf : Tree α).get n = none := by cases n <;> rfl
theorem get_node_zero (v : Option α) (l r : Tree α) : (Tree.node v l r).get 0 = v := rfl
theorem get_node_succ (v : Option α) (l r : Tree α) (n : Nat) : (Tree.node v l r).get (n + 1) = if n % 2 = 0 then l.get (n / 2) else r.get (n / 2) := by
  show (bif Nat.beq (n % 2) 0 then l.get (n / 2) else r.get (n / 2)) = _
  by_cases h : n % 2 = 0
  · rw [h]; simp [beq_self]
  · rw [beq_false h]; simp [h]

theorem setN_leaf_zero (k : Nat) (x : Option α) : setN (k + 1) .leaf 0 x = .node x .leaf .leaf := rfl
theorem setN_node_zero (k : Nat) (v x : Option α) (l r : Tree α) : setN (k + 1) (.node v l r) 0 x = .node x l r := rfl
theorem setN_leaf_succ (k n : Nat) (x : Option α) : setN (k + 1) .leaf (n + 1) x = if n % 2 = 0 then .node none (setN k .leaf (n / 2) x) .leaf else .node none .leaf (setN k .leaf (n / 2) x) := by
  show (bif Nat.beq (n % 2) 0 then Tree.node none (setN k .leaf (n / 2) x) .leaf else .node none .leaf (setN k .leaf (n / 2) x)) = _
  by_cases h : n % 2 = 0
  · rw [h]; simp [beq_self]
  · rw [beq_false h]; simp [h]
theorem setN_node_succ (k n : Nat) (v x : Option α) (l r : Tree α) : setN (k + 1) (.node v l r) (n + 1) x = if n % 2 = 0 then .node v (setN k l (n / 2) x) r else .node v l (setN k r (n / 2) x) := by
  show (bif Nat.beq (n % 2) 0 then Tree.node v (setN k l (n / 2) x) r else .node v l (setN k r (n / 2) x)) = _
  by_cases h : n % 2 = 0
  · rw [h]; simp [beq_self]
  · rw [beq_false h]; simp [h]

theorem get_setN : ∀ (k : Nat) (t : Tree α) (n : Nat) (x : Option α) (m : Nat), n < k → (setN k t n x).get m = if m = n then x else t.get m := by
  intro k
  induction k with
  | zero => intro t n x m h; omega
  | succ k ih =>
    intro t n x m h
    cases n with
    | zero =>
      cases t with
      | leaf =>
        rw [setN_leaf_zero]
        cases m with
        | zero => rfl
        | succ m => rw [get_node_succ]; simp [get_leaf]
      | node v l r =>
        rw [setN_node_zero]
        cases m with
        | zero => rfl
        | succ m => rw [get_node_succ, get_node_succ]; simp
    | succ n =>
      have hn : n / 2 < k := by omega
      cases t with
      | leaf =>
        rw [setN_leaf_succ, get_leaf]
        split
        · rename_i h0
          cases m with
          | zero => simp [get_node_zero]
          | succ m =>
            rw [get_node_succ]
            by_cases hm : m % 2 = 0
            · rw [if_pos hm, ih _ _ _ _ hn, get_leaf]
              by_cases he : m = n
              · simp [he]
              · have : ¬ m / 2 = n / 2 := fun e => he (half_inj (by omega) e)
                simp [he, this]
            · rw [if_neg hm, get_leaf]
              have : ¬ m = n := fun e => hm (e ▸ h0)
              simp [this]
        · rename_i h0
          cases m with
          | zero => simp [get_node_zero]
          | succ m =>
            rw [get_node_succ]
            by_cases hm : m % 2 = 0
            · rw [if_pos hm, get_leaf]
              have : ¬ m = n := fun e => h0 (e ▸ hm)
              simp [this]
            · rw [if_neg hm, ih _ _ _ _ hn, get_leaf]
              by_cases he : m = n
              · simp [he]
              · have : ¬ m / 2 = n / 2 := fun e => he (half_inj (by omega) e)
                simp [he, this]
      | node v l r =>
        rw [setN_node_succ]
        split
        · rename_i h0
          cases m with
          | zero => simp [get_node_zero]
          | succ m =>
            rw [get_node_succ, get_node_succ]
            by_cases hm : m % 2 = 0
            · rw [if_pos hm, if_pos hm, ih _ _ _ _ hn]
              by_cases he : m = n
              · simp [he]
              · have : ¬ m / 2 = n / 2 := fun e => he (half_inj (by omega) e)
                simp [he, this]
            · rw [if_neg hm, if_neg hm]
              have : ¬ m = n := fun e => hm (e ▸ h0)
              simp [this]
        · rename_i h0
          cases m with
          | zero => simp [get_node_zero]
          | succ m =>
            rw [get_node_succ, get_node_succ]
            by_cases hm : m % 2 = 0
            · rw [if_pos hm, if_pos hm]
              have : ¬ m = n := fun e => h0 (e ▸ hm)
              simp [this]
            · rw [if_neg hm, if_neg hm, ih _ _ _ _ hn]
              by_cases he : m = n
              · simp [he]
              · have : ¬ m / 2 = n / 2 := fun e => he (half_inj (by omega) e)
                simp [he, this]

theorem get_put (t : Tree α) (n : Nat) (x : α) (m : Nat) : (t.put n x).get m = if m = n then some x else t.get m := get_setN _ _ _ _ _ (Nat.lt_succ_self n)
theorem get_drop (t : Tree α) (n m : Nat) : (t.drop n).get m = if m = n then none else t.get m := get_setN _ _ _ _ _ (Nat.lt_succ_self n)

theorem evens_get : ∀ (l : List α) (i : Nat), (evens l)[i]? = l[2 * i]?
  | [], i => by simp [evens]
  | [a], i => by cases i <;> simp [evens]
  | a :: b :: l, i => by
    cases i with
    | zero => simp [evens]
    | succ i => simp only [evens, List.getElem?_cons_succ]; rw [evens_get l i, show 2 * (i + 1) = 2 * i + 1 + 1 from by omega]; simp
theorem odds_get : ∀ (l : List α) (i : Nat), (odds l)[i]? = l[2 * i + 1]?
  | [], i => by simp [odds]
  | [a], i => by simp [odds]
  | a :: b :: l, i => by
    cases i with
    | zero => simp [odds]
    | succ i => simp only [odds, List.getElem?_cons_succ]; rw [odds_get l i, show 2 * (i + 1) = 2 * i + 1 + 1 from by omega]; simp
theorem evens_length : ∀ (l : List α), (evens l).length ≤ l.length
  | [] => by simp [evens]
  | [a] => by simp [evens]
  | a :: b :: l => by simp only [evens, List.length_cons]; have := evens_length l; omega
theorem odds_length : ∀ (l : List α), (odds l).length ≤ l.length
  | [] => by simp [odds]
  | [a] => by simp [odds]
  | a :: b :: l => by simp only [odds, List.length_cons]; have := odds_length l; omega
theorem get_ofListN : ∀ (k : Nat) (l : List α) (i : Nat), l.length ≤ k → (ofListN k l).get i = l[i]? := by
  intro k
  induction k with
  | zero =>
    intro l i h
    have : l = [] := by cases l <;> simp_all
    subst this
    simp [ofListN, get_leaf]
  | succ k ih =>
    intro l i h
    cases l with
    | nil => simp [ofListN, get_leaf]
    | cons a l =>
      simp only [List.length_cons] at h
      have h1 := evens_length l
      have h2 := odds_length l
      simp only [ofListN]
      cases i with
      | zero => rfl
      | succ i =>
        rw [get_node_succ, ih _ _ (by omega), ih _ _ (by omega), evens_get, odds_get, List.getElem?_cons_succ]
        split
        · rw [show 2 * (i / 2) = i from by omega]
        · rw [show 2 * (i / 2) + 1 = i from by omega]
theorem get_ofList (l : List α) (i : Nat) : (ofList l).get i = l[i]? := get_ofListN _ _ _ (Nat.le_refl _)

theorem get_putList : ∀ (l : List α) (t : Tree α) (n m : Nat), (putList t n l).get m = if n ≤ m ∧ m < n + l.length then l[m - n]? else t.get m
  | [], t, n, m => by
    simp only [putList, List.length_nil]
    rw [if_neg (by omega)]
  | x :: l, t, n, m => by
    simp only [putList]
    rw [get_putList l, get_put]
    by_cases h : n + 1 ≤ m ∧ m < n + 1 + l.length
    · rw [if_pos h, if_pos ⟨by omega, by simp; omega⟩, show m - n = (m - (n + 1)) + 1 from by omega]; simp
    · rw [if_neg h]
      by_cases e : m = n
      · subst e; simp
      · rw [if_neg e, if_neg (by simp; omega)]
theorem getList_some : ∀ (k : Nat) (t : Tree α) (n : Nat) (l : List α), t.getList n k = some l → l.length = k ∧ ∀ j, j < k → t.get (n + j) = l[j]?
  | 0, t, n, l, h => by simp only [getList] at h; cases h; exact ⟨rfl, fun j hj => by omega⟩
  | k + 1, t, n, l, h => by
    simp only [getList] at h
    cases h1 : t.get n with
    | none => simp [h1] at h
    | some x =>
      simp only [h1] at h
      cases h2 : t.getList (n + 1) k with
      | none => simp [h2] at h
      | some r =>
        simp only [h2] at h
        cases h
        obtain ⟨hl, hg⟩ := getList_some k t (n + 1) r h2
        refine ⟨by simp [hl], fun j hj => ?_⟩
        cases j with
        | zero => simp [h1]
        | succ j => rw [show n + (j + 1) = n + 1 + j from by omega, hg j (by omega)]; simp
end Go.Am.Tree
