/- The pure machine, part 3: regions, code, calls. -/
import Derived.Test.YtcjmpignjljfbaaPM2
import Derived.Still
namespace Go.PM
set_option linter.unusedVariables false

/-- The rounds of a loop, each handing its frame on. -/
def loopT {ρ τ : Type} : Nat → ((τ → Option ρ) → τ → Option ρ) → τ → Option ρ
  | 0, _, _ => none
  | k + 1, B, v => B (loopT k B) v

def strip : Cell → Cell
  | .sl r l _ => .sl r l 0
  | c => c

def PV.strip : PV → PV
  | .one c => .one (PM.strip c)
  | .agg cs => .agg (cs.map PM.strip)
  | .tup ps => .tup (ps.map fun p => (p.1, p.2.map PM.strip))
  | .no => .no

/-- What a function is known to give: a test, and its value if the test holds; 'own' slices of the value are marked by their elements' type, plus one. -/
abbrev Spec := List PV → Option (Bool × PV)

structure Ctx where
  ti : Nat → Option TI
  spec : FuncId → Option Spec
  n : Nat

abbrev CallSem (ρ : Type) := FuncId → List PV → St → (PV → St → Option ρ) → Option ρ

/-! ### Own slices of a call's value get names of their own. -/
def adoptCs : Nat → List Cell → List Cell
  | _, [] => []
  | k, .sl r l tok :: cs => (match tok with
    | 0 => .sl r l 0 :: adoptCs k cs
    | _ + 1 => .sl r l (k + 1) :: adoptCs (k + 1) cs)
  | k, c :: cs => c :: adoptCs k cs

def ownCs : List Cell → List Nat
  | [] => []
  | .sl _ _ (e + 1) :: cs => e :: ownCs cs
  | _ :: cs => ownCs cs

def adoptT : Nat → List (Bool × List Cell) → List (Bool × List Cell)
  | _, [] => []
  | k, (g, cs) :: ps => (g, adoptCs k cs) :: adoptT (k + (ownCs cs).length) ps

def ownT : List (Bool × List Cell) → List Nat
  | [] => []
  | (_, cs) :: ps => ownCs cs ++ ownT ps

def PV.adopt (k : Nat) : PV → PV
  | .one c => (match adoptCs k [c] with
    | [d] => .one d
    | _ => .no)
  | .agg cs => .agg (adoptCs k cs)
  | .tup ps => .tup (adoptT k ps)
  | .no => .no

def PV.own : PV → List Nat
  | .one c => ownCs [c]
  | .agg cs => ownCs cs
  | .tup ps => ownT ps
  | .no => []

def nameOwn : Nat → List Nat → List (Nat × Nat)
  | _, [] => []
  | k, e :: es => (k, e) :: nameOwn (k + 1) es

def St.adopt (s : St) (v : PV) : St := { s with live := nameOwn s.nt v.own ++ s.live, nt := s.nt + v.own.length }

/-! ### One operation -/
inductive Gd where
  | bad
  | skip
  | run (ids : List (Nat × Bool)) (g : Option Bool)

def lit (s : St) (t : Nat) (w : Bool) : Bool :=
  match getT s.t t with
  | some (_, .one (.val (.bool b))) => (match w with
    | true => b
    | false => !b)
  | _ => true

def gB (s : St) : List (Nat × Bool) → Bool
  | [] => true
  | [(t, w)] => lit s t w
  | (t, w) :: l => gB s l && lit s t w

def guardOf (ops : Array Oper) (s : St) (o : Oper) : Gd :=
  match o.guard with
  | none => .run [] none
  | some (j, want) => match (ops[j]?).bind (·.dst) with
    | none => .bad
    | some t => match getT s.t t with
      | some (ids, .one (.val (.bool _))) => .run ((t, want) :: ids) (some (gB s ((t, want) :: ids)))
      | some (_, .no) => .skip
      | _ => .bad

def evArgs (ev : Operand → Option PV) : List Operand → Option (List PV)
  | [] => some []
  | x :: xs => match ev x, evArgs ev xs with
    | some v, some vs => some (v :: vs)
    | _, _ => none

def dataC : Cell → Bool
  | .val _ => true
  | .sl .. => true
  | .nil => true
  | .clo _ [] => true
  | _ => false

def PV.data : PV → Bool
  | .one c => dataC c
  | .agg cs => cs.all dataC
  | .tup ps => ps.all fun p => p.2.all dataC
  | .no => true

def callR (cx : Ctx) (f : PV) (args : Option (List PV)) : R :=
  match f, args with
  | .one (.clo f []), some as => (match cx.spec f with
    | some g => (match g as with
      | some (c, v) => bif v.data then .chk c v.strip else .no
      | none => .no)
    | none => .no)
  | _, _ => .no

/-- An operation that leaves the machine's boxes alone. -/
def opP (cx : Ctx) (s : St) (ids : List (Nat × Bool)) (calls : Bool) : Op → R
  | .call { callee := .value f, args := as, argTypes := ts } => (match calls, s.ev ids f with
    | true, some fv => callR cx fv (evArgs (s.ev ids) as.toList)
    | _, _ => .no)
  | op => opV cx.ti s ids op

def newBox (s : St) (cs : List Cell) : St := { s with b := s.b ++ [cs] }

def setCells (cs : List Cell) (off : Nat) (vs : List Cell) : List Cell := cs.take off ++ (vs ++ cs.drop (off + vs.length))

def mayWrite (s : St) (b : Nat) : Nat → Nat → Bool
  | _, 0 => true
  | off, k + 1 => (Nat.ble s.fresh b || s.wr.any (fun p => Nat.beq p.1 b && Nat.beq p.2 off)) && mayWrite s b (off + 1) k

def implAll (r : Row) : List (List Cell) → Option (List (DenR r))
  | [] => some []
  | cs :: l => match impl r cs, implAll r l with
    | some x, some xs => some (x :: xs)
    | _, _ => none

def inOrder : Nat → List (Nat × List Cell) → Bool
  | _, [] => true
  | k, (i, _) :: l => Nat.beq i k && inOrder (k + 1) l

def LIM : Nat := 140737488355328

/-- Elements behind a slice's own: its list, its name, its elements' type; what was there before. -/
def appendL (s : St) (e es eb : Nat) (row : Row) (c : Cell) (more : Cell) : Option (Bool × Cell × St) :=
  let go (l0 : List (DenR row)) (live : List (Nat × Nat)) : Option (Bool × Cell × St) :=
    match proj (.sl row) more with
    | some l1 => some (Nat.ble ((l0.length + l1.length) * eb) LIM, .sl row (l0 ++ l1) (s.nt + 1), { s with live := (s.nt, e) :: live, nt := s.nt + 1 })
    | none => none
  bif Nat.beq es (sz row) && (Nat.blt 0 es && Nat.blt 0 eb) then
    (match c with
    | .nil => go [] s.live
    | .sl r l (k + 1) => bif s.live.any (fun p => Nat.beq p.1 k && Nat.beq p.2 e) then (match proj (.sl row) (.sl r l 0) with
      | some l0 => go l0 (s.live.filter fun p => !(Nat.beq p.1 k))
      | none => none) else none
    | _ => none)
  else none

/-- An operation that makes or writes memory, or calls. -/
def denMem {ρ : Type} (cx : Ctx) (CS : CallSem ρ) (s : St) (ids : List (Nat × Bool)) (o : Op) (k : PV → St → Option ρ) : Option ρ :=
  match o with
  | .alloc t => (match cx.ti t with
    | some ty => (match pvCells ty.zero with
      | some cs => k (.one (.box s.b.length 0)) (newBox s cs)
      | none => none)
    | none => none)
  | .box t x => (match s.ev ids x with
    | some v => (match pvCells v with
      | some cs => k (.one (.box s.b.length 0)) (newBox s cs)
      | none => none)
    | none => none)
  | .store t a x => (match cx.ti t, s.ev ids a, s.ev ids x with
    | some ty, some (.one (.box b off)), some v => (match pvCells v, s.b[b]? with
      | some vs, some cs => bif Nat.beq vs.length ty.size && (Nat.ble (off + vs.length) cs.length && mayWrite s b off vs.length) then
          k .no { s with b := s.b.set b (setCells cs off vs) } else none
      | _, _ => none)
    | _, _, _ => none)
  | .buildSlice t len ps => (match cx.ti t, evParts (s.ev ids) ps.toList with
    | some (.slice e es eb row), some l => bif Nat.beq es (sz row) && (Nat.blt 0 es && (Nat.beq l.length len && (inOrder 0 l && Nat.ble (len * es) 16777216))) then
        (match implAll row (l.map (·.2)) with
        | some xs => k (.one (.sl row xs (s.nt + 1))) { s with live := (s.nt, e) :: s.live, nt := s.nt + 1 }
        | none => none) else none
    | _, _ => none)
  | .call { callee := .builtin .append, args := as, argTypes := ts } => (match as.toList, ts.toList with
    | [x, y], [t, u] => bif Nat.beq t u then (match cx.ti t, s.ev ids x, s.ev ids y with
      | some (.slice e es eb row), some (.one c), some (.one d) => (match appendL s e es eb row c d with
        | some (q, c', s') => bif q then k (.one c') s' else none
        | none => none)
      | _, _, _ => none) else none
    | _, _ => none)
  | .call { callee := .value f, args := as, argTypes := _ } => (match s.ev ids f, evArgs (s.ev ids) as.toList with
    | some (.one (.clo f [])), some vs => CS f vs s k
    | _, _ => none)
  | _ => none

def putK {ρ : Type} (s : St) (dst : Option Nat) (ids : List (Nat × Bool)) (v : PV) (k : St → Option ρ) : Option ρ :=
  match s.put dst ids v with
  | some s' => k s'
  | none => none

def denOp {ρ : Type} (cx : Ctx) (CS : CallSem ρ) (ops : Array Oper) (o : Oper) (k : St → Option ρ) (s : St) : Option ρ :=
  match guardOf ops s o with
  | .bad => none
  | .skip => putK s o.dst [] .no k
  | .run ids g => match opP cx s ids g.isSome o.op with
    | .ok v => putK s o.dst ids v k
    | .chk c v => (match g with
      | none => bif c then putK s o.dst ids v k else none
      | some g => bif !g || c then putK s o.dst ids v k else none)
    | .no => (match g with
      | none => denMem cx CS s [] o.op fun v s' => putK s' o.dst [] v k
      | some g => (match ids with
        | [_] => bif g then denMem cx CS s ids o.op fun v s' => putK s' o.dst ids v k else putK s o.dst [] .no k
        | _ => none))

def denOps {ρ : Type} (cx : Ctx) (CS : CallSem ρ) (ops : Array Oper) : List Oper → (St → Option ρ) → St → Option ρ
  | [], k => k
  | o :: os, k => denOp cx CS ops o (denOps cx CS ops os k)

/-! ### Regions whose order is open -/
def scalC : Cell → Bool
  | .val _ => true
  | _ => false

def hasNat (d : Nat) : List Nat → Bool
  | [] => false
  | e :: l => Nat.beq e d || hasNat d l

def distinctN : List Nat → Bool
  | [] => true
  | d :: l => !(hasNat d l) && distinctN l

def keepT (ds : List Nat) : List (Nat × List (Nat × Bool) × PV) → List (Nat × List (Nat × Bool) × PV)
  | [] => []
  | (d, [], v) :: l => bif hasNat d ds then keepT ds l else (d, [], v) :: keepT ds l
  | _ :: l => keepT ds l

def depsL : List Edge → List Nat
  | [] => []
  | e :: l => bif Region.binds .any e then e.on :: depsL l else depsL l

def depsOf (o : Oper) : List Nat := depsL o.after.toList

def addN : List Nat → List Nat → List Nat
  | [], r => r
  | j :: l, r => bif hasNat j r then addN l r else addN l (j :: r)

def anc (ancs : List (List Nat)) (i : Nat) : List Nat := ancs.getD i []

def ancStep (ancs : List (List Nat)) : List Nat → List Nat
  | [] => []
  | j :: l => addN (j :: anc ancs j) (ancStep ancs l)

def ancAll : List Oper → List (List Nat) → List (List Nat)
  | [], acc => acc
  | o :: os, acc => ancAll os (acc ++ [ancStep acc (depsOf o)])

def ancOk1 (ancs : List (List Nat)) (i : Nat) (o : Oper) : Bool :=
  (depsOf o).all (fun d => Nat.blt d i) && (anc ancs i).all (fun j => hasNat j (depsOf o) || (depsOf o).any (fun d => hasNat j (anc ancs d)))

def ancOk (ancs : List (List Nat)) : Nat → List Oper → Bool
  | _, [] => true
  | i, o :: os => ancOk1 ancs i o && ancOk ancs (i + 1) os

/-- Who writes the temporary waits for number 'i', or is it. -/
def startOk (ancs : List (List Nat)) (i d : Nat) : Nat → List Oper → Bool
  | _, [] => true
  | k, o :: os => (match o.dst with
    | some d' => !(Nat.beq d' d) || (Nat.beq k i || hasNat i (anc ancs k))
    | none => true) && startOk ancs i d (k + 1) os

/-- Who writes the temporary is one that number 'j' waits for. -/
def wrOk (ancs : List (List Nat)) (j d : Nat) : Nat → List Oper → Bool
  | _, [] => true
  | k, o :: os => (match o.dst with
    | some d' => !(Nat.beq d' d) || hasNat k (anc ancs j)
    | none => true) && wrOk ancs j d (k + 1) os

def isMemOp : Op → Bool
  | .alloc _ => true
  | .box .. => true
  | .store .. => true
  | .buildSlice .. => true
  | .call { callee := .builtin .append, args := _, argTypes := _ } => true
  | _ => false

/-- Each operation that makes or writes memory waits for number 'i', or it for that one. -/
def exactB (ancs : List (List Nat)) (i : Nat) : Nat → List Oper → Bool
  | _, [] => true
  | k, o :: os => (!(isMemOp o.op) || (hasNat k (anc ancs i) || (hasNat i (anc ancs k) || Nat.beq k i))) && exactB ancs i (k + 1) os

def allExact (ancs : List (List Nat)) (all : List Oper) : Nat → List Oper → Bool
  | _, [] => true
  | k, _ :: os => exactB ancs k 0 all && allExact ancs all (k + 1) os

/-- Each operation that makes or writes memory has its place among all of these. -/
def memExact (ancs : List (List Nat)) (all : List Oper) : Nat → List Oper → Bool
  | _, [] => true
  | k, o :: os => (!(isMemOp o.op) || exactB ancs k 0 all) && memExact ancs all (k + 1) os

abbrev TE := List (Nat × Nat × List (Nat × Bool) × PV)

def pickT (an : List Nat) : TE → List (Nat × List (Nat × Bool) × PV)
  | [] => []
  | (j, e) :: l => bif hasNat j an then e :: pickT an l else pickT an l

def startT (ancs : List (List Nat)) (os : List Oper) (i : Nat) : List (Nat × List (Nat × Bool) × PV) → List (Nat × List (Nat × Bool) × PV)
  | [] => []
  | (d, [], v) :: l => bif startOk ancs i d 0 os then (d, [], v) :: startT ancs os i l else startT ancs os i l
  | _ :: l => startT ancs os i l

def stAt (ancs : List (List Nat)) (os : List Oper) (s0 M : St) (i : Nat) (T : TE) : St :=
  { (bif exactB ancs i 0 os then M else s0) with t := pickT (anc ancs i) T ++ startT ancs os i s0.t }

def ent (i : Nat) (o : Oper) (ids : List (Nat × Bool)) (v : PV) (T : TE) : TE :=
  match o.dst with
  | some d => (i, d, ids, v) :: T
  | none => T

def idsOk (ancs : List (List Nat)) (os : List Oper) : TE → Bool
  | [] => true
  | (j, _, ids, _) :: T => ids.all (fun p => wrOk ancs j p.1 0 os) && idsOk ancs os T

/-- What an operation that makes or writes memory does, told as a value. -/
def memV (cx : Ctx) (s : St) (op : Op) : Option (Bool × PV × St) :=
  match op with
  | .call { callee := .builtin .append, args := as, argTypes := ts } => (match as.toList, ts.toList with
    | [x, y], [t, u] => bif Nat.beq t u then (match cx.ti t, s.ev [] x, s.ev [] y with
      | some (.slice e es eb row), some (.one c), some (.one d) => (match appendL s e es eb row c d with
        | some (q, c', s') => some (q, .one c', s')
        | none => none)
      | _, _, _ => none) else none
    | _, _ => none)
  | op => (match denMem (ρ := PV × St) cx (fun _ _ _ _ => none) s [] op (fun v s' => some (v, s')) with
    | some (v, s') => some (true, v, s')
    | none => none)

def denAnyL {ρ : Type} (cx : Ctx) (ops : Array Oper) (os : List Oper) (ancs : List (List Nat)) (s0 : St) (K : St → Option ρ) : Nat → List Oper → TE → St → Option ρ
  | _, [], T, M => bif idsOk ancs os T then K { M with t := T.map (·.2) ++ keepT (os.filterMap (·.dst)) s0.t, fresh := s0.fresh, wr := s0.wr } else none
  | i, o :: l, T, M =>
    match guardOf ops (stAt ancs os s0 M i T) o with
    | .bad => none
    | .skip => denAnyL cx ops os ancs s0 K (i + 1) l (ent i o [] .no T) M
    | .run ids g => match opP cx (stAt ancs os s0 M i T) ids true o.op with
      | .ok v => denAnyL cx ops os ancs s0 K (i + 1) l (ent i o ids v T) M
      | .chk c v => (match g with
        | none => bif c then denAnyL cx ops os ancs s0 K (i + 1) l (ent i o ids v T) M else none
        | some g => bif !g || c then denAnyL cx ops os ancs s0 K (i + 1) l (ent i o ids v T) M else none)
      | .no => bif isMemOp o.op && exactB ancs i 0 os then (match g with
        | none => (match memV cx (stAt ancs os s0 M i T) o.op with
          | some (c, v, s') => bif c then denAnyL cx ops os ancs s0 K (i + 1) l (ent i o [] v T) { s' with t := [] } else none
          | none => none)
        | some _ => none) else none

def lockAt (ancs : List (List Nat)) (os : List Oper) (s0 : St) : St :=
  bif allExact ancs os 0 os then { s0 with t := [] } else { s0 with t := [], fresh := s0.b.length, wr := [] }

def denAny {ρ : Type} (cx : Ctx) (ops : Array Oper) (ancs : List (List Nat)) (K : St → Option ρ) (s0 : St) : Option ρ :=
  bif ancOk ancs 0 ops.toList && (distinctN (ops.toList.filterMap (·.dst)) && ((ops.toList.filterMap (·.dst)).all (fun d => Nat.blt d s0.n) && memExact ancs ops.toList 0 ops.toList)) then
    denAnyL cx ops ops.toList ancs s0 K 0 ops.toList [] (lockAt ancs ops.toList s0)
  else none

/-! ### Code -/
def dsts : Code → List Nat
  | .region _ ops _ => ops.toList.filterMap (·.dst)
  | .seq a b => dsts a ++ dsts b
  | .cond _ a b => dsts a ++ dsts b
  | .block _ c => dsts c
  | .loop c => dsts c
  | _ => []

def plainT : List (Nat × List (Nat × Bool) × PV) → List (Nat × List (Nat × Bool) × PV)
  | [] => []
  | (d, [], v) :: l => (d, [], v) :: plainT l
  | _ :: l => plainT l

def St.cellB (s : St) (b off : Nat) : Option Cell :=
  match s.b[b]? with
  | some cs => cs[off]?
  | none => none

def ownOk (s : St) (o : Option Nat) (c : Cell) : Bool :=
  match o with
  | none => true
  | some e => match c with
    | .nil => true
    | .sl _ _ (k + 1) => s.live.any (fun p => Nat.beq p.1 k && Nat.beq p.2 e)
    | _ => false

def tokOf : Option Nat → Cell → List Nat
  | some _, .sl _ _ (k + 1) => [k]
  | _, _ => []

def getTm (s : St) : List (Nat × Ty × Option Nat) → Option (List (Option Nat × Cell))
  | [] => some []
  | (d, _, o) :: l => match getT s.t d, getTm s l with
    | some ([], .one c), some cs => bif ownOk s o c then some ((o, c) :: cs) else none
    | _, _ => none

def getBx (s : St) : List (Nat × Nat × Ty × Option Nat) → Option (List (Option Nat × Cell))
  | [] => some []
  | (b, off, _, o) :: l => match s.cellB b off, getBx s l with
    | some c, some cs => bif ownOk s o c then some ((o, c) :: cs) else none
    | _, _ => none

def toksOf : List (Option Nat × Cell) → List Nat
  | [] => []
  | (o, c) :: l => tokOf o c ++ toksOf l

def Hint.get (h : Hint) (s : St) : Option (DenR h.row) :=
  match getTm s h.tm, getBx s h.bx with
  | some l, some m => bif distinctN (toksOf (l ++ m)) then impl h.row ((l ++ m).map (·.2)) else none
  | _, _ => none

/-- The frame's cells with names for the slices that may grow. -/
def nameCs : Nat → List (Option Nat) → List Cell → List Cell
  | _, [], _ => []
  | _, _, [] => []
  | k, none :: os, c :: cs => c :: nameCs k os cs
  | k, some e :: os, c :: cs => (match c with
    | .sl r l _ => .sl r l (k + 1) :: nameCs (k + 1) os cs
    | c => c :: nameCs k os cs)

def nameL : Nat → List (Option Nat) → List Cell → List (Nat × Nat)
  | _, [], _ => []
  | _, _, [] => []
  | k, none :: os, c :: cs => nameL k os cs
  | k, some e :: os, c :: cs => (match c with
    | .sl r l _ => (k, e) :: nameL (k + 1) os cs
    | c => nameL k os cs)

def setTm : List (Nat × Ty × Option Nat) → List Cell → List (Nat × List (Nat × Bool) × PV) → List (Nat × List (Nat × Bool) × PV)
  | (d, _, _) :: l, c :: cs, t => (d, [], .one c) :: setTm l cs t
  | _, _, t => t

def setBx : List (Nat × Nat × Ty × Option Nat) → List Cell → List (List Cell) → List (List Cell)
  | (b, off, _, _) :: l, c :: cs, bs => setBx l cs (bs.set b ((bs.getD b []).set off c))
  | _, _, bs => bs

def Hint.owns (h : Hint) : List (Option Nat) := h.tm.map (·.2.2) ++ h.bx.map (·.2.2.2)

def Hint.put (h : Hint) (ds : List Nat) (s : St) (v : DenR h.row) : St :=
  let cs := nameCs s.nt h.owns (expl h.row v)
  let lv := nameL s.nt h.owns (expl h.row v)
  { t := setTm h.tm cs (keepT ds s.t), b := setBx h.bx (cs.drop h.tm.length) s.b, live := lv, nt := s.nt + lv.length,
    fresh := s.b.length, wr := h.bx.map (fun p => (p.1, p.2.1)), n := s.n }

/-- The frame's cells were there to be written. -/
def Hint.may (h : Hint) (s : St) : Bool := h.bx.all fun p => mayWrite s p.1 p.2.1 1

def St.relock (s s0 : St) : St := { s with fresh := s0.fresh, wr := s0.wr }

def den {ρ : Type} (cx : Ctx) (CS : CallSem ρ) (H : Nat → Option Hint) : Nat → Code → (Ex1 → St → Option ρ) → St → Option ρ
  | _, .skip, K, s => K .normal s
  | _, .region _ ops draw, K, s => (match draw with
    | false => denOps cx CS ops ops.toList (K .normal) { s with t := plainT s.t }
    | true => denAny cx ops (ancAll ops.toList []) (K .normal) s)
  | bid, .seq a b, K, s => den cx CS H bid a (fun e s' => match e with
    | .normal => den cx CS H bid b K s'
    | .exit i => K (.exit i) s'
    | .ret => K .ret s') s
  | bid, .cond c x y, K, s => (match s.ev [] c with
    | some (.one (.val (.bool b))) => bif b then den cx CS H bid x K s else den cx CS H bid y K s
    | _ => none)
  | _, .block id c, K, s => den cx CS H id c (fun e s' => match e with
    | .normal => K .normal s'
    | .exit i => bif Nat.beq i id then K .normal s' else K (.exit i) s'
    | .ret => K .ret s') s
  | bid, .loop c, K, s => (match H bid with
    | none => none
    | some h => bif h.may s then (match h.get s with
      | none => none
      | some v0 => loopT cx.n (fun R v => den cx CS H bid c (fun e s' => match e with
        | .normal => (match h.get s' with
          | some v' => R v'
          | none => none)
        | .exit i => K (.exit i) (s'.relock s)
        | .ret => K .ret (s'.relock s)) (h.put (dsts c) s v)) v0) else none)
  | _, .exit id, K, s => K (.exit id) s
  | _, .ret, K, s => K .ret s
  | _, _, _, _ => none

/-! ### Calls -/
structure Body where
  code : Code
  ntmps : Nat
  results : List ResultVar
  hints : Nat → Option Hint

def argsT : Nat → List PV → List (Nat × List (Nat × Bool) × PV)
  | _, [] => []
  | k, v :: vs => (k, [], v) :: argsT (k + 1) vs

def retOne (cx : Ctx) (s : St) : ResultVar → Option (Bool × List Cell)
  | .tmp t => (match getT s.t t with
    | some ([], .one c) => some (false, [c])
    | some ([], .agg cs) => some (true, cs)
    | _ => none)
  | .cell a t => (match cx.ti t, getT s.t a with
    | some ty, some ([], .one c) => (match s.deref c with
      | some (cs, off) => (match cellsAt ty.isAgg ty.size off cs with
        | .ok (.one c) => some (false, [c])
        | .ok (.agg cs) => some (true, cs)
        | _ => none)
      | none => none)
    | _, _ => none)

def retAll (cx : Ctx) (s : St) : List ResultVar → Option (List (Bool × List Cell))
  | [] => some []
  | r :: rs => match retOne cx s r, retAll cx s rs with
    | some p, some ps => some (p :: ps)
    | _, _ => none

def retPV (cx : Ctx) (s : St) (rs : List ResultVar) : Option PV :=
  match retAll cx s rs with
  | some [(false, [c])] => some (.one c)
  | some [(true, cs)] => some (.agg cs)
  | some ps => some (.tup ps)
  | none => none

def callSpec {ρ : Type} (cx : Ctx) (g : Spec) (vs : List PV) (s : St) (k : PV → St → Option ρ) : Option ρ :=
  match g vs with
  | some (c, v) => bif c then k (v.adopt s.nt) (s.adopt v) else none
  | none => none

end Go.PM
