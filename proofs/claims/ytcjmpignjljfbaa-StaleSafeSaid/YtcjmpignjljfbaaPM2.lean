/- The pure machine, part 2: its state and its steps. -/
import Derived.Test.YtcjmpignjljfbaaPM1
namespace Go.PM
set_option linter.unusedVariables false

/-! ### Comparing rows -/
mutual
def beqT : Ty → Ty → Bool
  | .bool, .bool => true
  | .int k, .int k' => decide (k = k')
  | .str, .str => true
  | .sl r, .sl r' => beqR r r'
  | _, _ => false
def beqR : Row → Row → Bool
  | .nil, .nil => true
  | .cons t r, .cons t' r' => beqT t t' && beqR r r'
  | .expr, .expr => true
  | _, _ => false
end

mutual
theorem beqT_eq : ∀ {t t' : Ty}, beqT t t' = true → t = t'
  | .bool, t', h => by cases t' <;> simp_all [beqT]
  | .int k, t', h => by cases t' <;> simp_all [beqT]
  | .str, t', h => by cases t' <;> simp_all [beqT]
  | .sl r, t', h => by
    cases t' <;> simp_all [beqT]
    exact beqR_eq h
theorem beqR_eq : ∀ {r r' : Row}, beqR r r' = true → r = r'
  | .nil, r', h => by cases r' <;> simp_all [beqR]
  | .cons t r, r', h => by
    cases r' <;> simp_all [beqR]
    exact ⟨beqT_eq h.1, beqR_eq h.2⟩
  | .expr, r', h => by cases r' <;> simp_all [beqR]
end

/-! ### Data and cells -/
def inj : (t : Ty) → Den t → Cell
  | .bool, b => .val (.bool b)
  | .int k, n => .val (.int k n)
  | .str, s => .val (.string s)
  | .sl r, l => .sl r l 0

def exCells : Ex → List Cell
  | .mk k s vk vn vs args => [.val (.int .i64 k), .val (.string s), .val (.int .i64 vk), .val (.int .i64 vn), .val (.string vs), .sl .expr args 0]

def expl : (r : Row) → DenR r → List Cell
  | .nil, _ => []
  | .cons t .nil, x => [inj t x]
  | .cons t (.cons u r), x => inj t x.1 :: expl (.cons u r) x.2
  | .cons t .expr, x => inj t x.1 :: exCells x.2
  | .expr, e => exCells e

def castL {r r' : Row} (h : beqR r' r = true) (l : List (DenR r')) : List (DenR r) := beqR_eq h ▸ l

def proj : (t : Ty) → Cell → Option (Den t)
  | .bool, .val (.bool b) => some b
  | .int k, .val (.int k' n) => bif decide (k = k') then some n else none
  | .str, .val (.string s) => some s
  | .sl r, .sl r' l _ => if h : beqR r' r = true then some (castL h l) else none
  | .sl _, .nil => some []
  | _, _ => none

def exOf : List Cell → Option Ex
  | [.val (.int .i64 k), .val (.string s), .val (.int .i64 vk), .val (.int .i64 vn), .val (.string vs), c] =>
    match proj (.sl .expr) c with
    | some args => some (.mk k s vk vn vs args)
    | none => none
  | _ => none

def impl : (r : Row) → List Cell → Option (DenR r)
  | .nil, [] => some ()
  | .cons t .nil, [c] => proj t c
  | .cons t (.cons u r), c :: cs =>
    match proj t c, impl (.cons u r) cs with
    | some x, some y => some (x, y)
    | _, _ => none
  | .cons t .expr, c :: cs =>
    match proj t c, exOf cs with
    | some x, some y => some (x, y)
    | _, _ => none
  | .expr, cs => exOf cs
  | _, _ => none

def rd (r : Row) (l : List (DenR r)) (i : Int) : DenR r := l.getD i.toNat (zeroR r)

/-! ### Types as the machine wants them -/
inductive CK where
  | ckB | ckI | ckS

inductive TI where
  | bool
  | int (k : IntKind)
  | str
  | ptr
  | fn
  | agg (z : List Cell) (fs : List (Nat × Nat × Bool)) (cmp : Option (List CK))
  | slice (e es eb : Nat) (row : Row)

def TI.zero : TI → PV
  | .bool => .one (.val (.bool false))
  | .int k => .one (.val (.int k 0))
  | .str => .one (.val (.string ⟨#[]⟩))
  | .ptr => .one (.val (.pointer none))
  | .fn => .one (.val .nilFunc)
  | .agg z _ _ => .agg z
  | .slice .. => .one .nil

def TI.isAgg : TI → Bool
  | .agg .. => true
  | _ => false

def TI.size : TI → Nat
  | .agg z _ _ => z.length
  | _ => 1

structure Hint where
  tm : List (Nat × Ty × Option Nat)
  bx : List (Nat × Nat × Ty × Option Nat)

def rowOfTys : List Ty → Row
  | [] => .nil
  | t :: ts => .cons t (rowOfTys ts)

@[reducible] def Hint.row (h : Hint) : Row := rowOfTys (h.tm.map (·.2.1) ++ h.bx.map (·.2.2.1))

structure St where
  t : List (Nat × List (Nat × Bool) × PV)
  b : List (List Cell)
  live : List (Nat × Nat)
  nt : Nat
  fresh : Nat
  wr : List (Nat × Nat)
  n : Nat

inductive Ex1 where
  | normal | exit (id : Nat) | ret

def getT : List (Nat × List (Nat × Bool) × PV) → Nat → Option (List (Nat × Bool) × PV)
  | [], _ => none
  | (d, e) :: l, k => bif Nat.beq d k then some e else getT l k

def inIds (p : Nat × Bool) : List (Nat × Bool) → Bool
  | [] => false
  | (t, w) :: l => (Nat.beq p.1 t && (p.2 == w)) || inIds p l

def subIds : List (Nat × Bool) → List (Nat × Bool) → Bool
  | [], _ => true
  | p :: l, ids => inIds p ids && subIds l ids

def constCell : Value → Option Cell
  | .bool b => some (.val (.bool b))
  | .int k n => some (.val (.int k n))
  | .string s => some (.val (.string s))
  | .slice none 0 0 => some .nil
  | .pointer none => some (.val (.pointer none))
  | .nilFunc => some (.val .nilFunc)
  | .func (.func f) a b => bif Nat.beq a.size 0 && Nat.beq b.size 0 then some (.clo f []) else none
  | _ => none

def constCells : List Value → Option (List Cell)
  | [] => some []
  | v :: vs => match constCell v, constCells vs with
    | some c, some cs => some (c :: cs)
    | _, _ => none

def constPV : Value → Option PV
  | .agg cs => match constCells cs.toList with
    | some l => some (.agg l)
    | none => none
  | v => match constCell v with
    | some c => some (.one c)
    | none => none

def St.ev (s : St) (ids : List (Nat × Bool)) : Operand → Option PV
  | .tmp t => match getT s.t t with
    | some (ids', pv) => bif subIds ids' ids then some pv else none
    | none => none
  | .const v => constPV v
  | .func f => some (.one (.clo f []))
  | .global _ => none

/-- No entry hangs on the temporary. -/
def freeOf (d : Nat) : List (Nat × List (Nat × Bool) × PV) → Bool
  | [] => true
  | (_, ids, _) :: l => ids.all (fun p => !(Nat.beq p.1 d)) && freeOf d l

def rmT (d : Nat) : List (Nat × List (Nat × Bool) × PV) → List (Nat × List (Nat × Bool) × PV)
  | [] => []
  | (k, e) :: l => bif Nat.beq k d then rmT d l else (k, e) :: rmT d l

def St.put (s : St) (dst : Option Nat) (ids : List (Nat × Bool)) (v : PV) : Option St :=
  match dst with
  | none => some s
  | some d => bif freeOf d ((d, ids, v) :: s.t) && Nat.blt d s.n then some { s with t := (d, ids, v) :: rmT d s.t } else none

/-! ### Operations that only reckon -/
inductive R where
  | no
  | ok (v : PV)
  | chk (c : Bool) (v : PV)

def isz (n : Nat) : Value := .int .i64 (n : Int)

def binV (op : BinOp) : Value → Value → R
  | .int k a, .int k' b =>
    match op with
    | .shl => .chk (decide (0 ≤ b)) (.one (.val (.int k (k.wrap (a * 2 ^ (min b.toNat k.bits))))))
    | .shr => .chk (decide (0 ≤ b)) (.one (.val (.int k (a.fdiv (2 ^ (min b.toNat k.bits))))))
    | op => bif decide (k = k') then
      (match op with
      | .add => .ok (.one (.val (.int k (k.wrap (a + b)))))
      | .sub => .ok (.one (.val (.int k (k.wrap (a - b)))))
      | .mul => .ok (.one (.val (.int k (k.wrap (a * b)))))
      | .quo => .chk (!(decide (b = 0))) (.one (.val (.int k (k.wrap (a.tdiv b)))))
      | .rem => .chk (!(decide (b = 0))) (.one (.val (.int k (a.tmod b))))
      | .and => .ok (.one (.val (.int k (k.wrap (BitVec.ofInt k.bits a &&& BitVec.ofInt k.bits b).toNat))))
      | .or => .ok (.one (.val (.int k (k.wrap (BitVec.ofInt k.bits a ||| BitVec.ofInt k.bits b).toNat))))
      | .xor => .ok (.one (.val (.int k (k.wrap (BitVec.ofInt k.bits a ^^^ BitVec.ofInt k.bits b).toNat))))
      | .andNot => .ok (.one (.val (.int k (k.wrap (BitVec.ofInt k.bits a &&& ~~~ BitVec.ofInt k.bits b).toNat))))
      | .eql => .ok (.one (.val (.bool (a == b))))
      | .neq => .ok (.one (.val (.bool (a != b))))
      | .lss => .ok (.one (.val (.bool (decide (a < b)))))
      | .leq => .ok (.one (.val (.bool (decide (a ≤ b)))))
      | .gtr => .ok (.one (.val (.bool (decide (a > b)))))
      | .geq => .ok (.one (.val (.bool (decide (a ≥ b)))))
      | _ => .no) else .no
  | .string a, .string b =>
    match op with
    | .add => .chk (decide (((a.size + b.size : Nat) : Int) ≤ IntKind.i64.max)) (.one (.val (.string (a ++ b))))
    | .eql => .ok (.one (.val (.bool (a.toList == b.toList))))
    | .neq => .ok (.one (.val (.bool !(a.toList == b.toList))))
    | .lss => .ok (.one (.val (.bool (Op.bytesLess a.toList b.toList))))
    | .leq => .ok (.one (.val (.bool (Op.bytesLess a.toList b.toList || a.toList == b.toList))))
    | .gtr => .ok (.one (.val (.bool !(Op.bytesLess a.toList b.toList || a.toList == b.toList))))
    | .geq => .ok (.one (.val (.bool !(Op.bytesLess a.toList b.toList))))
    | _ => .no
  | _, _ => .no

def eqCell : CK → Cell → Cell → Option Bool
  | .ckB, .val (.bool a), .val (.bool b) => some (a == b)
  | .ckI, .val (.int k a), .val (.int k' b) => bif decide (k = k') then some (a == b) else none
  | .ckS, .val (.string a), .val (.string b) => some (a.toList == b.toList)
  | _, _, _ => none

def eqCells : List CK → List Cell → List Cell → Option Bool
  | [], [], [] => some true
  | [k], [a], [b] => eqCell k a b
  | k :: ks, a :: as, b :: bs => match eqCell k a b, eqCells ks as bs with
    | some x, some y => some (x && y)
    | _, _ => none
  | _, _, _ => none

def unV : UnOp → Value → R
  | .not, .bool b => .ok (.one (.val (.bool !b)))
  | .neg, .int k n => .ok (.one (.val (.int k (k.wrap (0 - n)))))
  | .xor, .int k n => .ok (.one (.val (.int k (k.wrap (BitVec.ofInt k.bits (if k.signed then -1 else k.max) ^^^ BitVec.ofInt k.bits n).toNat))))
  | _, _ => .no

def cellsAt (agg : Bool) (n off : Nat) (cs : List Cell) : R :=
  match agg with
  | true => bif Nat.ble (off + n) cs.length then .ok (.agg ((cs.drop off).take n)) else .no
  | false => match cs[off]? with
    | some c => .ok (.one c)
    | none => .no

/-- The cells that a pointer leads to, from its block's begin, and its place there. -/
def St.deref (s : St) : Cell → Option (List Cell × Nat)
  | .box b off => match s.b[b]? with
    | some cs => some (cs, off)
    | none => none
  | .elt r x off => some (expl r x, off)
  | _ => none

def oneC : Cell → Bool
  | .val v => v.oneCell'
  | _ => true

def pvCells : PV → Option (List Cell)
  | .one c => bif oneC c then some [c] else none
  | .agg cs => some cs
  | _ => none

def fillC (fs : List (Nat × Nat × Bool)) : List (Nat × List Cell) → List Cell → Option (List Cell)
  | [], z => some z
  | (i, cs) :: ps, z => match fs[i]? with
    | some (o, n, _) => bif Nat.beq cs.length n && Nat.ble (o + n) z.length then fillC fs ps (z.take o ++ (cs ++ z.drop (o + n))) else none
    | none => none

def evParts (ev : Operand → Option PV) : List (Nat × Operand) → Option (List (Nat × List Cell))
  | [] => some []
  | (i, x) :: ps => match ev x, evParts ev ps with
    | some v, some l => (match pvCells v with
      | some cs => some ((i, cs) :: l)
      | none => none)
    | _, _ => none

def intOfPV : PV → Option Int
  | .one (.val (.int _ n)) => some n
  | _ => none

def boolOfPV : PV → Option Bool
  | .one (.val (.bool b)) => some b
  | _ => none

/-- Bounds of a slice expression. -/
def boundOf (ev : Operand → Option PV) (x : Option Operand) (dflt : Int) : Option Int :=
  match x with
  | none => some dflt
  | some o => match ev o with
    | some v => intOfPV v
    | none => none

def allV (c : Bool) (v : PV) : R := .chk c v

def foldV (f : Value → Value → Option Value) : Value → List Value → Option Value
  | a, [] => some a
  | a, b :: l => match f a b with
    | some c => foldV f c l
    | none => none

def maxV : Value → Value → Option Value
  | .int k x, .int _ y => some (.int k (if y > x then y else x))
  | .string x, .string y => some (.string (if !(Op.bytesLess x.toList y.toList) then x else y))
  | _, _ => none

def minV : Value → Value → Option Value
  | .int k x, .int _ y => some (.int k (if y < x then y else x))
  | .string x, .string y => some (.string (if Op.bytesLess x.toList y.toList || x.toList == y.toList then x else y))
  | _, _ => none

def valsOf (ev : Operand → Option PV) : List Operand → Option (List Value)
  | [] => some []
  | x :: xs => match ev x, valsOf ev xs with
    | some (.one (.val v)), some vs => some (v :: vs)
    | _, _ => none

/-- What an operation that only reckons and reads gives. -/
def opV (ti : Nat → Option TI) (s : St) (ids : List (Nat × Bool)) : Op → R
  | .move x | .assign x => match s.ev ids x with
    | some v => .ok v
    | none => .no
  | .pick (.tmp t) a b => match s.ev ids (.tmp t), s.ev ((t, true) :: ids) a, s.ev ((t, false) :: ids) b with
    | some (.one (.val (.bool c))), some (.one (.val (.bool x))), some (.one (.val (.bool y))) => .ok (.one (.val (.bool (bif c then x else y))))
    | some (.one (.val (.bool true))), some v, _ => .ok v
    | some (.one (.val (.bool false))), _, some v => .ok v
    | _, _, _ => .no
  | .load t a => match ti t, s.ev ids a with
    | some ty, some (.one c) => (match s.deref c with
      | some (cs, off) => cellsAt ty.isAgg ty.size off cs
      | none => .no)
    | _, _ => .no
  | .fieldAddr st x f => match ti st, s.ev ids x with
    | some (.agg _ fs _), some (.one c) => (match fs[f]? with
      | some (o, n, _) => bif Nat.beq n 0 then .no else
        (match c with
        | .box b off => .ok (.one (.box b (off + o)))
        | .elt r y off => .ok (.one (.elt r y (off + o)))
        | _ => .no)
      | none => .no)
    | _, _ => .no
  | .field st x f => match ti st, s.ev ids x with
    | some (.agg _ fs _), some (.agg cs) => (match fs[f]? with
      | some (o, n, g) => cellsAt g n o cs
      | none => .no)
    | _, _ => .no
  | .indexAddr t x i => match ti t, s.ev ids x, s.ev ids i with
    | some (.slice _ es _ _), some (.one (.sl r l _)), some (.one (.val (.int _ n))) =>
      bif Nat.beq es (sz r) && Nat.blt 0 es then .chk (decide (0 ≤ n) && decide (n < (l.length : Int))) (.one (.elt r (rd r l n) 0)) else .no
    | _, _, _ => .no
  | .index t x i => match ti t, s.ev ids x, s.ev ids i with
    | some .str, some (.one (.val (.string b))), some (.one (.val (.int _ n))) =>
      .chk (decide (0 ≤ n) && decide (n < (b.size : Int))) (.one (.val (.int .u8 ((b.data.getD n.toNat 0).toNat : Int))))
    | _, _, _ => .no
  | .slice t x lo hi none => match ti t, s.ev ids x with
    | some .str, some (.one (.val (.string b))) => (match boundOf (s.ev ids) lo 0, boundOf (s.ev ids) hi (b.size : Int) with
      | some l, some h => .chk (decide (0 ≤ l) && (decide (l ≤ h) && decide (h ≤ (b.size : Int)))) (.one (.val (.string (b.extract l.toNat h.toNat))))
      | _, _ => .no)
    | some (.slice _ es _ _), some (.one (.sl r q _)) => (match boundOf (s.ev ids) lo 0, boundOf (s.ev ids) hi (q.length : Int) with
      | some l, some h => bif Nat.beq es (sz r) then .chk (decide (0 ≤ l) && (decide (l ≤ h) && decide (h ≤ (q.length : Int)))) (.one (.sl r ((q.take h.toNat).drop l.toNat) 0)) else .no
      | _, _ => .no)
    | _, _ => .no
  | .binOp op t x y _ => match s.ev ids x, s.ev ids y with
    | some (.one (.val (.bool a))), some (.one (.val (.bool b))) => (match op, ti t with
      | .eql, some .bool => .ok (.one (.val (.bool (a == b))))
      | .neq, some .bool => .ok (.one (.val (.bool !(a == b))))
      | _, _ => .no)
    | some (.one (.val a)), some (.one (.val b)) => binV op a b
    | some (.agg as), some (.agg bs) => (match op, ti t with
      | .eql, some (.agg _ _ (some ks)) => (match eqCells ks as bs with
        | some c => .ok (.one (.val (.bool c)))
        | none => .no)
      | .neq, some (.agg _ _ (some ks)) => (match eqCells ks as bs with
        | some c => .ok (.one (.val (.bool !c)))
        | none => .no)
      | _, _ => .no)
    | _, _ => .no
  | .unOp op _ x => match s.ev ids x with
    | some (.one (.val a)) => unV op a
    | _ => .no
  | .convert src dst x => match ti src, ti dst, s.ev ids x with
    | some (.int _), some (.int k), some (.one (.val (.int _ n))) => .ok (.one (.val (.int k (k.wrap n))))
    | some .str, some .str, some (.one (.val (.string b))) => .ok (.one (.val (.string b)))
    | _, _, _ => .no
  | .extract x i => match s.ev ids x with
    | some (.tup ps) => (match ps[i]? with
      | some (false, [c]) => .ok (.one c)
      | some (true, cs) => .ok (.agg cs)
      | _ => .no)
    | _ => .no
  | .build t ps => match ti t, evParts (s.ev ids) ps.toList with
    | some (.agg z fs _), some l => (match fillC fs l z with
      | some cs => .ok (.agg cs)
      | none => .no)
    | _, _ => .no
  | .call { callee := .builtin .len, args := as, argTypes := ts } => match as.toList, ts.toList with
    | [x], [t] => (match ti t, s.ev ids x with
      | some .str, some (.one (.val (.string b))) => .ok (.one (.val (isz b.size)))
      | some (.slice ..), some (.one (.sl _ l _)) => .ok (.one (.val (isz l.length)))
      | some (.slice ..), some (.one .nil) => .ok (.one (.val (isz 0)))
      | _, _ => .no)
    | _, _ => .no
  | .call { callee := .builtin .max, args := as, argTypes := _ } => match valsOf (s.ev ids) as.toList with
    | some (v :: vs) => (match foldV maxV v vs with
      | some u => .ok (.one (.val u))
      | none => .no)
    | _ => .no
  | .call { callee := .builtin .min, args := as, argTypes := _ } => match valsOf (s.ev ids) as.toList with
    | some (v :: vs) => (match foldV minV v vs with
      | some u => .ok (.one (.val u))
      | none => .no)
    | _ => .no
  | .makeFunc (.func f) fs cs => match fs.toList, cs.toList with
    | [], [] => .ok (.one (.clo f []))
    | _, _ => .no
  | _ => .no

end Go.PM
