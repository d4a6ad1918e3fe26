/- The framework, part B: abstract values, the state of a call, operations, code, and the interpreter. The framework, part C: what relates the interpreter's state to slots and memory, and that a step keeps it. Conditions: none. -/
import Derived.Test.YtjldolmokfnkoaaGreatDoorFwA
namespace Go.Fw
open Go

/-- Where mutable cells lie: in a box of the call, or in the row that a slot holds alone. -/
inductive Rt where
  | b (n : Nat)
  | t (n : Nat)
  deriving DecidableEq

abbrev Path := List (Nat × Nat × Nat)

/-- An abstract value of a slot. -/
inductive TV where
  | pl (a : Bool) (cs : List AC)
  | tup (vs : List (Bool × List AC))
  | ptr (r : Rt) (path : Path) (off : Nat)
  | view (cs : List AC)
  | ali (r : Rt) (path : Path) (off : Nat)
  | fn (f : FuncId) (caps : List (List AC))
  | mp (es : List (Int × Bool))
  | pfx (s k : Nat)
  | und

abbrev Stamps := List (Rt × Nat)

inductive Res where
  | t (n : Nat)
  | b (n : Nat)
  | v (r : Rt)
  deriving DecidableEq

inductive Val where
  | nope
  | t (st : Stamps) (tv : TV)
  | b (cs : List AC)
  | v (k : Nat)

structure ASt where
  ts : List (Nat × Val)
  bs : List (Nat × Val)
  vs : List (Rt × Nat)

def look : List (Nat × Val) → Nat → Val
  | [], _ => .nope
  | (k, e) :: r, n => if k = n then e else look r n
def lookv : List (Rt × Nat) → Rt → Nat
  | [], _ => 0
  | (k, e) :: r, n => if k = n then e else lookv r n

def ASt.val (σ : ASt) : Res → Val
  | .t n => look σ.ts n
  | .b n => look σ.bs n
  | .v r => .v (lookv σ.vs r)

def ASt.put (σ : ASt) : Res × Val → ASt
  | (.t n, e) => { σ with ts := (n, e) :: σ.ts }
  | (.b n, e) => { σ with bs := (n, e) :: σ.bs }
  | (.v r, .v k) => { σ with vs := (r, k) :: σ.vs }
  | (.v r, _) => { σ with vs := (r, 0) :: σ.vs }

def ASt.puts (σ : ASt) : List (Res × Val) → ASt
  | [] => σ
  | w :: ws => (σ.put w).puts ws

def ob {α β : Type} : Option α → (α → Option β) → Option β
  | some a, f => f a
  | none, _ => none

def AC.noOwn : AC → Bool
  | .sl .own _ _ => false
  | .ref .own _ => false
  | _ => true
def AC.flat : AC → Bool
  | .sl .. => false
  | .ref .. => false
  | _ => true
def noOwnL : List AC → Bool
  | [] => true
  | c :: cs => c.noOwn && noOwnL cs
def noOwnLL : List (List AC) → Bool
  | [] => true
  | r :: rs => noOwnL r && noOwnLL rs

/-- The cells at a place, from it on: each step goes through the slice at an offset to a row of it. -/
def cellsAt : List AC → Path → Nat → Option (List AC)
  | cs, [], off => some (cs.drop off)
  | cs, (k, i, e) :: p, off =>
    match cs[k]? with
    | some (.sl .own e' rows) => if e' = e then (match rows[i]? with | some r => cellsAt r p off | none => none) else none
    | _ => none
/-- Other cells at a place. -/
def setAt : List AC → Path → Nat → List AC → Option (List AC)
  | cs, [], off, new => if off + new.length ≤ cs.length then some (cs.take off ++ (new ++ cs.drop (off + new.length))) else none
  | cs, (k, i, e) :: p, off, new =>
    match cs[k]? with
    | some (.sl .own e' rows) =>
      if e' = e then (match rows[i]? with
        | some r => (match setAt r p off new with | some r' => some (cs.set k (.sl .own e (rows.set i r'))) | none => none)
        | none => none) else none
    | _ => none

/-- An operand: a slot that stays (with the roots that its value hangs on), a slot that is used up, a constant. -/
inductive Opr where
  | t (n : Nat) (rs : List Rt)
  | m (n : Nat)
  | c (cs : AC)
  | p (n : Nat) (rs : List Rt) (q : Nat)

def oprL : Opr → List Nat
  | .m n => [n]
  | .p _ _ q => [q]
  | _ => []

/-- How a load takes what it loads: as it is; out of its place; lent; as another name of the place; held by all from now on. -/
inductive Lm where
  | cp | mv | bo | al | fz
  deriving DecidableEq

inductive IBin where
  | add | sub | mul | quo | rem | lss | leq | gtr | geq | eql | neq | and | or | shl | shr
  deriving DecidableEq

/-- An argument of a call: a value, what is lent, a box behind a pointer. -/
inductive Arg where
  | v (x : Opr)
  | lend (n : Nat) (rs : List Rt) (r : Option Rt)
  | bx (n : Nat) (r : Nat)

inductive FK where
  | int (k : IntKind)
  | bool
  | str
  deriving DecidableEq
def FK.fits : FK → AC → Bool
  | .int k, .int k' _ => decide (k = k')
  | .bool, .bool _ => true
  | .str, .str _ => true
  | _, _ => false
def fitsL : List FK → List AC → Bool
  | [], [] => true
  | k :: ks, c :: cs => k.fits c && fitsL ks cs
  | _, _ => false

inductive IOp where
  | mov (d : Nat) (x : Opr)
  | alias (d s : Nat) (rs : List Rt)
  | pick (d : Nat) (c a b : Opr)
  | alloc (d : Nat) (cs : List AC)
  | box (d : Nat) (x : Opr)
  | build (d : Nat) (z : List AC) (ps : List (Nat × Nat × Opr))
  | mkrow (d e : Nat) (z : List AC) (n : Nat) (ps : List (Nat × Nat × Opr))
  | load (d : Nat) (p : Nat) (rs : List Rt) (r : Option Rt) (n : Nat) (a : Bool) (m : Lm)
  | store (p : Nat) (rs : List Rt) (r : Rt) (n : Nat) (x : Opr)
  | nilc (d : Nat) (p : Nat) (rs : List Rt)
  | fad (d : Nat) (p : Nat) (rs : List Rt) (o : Nat)
  | fld (d : Nat) (x : Opr) (o n : Nat) (a : Bool)
  | iad (d : Nat) (x : Nat) (rs : List Rt) (r : Option Rt) (i : Opr) (e : Nat)
  | idx (d : Nat) (x : Opr) (i : Opr)
  | len (d : Nat) (x : Opr) (r : Option Rt)
  | slen (d : Nat) (x : Opr)
  | bin (d : Nat) (op : IBin) (x y : Opr)
  | sbin (d : Nat) (op : IBin) (x y : Opr)
  | ceq (d : Nat) (neg g : Bool) (ks : List FK) (x y : Opr)
  | not (d : Nat) (x : Opr)
  | neg (d : Nat) (x : Opr)
  | make (d e : Nat) (z : List AC) (by_ : Nat) (n : Opr)
  | slice (d e : Nat) (x : Opr) (r : Option Rt) (lo hi : Option Opr)
  | ssub (d : Nat) (x : Opr) (lo hi : Option Opr)
  | app (d e : Nat) (s x : Opr) (xr : Option Rt) (by_ : Nat)
  | mm (d : Nat) (mx : Bool) (x y : Opr)
  | ext (d : Nat) (x : Opr) (i : Nat) (opn : Bool)
  | call (d : Nat) (f : FuncId) (as : List Arg) (opn : Bool)
  | toStr (d : Nat) (x : Opr) (r : Option Rt)
  | mkmap (d : Nat)
  | mlook (d m : Nat) (rs : List Rt) (q : Nat) (k : Opr)
  | mset (m : Nat) (rs : List Rt) (q : Nat) (k x : Opr)
  | appa (d e n : Nat) (rs : List Rt) (k : Nat) (x : Opr) (xr : Option Rt) (by_ : Nat)
  | ieq (d : Nat) (neg : Bool) (x : Opr)
  | mova (d s k : Nat) (ks : List Rt)
  | mkrowa (d s k : Nat) (ks : List Rt) (z : List AC)
  | storea (p : Nat) (rs : List Rt) (q : Rt) (x : Opr) (k : Nat) (ks : List Rt)
  /-- loads what a box holds at an offset, and takes it out -/
  | ldm (d : Nat) (p : Nat) (k : Nat) (off : Nat) (n : Nat) (a : Bool)

/-- What a callee is given. -/
inductive PA where
  | val (a : Bool) (cs : List AC)
  | box (cs : List AC)
  | vw (cs : List AC)
  | fn (f : FuncId) (caps : List (List AC))
  | io (c : AC)
/-- What is given so that it comes back turned. -/
@[simp] def PA.back : PA → Bool
  | .box _ => true
  | .io _ => true
  | _ => false

structure AOut where
  tv : TV
  exts : List (List AC)

abbrev Gam := FuncId → List PA → Option AOut

def nrm : Res → Val → Val
  | .v _, .v k => .v k
  | .v _, _ => .v 0
  | _, e => e
def appl (v : Res → Val) : List (Res × Val) → Res → Val
  | [] => v
  | (r, e) :: ws => appl (fun x => if x = r then nrm r e else v x) ws

section ops
variable (Γ : Gam) (v : Res → Val)

def stOk (rs : List Rt) : Stamps → Bool
  | [] => true
  | (r, k) :: st => rs.contains r && (match v (.v r) with | .v j => j == k | _ => false) && stOk rs st

def ver (r : Rt) : Nat := match v (.v r) with | .v k => k | _ => 0

/-- A slot is written: what hangs on its elder content is no more. -/
def putT (d : Nat) (st : Stamps) (tv : TV) : List (Res × Val) :=
  match v (.t d) with
  | .nope => [(.t d, .t st tv)]
  | _ => [(.t d, .t st tv), (.v (.t d), .v (ver v (.t d) + 1))]
def dropT (d : Nat) : List (Res × Val) := [(.t d, .nope), (.v (.t d), .v (ver v (.t d) + 1))]

def dropL : List Nat → List (Res × Val)
  | [] => []
  | n :: L => dropT v n ++ dropL L

def TV.noOwn : TV → Bool
  | .pl _ cs => noOwnL cs
  | .tup vs => vs.all fun x => noOwnL x.2
  | .mp _ => false
  | _ => true

/-- An operand's value: the stamps that it bears, the value, what is used up. -/
def opr : Opr → Option (Stamps × TV × List (Res × Val))
  | .t n rs => match v (.t n) with
    | .t st tv => if stOk v rs st && tv.noOwn then some (st, tv, []) else none
    | _ => none
  | .m n => match v (.t n) with
    | .t [] tv => some ([], tv, dropT v n)
    | _ => none
  | .c c => some ([], .pl false [c], [])
  | .p .. => none

/-- An operand that is one cell without stamps and is not used up. -/
def sca (x : Opr) : Option AC := ob (opr v x) fun
  | (_, .pl false [c], []) => some c
  | _ => none

def content : Rt → Option (List AC)
  | .b n => match v (.b n) with | .b cs => some cs | _ => none
  | .t n => match v (.t n) with | .t [] (.pl false [c]) => some [c] | _ => none
def putC (r : Rt) (cs : List AC) : List (Res × Val) :=
  match r, cs with
  | .b n, cs => [(.b n, .b cs), (.v (.b n), .v (ver v (.b n) + 1))]
  | .t n, [c] => [(.t n, .t [] (.pl false [c])), (.v (.t n), .v (ver v (.t n) + 1))]
  | .t n, _ => [(.t n, .nope), (.v (.t n), .v (ver v (.t n) + 1))]

/-- A slice that is read where it is: its tag, element size, rows, and the stamps of who reads it. -/
def rdSl (x : Opr) (r : Option Rt) : Option (Md × Nat × List (List AC) × Stamps) :=
  match x with
  | .c (.sl m e rows) => some (m, e, rows, [])
  | .t n rs => match v (.t n) with
    | .t st (.pl false [.sl m e rows]) => if stOk v rs st && (decide (m ≠ .own) || r == some (.t n)) then some (m, e, rows, st) else none
    | .t st (.ali q path off) => if stOk v rs st && r == some q then
        ob (content v q) fun cs => ob (cellsAt cs path off) fun
          | .sl .own e rows :: _ => some (.own, e, rows, st)
          | _ => none
      else none
    | _ => none
  | .m n => match v (.t n) with
    | .t [] (.pl false [.sl m e rows]) => some (m, e, rows, [])
    | _ => none
  | _ => none

/-- A row that is taken out of a slot: its rows. -/
def takeSl (e : Nat) (x : Opr) : Option (List (List AC)) :=
  match x with
  | .c (.sl _ _ []) => some []
  | .m n => match v (.t n) with
    | .t [] (.pl false [.sl .own e' rows]) => if e' = e then some rows else none
    | _ => none
  | .p n rs q => match v (.t n) with
    | .t st (.pfx q' k) => if q' = q ∧ stOk v rs st = true then (match v (.t q) with
      | .t [] (.pl false [.sl .own e' rows]) => if e' = e then some (rows.take k) else none
      | _ => none) else none
    | _ => none
  | _ => none

def flatLL (rows : List (List AC)) : Bool := rows.all fun r => r.all AC.flat
/-- Rows that are read, as they are in a row of one's own. -/
def copyRows (md : Md) (st : Stamps) (more : List (List AC)) : Option (List (List AC)) :=
  if flatLL more then some more else match md with
  | .sh => some more
  | .bor => if st.isEmpty then some (brwLL more) else none
  | .own => if st.isEmpty && noOwnLL more then some more else none

def mget : List (Int × Bool) → Int → Bool
  | [], _ => false
  | (k, b) :: es, n => if n = k then b else mget es n
def mput : List (Int × Bool) → Int → Bool → List (Int × Bool)
  | [], n, b => [(n, b)]
  | (k, c) :: es, n, b => if n = k then (n, b) :: es else (k, c) :: mput es n b

/-- The map that a slot holds, or that another name of it leads to. -/
def nameOf (m : Nat) (rs : List Rt) (q : Nat) : Bool :=
  m == q || (match v (.t m) with | .t st (.ali (.t q') [] _) => decide (q' = q) && stOk v rs st | _ => false)
def mapAt (m : Nat) (rs : List Rt) (q : Nat) : Option (List (Int × Bool)) :=
  if nameOf v m rs q = true then
    match v (.t q) with
    | .t [] (.mp es) => some es
    | _ => none
  else none

def bytesOf : List (List AC) → Option (List UInt8)
  | [] => some []
  | [.int .u8 n] :: rs => if n = ((UInt8.ofNat n.toNat).toNat : Int) then ob (bytesOf rs) fun s => some (UInt8.ofNat n.toNat :: s) else none
  | _ => none

def fillP : List AC → List (Nat × List AC) → Option (List AC)
  | z, [] => some z
  | z, (o, cs) :: ps => if o + cs.length ≤ z.length then fillP (z.take o ++ (cs ++ z.drop (o + cs.length))) ps else none

/-- Parts: their places and sizes, their values. -/
def oprs : List (Nat × Nat × Opr) → Option (Stamps × List (Nat × List AC) × List (Res × Val))
  | [] => some ([], [], [])
  | (o, n, x) :: ps => ob (opr v x) fun
    | (st, .pl _ cs, ws) => if cs.length = n then ob (oprs ps) fun (st', ps', ws') => some (st ++ st', (o, cs) :: ps', ws ++ ws') else none
    | _ => none

def rowsOf (e : Nat) : Nat → List AC → List (List AC)
  | 0, _ => []
  | n + 1, cs => cs.take e :: rowsOf e n (cs.drop e)

def intOp (op : IBin) (k k' : IntKind) (a b : Int) : Option AC :=
  match op with
  | .shl => if b < 0 then none else some (.int k (k.wrap (a * 2 ^ min b.toNat k.bits)))
  | .shr => if b < 0 then none else some (.int k (a.fdiv (2 ^ min b.toNat k.bits)))
  | op => if k ≠ k' then none else match op with
  | .add => some (.int k (k.wrap (a + b)))
  | .sub => some (.int k (k.wrap (a - b)))
  | .mul => some (.int k (k.wrap (a * b)))
  | .quo => if b = 0 then none else some (.int k (k.wrap (a.tdiv b)))
  | .rem => if b = 0 then none else some (.int k (a.tmod b))
  | .lss => some (.bool (decide (a < b)))
  | .leq => some (.bool (decide (a ≤ b)))
  | .gtr => some (.bool (decide (b < a)))
  | .geq => some (.bool (decide (b ≤ a)))
  | .eql => some (.bool (decide (a = b)))
  | .neq => some (.bool (!decide (a = b)))
  | .and => some (.int k (k.wrap (BitVec.ofInt k.bits a &&& BitVec.ofInt k.bits b).toNat))
  | .or => some (.int k (k.wrap (BitVec.ofInt k.bits a ||| BitVec.ofInt k.bits b).toNat))
  | _ => none

def eqc : AC → AC → Bool
  | .int _ a, .int _ b => decide (a = b)
  | .bool a, .bool b => a == b
  | .str a, .str b => decide (a = b)
  | _, _ => false
def eqcs : List AC → List AC → Bool
  | a :: as, b :: bs => eqc a b && eqcs as bs
  | _, _ => true

def optI : Option Opr → Nat → Option Int
  | none, d => some d
  | some x, _ => ob (sca v x) fun
    | .int _ n => some n
    | _ => none

/-- The arguments: what the callee is given, what is used up, the boxes that it may turn. -/
def argsOf : List Arg → Option (List PA × List (Res × Val) × List Nat)
  | [] => some ([], [], [])
  | .v x :: as => ob (opr v x) fun
    | ([], .pl a cs, ws) => ob (argsOf as) fun (ps, ws', bs) => some (.val a cs :: ps, ws ++ ws', bs)
    | _ => none
  | .lend n rs r :: as => (match v (.t n) with
    | .t st (.pl a cs) => if stOk v rs st then ob (argsOf as) fun (ps, ws, bs) => some (.val a (if st.isEmpty && noOwnL cs then cs else brwL cs) :: ps, ws, bs) else none
    | .t st (.ali q path off) => if stOk v rs st && r == some q then
        ob (content v q) fun cs => ob (cellsAt cs path off) fun
          | c :: _ => ob (argsOf as) fun (ps, ws, bs) => some (.val false [c.brw] :: ps, ws, bs)
          | _ => none
      else none
    | .t st (.ptr q path off) => if stOk v rs st && r == some q then
        ob (content v q) fun cs => ob (cellsAt cs path off) fun xs => ob (argsOf as) fun (ps, ws, bs) => some (.vw (brwL xs) :: ps, ws, bs)
      else none
    | .t st (.view cs) => if stOk v rs st then ob (argsOf as) fun (ps, ws, bs) => some (.vw (brwL cs) :: ps, ws, bs) else none
    | .t st (.fn f caps) => if stOk v rs st then ob (argsOf as) fun (ps, ws, bs) => some (.fn f caps :: ps, ws, bs) else none
    | _ => none)
  | .bx n r :: as => (match v (.t n), v (.b r) with
    | .t [] (.ptr q [] 0), .b cs => if q = .b r then ob (argsOf as) fun (ps, ws, bs) => if bs.contains r then none else some (.box cs :: ps, ws, r :: bs) else none
    | _, _ => none)

/-- The place of a slice that a callee may turn: what the slot's value is another name of, or the slot itself. -/
def ioPlace (n : Nat) (rs : List Rt) (r : Option Rt) : Option (Rt × Path × Nat) := match v (.t n) with
  | .t [] (.pl false [_]) => if r.isNone then some (.t n, [], 0) else none
  | .t st (.ali q path off) => if stOk v rs st && r == some q then some (q, path, off) else none
  | _ => none

def ioRoot (n : Nat) (r : Option Rt) : Rt := match r with | some q => q | none => .t n

def extsBack : List Nat → List (List AC) → Option (List (Res × Val))
  | [], [] => some []
  | r :: rs, cs :: es => ob (extsBack rs es) fun ws => some (putC v (.b r) cs ++ ws)
  | _, _ => none

/-- A call's (or a tuple's part's) value comes to a slot; a new object behind a pointer becomes a box of its own. -/
def putR (d : Nat) (opn : Bool) : TV → Option (List (Res × Val))
  | .pl a cs => match opn, a, cs with
    | true, false, [.ref .own cells] => match v (.b d) with
      | .nope => some (putT v d [] (.ptr (.b d) [] 0) ++ [(.b d, .b cells)])
      | _ => none
    | true, _, _ => none
    | false, a, cs => some (putT v d [] (.pl a cs))
  | .tup vs => if opn then none else some (putT v d [] (.tup vs))
  | _ => none

/-- What another name of a place in a box leads to is taken out of its place. -/
def steal (n : Nat) (rs : List Rt) (k : Nat) : Option (List (Res × Val)) := match v (.t n) with
  | .t st (.ali (.b k') path off) => if k' = k ∧ stOk v rs st = true then ob (content v (.b k)) fun cs => ob (cellsAt cs path off) fun
      | .sl .own e rows :: _ => ob (setAt cs path off [.gone]) fun cs' => some (putC v (.b k) cs' ++ putT v n [] (.pl false [.sl .own e rows]))
      | _ => none
    else none
  | _ => none

def appW (d e : Nat) (s x : Opr) (xr : Option Rt) (by_ : Nat) : Option (List (Res × Val)) :=
  ob (takeSl v e s) fun rows => ob (rdSl v x xr) fun (md, e', more, st) =>
    if e' = e ∧ (rows.length + more.length) * by_ ≤ 140737488355328 ∧ rows.length + more.length ≤ 9223372036854775807 then
      ob (if md = .own ∧ (oprL x).isEmpty = false then some more else copyRows md st more) fun more' =>
        some (putT v d [] (.pl false [.sl .own e (rows ++ more')]) ++ dropL v (oprL s ++ oprL x))
    else none

/-- What another name of a slot's row says of its place in it. -/
def named (s k : Nat) (ks : List Rt) : Option (Path × Nat) := if k = s then some ([], 0) else match v (.t k) with
  | .t st (.ali q p off) => if stOk v ks st && decide (q = .t s) then some (p, off) else none
  | _ => none
def nameFits (c : AC) (p : Path) (off : Nat) : Bool := p.isEmpty && decide (off = 0) || (cellsAt [c] p off).isSome
/-- A slot becomes another name of a place. -/
def putN (v : Res → Val) (k : Nat) (q : Rt) (p : Path) (off : Nat) : List (Res × Val) := putT v k [(q, ver v q)] (.ali q p off)
def isInt1 : List AC → Bool
  | .int _ _ :: _ => true
  | _ => false
def isRow1 : List AC → Bool
  | .sl .own _ _ :: _ => true
  | _ => false

def fop : IOp → Option (List (Res × Val))
  | .mov d x => ob (opr v x) fun (st, tv, ws) => some (putT v d st tv ++ ws)
  | .alias d s rs => match v (.t s) with
    | .t st tv => if d = s then none else if tv.noOwn then (if stOk v rs st then some (putT v d st tv) else none) else match st, tv with
      | [], .pl false [_] => some (putT v d [(.t s, ver v (.t s))] (.ali (.t s) [] 0))
      | [], .pl true cs => some (putT v d [(.t s, ver v (.t s))] (.pl true (brwL cs)))
      | [], .mp _ => some (putT v d [(.t s, ver v (.t s))] (.ali (.t s) [] 0))
      | _, _ => none
    | _ => none
  | .pick d c a b => ob (sca v c) fun
    | .bool true => ob (opr v a) fun (st, tv, ws) => if ws.isEmpty then some (putT v d st tv) else none
    | .bool false => ob (opr v b) fun (st, tv, ws) => if ws.isEmpty then some (putT v d st tv) else none
    | _ => none
  | .alloc d cs => match v (.b d) with
    | .nope => some (putT v d [] (.ptr (.b d) [] 0) ++ [(.b d, .b cs)])
    | _ => none
  | .box d x => match v (.b d) with
    | .nope => ob (opr v x) fun
      | ([], .pl _ cs, ws) => some (putT v d [] (.ptr (.b d) [] 0) ++ (.b d, .b cs) :: ws)
      | _ => none
    | _ => none
  | .build d z ps => ob (oprs v ps) fun (st, ps', ws) => ob (fillP z ps') fun cs => some (putT v d st (.pl true cs) ++ ws)
  | .mkrow d e z n ps => ob (oprs v ps) fun
    | ([], ps', ws) => ob (fillP (List.replicate n z).flatten ps') fun cs => some (putT v d [] (.pl false [.sl .own e (rowsOf e n cs)]) ++ ws)
    | _ => none
  | .load d p rs r n a m => match v (.t p) with
    | .t st (.view cs) => if stOk v rs st && decide (n ≤ cs.length) && noOwnL (cs.take n) then some (putT v d (if (cs.take n).all AC.flat then [] else st) (.pl a (cs.take n))) else none
    | .t st (.ptr q path off) => if stOk v rs st && r == some q then ob (content v q) fun cs => ob (cellsAt cs path off) fun xs =>
        if n ≤ xs.length then (if noOwnL (xs.take n) then some (putT v d [] (.pl a (xs.take n))) else match m with
        | .cp => none
        | .bo => some (putT v d [(q, ver v q)] (.pl a (brwL (xs.take n))))
        | .al => if n = 1 ∧ a = false then some (putT v d [(q, ver v q)] (.ali q path off)) else none
        | .mv => ob (setAt cs path off (List.replicate n .gone)) fun cs' => some (putC v q cs' ++ putT v d [] (.pl a (xs.take n)))
        | .fz => ob (setAt cs path off (frzL (xs.take n))) fun cs' => some (putC v q cs' ++ putT v d [] (.pl a (frzL (xs.take n))))) else none
      else none
    | _ => none
  | .store p rs q n x => match v (.t p) with
    | .t st (.ptr q' path off) => if stOk v rs st && decide (q' = q) then ob (opr v x) fun
        | ([], .pl _ xs, ws) => if xs.length = n then ob (content v q) fun cs => ob (setAt cs path off xs) fun cs' => some (putC v q cs' ++ ws) else none
        | _ => none
      else none
    | _ => none
  | .mova d s k ks => match v (.t s) with
    | .t [] (.pl false [c]) => if d = s ∨ d = k then none else ob (named v s k ks) fun (p, off) => if nameFits c p off then some ((putT v d [] (.pl false [c]) ++ dropT v s) ++ putN (appl v (putT v d [] (.pl false [c]) ++ dropT v s)) k (.t d) p off) else none
    | _ => none
  | .mkrowa d s k ks _ => match v (.t s) with
    | .t [] (.pl false [.sl .own e rows]) => if d = s ∨ d = k ∨ k = s then none else ob (named v s k ks) fun
      | ([], 0) => some ((putT v d [] (.pl false [.sl .own 1 [[.sl .own e rows]]]) ++ dropT v s) ++ putN (appl v (putT v d [] (.pl false [.sl .own 1 [[.sl .own e rows]]]) ++ dropT v s)) k (.t d) [(0, 0, 1)] 0)
      | _ => none
    | _ => none
  | .storea p rs q x k ks => match v (.t p) with
    | .t st (.ptr q' path off) => if stOk v rs st && decide (q' = q) && decide (q ≠ .t k) then (match v (.t k) with
      | .t st2 (.ali q2 p2 off2) => if stOk v ks st2 && decide (q2 = q) && !p2.isEmpty then ob (sca v x) fun
        | .int kd c => ob (content v q) fun cs => ob (cellsAt cs path off) fun xs => if isInt1 xs then ob (cellsAt cs p2 off2) fun ys => if isRow1 ys then
            ob (setAt cs path off [.int kd c]) fun cs' => ob (cellsAt cs' p2 off2) fun _ => some (putC v q cs' ++ putN (appl v (putC v q cs')) k q p2 off2)
            else none else none
        | _ => none
        else none
      | _ => none) else none
    | _ => none
  | .nilc d p rs => match v (.t p) with
    | .t st (.ptr q path off) => if stOk v rs st then some (putT v d st (.ptr q path off)) else none
    | .t st (.view cs) => if stOk v rs st then some (putT v d st (.view cs)) else none
    | .t st (.pl false [.ref m cs]) => if stOk v rs st && decide (m ≠ .own) then some (putT v d st (.view (if m = .sh then cs else brwL cs))) else none
    | _ => none
  | .fad d p rs o => match v (.t p) with
    | .t st (.ptr q path off) => if stOk v rs st then some (putT v d st (.ptr q path (off + o))) else none
    | .t st (.view cs) => if stOk v rs st then some (putT v d st (.view (cs.drop o))) else none
    | _ => none
  | .fld d x o n a => ob (opr v x) fun
    | (st, .pl true cs, []) => if o + n ≤ cs.length then some (putT v d (if ((cs.drop o).take n).all AC.flat then [] else st) (.pl a ((cs.drop o).take n))) else none
    | _ => none
  | .iad d x rs r i e => ob (sca v i) fun
    | .int _ n => (match v (.t x) with
      | .t st (.pl false [.sl m e' rows]) => if stOk v rs st && decide (m ≠ .own) && decide (e' = e) && decide (0 ≤ n) then
          (match rows[n.toNat]? with | some row => some (putT v d st (.view (if m = .sh then row else brwL row))) | none => none)
        else if stOk v rs st && decide (m = .own) && decide (e' = e) && decide (0 ≤ n) && r == some (.t x) && decide (d ≠ x) then
          (match rows[n.toNat]? with | some _ => some (putT v d [(.t x, ver v (.t x))] (.ptr (.t x) [(0, n.toNat, e)] 0)) | none => none)
        else none
      | .t st (.ali q path off) => if stOk v rs st && r == some q && decide (0 ≤ n) then ob (content v q) fun cs => ob (cellsAt cs path off) fun
          | .sl .own e' rows :: _ => if e' = e then (match rows[n.toNat]? with
            | some _ => some (putT v d [(q, ver v q)] (.ptr q (path ++ [(off, n.toNat, e)]) 0))
            | none => none) else none
          | _ => none
        else none
      | _ => none)
    | _ => none
  | .idx d x i => ob (sca v i) fun
    | .int _ n => ob (sca v x) fun
      | .str s => if 0 ≤ n then (match s[n.toNat]? with | some c => some (putT v d [] (.pl false [.int .u8 c.toNat])) | none => none) else none
      | _ => none
    | _ => none
  | .len d x r => ob (rdSl v x r) fun (_, _, rows, _) => some (putT v d [] (.pl false [.int .i64 rows.length]))
  | .slen d x => ob (sca v x) fun
    | .str s => some (putT v d [] (.pl false [.int .i64 s.length]))
    | _ => none
  | .bin d op x y => ob (sca v x) fun
    | .int k a => ob (sca v y) fun
      | .int k' b => ob (intOp op k k' a b) fun c => some (putT v d [] (.pl false [c]))
      | _ => none
    | _ => none
  | .sbin d op x y => ob (sca v x) fun
    | .str a => ob (sca v y) fun
      | .str b => (match op with
        | .add => if a.length + b.length ≤ 9223372036854775807 then some (putT v d [] (.pl false [.str (a ++ b)])) else none
        | .eql => some (putT v d [] (.pl false [.bool (decide (a = b))]))
        | .neq => some (putT v d [] (.pl false [.bool (!decide (a = b))]))
        | _ => none)
      | _ => none
    | _ => none
  | .ceq d neg g ks x y => ob (opr v x) fun
    | (_, .pl ga as, []) => ob (opr v y) fun
      | (_, .pl gb bs, []) => if fitsL ks as && fitsL ks bs && decide (ga = g ∧ gb = g) then some (putT v d [] (.pl false [.bool (if neg then !eqcs as bs else eqcs as bs)])) else none
      | _ => none
    | _ => none
  | .not d x => ob (sca v x) fun
    | .bool b => some (putT v d [] (.pl false [.bool !b]))
    | _ => none
  | .neg d x => ob (sca v x) fun
    | .int k n => some (putT v d [] (.pl false [.int k (k.wrap (-n))]))
    | _ => none
  | .make d e z by_ n => ob (sca v n) fun
    | .int _ n => if 0 ≤ n ∧ n * by_ ≤ 281474976710656 ∧ n ≤ 9223372036854775807 then some (putT v d [] (.pl false [.sl .own e (List.replicate n.toNat z)])) else none
    | _ => none
  | .slice d e' x r lo hi => ob (rdSl v x r) fun (md, e, rows, st) => ob (optI v lo 0) fun l => ob (optI v hi rows.length) fun h =>
      if e = e' ∧ 0 ≤ l ∧ l ≤ h ∧ h ≤ rows.length then
        if md = .own then (match x, r with
            | .t _ _, some q => some (putT v d ((q, ver v q) :: st) (.pl false [.sl .bor e (brwLL ((rows.drop l.toNat).take (h.toNat - l.toNat)))]))
            | _, _ => none)
        else some (putT v d st (.pl false [.sl md e ((rows.drop l.toNat).take (h.toNat - l.toNat))]))
      else none
  | .ssub d x lo hi => ob (sca v x) fun
      | .str s => ob (optI v lo 0) fun l => ob (optI v hi s.length) fun h =>
        if 0 ≤ l ∧ l ≤ h ∧ h ≤ s.length then some (putT v d [] (.pl false [.str ((s.drop l.toNat).take (h.toNat - l.toNat))])) else none
      | _ => none
  | .app d e s x xr by_ => appW v d e s x xr by_
  | .appa d e n rs k x xr by_ => ob (steal v n rs k) fun ws1 => ob (appW (appl v ws1) d e (.m n) x xr by_) fun ws2 => some (ws1 ++ ws2)
  | .mm d mx x y => ob (sca v x) fun
    | .int k a => ob (sca v y) fun
      | .int k' b => if k = k' then some (putT v d [] (.pl false [.int k (if mx then max a b else min a b)])) else none
      | _ => none
    | _ => none
  | .ext d x i opn => match x with
    | .t n _ => (match v (.t n) with
      | .t [] (.tup vs) => (match vs[i]? with
        | some (a, cs) => ob (putR v d opn (.pl a cs)) fun ws => if noOwnL cs then some ws else if d = n then none else some (ws ++ [(.t n, .t [] (.tup (vs.set i (a, List.replicate cs.length .gone)))), (.v (.t n), .v (ver v (.t n) + 1))])
        | none => none)
      | _ => none)
    | _ => none
  | .call d f as opn => ob (argsOf v as) fun (ps, ws, bs) => ob (Γ f ps) fun out => ob (extsBack v bs out.exts) fun back => ob (putR v d opn out.tv) fun ws' => some (ws' ++ (ws ++ back))
  | .mkmap d => some (putT v d [] (.mp []))
  | .ieq d neg x => ob (sca v x) fun
    | .err b => some (putT v d [] (.pl false [.bool (if neg then !b else b)]))
    | _ => none
  | .mlook d m rs q k => ob (mapAt v m rs q) fun es => ob (sca v k) fun
      | .int .i64 n => some (putT v d [] (.pl false [.bool (mget es n)]))
      | _ => none
  | .mset m rs q k x => ob (mapAt v m rs q) fun es => ob (sca v k) fun
      | .int .i64 n => ob (sca v x) fun
        | .bool b => some [(.t q, .t [] (.mp (mput es n b))), (.v (.t q), .v (ver v (.t q) + 1))]
        | _ => none
      | _ => none
  | .toStr d x r => ob (rdSl v x r) fun (_, e, rows, _) => if e = 1 then ob (bytesOf rows) fun s => some (putT v d [] (.pl false [.str s])) else none
  | .ldm d p k off n a => match v (.t p) with
    | .t [] (.ptr (.b k') [] off') => if k' = k ∧ off' = off ∧ d ≠ p then (match v (.b k) with
      | .b cs => if off + n ≤ cs.length ∧ noOwnL ((cs.drop off).take n) = false then some (putC v (.b k) (cs.take off ++ (List.replicate n .gone ++ cs.drop (off + n))) ++ putT v d [] (.pl a ((cs.drop off).take n))) else none
      | _ => none) else none
    | _ => none

end ops
end Go.Fw
namespace Go.Fw
open Go

/-- The blocks that callers may still turn; those that came in to be turned; the world as the call began. -/
structure Env where
  C : Nat → Prop
  M : Nat → Prop
  w0 : World
  pin : Nat → Option Nat
  tpin : Nat → Option Value

def Rt.res : Rt → Res
  | .b n => .b n
  | .t n => .t n

/-- Which blocks a value with these stamps may lean on. -/
def XB (w : World) (φ : Res → Foot) (st : Stamps) (b : Nat) : Prop := b < w.heap.size ∧ ∀ r, φ r b ≠ 0 → ∃ p ∈ st, Rt.res p.1 = r
def XS (E : Env) (w : World) (φ : Res → Foot) (b : Nat) : Prop := b < w.heap.size ∧ (∀ r, φ r b = 0) ∧ ¬ E.C b

/-- Through slices' headers, from the cells that lie at a block from an offset on. -/
def Along (w : World) (own : Nat → Prop) : Nat → Nat → Path → Nat → Nat → Nat → Prop
  | b, o, [], off, b', o' => own b ∧ b' = b ∧ o' = o + off
  | b, o, (k, i, e) :: p, off, b', o' => own b ∧ ∃ s so len cap, w.cell? ⟨b, o + k, none⟩ = some (.slice (some ⟨s, so, none⟩) len cap) ∧ Along w own s (so + i * e) p off b' o'

def Reach (w : World) (tm : Nat → Value) (β : Nat → Nat) (own : Nat → Prop) : Rt → Path → Nat → Nat → Nat → Prop
  | .b n, p, off, b', o' => Along w own (β n) 0 p off b' o'
  | .t n, (k, i, e) :: p, off, b', o' => k = 0 ∧ ∃ s so len cap, tm n = .slice (some ⟨s, so, none⟩) len cap ∧ Along w own s (so + i * e) p off b' o'
  | .t _, [], _, _, _ => False

def isNope : Val → Bool
  | .nope => true
  | _ => false

def RepPl (w : World) (Xs X : Nat → Prop) (a : Bool) (cs : List AC) (u : Value) (φ : Foot) : Prop :=
  ∃ vals, RepL w Xs X cs vals φ ∧ (if a then u = .agg vals.toArray else vals = [u])

inductive RepTup (w : World) (Xs X : Nat → Prop) : List (Bool × List AC) → List Value → Foot → Prop where
  | nil : RepTup w Xs X [] [] (fun _ => 0)
  | cons {a : Bool} {cs : List AC} {u : Value} {vs : List (Bool × List AC)} {us : List Value} {φ ψ : Foot} (h : RepPl w Xs X a cs u φ) (t : RepTup w Xs X vs us ψ) :
      RepTup w Xs X ((a, cs) :: vs) (u :: us) (fun x => φ x + ψ x)

def RepTV (E : Env) (w : World) (tm : Nat → Value) (β : Nat → Nat) (φ : Res → Foot) (v : Res → Val) (st : Stamps) (u : Value) (f : Foot) : TV → Prop
  | .pl a cs => RepPl w (XS E w φ) (XB w φ st) a cs u f
  | .tup vs => ∃ us, u = .tuple us.toArray ∧ RepTup w (XS E w φ) (XB w φ st) vs us f
  | .ptr r p off => isNope (v r.res) = false ∧ (p = [] ∨ ∃ q ∈ st, q.1 = r) ∧ ∃ b o, u = .pointer (some ⟨b, o, none⟩) ∧ Reach w tm β (fun x => φ r.res x ≠ 0) r p off b o
  | .view cs => ∃ b o vals, u = .pointer (some ⟨b, o, none⟩) ∧ XB w φ st b ∧ Cells w b o vals ∧ RepL w (XS E w φ) (XB w φ st) cs vals (fun _ => 0)
  | .ali r p off => isNope (v r.res) = false ∧ (∃ q ∈ st, q.1 = r) ∧ (match r, p with
      | .t s, [] => off = 0 ∧ u = tm s
      | r, p => ∃ b o, Reach w tm β (fun x => φ r.res x ≠ 0) r p off b o ∧ w.cell? ⟨b, o, none⟩ = some u)
  | .fn g caps => ∃ us : List Value, u = .func (.func g) #[] us.toArray ∧ us.length = caps.length ∧ ∀ j (h : j < us.length) (h' : j < caps.length), ∃ b o vals, us[j] = .pointer (some ⟨b, o, none⟩) ∧
      XB w φ st b ∧ Cells w b o vals ∧ RepL w (XB w φ st) (XB w φ st) caps[j] vals (fun _ => 0)

  | .pfx s k => isNope (v (.t s)) = false ∧ (∃ q ∈ st, q.1 = .t s) ∧ ∃ base len cap, tm s = .slice base len cap ∧ k ≤ len ∧ u = .slice base k cap
  | .und => u = undef
  | .mp es => ∃ b ents clock, u = .map (some b) ∧ w.heap[b]? = some (.map ents clock) ∧ ents.toList.map (fun e => (e.key, e.val)) = es.map (fun e => (Value.int .i64 e.1, Value.bool e.2)) ∧ f = fun x => if x = b then 1 else 0

def Live (v : Res → Val) (st : Stamps) : Prop := ∀ p ∈ st, ver v p.1 = p.2

structure RelW (E : Env) (v : Res → Val) (tm : Nat → Value) (w : World) (β : Nat → Nat) (φ : Res → Foot) : Prop where
  le1 : ∀ r b, φ r b ≤ 1
  uniq : ∀ r s b, φ r b ≠ 0 → φ s b ≠ 0 → r = s
  dom : ∀ r b, φ r b ≠ 0 → b < w.heap.size ∧ ¬ E.C b ∧ (E.w0.heap.size ≤ b ∨ E.M b)
  past : ∀ n st tv, v (.t n) = .t st tv → ∀ p ∈ st, p.2 ≤ ver v p.1
  here : ∀ n st tv, v (.t n) = .t st tv → Live v st → ∀ p ∈ st, isNope (v p.1.res) = false
  ent : ∀ n st tv, v (.t n) = .t st tv → Live v st → RepTV E w tm β φ v st (tm n) (φ (.t n)) tv
  box : ∀ n cs, v (.b n) = .b cs → ∃ vals ψ, Cells w (β n) 0 vals ∧ Avail w (β n) 0 vals.length ∧ RepL w (XS E w φ) (XB w φ []) cs vals ψ ∧
    (∀ x, φ (.b n) x = (if x = β n then 1 else 0) + ψ x)
  os : w.os = E.w0.os
  tape : w.tape = E.w0.tape
  output : w.output = E.w0.output
  size : E.w0.heap.size ≤ w.heap.size
  old : ∀ b, b < E.w0.heap.size → ¬ E.M b → w.heap[b]? = E.w0.heap[b]?
  pin : ∀ n b, E.pin n = some b → isNope (v (.b n)) = false ∧ β n = b

theorem Along.mono {w w' : World} {own own' : Nat → Prop} (h : ∀ b, own b → own' b ∧ w'.heap[b]? = w.heap[b]?) : ∀ {p : Path} {b o off b' o' : Nat}, Along w own b o p off b' o' → Along w' own' b o p off b' o'
  | [], _, _, _, _, _, ⟨h1, h2, h3⟩ => ⟨(h _ h1).1, h2, h3⟩
  | _ :: _, _, _, _, _, _, ⟨h1, s, so, len, cap, h2, h3⟩ => ⟨(h _ h1).1, s, so, len, cap, (cell?_same (h _ h1).2 _).trans h2, Along.mono h h3⟩
theorem Reach.mono {w w' : World} {tm tm' : Nat → Value} {β β' : Nat → Nat} {own own' : Nat → Prop} (h : ∀ b, own b → own' b ∧ w'.heap[b]? = w.heap[b]?) {r : Rt} {p : Path} {off b o : Nat}
    (hb : ∀ n, r = .b n → β' n = β n) (ht : ∀ n, r = .t n → tm' n = tm n) (hr : Reach w tm β own r p off b o) : Reach w' tm' β' own' r p off b o := by
  cases r with
  | b n => simp only [Reach] at *; rw [hb n rfl]; exact hr.mono h
  | t n =>
    cases p with
    | nil => exact hr
    | cons x p =>
      obtain ⟨h0, s, so, len, cap, h1, h2⟩ := hr
      exact ⟨h0, s, so, len, cap, (ht n rfl).trans h1, h2.mono h⟩

theorem Along.last {w : World} {own : Nat → Prop} : ∀ {p : Path} {b o off b' o' : Nat}, Along w own b o p off b' o' → own b'
  | [], _, _, _, _, _, ⟨h1, h2, _⟩ => h2 ▸ h1
  | _ :: _, _, _, _, _, _, ⟨_, _, _, _, _, _, h3⟩ => h3.last
theorem Reach.last {w : World} {tm : Nat → Value} {β : Nat → Nat} {own : Nat → Prop} {r : Rt} {p : Path} {off b o : Nat} (h : Reach w tm β own r p off b o) : own b := by
  cases r with
  | b n => exact Along.last h
  | t n =>
    cases p with
    | nil => exact h.elim
    | cons x p => obtain ⟨_, _, _, _, _, _, h2⟩ := h; exact h2.last

theorem RepTup.frame {w w' : World} {Xs X Xs' X' : Nat → Prop} {vs : List (Bool × List AC)} {us : List Value} {φ : Foot} (h : RepTup w Xs X vs us φ) (hz : w.heap.size ≤ w'.heap.size)
    (hs : ∀ b, Xs b → Xs' b ∧ w'.heap[b]? = w.heap[b]?) (hb : ∀ b, X b → X' b ∧ w'.heap[b]? = w.heap[b]?) (ho : ∀ b, φ b ≠ 0 → w'.heap[b]? = w.heap[b]?) : RepTup w' Xs' X' vs us φ := by
  induction h with
  | nil => exact .nil
  | cons h t ih =>
    obtain ⟨vals, h1, h2⟩ := h
    exact .cons ⟨vals, h1.frame hz hs hb (fun b hb => ho b (by dsimp only; omega)), h2⟩ (ih (fun b hb => ho b (by dsimp only; omega)))

theorem isNope_iff {x : Val} : isNope x = true ↔ x = .nope := by cases x <;> simp [isNope]

/-- A step: some resources are written; what is not written leans on nothing that turned. -/
structure Stp (E : Env) (v v' : Res → Val) (tm tm' : Nat → Value) (w w' : World) (β β' : Nat → Nat) (φ φ' : Res → Foot) (W : Res → Prop) : Prop where
  le1 : ∀ r b, φ' r b ≤ 1
  uniq : ∀ r s b, φ' r b ≠ 0 → φ' s b ≠ 0 → r = s
  dom : ∀ r b, φ' r b ≠ 0 → b < w'.heap.size ∧ ¬ E.C b ∧ (E.w0.heap.size ≤ b ∨ E.M b)
  same : ∀ r, (∀ q, r ≠ .v q) → ¬ W r → v' r = v r ∧ φ' r = φ r
  vers : ∀ q, ver v q ≤ ver v' q
  bump : ∀ q, W q.res → isNope (v q.res) = false → ver v q < ver v' q
  btm : ∀ n, ¬ W (.t n) → tm' n = tm n
  bβ : ∀ n, ¬ W (.b n) → β' n = β n
  bkeep : ∀ n, W (.b n) → isNope (v (.b n)) = false → β' n = β n ∧ φ' (.b n) (β n) ≠ 0 ∧ isNope (v' (.b n)) = false
  free : ∀ b, b < w.heap.size → (∀ r, φ r b = 0) → ∀ r, φ' r b = 0
  heap : ∀ b, b < w.heap.size → ((∀ r, φ r b = 0) ∨ ∃ r, ¬ W r ∧ φ r b ≠ 0) → w'.heap[b]? = w.heap[b]?
  os : w'.os = w.os
  tape : w'.tape = w.tape
  output : w'.output = w.output
  size : w.heap.size ≤ w'.heap.size
  old : ∀ b, b < w.heap.size → ¬ (E.w0.heap.size ≤ b ∨ E.M b) → w'.heap[b]? = w.heap[b]?

theorem Rt.res_ne (r q : Rt) : r.res ≠ .v q := by cases r <;> simp [Rt.res]

section
variable {E : Env} {v v' : Res → Val} {tm tm' : Nat → Value} {w w' : World} {β β' : Nat → Nat} {φ φ' : Res → Foot} {W : Res → Prop}

theorem Stp.xb (h : Stp E v v' tm tm' w w' β β' φ φ' W) {st : Stamps} (hst : ∀ p ∈ st, ¬ W p.1.res) (b : Nat) (hb : XB w φ st b) : XB w' φ' st b ∧ w'.heap[b]? = w.heap[b]? := by
  have hz := h.size
  obtain ⟨hb1, hb2⟩ := hb
  by_cases hf : ∀ r, φ r b = 0
  · exact ⟨⟨by omega, fun r hr => absurd (h.free b hb1 hf r) hr⟩, h.heap b hb1 (.inl hf)⟩
  · obtain ⟨r, hr⟩ := Classical.not_forall.1 hf
    obtain ⟨p, hp, hpr⟩ := hb2 r hr
    have hw : ¬ W r := hpr ▸ hst p hp
    refine ⟨⟨by omega, fun s hs => ⟨p, hp, ?_⟩⟩, h.heap b hb1 (.inr ⟨r, hw, hr⟩)⟩
    have : φ' r b ≠ 0 := by rw [(h.same r (hpr ▸ p.1.res_ne) hw).2]; exact hr
    rw [hpr]
    exact h.uniq _ _ b this hs
theorem Stp.xs (h : Stp E v v' tm tm' w w' β β' φ φ' W) (b : Nat) (hb : XS E w φ b) : XS E w' φ' b ∧ w'.heap[b]? = w.heap[b]? :=
  ⟨⟨Nat.lt_of_lt_of_le hb.1 h.size, h.free b hb.1 hb.2.1, hb.2.2⟩, h.heap b hb.1 (.inl hb.2.1)⟩
theorem Stp.own (h : Stp E v v' tm tm' w w' β β' φ φ' W) {r : Res} (hd : ∀ b, φ r b ≠ 0 → b < w.heap.size) (hq : ∀ q, r ≠ .v q) (hw : ¬ W r) (b : Nat) (hb : φ r b ≠ 0) : φ' r b ≠ 0 ∧ w'.heap[b]? = w.heap[b]? :=
  ⟨by rw [(h.same r hq hw).2]; exact hb, h.heap b (hd b hb) (.inr ⟨r, hw, hb⟩)⟩

/-- What leans on nothing that was written still holds of a value. -/
theorem Stp.carry (h : Stp E v v' tm tm' w w' β β' φ φ' W) (hR : RelW E v tm w β φ) {st : Stamps} (hst : ∀ p ∈ st, ¬ W p.1.res) {u : Value} {f : Foot} (hf : ∀ b, f b ≠ 0 → w'.heap[b]? = w.heap[b]?)
    {tv : TV} (e : RepTV E w tm β φ v st u f tv) : RepTV E w' tm' β' φ' v' st u f tv := by
  have dom := fun r b hb => (hR.dom r b hb).1
  have reach : ∀ (r : Rt) p off b o, ¬ W r.res → Reach w tm β (fun x => φ r.res x ≠ 0) r p off b o → Reach w' tm' β' (fun x => φ' r.res x ≠ 0) r p off b o := by
    intro r p off b o hw hr
    refine hr.mono (fun b hb => h.own (dom r.res) r.res_ne hw b hb) (fun n e => h.bβ n ?_) (fun n e => h.btm n ?_) <;> (subst e; exact hw)
  have vsame : ∀ r : Rt, ¬ W r.res → v' r.res = v r.res := fun r hw => (h.same _ r.res_ne hw).1
  cases tv with
  | pl a cs =>
    obtain ⟨vals, e1, e2⟩ := e
    exact ⟨vals, e1.frame h.size h.xs (h.xb hst) hf, e2⟩
  | tup vs =>
    obtain ⟨us, e1, e2⟩ := e
    exact ⟨us, e1, e2.frame h.size h.xs (h.xb hst) hf⟩
  | ptr r p off =>
    obtain ⟨e0, e1, b, o, e2, e3⟩ := e
    by_cases hr : W r.res
    · rcases e1 with rfl | ⟨q, hq, rfl⟩
      · cases r with
        | t n => exact e3.elim
        | b m =>
          obtain ⟨k1, k2, k3⟩ := h.bkeep m hr e0
          obtain ⟨g1, g2, g3⟩ := e3
          refine ⟨k3, .inl rfl, b, o, e2, ?_, ?_, g3⟩
          · rw [k1]; exact k2
          · rw [k1]; exact g2
      · exact absurd hr (hst q hq)
    · exact ⟨by rw [vsame _ hr]; exact e0, e1, b, o, e2, reach _ _ _ _ _ hr e3⟩
  | view cs =>
    obtain ⟨b, o, vals, e1, e2, e3, e4⟩ := e
    have k2 := h.xb hst b e2
    exact ⟨b, o, vals, e1, k2.1, e3.same k2.2, e4.frame h.size h.xs (h.xb hst) (fun _ hx => absurd rfl hx)⟩
  | ali r p off =>
    obtain ⟨e0, ⟨q, hq, rfl⟩, e2⟩ := e
    have hr := hst q hq
    refine ⟨by rw [vsame _ hr]; exact e0, ⟨q, hq, rfl⟩, ?_⟩
    have go : ∀ b o, Reach w tm β (fun x => φ q.1.res x ≠ 0) q.1 p off b o ∧ w.cell? ⟨b, o, none⟩ = some u →
        Reach w' tm' β' (fun x => φ' q.1.res x ≠ 0) q.1 p off b o ∧ w'.cell? ⟨b, o, none⟩ = some u := fun b o ⟨g1, g2⟩ =>
      ⟨reach _ _ _ _ _ hr g1, (cell?_same (h.own (dom _) q.1.res_ne hr b g1.last).2 o).trans g2⟩
    split at e2
    · rename_i s hs
      rw [hs] at hr
      exact ⟨e2.1, e2.2.trans (h.btm s hr).symm⟩
    · obtain ⟨b, o, g⟩ := e2
      exact ⟨b, o, go b o g⟩
  | und => exact e
  | pfx s k =>
    obtain ⟨e0, ⟨q, hq, hqs⟩, base, len, cap, e1, e2, e3⟩ := e
    have hr := hst q hq
    rw [hqs] at hr
    have e0' := vsame (.t s) hr
    exact ⟨by rw [show v' (.t s) = v (.t s) from e0']; exact e0, ⟨q, hq, hqs⟩, base, len, cap, (h.btm s hr).trans e1, e2, e3⟩
  | mp es =>
    obtain ⟨b, ents, clock, e1, e2, e3, e4⟩ := e
    exact ⟨b, ents, clock, e1, (hf b (by rw [e4]; simp)).trans e2, e3, e4⟩
  | fn g caps =>
    obtain ⟨us, e1, e2, e3⟩ := e
    refine ⟨us, e1, e2, fun j h1 h2 => ?_⟩
    obtain ⟨b, o, vals, f1, f2, f3, f4⟩ := e3 j h1 h2
    have k2 := h.xb hst b f2
    exact ⟨b, o, vals, f1, k2.1, f3.same k2.2, f4.frame h.size (h.xb hst) (h.xb hst) (fun _ hx => absurd rfl hx)⟩

theorem RelW.step (hR : RelW E v tm w β φ) (h : Stp E v v' tm tm' w w' β β' φ φ' W)
    (past : ∀ n st tv, W (.t n) → v' (.t n) = .t st tv → ∀ p ∈ st, p.2 ≤ ver v' p.1)
    (here : ∀ n st tv, W (.t n) → v' (.t n) = .t st tv → Live v' st → ∀ p ∈ st, isNope (v' p.1.res) = false)
    (ent : ∀ n st tv, W (.t n) → v' (.t n) = .t st tv → Live v' st → RepTV E w' tm' β' φ' v' st (tm' n) (φ' (.t n)) tv)
    (box : ∀ n cs, W (.b n) → v' (.b n) = .b cs → ∃ vals ψ, Cells w' (β' n) 0 vals ∧ Avail w' (β' n) 0 vals.length ∧ RepL w' (XS E w' φ') (XB w' φ' []) cs vals ψ ∧
      (∀ x, φ' (.b n) x = (if x = β' n then 1 else 0) + ψ x)) : RelW E v' tm' w' β' φ' := by
  have dom := fun r b hb => (hR.dom r b hb).1
  have keepLive : ∀ n st tv, ¬ W (.t n) → v (.t n) = .t st tv → Live v' st → Live v st ∧ ∀ p ∈ st, ¬ W p.1.res ∧ isNope (v p.1.res) = false := by
    intro n st tv hn hv hl
    have hst : Live v st := fun p hp => by
      have h1 := hR.past n st tv hv p hp
      have h2 := h.vers p.1
      have h3 := hl p hp
      omega
    refine ⟨hst, fun p hp => ⟨fun hw => ?_, hR.here n st tv hv hst p hp⟩⟩
    have h1 := h.bump p.1 hw (hR.here n st tv hv hst p hp)
    have h2 := hl p hp
    have h3 := hst p hp
    omega
  refine ⟨h.le1, h.uniq, h.dom, ?_, ?_, ?_, ?_, h.os.trans hR.os, h.tape.trans hR.tape, h.output.trans hR.output, Nat.le_trans hR.size h.size, fun b hb hm => ?_, fun n b hn => ?_⟩
  · intro n st tv hv p hp
    by_cases hw : W (.t n)
    · exact past n st tv hw hv p hp
    · rw [(h.same _ (by simp) hw).1] at hv
      exact Nat.le_trans (hR.past n st tv hv p hp) (h.vers p.1)
  · intro n st tv hv hl p hp
    by_cases hw : W (.t n)
    · exact here n st tv hw hv hl p hp
    · rw [(h.same _ (by simp) hw).1] at hv
      have k := (keepLive n st tv hw hv hl).2 p hp
      rw [(h.same _ p.1.res_ne k.1).1]
      exact k.2
  · intro n st tv hv hl
    by_cases hw : W (.t n)
    · exact ent n st tv hw hv hl
    · rw [(h.same _ (by simp) hw).1] at hv
      have k := keepLive n st tv hw hv hl
      have hst : ∀ p ∈ st, ¬ W p.1.res := fun p hp => (k.2 p hp).1
      rw [h.btm n hw, (h.same _ (by simp) hw).2]
      exact h.carry hR hst (fun b hb => (h.own (dom _) (by simp) hw b hb).2) (hR.ent n st tv hv k.1)
  · intro n cs hv
    by_cases hw : W (.b n)
    · exact box n cs hw hv
    · rw [(h.same _ (by simp) hw).1] at hv
      obtain ⟨vals, ψ, e1, e2, e3, e4⟩ := hR.box n cs hv
      have hβ := h.bβ n hw
      have o1 : w'.heap[β n]? = w.heap[β n]? := (h.own (dom _) (by simp) hw (β n) (by rw [e4]; simp)).2
      refine ⟨vals, ψ, by rw [hβ]; exact e1.same o1, by rw [hβ]; exact e2.same o1, ?_, fun x => by rw [hβ, (h.same _ (by simp) hw).2]; exact e4 x⟩
      exact e3.frame h.size h.xs (h.xb (by simp)) (fun b hb => (h.own (dom _) (by simp) hw b (by rw [e4]; omega)).2)
  · rw [← hR.old b hb hm]
    exact h.old b (Nat.lt_of_lt_of_le hb hR.size) (fun h1 => h1.elim (fun h2 => absurd hb (by omega)) hm)
  · obtain ⟨k1, k2⟩ := hR.pin n b hn
    by_cases hw : W (.b n)
    · obtain ⟨g1, _, g3⟩ := h.bkeep n hw k1
      exact ⟨g3, g1.trans k2⟩
    · exact ⟨by rw [(h.same _ (by simp) hw).1]; exact k1, (h.bβ n hw).trans k2⟩
end
end Go.Fw
