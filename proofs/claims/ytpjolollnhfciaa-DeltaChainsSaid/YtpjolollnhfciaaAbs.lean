/- An abstract interpreter over the model's code: its definitions. -/
import GoSem.Step
import Derived.OrdersIn
set_option linter.all false
namespace Go.Abs

/-- Abstract values. -/
inductive V where
  | any
  | bool (b : Bool)
  | int (k : IntKind) (n : Int)
  | str (s : List UInt8)
  | nilp
  | ptr (id off : Nat)
  | pc (dat : Bool) (cs : List V)
  | sl (dat : Bool) (xs : List (List V))
  | ms (id off len cap : Nat)
  | fn (f : FuncId) (cap : List V)
  | yld (id : Nat)
  | nilf
  | nilm
  | map (id : Nat)
  | agg (cs : List V)
  | tup (vs : List V)
  deriving Inhabited

mutual
/-- All blocks that a value names meet p. -/
def V.all (p : Nat → Bool) : V → Bool
  | .ptr id _ => p id
  | .pc d cs => d || V.alll p cs
  | .sl d xs => d || V.allll p xs
  | .ms id _ _ _ => p id
  | .fn _ cap => V.alll p cap
  | .yld id => p id
  | .map id => p id
  | .agg cs => V.alll p cs
  | .tup vs => V.alll p vs
  | _ => true
def V.alll (p : Nat → Bool) : List V → Bool
  | [] => true
  | v :: r => V.all p v && V.alll p r
def V.allll (p : Nat → Bool) : List (List V) → Bool
  | [] => true
  | v :: r => V.alll p v && V.allll p r
end

def V.lt (n : Nat) (v : V) : Bool := V.all (fun i => Nat.blt i n) v
def V.ltl (n : Nat) (v : List V) : Bool := V.alll (fun i => Nat.blt i n) v

mutual
/-- The blocks that a value names, renamed. -/
def V.ren (f : Nat → Nat) : V → V
  | .ptr id o => .ptr (f id) o
  | .pc d cs => .pc d (if d then cs else V.renl f cs)
  | .sl d xs => .sl d (if d then xs else V.renll f xs)
  | .ms id o l c => .ms (f id) o l c
  | .fn g cap => .fn g (V.renl f cap)
  | .yld id => .yld (f id)
  | .map id => .map (f id)
  | .agg cs => .agg (V.renl f cs)
  | .tup vs => .tup (V.renl f vs)
  | v => v
def V.renl (f : Nat → Nat) : List V → List V
  | [] => []
  | v :: r => V.ren f v :: V.renl f r
def V.renll (f : Nat → Nat) : List (List V) → List (List V)
  | [] => []
  | v :: r => V.renl f v :: V.renll f r
end

mutual
/-- The blocks that a value names. -/
def V.ids (acc : List Nat) : V → List Nat
  | .ptr id _ => if acc.contains id then acc else id :: acc
  | .pc d cs => if d then acc else V.idsl acc cs
  | .sl d xs => if d then acc else V.idsll acc xs
  | .ms id _ _ _ => if acc.contains id then acc else id :: acc
  | .fn _ cap => V.idsl acc cap
  | .yld id => if acc.contains id then acc else id :: acc
  | .map id => if acc.contains id then acc else id :: acc
  | .agg cs => V.idsl acc cs
  | .tup vs => V.idsl acc vs
  | _ => acc
def V.idsl (acc : List Nat) : List V → List Nat
  | [] => acc
  | v :: r => V.idsl (V.ids acc v) r
def V.idsll (acc : List Nat) : List (List V) → List Nat
  | [] => acc
  | v :: r => V.idsll (V.idsl acc v) r
end

/-- What is known of a type. -/
inductive K where
  | bool | int (k : IntKind) | str | ptr (e : TypeId) | rawp | slice (e : TypeId) | struct (eq : Bool) (fs : List (Nat × TypeId)) | array (n : Nat) (e : TypeId) | map (k e : TypeId) | func | other
  deriving Inhabited, DecidableEq
def K.isAgg : K → Bool
  | .struct _ _ | .array _ _ => true
  | _ => false
structure TI where
  k : K
  size : Nat
  bytes : Nat
  zero : List V
  deriving Inhabited

inductive Blk where
  | cells (t : TypeId) (own : List Nat) (cs : List V)
  | hole
  | dead
  | loop (state : LoopState) (pending : Option Code) (fn : FuncId) (fr : List V) (params : List Tmp) (assign body : Code)
  | map (es : List (V × List V))
  deriving Inhabited

def Blk.all (p : Nat → Bool) : Blk → Bool
  | .cells _ _ cs => V.alll p cs
  | .hole => true
  | .dead => true
  | .loop _ _ _ fr _ _ _ => V.alll p fr
  | .map es => es.all fun e => V.all p e.1 && V.alll p e.2

def Blk.ren (f : Nat → Nat) : Blk → Blk
  | .cells t ow cs => .cells t ow (V.renl f cs)
  | .hole => .hole
  | .dead => .dead
  | .loop s p g fr ps a b => .loop s p g (V.renl f fr) ps a b
  | .map es => .map (es.map fun e => (V.ren f e.1, V.renl f e.2))

def Blk.ids (acc : List Nat) : Blk → List Nat
  | .cells _ _ cs => V.idsl acc cs
  | .hole => acc
  | .dead => acc
  | .loop _ _ _ fr _ _ _ => V.idsl acc fr
  | .map es => es.foldl (fun acc e => V.idsl (V.ids acc e.1) e.2) acc

def Blk.isHole : Blk → Bool
  | .hole => true
  | _ => false

/-- Who owns a slice's spare cells: a temporary, or a cell of the heap. -/
inductive Owner where
  | tmp (t : Tmp)
  | cell (id off : Nat)
  | base (id off : Nat)
  deriving Inhabited, DecidableEq

structure St where
  fr : List V
  own : List Nat
  hp : List Blk
  al : List (Tmp × Owner) := []
  nb : Nat := 0
  deriving Inhabited

inductive Ex where
  | normal | exit (id : Nat) | ret
  deriving Inhabited, DecidableEq

structure Cfg where
  fn : FuncId → Option Func
  ty : TypeId → Option TI
  kill : FuncId → Nat → List Nat
  draw : FuncId → Nat → List (Bool × List Nat)
  ext : FuncId → Bool

/-- The answers of the interpreter with less fuel. -/
structure Orc where
  code : FuncId → Option Nat → Code → St → Option (Ex × St)
  call : FuncId → List V → List Blk → Option (V × Bool × List Blk)
  round : Nat → List V → List Blk → Option (Bool × List Blk)

/-! ### Values -/
def ofConst : Value → V
  | .bool b => .bool b
  | .int k n => .int k n
  | .string s => .str s.data.toList
  | .pointer none => .nilp
  | .slice none 0 0 => .sl true []
  | .nilFunc => .nilf
  | .map none => .nilm
  | _ => .any

def ev (fr : List V) : Operand → V
  | .tmp t => fr.getD t .any
  | .const v => ofConst v
  | .global _ => .any
  | .func f => .fn f []

def cellsV : V → Option (List V)
  | .agg cs => some cs
  | .any => none
  | .tup _ => none
  | v => some [v]

def mkV (agg : Bool) (cs : List V) : Option V :=
  if agg then some (.agg cs) else match cs with
    | [v] => some v
    | _ => none

def St.put (st : St) (d : Option Tmp) (v : V) : St :=
  match d with
  | none => st
  | some d => { st with fr := st.fr.set d v, own := st.own.filter (· != d), al := st.al.filter fun p => p.1 != d && p.2 != .tmp d }

/-- A slot that now owns the spare cells of what it holds. -/
def St.owns (st : St) (d : Option Tmp) (own : Bool) : St :=
  match d with
  | none => st
  | some d => if own then { st with own := d :: st.own } else st

def St.putOwn (st : St) (d : Option Tmp) (v : V) (own : Bool) : St := (st.put d v).owns d own

/-- A slot that holds a copy of what an owner holds. -/
def St.alias (st : St) (d : Option Tmp) (o : Option Owner) : St :=
  match d, o with
  | some d, some o => { st with al := (d, o) :: st.al }
  | _, _ => st

/-! ### Operators -/
def bytesLt : List UInt8 → List UInt8 → Bool
  | _, [] => false
  | [], _ :: _ => true
  | a :: x, b :: y => a < b || (a == b && bytesLt x y)

def strMax : Nat := 140737488355328

def strOp (op : BinOp) (x y : List UInt8) : Option V :=
  match op with
  | .add => if x.length + y.length ≤ strMax then some (.str (x ++ y)) else none
  | .eql => some (.bool (x == y))
  | .neq => some (.bool !(x == y))
  | .lss => some (.bool (bytesLt x y))
  | .leq => some (.bool (bytesLt x y || x == y))
  | .gtr => some (.bool !(bytesLt x y || x == y))
  | .geq => some (.bool !(bytesLt x y))
  | _ => none

def bits (k : IntKind) (f : BitVec k.bits → BitVec k.bits → BitVec k.bits) (x y : Int) : V :=
  .int k (k.wrap (f (BitVec.ofInt k.bits x) (BitVec.ofInt k.bits y)).toNat)

def intOp (op : BinOp) (k : IntKind) (x y : Int) : Option V :=
  match op with
  | .add => some (.int k (k.wrap (x + y)))
  | .sub => some (.int k (k.wrap (x - y)))
  | .mul => some (.int k (k.wrap (x * y)))
  | .quo => if y = 0 then none else some (.int k (k.wrap (x.tdiv y)))
  | .rem => if y = 0 then none else some (.int k (x.tmod y))
  | .and => some (bits k (· &&& ·) x y)
  | .or => some (bits k (· ||| ·) x y)
  | .xor => some (bits k (· ^^^ ·) x y)
  | .andNot => some (bits k (fun a b => a &&& ~~~b) x y)
  | .eql => some (.bool (x == y))
  | .neq => some (.bool (x != y))
  | .lss => some (.bool (x < y))
  | .leq => some (.bool (x ≤ y))
  | .gtr => some (.bool (x > y))
  | .geq => some (.bool (x ≥ y))
  | _ => none

def shiftOp (op : BinOp) (k : IntKind) (x y : Int) : Option V :=
  if y < 0 then none else
  match op with
  | .shl => some (.int k (k.wrap (x * 2 ^ (min y.toNat k.bits))))
  | .shr => some (.int k (x.fdiv (2 ^ (min y.toNat k.bits))))
  | _ => none

/-- Equality of structs, field by field. -/
def eqFs (cfg : Cfg) (eq : TypeId → V → V → Option Bool) : List (Nat × TypeId) → List V → List V → Option Bool
  | [], _, _ => some true
  | (off, t) :: r, xs, ys =>
    match cfg.ty t with
    | none => none
    | some ti =>
      if off + ti.size ≤ xs.length ∧ off + ti.size ≤ ys.length then
        match mkV ti.k.isAgg ((xs.drop off).take ti.size), mkV ti.k.isAgg ((ys.drop off).take ti.size) with
        | some a, some b => match eq t a b with
          | some e => match eqFs cfg eq r xs ys with
            | some e' => some (e && e')
            | none => none
          | none => none
        | _, _ => none
      else none

/-- Equality at a type. -/
def eqT (cfg : Cfg) : Nat → TypeId → V → V → Option Bool
  | 0, _, _, _ => none
  | d + 1, t, x, y =>
    match (cfg.ty t).map TI.k, x, y with
    | some .bool, .bool a, .bool b => some (a == b)
    | some (.int _), .int k a, .int k' b => if k = k' then some (a == b) else none
    | some .str, .str a, .str b => some (a == b)
    | some (.ptr _), .nilp, .nilp => some true
    | some (.ptr _), .nilp, .ptr _ _ => some false
    | some (.ptr _), .nilp, .pc _ _ => some false
    | some (.ptr _), .ptr _ _, .nilp => some false
    | some (.ptr _), .pc _ _, .nilp => some false
    | some (.ptr e), .ptr i o, .ptr j q => if i = j ∧ o = q ∧ (cfg.ty e).isSome then some true else none
    | some .func, .nilf, .nilf => some true
    | some .func, .nilf, .fn _ _ => some false
    | some .func, .fn _ _, .nilf => some false
    | some (.map _ _), .nilm, .nilm => some true
    | some (.map _ _), .nilm, .map _ => some false
    | some (.map _ _), .map _, .nilm => some false
    | some (.struct true fs), .agg xs, .agg ys => eqFs cfg (eqT cfg d) fs xs ys
    | _, _, _ => none
def binOpV (cfg : Cfg) (op : BinOp) (t : TypeId) (x y : V) : Option V :=
  match op, x, y with
  | .shl, .int k a, .int _ b => shiftOp .shl k a b
  | .shr, .int k a, .int _ b => shiftOp .shr k a b
  | op, .int k a, .int k' b => if k = k' then intOp op k a b else none
  | op, .str a, .str b => strOp op a b
  | .eql, x, y => (eqT cfg 20 t x y).map .bool
  | .neq, x, y => (eqT cfg 20 t x y).map fun b => .bool !b
  | _, _, _ => none

def unOpV (op : UnOp) (x : V) : Option V :=
  match op, x with
  | .neg, .int k n => some (.int k (k.wrap (0 - n)))
  | .xor, .int k n => some (bits k (· ^^^ ·) (if k.signed then -1 else k.max) n)
  | .not, .bool b => some (.bool !b)
  | _, _ => none

def byteRow (b : UInt8) : List V := [.int .u8 b.toNat]
def rowByteS : List V → Option UInt8
  | [.int .u8 n] => if n = (UInt8.ofNat n.toNat).toNat then some (UInt8.ofNat n.toNat) else none
  | _ => none
def rowByte : List V → Option UInt8
  | [.int .u8 n] => some (UInt8.ofNat n.toNat)
  | _ => none

def convV (cfg : Cfg) (src dst : TypeId) (x : V) : Option V :=
  match (cfg.ty src).map TI.k, (cfg.ty dst).map TI.k, x with
  | some _, some (.int k), .int _ n => some (.int k (k.wrap n))
  | some _, some .str, .str s => some (.str s)
  | some (.slice e), some .str, .sl _ xs =>
    if ((cfg.ty e).map TI.k) = some (.int .u8) then (xs.mapM rowByte).map .str else none
  | some ks, some (.slice e), .str s =>
    if ((cfg.ty e).map TI.k) = some (.int .u8) ∧ ks = .str then some (.sl true (s.map byteRow)) else none
  | _, _, _ => none

/-- Pointers as unsafe pointers, and back. -/
def convPV (cfg : Cfg) (hp : List Blk) (src dst : TypeId) (x : V) : Option V :=
  match (cfg.ty src).map TI.k, (cfg.ty dst).map TI.k, x with
  | some (.ptr t), some .rawp, .ptr id off =>
    match cfg.ty t, hp[id]? with
    | some ti, some (.cells _ _ cs) => if ti.size ≠ 0 ∧ off < cs.length then some (.ptr id off) else none
    | _, _ => none
  | some .rawp, some (.ptr t), .ptr id off =>
    match cfg.ty t, hp[id]? with
    | some ti, some (.cells t' _ cs) => if t' = t ∧ off = 0 ∧ cs.length = ti.size ∧ ti.size ≠ 0 then some (.ptr id off) else none
    | _, _ => none
  | _, _, _ => none

/-! ### Memory -/
def loadV (cfg : Cfg) (hp : List Blk) (t : TypeId) (p : V) : Option V :=
  match cfg.ty t with
  | none => none
  | some ti =>
    match p with
    | .pc _ cs => if ti.size ≤ cs.length then mkV ti.k.isAgg (cs.take ti.size) else none
    | .ptr id off =>
      match hp[id]? with
      | some (.cells _ _ cs) => if off + ti.size ≤ cs.length then mkV ti.k.isAgg ((cs.drop off).take ti.size) else none
      | _ => none
    | _ => none

def fieldV (cfg : Cfg) (s : TypeId) (p : V) (i : Nat) : Option V :=
  match (cfg.ty s).map TI.k with
  | some (.struct _ fs) =>
    match fs[i]? with
    | some (o, t) =>
      if ((cfg.ty t).map TI.size).getD 0 = 0 then none else
      match p with
      | .ptr id off => some (.ptr id (off + o))
      | .pc d cs => some (.pc d (cs.drop o))
      | _ => none
    | none => none
  | _ => none

def partV (cfg : Cfg) (s : TypeId) (x : V) (i : Nat) : Option V :=
  match (cfg.ty s).map TI.k, x with
  | some (.struct _ fs), .agg cs =>
    match fs[i]? with
    | some (o, t) =>
      match cfg.ty t with
      | some ti => if o + ti.size ≤ cs.length then mkV ti.k.isAgg ((cs.drop o).take ti.size) else none
      | none => none
    | none => none
  | _, _ => none

def indexAddrV (cfg : Cfg) (t : TypeId) (x i : V) : Option V :=
  match i with
  | .int _ i =>
    if i < 0 then none else
    match (cfg.ty t).map TI.k, x with
    | some (.slice e), .sl d xs =>
      match xs[i.toNat]? with
      | some row => if some row.length = (cfg.ty e).map TI.size then some (.pc d row) else none
      | none => none
    | some (.slice e), .ms id off len _ =>
      match cfg.ty e with
      | some ti => if i.toNat < len then some (.ptr id (off + i.toNat * ti.size)) else none
      | none => none
    | some (.array n e), .ptr id off =>
      match cfg.ty e with
      | some ti => if i.toNat < n then some (.ptr id (off + i.toNat * ti.size)) else none
      | none => none
    | some (.array n e), .pc d cs =>
      match cfg.ty e with
      | some ti => if i.toNat < n then some (.pc d (cs.drop (i.toNat * ti.size))) else none
      | none => none
    | _, _ => none
  | _ => none

def indexV (cfg : Cfg) (t : TypeId) (x i : V) : Option V :=
  match i with
  | .int _ i =>
    if i < 0 then none else
    match (cfg.ty t).map TI.k, x with
    | some .str, .str s => match s[i.toNat]? with
      | some b => some (.int .u8 b.toNat)
      | none => none
    | some (.array n e), .agg cs =>
      match cfg.ty e with
      | some ti => if i.toNat < n ∧ i.toNat * ti.size + ti.size ≤ cs.length then mkV ti.k.isAgg ((cs.drop (i.toNat * ti.size)).take ti.size) else none
      | none => none
    | _, _ => none
  | _ => none

/-- The rows are of the element type's size (all are of one size). -/
def rowsFit (size : Nat) : List (List V) → Bool
  | [] => true
  | r :: _ => r.length == size

def bound (x : Option V) (dflt most : Nat) : Option Nat :=
  match x with
  | none => some dflt
  | some (.int _ i) => if 0 ≤ i ∧ i ≤ most then some i.toNat else none
  | some _ => none

def sliceV (cfg : Cfg) (t : TypeId) (x : V) (lo hi mx : Option V) : Option V :=
  match (cfg.ty t).map TI.k, x with
  | some .str, .str s =>
    match mx with
    | some _ => none
    | none =>
      match bound hi s.length s.length with
      | none => none
      | some h => match bound lo 0 h with
        | none => none
        | some l => some (.str ((s.drop l).take (h - l)))
  | some (.slice e), .sl d xs =>
    match cfg.ty e with
    | none => none
    | some ti =>
      if rowsFit ti.size xs = false then none else
      match mx with
      | none =>
        match bound hi xs.length xs.length with
        | none => none
        | some h => match bound lo 0 h with
          | none => none
          | some l => some (.sl d ((xs.drop l).take (h - l)))
      | some m =>
        match bound (some m) 0 xs.length with
        | none => none
        | some m => match hi with
          | none => none
          | some h => match bound (some h) 0 m with
            | none => none
            | some h => match bound lo 0 h with
              | none => none
              | some l => some (.sl d ((xs.drop l).take (h - l)))
  | some (.slice e), .ms id off len cap =>
    match cfg.ty e with
    | none => none
    | some ti =>
      match bound mx cap cap with
      | none => none
      | some m => match bound hi len m with
        | none => none
        | some h => match bound lo 0 h with
          | none => none
          | some l => if mx.isSome && hi.isNone then none else
            if m = l then some (.sl true []) else some (.ms id (off + l * ti.size) (h - l) (m - l))
  | some (.array n e), .ptr id off =>
    match cfg.ty e with
    | none => none
    | some ti =>
      match bound mx n n with
      | none => none
      | some m => match bound hi n m with
        | none => none
        | some h => match bound lo 0 h with
          | none => none
          | some l => if mx.isSome && hi.isNone then none else
            if m = l then some (.sl true []) else some (.ms id (off + l * ti.size) (h - l) (m - l))
  | _, _ => none

/-- Is the capacity of what a slice expression gives surely 0? -/
def capZero (lo mx : Option V) : Bool :=
  match mx with
  | some (.int _ m) => match lo with
    | none => m == 0
    | some (.int _ l) => m == l
    | _ => false
  | _ => false

def fillV (place : Nat → Option (Nat × Nat)) (cells : List V) : List (Nat × V) → Option (List V)
  | [] => some cells
  | (i, v) :: rest =>
    match place i with
    | none => none
    | some (off, size) =>
      match cellsV v with
      | none => none
      | some cs =>
        if cs.length = size ∧ off + size ≤ cells.length then
          fillV place (cells.take off ++ cs ++ cells.drop (off + size)) rest
        else none

def buildV (cfg : Cfg) (t : TypeId) (parts : List (Nat × V)) : Option V :=
  match cfg.ty t with
  | none => none
  | some ti =>
    match ti.k with
    | .struct _ fs => (fillV (fun i => (fs[i]?).bind fun (o, t) => (cfg.ty t).map fun f => (o, f.size)) ti.zero parts).map .agg
    | .array _ e => (cfg.ty e).bind fun f => (fillV (fun i => some (i * f.size, f.size)) ti.zero parts).map .agg
    | _ => none

/-- All fields' types are known. -/
def fieldsKnown (cfg : Cfg) (t : TypeId) : Bool :=
  match (cfg.ty t).map TI.k with
  | some (.struct _ fs) => fs.all fun f => (cfg.ty f.2).isSome
  | _ => true

def rowsOf (size : Nat) : Nat → List V → List (List V)
  | 0, _ => []
  | n + 1, cs => cs.take size :: rowsOf size n (cs.drop size)

def reps (n : Nat) (z : List V) : List V := (List.replicate n z).flatten

def buildSliceV (cfg : Cfg) (t : TypeId) (len : Nat) (parts : List (Nat × V)) : Option V :=
  match (cfg.ty t).map TI.k with
  | some (.slice e) =>
    match cfg.ty e with
    | some f =>
      if f.size = 0 ∨ 16777216 < len * f.size then none else
      match fillV (fun i => some (i * f.size, f.size)) (reps len f.zero) parts with
      | some cs => some (.sl (V.ltl 0 cs) (rowsOf f.size len cs))
      | none => none
    | none => none
  | _ => none

/-! ### Who owns a slice's spare cells -/
def cellOwner (hp : List Blk) : V → Option Owner
  | .ptr id off =>
    match hp[id]? with
    | some (.cells _ ow _) => if ow.contains off then some (.cell id off) else none
    | _ => none
  | _ => none

def isOwner (st : St) : Owner → Bool
  | .tmp t => st.own.contains t
  | .cell id off => (cellOwner st.hp (.ptr id off)).isSome
  | .base _ _ => false

def findAlias (t : Tmp) : List (Tmp × Owner) → Option Owner
  | [] => none
  | (u, o) :: r => if u = t then some o else findAlias t r

def ownerOf (st : St) (t : Tmp) : Option Owner :=
  if st.own.contains t then some (.tmp t) else
  match findAlias t st.al with
  | some o => if isOwner st o then some o else none
  | none => none

def dropOwn (st : St) : Owner → St
  | .tmp t => { st with own := st.own.filter (· != t) }
  | .cell id off =>
    match st.hp[id]? with
    | some (.cells t ow cs) => { st with hp := st.hp.set id (.cells t (ow.filter (· != off)) cs) }
    | _ => st
  | .base _ _ => st

/-- What an owner holds. -/
def heldV (st : St) : Owner → V
  | .tmp t => st.fr.getD t .any
  | .cell id off =>
    match st.hp[id]? with
    | some (.cells _ _ cs) => cs.getD off .any
    | _ => .any
  | .base _ _ => .any

/-- Is the first row one byte? -/
def headByte : List (List V) → Bool
  | [.int .u8 _] :: _ => true
  | _ => false

def heldByte : V → Bool
  | .sl _ ys => headByte ys
  | _ => false

def heldFits (size : Nat) : V → Bool
  | .sl _ ys => rowsFit size ys
  | _ => false

def appendV (d1 d2 : Bool) (xs ys : List (List V)) : V :=
  .sl ((xs.isEmpty || d1) && (ys.isEmpty || d2)) (xs ++ ys)

def appendTo (cfg : Cfg) (ti : TI) (dst : Option Tmp) (t tx : TypeId) (d1 : Bool) (xs : List (List V)) (x : V) (st : St) : Option St :=
  match x with
  | .sl d2 ys =>
    if t = tx ∧ (xs.length + ys.length) * ti.bytes ≤ strMax ∧ rowsFit ti.size ys = true ∧ rowsFit ti.size xs = true ∧ (ti.k = .int .u8 ∨ headByte (xs ++ ys) = false) then
      some (st.putOwn dst (appendV d1 d2 xs ys) true)
    else none
  | .str b =>
    if (cfg.ty tx).map TI.k = some .str ∧ ti.k = .int .u8 ∧ ti.size = 1 ∧ (xs.length + b.length) * ti.bytes ≤ strMax ∧ rowsFit ti.size xs = true then
      some (st.putOwn dst (appendV d1 true xs (b.map byteRow)) true)
    else none
  | _ => none

def appendOp (cfg : Cfg) (dst : Option Tmp) (t tx : TypeId) (s x : Operand) (st : St) : Option St :=
  match (cfg.ty t).map TI.k with
  | some (.slice e) =>
    match cfg.ty e with
    | some ti =>
      if ti.size = 0 ∨ ti.bytes = 0 then none else
      match s with
      | .tmp u =>
        match ev st.fr s with
        | .sl d1 xs =>
          match ownerOf st u with
          | none => none
          | some ow => if heldFits ti.size (heldV st ow) && (!headByte xs || heldByte (heldV st ow)) then appendTo cfg ti dst t tx d1 xs (ev st.fr x) (dropOwn st ow) else none
        | _ => none
      | .const (.slice none 0 0) => appendTo cfg ti dst t tx true [] (ev st.fr x) st
      | _ => none
    | none => none
  | _ => none

/-! ### Operations -/
def lenV (cfg : Cfg) (t : TypeId) (x : V) : Option V :=
  match (cfg.ty t).map TI.k, x with
  | some .str, .str s => some (.int .i64 s.length)
  | some (.slice _), .sl _ xs => some (.int .i64 xs.length)
  | some (.slice _), .ms _ _ n _ => some (.int .i64 n)
  | some (.array n _), _ => some (.int .i64 n)
  | some (.map _ _), .nilm => some (.int .i64 0)
  | _, _ => none

def minmaxGo (mx : Bool) (k : IntKind) (a : Int) : List V → Option V
  | [] => some (.int k a)
  | .int k' b :: r => if k = k' then minmaxGo mx k (if mx then (if a < b then b else a) else (if b < a then b else a)) r else none
  | _ => none
def minmax (mx : Bool) : List V → Option V
  | .int k a :: r => minmaxGo mx k a r
  | _ => none
theorem minmax_def (mx : Bool) (l : List V) : minmax mx l = match l with
    | [.int k a] => some (.int k a)
    | .int k a :: .int k' b :: r => if k = k' then minmax mx (.int k (if mx then (if a < b then b else a) else (if b < a then b else a)) :: r) else none
    | _ => none := by
  split
  · rfl
  · rfl
  · rename_i h1 h2
    unfold minmax
    split
    · rename_i k a r
      unfold minmaxGo
      split
      · exact absurd rfl (h1 _ _)
      · exact absurd rfl (h2 _ _ _ _ _)
      · rfl
    · rfl

def isSl : V → Bool
  | .sl _ _ => true
  | _ => false

def heldSome : V → Bool
  | .sl _ (_ :: _) => true
  | _ => false

/-- The base of a slice that a cell owns. -/
def dataOp (dst : Option Tmp) (x : Operand) (st : St) : Option St :=
  match x with
  | .tmp u =>
    match findAlias u st.al with
    | some (.cell id off) => if isOwner st (.cell id off) && heldSome (heldV st (.cell id off)) && isSl (ev st.fr x) then some ((st.put dst .any).alias dst (some (.base id off))) else none
    | _ => none
  | _ => none

/-- The bytes at such a base. -/
def textOp (cfg : Cfg) (dst : Option Tmp) (t : TypeId) (p n : Operand) (st : St) : Option St :=
  match (cfg.ty t).map TI.k, p with
  | some (.ptr e), .tmp u =>
    match (cfg.ty e).map TI.k, findAlias u st.al with
    | some (.int .u8), some (.base id off) =>
      if isOwner st (.cell id off) && Nat.blt u st.fr.length then
        match heldV st (.cell id off), ev st.fr n with
        | .sl _ xs, .int .i64 k =>
          match xs.mapM rowByteS with
          | some bs => if k = bs.length ∧ bs.length ≤ strMax then some (st.put dst (.str bs)) else none
          | none => none
        | _, _ => none
      else none
    | _, _ => none
  | _, _ => none

def builtinOp (cfg : Cfg) (b : Builtin) (dst : Option Tmp) (args : List Operand) (types : List TypeId) (st : St) : Option St :=
  match b, args, types with
  | .append, [s, x], [t, tx] => appendOp cfg dst t tx s x st
  | .len, [x], t :: _ => (lenV cfg t (ev st.fr x)).map fun v => st.put dst v
  | .min, xs, _ => (minmax false (xs.map (ev st.fr))).map fun v => st.put dst v
  | .max, xs, _ => (minmax true (xs.map (ev st.fr))).map fun v => st.put dst v
  | .unsafeSliceData, [x], _ => dataOp dst x st
  | .unsafeString, [p, n], [t, _] => textOp cfg dst t p n st
  | _, _, _ => none

def nilOffs : Nat → List V → List Nat
  | _, [] => []
  | i, v :: r => if isSl v then i :: nilOffs (i + 1) r else nilOffs (i + 1) r

def pushBlk (st : St) (dst : Option Tmp) (b : Blk) : St :=
  { st with hp := st.hp ++ [b] }.put dst (.ptr st.hp.length 0)

/-- Whose spare cells a stored slice takes along: a slot's, or (nil) nobody's. -/
def movesFrom (st : St) (x : Operand) : Option (Option Tmp) :=
  match x with
  | .tmp u => if st.own.contains u && isSl (ev st.fr x) then some (some u) else none
  | .const (.slice none 0 0) => some none
  | _ => none

def storeOp (cfg : Cfg) (t : TypeId) (p x : Operand) (st : St) : Option St :=
  match cfg.ty t with
  | none => none
  | some ti =>
    match ev st.fr p, cellsV (ev st.fr x) with
    | .ptr id off, some vs =>
      match st.hp[id]? with
      | some (.cells t' ow cs) =>
        if vs.length = ti.size ∧ off + ti.size ≤ cs.length ∧ ti.size ≠ 0 then
          let ow1 := ow.filter fun o => decide (o < off) || decide (off + ti.size ≤ o)
          let cs1 := cs.take off ++ vs ++ cs.drop (off + ti.size)
          match movesFrom st x with
          | none => some { st with own := st.own, hp := st.hp.set id (.cells t' ow1 cs1), al := [] }
          | some none => some { st with own := st.own, hp := st.hp.set id (.cells t' (off :: ow1) cs1), al := [] }
          | some (some u) => some { st with own := st.own.filter (· != u), hp := st.hp.set id (.cells t' (off :: ow1) cs1), al := [] }
        else none
      | _ => none
    | _, _ => none

def wantedV (ops : List Oper) (fr : List V) (o : Oper) : Option Bool :=
  match o.guard with
  | none => some true
  | some (j, want) =>
    match ((ops[j]?).bind (·.dst)) with
    | some d => match fr.getD d .any with
      | .bool b => some (b == want)
      | .tup [] => some false
      | _ => none
    | none => none

def isAppend : Builtin → Bool
  | .append => true
  | .unsafeSliceData => true
  | .unsafeString => true
  | _ => false

/-! ### What a call sees of the heap -/
def reachGo (hp : List Blk) : Nat → List Nat → List Nat
  | 0, R => R
  | n + 1, R =>
    let R' := R.foldl (fun acc i => match hp[i]? with
      | some b => b.ids acc
      | none => acc) R
    if R'.length = R.length then R else reachGo hp n R'

/-- The blocks that values lead to, in order. -/
def reach (hp : List Blk) (args : List V) : List Nat :=
  let R := reachGo hp hp.length (V.idsl [] args)
  (List.range hp.length).filter fun i => R.contains i

/-- Nothing leads out of these blocks. -/
def closedIn (hp : List Blk) (R : List Nat) (args : List V) : Bool :=
  V.alll (fun i => R.contains i) args && R.all fun r => match hp[r]? with
    | some b => !b.isHole && b.all fun i => R.contains i
    | none => false

def subHp (hp : List Blk) (R : List Nat) : List Blk :=
  R.map fun r => (hp.getD r .hole).ren fun i => R.idxOf i

/-- A callee's block, as the caller has it. -/
def backId (R : List Nat) (n i : Nat) : Nat :=
  match R[i]? with
  | some r => r
  | none => n + (i - R.length)

def putBack (hp : List Blk) : List Nat → List Blk → List Blk
  | r :: R, b :: bs => putBack (hp.set r b) R bs
  | _, _ => hp

def backHp (hp : List Blk) (R : List Nat) (hp' : List Blk) : List Blk :=
  let bs := hp'.map (Blk.ren (backId R hp.length))
  putBack hp R bs ++ bs.drop R.length

/-- One operation; 'lim': it may not touch the heap, nor who owns what. -/
def evOp (cfg : Cfg) (orc : Orc) (lim : Bool) (o : Oper) (st : St) : Option St :=
  match o.op with
  | .move x =>
    match x with
    | .tmp u => if st.own.contains u && !lim && o.dst != some u then some ((st.put o.dst (ev st.fr x)).alias o.dst (some (.tmp u))) else some (st.put o.dst (ev st.fr x))
    | _ => some (st.put o.dst (ev st.fr x))
  | .assign x =>
    match x with
    | .tmp u => if st.own.contains u && !lim then some ((dropOwn st (.tmp u)).putOwn o.dst (ev st.fr x) true) else some (st.put o.dst (ev st.fr x))
    | .const (.slice none 0 0) => if lim then some (st.put o.dst (.sl true [])) else some (st.putOwn o.dst (.sl true []) true)
    | _ => some (st.put o.dst (ev st.fr x))
  | .pick c a b => match ev st.fr c with
    | .bool true => some (st.put o.dst (ev st.fr a))
    | .bool false => some (st.put o.dst (ev st.fr b))
    | _ => none
  | .alloc t => if lim then none else
    match cfg.ty t with
    | some ti => some (pushBlk st o.dst (.cells t (nilOffs 0 ti.zero) ti.zero))
    | none => none
  | .box t x => if lim then none else
    match cellsV (ev st.fr x) with
    | some cs => some (pushBlk st o.dst (.cells t [] cs))
    | none => none
  | .build t parts => if fieldsKnown cfg t then (buildV cfg t (parts.toList.map fun (p : Nat × Operand) => (p.1, ev st.fr p.2))).map fun v => st.put o.dst v else none
  | .buildSlice t len parts => (buildSliceV cfg t len (parts.toList.map fun (p : Nat × Operand) => (p.1, ev st.fr p.2))).map fun v => st.put o.dst v
  | .load t p => (loadV cfg st.hp t (ev st.fr p)).map fun v => if isSl v && !lim then (st.put o.dst v).alias o.dst (cellOwner st.hp (ev st.fr p)) else st.put o.dst v
  | .store t p x => if lim || o.dst.isSome then none else storeOp cfg t p x st
  | .nilCheck x => match ev st.fr x with
    | .ptr id off => some (st.put o.dst (.ptr id off))
    | .pc d cs => some (st.put o.dst (.pc d cs))
    | .fn f cap => some (st.put o.dst (.fn f cap))
    | .yld id => some (st.put o.dst (.yld id))
    | _ => none
  | .binOp op t x y _ => (binOpV cfg op t (ev st.fr x) (ev st.fr y)).map fun v => st.put o.dst v
  | .unOp op _ x => (unOpV op (ev st.fr x)).map fun v => st.put o.dst v
  | .convert src dst x => match if lim then none else convPV cfg st.hp src dst (ev st.fr x) with
    | some v => some (st.put o.dst v)
    | none => (convV cfg src dst (ev st.fr x)).map fun v => st.put o.dst v
  | .makeFunc (.func f) first cap => if first.isEmpty then some (st.put o.dst (.fn f (cap.toList.map (ev st.fr)))) else none
  | .slice t x lo hi mx =>
    (sliceV cfg t (ev st.fr x) (lo.map (ev st.fr)) (hi.map (ev st.fr)) (mx.map (ev st.fr))).map fun v =>
      if !lim && isSl v && capZero (lo.map (ev st.fr)) (mx.map (ev st.fr)) then st.putOwn o.dst v true else st.put o.dst v
  | .fieldAddr s p i => (fieldV cfg s (ev st.fr p) i).map fun v => st.put o.dst v
  | .field s x i => (partV cfg s (ev st.fr x) i).map fun v => st.put o.dst v
  | .indexAddr t x i => (indexAddrV cfg t (ev st.fr x) (ev st.fr i)).map fun v => st.put o.dst v
  | .index t x i => (indexV cfg t (ev st.fr x) (ev st.fr i)).map fun v => st.put o.dst v
  | .extract x i => match ev st.fr x with
    | .tup vs => match vs[i]? with
      | some v => some (st.put o.dst v)
      | none => none
    | _ => none
  | .call c =>
    match c.callee with
    | .builtin b => if lim && isAppend b then none else builtinOp cfg b o.dst c.args.toList c.argTypes.toList st
    | .value f =>
      match ev st.fr f with
      | .fn g cap =>
        let args := c.args.toList.map (ev st.fr) ++ cap
        if lim then
          if V.ltl 0 args then
            match orc.call g args [] with
            | some (v, _, []) => some (st.put o.dst v)
            | _ => none
          else none
        else if cfg.ext g then
          match args with
          | [v] => some (st.put o.dst v)
          | _ => none
        else if V.ltl 0 args then
          match orc.call g args [] with
          | some (v, own, []) => some ({ st with al := [] }.putOwn o.dst v (own && isSl v))
          | some (v, own, hp) => some ({ st with hp := backHp st.hp [] hp, al := [] }.putOwn o.dst (v.ren (backId [] st.hp.length)) (own && isSl v))
          | none => none
        else
          let R := reach st.hp args
          if closedIn st.hp R args then
            match orc.call g (V.renl (fun i => R.idxOf i) args) (subHp st.hp R) with
            | some (v, own, hp) => some ({ st with hp := backHp st.hp R hp, al := [] }.putOwn o.dst (v.ren (backId R st.hp.length)) (own && isSl v))
            | none => none
          else none
      | .yld id =>
        if lim then none else
        let args := .yld id :: c.args.toList.map (ev st.fr)
        let R := reach st.hp args
        if closedIn st.hp R args then
          match orc.round (R.idxOf id) (V.renl (fun i => R.idxOf i) (c.args.toList.map (ev st.fr))) (subHp st.hp R) with
          | some (b, hp) => some ({ st with hp := backHp st.hp R hp, al := [] }.put o.dst (.bool b))
          | none => none
        else none
      | _ => none
    | .invoke _ _ => none
  | _ => none

def evOps (cfg : Cfg) (orc : Orc) (lim : Nat → Bool) (ops : List Oper) : List Nat → St → Option St
  | [], st => some st
  | i :: rest, st =>
    match ops[i]? with
    | none => none
    | some o =>
      match wantedV ops st.fr o with
      | none => none
      | some false => evOps cfg orc lim ops rest (st.put o.dst (.tup []))
      | some true =>
        match evOp cfg orc (lim i) o st with
        | none => none
        | some st' => evOps cfg orc lim ops rest st'

/-- Equality of what constants give. -/
def V.beqC : V → V → Bool
  | .any, .any => true
  | .bool a, .bool b => a == b
  | .int k a, .int k' b => (match k, k' with | .i8, .i8 | .i16, .i16 | .i32, .i32 | .i64, .i64 | .u8, .u8 | .u16, .u16 | .u32, .u32 | .u64, .u64 => true | _, _ => false) && a == b
  | .str [], .str [] => true
  | .nilp, .nilp => true
  | .nilf, .nilf => true
  | .nilm, .nilm => true
  | .sl true [], .sl true [] => true
  | _, _ => false

def beqL : List V → List V → Bool
  | [], [] => true
  | a :: x, b :: y => V.beqC a b && beqL x y
  | _, _ => false

theorem beqC_eq {a b : V} (h : V.beqC a b = true) : a = b := by
  unfold V.beqC at h
  split at h <;> first | (cases h; done) | rfl | skip
  · simp at h; rw [h]
  · simp only [Bool.and_eq_true, beq_iff_eq] at h
    obtain ⟨h1, h2⟩ := h
    subst h2
    split at h1 <;> first | (cases h1; done) | rfl

theorem beqL_eq : ∀ {x y : List V}, beqL x y = true → x = y
  | [], [], _ => rfl
  | a :: x, b :: y, h => by
    simp only [beqL, Bool.and_eq_true] at h
    rw [beqC_eq h.1, beqL_eq h.2]
  | [], _ :: _, h => by simp [beqL] at h
  | _ :: _, [], h => by simp [beqL] at h

/-! ### Regions that draw their order -/
/-- The value of a light operation: it hangs on the slots that it looks at, and on one block at most. -/
def limV (cfg : Cfg) (orc : Orc) (hole : Nat) (o : Oper) (fr : List V) (hp : List Blk) : Option V :=
  match o.op with
  | .move x => some (ev fr x)
  | .assign x => some (ev fr x)
  | .pick c a b => match ev fr c with
    | .bool true => some (ev fr a)
    | .bool false => some (ev fr b)
    | _ => none
  | .alloc t => match cfg.ty t, hp[hole]? with
    | some ti, some (.cells t' ow cs) => if Nat.beq t t' && ow == nilOffs 0 ti.zero && beqL cs ti.zero then some (.ptr hole 0) else none
    | _, _ => none
  | .build t parts => if fieldsKnown cfg t then buildV cfg t (parts.toList.map fun (p : Nat × Operand) => (p.1, ev fr p.2)) else none
  | .buildSlice t len parts => buildSliceV cfg t len (parts.toList.map fun (p : Nat × Operand) => (p.1, ev fr p.2))
  | .load t p => loadV cfg hp t (ev fr p)
  | .nilCheck x => match ev fr x with
    | .ptr id off => some (.ptr id off)
    | .pc d cs => some (.pc d cs)
    | .fn f cap => some (.fn f cap)
    | .yld id => some (.yld id)
    | _ => none
  | .binOp op t x y _ => binOpV cfg op t (ev fr x) (ev fr y)
  | .unOp op _ x => unOpV op (ev fr x)
  | .convert src dst x => convV cfg src dst (ev fr x)
  | .makeFunc (.func f) first cap => if first.isEmpty then some (.fn f (cap.toList.map (ev fr))) else none
  | .slice t x lo hi mx => sliceV cfg t (ev fr x) (lo.map (ev fr)) (hi.map (ev fr)) (mx.map (ev fr))
  | .fieldAddr s p i => fieldV cfg s (ev fr p) i
  | .field s x i => partV cfg s (ev fr x) i
  | .indexAddr t x i => indexAddrV cfg t (ev fr x) (ev fr i)
  | .index t x i => indexV cfg t (ev fr x) (ev fr i)
  | .extract x i => match ev fr x with
    | .tup vs => vs[i]?
    | _ => none
  | .call c =>
    match c.callee with
    | .builtin b =>
      match b, c.args.toList, c.argTypes.toList with
      | .len, [x], t :: _ => lenV cfg t (ev fr x)
      | .min, xs, _ => minmax false (xs.map (ev fr))
      | .max, xs, _ => minmax true (xs.map (ev fr))
      | _, _, _ => none
    | .value f =>
      match ev fr f with
      | .fn g cap =>
        if V.ltl 0 (c.args.toList.map (ev fr) ++ cap) then
          match orc.call g (c.args.toList.map (ev fr) ++ cap) [] with
          | some (v, _, []) => some v
          | _ => none
        else none
      | _ => none
    | .invoke _ _ => none
  | _ => none

/-- The blocks that a light operation's value hangs on. -/
def limAt (hole : Nat) (o : Oper) (fr : List V) : List Nat :=
  match o.op with
  | .load _ p => match ev fr p with
    | .ptr id _ => [id]
    | _ => []
  | .alloc _ => [hole]
  | _ => []

/-- The blocks that an operation may write, or make. -/
def fullAt (o : Oper) (st st' : St) : List Nat :=
  match o.op with
  | .store _ p _ => match ev st.fr p with
    | .ptr id _ => [id]
    | _ => []
  | .call c =>
    match c.callee with
    | .value f => match ev st.fr f with
      | .fn _ cap => reach st.hp (c.args.toList.map (ev st.fr) ++ cap) ++ (List.range (st'.hp.length - st.hp.length)).map (st.hp.length + ·)
      | .yld id => reach st.hp (.yld id :: c.args.toList.map (ev st.fr)) ++ (List.range (st'.hp.length - st.hp.length)).map (st.hp.length + ·)
      | _ => []
    | .builtin .append => match c.args.toList with
      | .tmp u :: _ => match ownerOf st u with
        | some (.cell id _) => [id]
        | _ => []
      | _ => []
    | _ => []
  | .alloc _ | .box _ _ => [st.hp.length]
  | _ => []

def disj (x y : List Nat) : Bool := x.all fun i => !y.contains i

def isAlloc (o : Oper) : Bool :=
  match o.op with
  | .alloc _ => true
  | _ => false

/-- How many light allocations come before. -/
def rank : List Oper → List (Bool × List Nat) → Nat → Nat
  | o :: ops, (l, _) :: info, i + 1 => (if l && isAlloc o then 1 else 0) + rank ops info i
  | _, _, _ => 0

/-- The blocks that a region's light allocations make. -/
def laidAhead (cfg : Cfg) : List Oper → List (Bool × List Nat) → List Blk
  | o :: ops, (true, _) :: info => match o.op with
    | .alloc t => (match cfg.ty t with
      | some ti => .cells t (nilOffs 0 ti.zero) ti.zero
      | none => .hole) :: laidAhead cfg ops info
    | _ => laidAhead cfg ops info
  | _ :: ops, _ :: info => laidAhead cfg ops info
  | _, _ => []

structure DS where
  st : St
  gh : List (List Nat)

/-- What an operation touches must be apart from what those have touched that are not ordered with it. -/
def touched (gh : List (List Nat)) (i : Nat) (cont : List Nat) (T : List Nat) : Option (List (List Nat)) :=
  if cont.isEmpty then some gh else
  if cont.all fun k => disj T (gh.getD k []) then some (gh.set i T) else none

/-- One operation of a region that draws. -/
def evD (cfg : Cfg) (orc : Orc) (n0 : Nat) (ops : List Oper) (info : List (Bool × List Nat)) (i : Nat) (s : DS) : Option DS :=
  match ops[i]?, info[i]? with
  | some o, some (lim, cont) =>
    match wantedV ops s.st.fr o with
    | none => none
    | some false => some { s with st := s.st.put o.dst (.tup []) }
    | some true =>
      if lim then
        match limV cfg orc (n0 + rank ops info i) o s.st.fr s.st.hp with
        | none => none
        | some v => (touched s.gh i cont (limAt (n0 + rank ops info i) o s.st.fr)).map fun gh => { st := s.st.put o.dst v, gh := gh }
      else
        match evOp cfg orc false o s.st with
        | none => none
        | some st' => (touched s.gh i cont (fullAt o s.st st')).map fun gh => { st := st', gh := gh }
  | _, _ => none

def evDs (cfg : Cfg) (orc : Orc) (n0 : Nat) (ops : List Oper) (info : List (Bool × List Nat)) : List Nat → DS → Option DS
  | [], s => some s
  | i :: rest, s => match evD cfg orc n0 ops info i s with
    | none => none
    | some s' => evDs cfg orc n0 ops info rest s'

/-- A region that draws, in the text's order. -/
def evDraw (cfg : Cfg) (orc : Orc) (ops : List Oper) (info : List (Bool × List Nat)) (st : St) : Option St :=
  (evDs cfg orc st.hp.length ops info (List.range ops.length) { st := { st with hp := st.hp ++ laidAhead cfg ops info, al := [] }, gh := List.replicate ops.length [] }).map DS.st

def killAll (fr : List V) : List Nat → List V
  | [] => fr
  | t :: r => killAll (fr.set t .any) r

def St.kill (st : St) (l : List Nat) : St := { st with fr := killAll st.fr l, own := st.own.filter (fun t => !l.contains t), al := [] }

def resOf (cfg : Cfg) (st : St) : ResultVar → Option V
  | .tmp t => some (st.fr.getD t .any)
  | .cell p t => loadV cfg st.hp t (st.fr.getD p .any)

def resOwn (st : St) : ResultVar → Bool
  | .tmp t => st.own.contains t
  | _ => false

def resultsV (cfg : Cfg) (st : St) (rs : List ResultVar) : Option (V × Bool) :=
  match rs with
  | [r] => (resOf cfg st r).map fun v => (v, resOwn st r)
  | rs => (rs.mapM (resOf cfg st)).map fun vs => (.tup vs, false)

/-- A loop's name in its function: its first region's number. -/
def firstReg : Code → Nat
  | .region id _ _ => id
  | .seq a _ => firstReg a
  | .cond _ a _ => firstReg a
  | .block _ c => firstReg c
  | .loop c => firstReg c
  | _ => 0

/-- A range over a function, by name. -/
def rangeKey (assign body : Code) : Nat := 100000 + (if firstReg assign = 0 then firstReg body else firstReg assign)

/-- The least count of blocks beyond which nothing is named. -/
def upTo (hp : List Blk) : Nat → Nat → Nat
  | 0, n => n
  | k + 1, n => if (hp.take n).all (Blk.all fun i => Nat.blt i n) then n else upTo hp k (n + 1)

def topIds (l : List V) : Nat := (V.idsl [] l).foldl (fun n i => max n (i + 1)) 0

/-- Blocks that nothing names any more are forgotten. -/
def St.gc (st : St) : St :=
  let n := upTo st.hp (st.hp.length - max st.nb (topIds st.fr)) (max st.nb (topIds st.fr))
  if Nat.ble st.nb n && V.ltl n st.fr && (st.hp.take n).all (Blk.all fun i => Nat.blt i n) then { st with hp := st.hp.take n, al := [] } else st

/-- What a round leaves behind. -/
def Ex.jump : Ex → Option Code
  | .normal => none
  | .ret => some .ret
  | .exit i => some (.exit i)

def jumpEx : Option Code → Option Ex
  | none => some .normal
  | some .ret => some .ret
  | some (.exit i) => some (.exit i)
  | _ => none

/-- Is the round's record there? -/
def inLoop (round : Option Nat) (hp : List Blk) : Bool :=
  match round with
  | none => true
  | some id => match hp[id]? with
    | some (.loop _ _ _ _ _ _ _) => true
    | _ => false

def notBusy : LoopState → Bool
  | .busy => false
  | _ => true

def isReady : LoopState → Bool
  | .ready => true
  | _ => false

def step (cfg : Cfg) (orc : Orc) : Orc where
  code f round c st :=
    match c with
    | .skip => some (.normal, st)
    | .label _ => some (.normal, st)
    | .seq a b => match orc.code f round a st with
      | some (.normal, st') => orc.code f round b st'
      | r => r
    | .cond c a b => match ev st.fr c with
      | .bool true => orc.code f round a st
      | .bool false => orc.code f round b st
      | _ => none
    | .block id body => match orc.code f round body st with
      | some (.exit i, st') => if i = id then some (.normal, st') else some (.exit i, st')
      | r => r
    | .loop body => match orc.code f round body (st.kill (cfg.kill f (firstReg body))).gc with
      | some (.normal, st') => orc.code f round (.loop body) st'
      | r => r
    | .exit id => some (.exit id, st)
    | .ret => some (.ret, st)
    | .region id ops draw =>
      if draw then (evDraw cfg orc ops.toList (cfg.draw f id) st).map fun st' => (.normal, { st' with al := [] }) else
      (evOps cfg orc (fun _ => false) ops.toList (List.range ops.size) st).map fun st' => (.normal, { st' with al := [] })
    | .scope body => orc.code f round body st
    | .rangeFunc g ps assign body =>
      match ev st.fr g with
      | .fn gf cap =>
        let l := st.hp.length
        let hp1 := st.hp ++ [.loop .ready none f (killAll st.fr (cfg.kill f (rangeKey assign body))) ps.toList assign body]
        let args := .yld l :: cap
        let R := reach hp1 args
        if inLoop round st.hp && closedIn hp1 R args then
          match orc.call gf (V.renl (fun i => R.idxOf i) args) (subHp hp1 R) with
          | some (_, _, hp') =>
            let hp2 := backHp hp1 R hp'
            match hp2[l]? with
            | some (.loop s pe _ _ _ _ _) =>
              if notBusy s then
                match jumpEx pe with
                | some e => some (e, { st with hp := hp2.set l .dead, al := [] })
                | none => none
              else none
            | _ => none
          | none => none
        else none
      | _ => none
    | _ => none
  call f args hp :=
    match cfg.fn f with
    | none => none
    | some fn =>
      match fn.body with
      | none => none
      | some c =>
        match orc.code f none c { fr := args ++ List.replicate (fn.ntmps - args.length) .any, own := [], hp := hp, al := [], nb := hp.length } with
        | some (.exit _, _) => none
        | none => none
        | some (_, st') =>
          match resultsV cfg st' fn.results.toList with
          | none => none
          | some (v, own) =>
            if V.lt hp.length v && (st'.hp.take hp.length).all (Blk.all fun i => Nat.blt i hp.length) then some (v, own && isSl v, st'.hp.take hp.length)
            else some (v, own && isSl v, st'.hp)
  round id args hp :=
    match hp[id]? with
    | some (.loop s _ fn fr ps assign body) =>
      if isReady s && Nat.beq args.length ps.length then
        match orc.code fn (some id) assign { fr := (ps.zip args).foldl (fun f p => f.set p.1 p.2) fr, own := [], hp := hp, al := [], nb := hp.length } with
        | some (.normal, st1) =>
          match st1.hp[id]? with
          | some (.loop s1 pe1 fn1 fr1 ps1 as1 bo1) =>
            if isReady s1 then
              match orc.code fn (some id) body { st1 with hp := st1.hp.set id (.loop .busy pe1 fn1 fr1 ps1 as1 bo1), al := [] } with
              | some (ex, st2) =>
                match st2.hp[id]? with
                | some (.loop _ _ fn2 fr2 ps2 as2 bo2) =>
                  let hp2 := st2.hp.set id (.loop (if ex.jump.isNone then .ready else .done) ex.jump fn2 fr2 ps2 as2 bo2)
                  if (hp2.take hp.length).all (Blk.all fun i => Nat.blt i hp.length) then some (ex.jump.isNone, hp2.take hp.length)
                  else some (ex.jump.isNone, hp2)
                | _ => none
              | none => none
            else none
          | _ => none
        | _ => none
      else none
    | _ => none

/-! ### What is asked of a region that draws -/
/-- The operations that come before each one, whatever is drawn. -/
def preds : List Oper → Nat → List (List Nat) → List (List Nat)
  | [], _, acc => acc
  | o :: r, i, acc => preds r (i + 1) (acc ++ [o.after.toList.foldl (fun l e => if Region.binds .any e then e.on :: ((acc.getD e.on []).filter fun p => !l.contains p) ++ l else l) []])

/-- Of such preds: each edge's end is among them, and all its own. -/
def predsOk (ops : List Oper) (pr : List (List Nat)) : Bool :=
  (List.range ops.length).all fun i => match ops[i]? with
    | some o => (pr.getD i []).all (fun p => Nat.blt p i) && o.after.toList.all (fun e => !Region.binds .any e || (Nat.blt e.on i && (pr.getD i []).contains e.on && (pr.getD e.on []).all fun p => (pr.getD i []).contains p)) &&
      (pr.getD i []).all (fun p => o.after.toList.any fun e => Region.binds .any e && (Nat.beq e.on p || (pr.getD e.on []).contains p))
    | none => true

/-- Does an operation write memory, or make some? -/
def writes (o : Oper) : Bool :=
  match o.op with
  | .store _ _ _ => true
  | .alloc _ | .box _ _ => true
  | .call c => match c.callee with
    | .value _ => true
    | .builtin .append => true
    | _ => false
  | _ => false

/-- Does a light operation's value hang on memory? -/
def looksIn (o : Oper) : Bool :=
  match o.op with
  | .load _ _ | .alloc _ => true
  | _ => false

def isSource (o : Oper) (d : Option Tmp) : Bool :=
  match o.op, d with
  | .move (.tmp t), some d => Nat.beq t d
  | _, _ => false

/-- A light operation, and one that is not ordered with it. -/
def apartOk (ops : List Oper) (info : List (Bool × List Nat)) (i j : Nat) : Bool :=
  match ops[i]?, ops[j]?, info[i]?, info[j]? with
  | some x, some y, some (_, cx), some (ly, cy) =>
    x.apart ops.toArray y && (cx.contains j == cy.contains i) && (ly || !(looksIn x && writes y) || cx.contains j)
  | _, _, _, _ => false

def isLim (info : List (Bool × List Nat)) (i : Nat) : Bool :=
  match info[i]? with
  | some (l, _) => l
  | none => false

def drawsOk (ops : List Oper) (info : List (Bool × List Nat)) : Bool :=
  let pr := preds ops 0 []
  Nat.beq ops.length info.length && predsOk ops pr &&
  (List.range ops.length).all (fun j => (List.range j).all fun i => (pr.getD j []).contains i || (isLim info i && apartOk ops info i j) || (isLim info j && apartOk ops info j i)) &&
  (List.range ops.length).all (fun i => !isLim info i || (List.range ops.length).all fun k => isLim info k || match ops[i]?, ops[k]? with
    | some x, some y => !isSource y x.dst
    | _, _ => true) &&
  (List.range ops.length).all (fun i => match info[i]? with
    | some (_, c) => !c.contains i
    | none => false)

/-- All regions of a function's code. -/
def regsOk (cfg : Cfg) (f : FuncId) : Code → Bool
  | .region id ops draw => !draw || drawsOk ops.toList (cfg.draw f id)
  | .seq a b => regsOk cfg f a && regsOk cfg f b
  | .cond _ a b => regsOk cfg f a && regsOk cfg f b
  | .block _ c => regsOk cfg f c
  | .loop c => regsOk cfg f c
  | .rangeFunc _ _ a b => regsOk cfg f a && regsOk cfg f b
  | .scope c => regsOk cfg f c
  | _ => true

def run (cfg : Cfg) : Nat → Orc
  | 0 => ⟨fun _ _ _ _ => none, fun _ _ _ => none, fun _ _ _ => none⟩
  | n + 1 => step cfg (run cfg n)

/-- The interpreter answers v, given enough fuel. -/
def Ev (cfg : Cfg) (f : FuncId) (args : List V) (v : V) : Prop :=
  ∃ n own hp, (run cfg n).call f args [] = some (v, own, hp)

/-! ### Tables -/
inductive Tree (α : Type) where
  | leaf
  | node (l : Tree α) (k : Nat) (v : α) (r : Tree α)

def Tree.find {α : Type} (t : Tree α) (k : Nat) : Option α :=
  match t with
  | .leaf => none
  | .node l k' v r => if Nat.beq k k' then some v else if Nat.blt k k' then l.find k else r.find k

end Go.Abs
