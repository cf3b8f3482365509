/- An abstract interpreter over the model's code: its definitions. -/
import GoSem.Step
import Derived.OrdersIn
import Derived.Attr
import Derived.KernelRfl
set_option linter.all false
namespace Go.Abs

inductive V where
  | any
  | bool (b : Bool)
  | int (k : IntKind) (n : Int)
  | str (s : List UInt8)
  | nilp
  | ptr (id off : Nat)
  | pc (dat : Bool) (cs : List V)
  | sl (dat : Bool) (xs : List (List V))
  | ms (id off len cap : Nat)
  | fn (f : FuncId) (cap : List V)
  | yld (id : Nat)
  | nilf
  | nilm
  | nils
  | map (id : Nat)
  | agg (cs : List V)
  | tup (vs : List V)
  deriving Inhabited

mutual
def V.all (p : Nat → Bool) : V → Bool
  | .ptr id _ => p id
  | .pc d cs => d || V.alll p cs
  | .sl d xs => d || V.allll p xs
  | .ms id _ _ _ => p id
  | .fn _ cap => V.alll p cap
  | .yld id => p id
  | .map id => p id
  | .agg cs => V.alll p cs
  | .tup vs => V.alll p vs
  | _ => true
def V.alll (p : Nat → Bool) : List V → Bool
  | [] => true
  | v :: r => V.all p v && V.alll p r
def V.allll (p : Nat → Bool) : List (List V) → Bool
  | [] => true
  | v :: r => V.alll p v && V.allll p r
end

def V.lt (n : Nat) (v : V) : Bool := V.all (fun i => Nat.blt i n) v
def V.ltl (n : Nat) (v : List V) : Bool := V.alll (fun i => Nat.blt i n) v

mutual
def V.ren (f : Nat → Nat) : V → V
  | .ptr id o => .ptr (f id) o
  | .pc d cs => .pc d (if d then cs else V.renl f cs)
  | .sl d xs => .sl d (if d then xs else V.renll f xs)
  | .ms id o l c => .ms (f id) o l c
  | .fn g cap => .fn g (V.renl f cap)
  | .yld id => .yld (f id)
  | .map id => .map (f id)
  | .agg cs => .agg (V.renl f cs)
  | .tup vs => .tup (V.renl f vs)
  | v => v
def V.renl (f : Nat → Nat) : List V → List V
  | [] => []
  | v :: r => V.ren f v :: V.renl f r
def V.renll (f : Nat → Nat) : List (List V) → List (List V)
  | [] => []
  | v :: r => V.renl f v :: V.renll f r
end

mutual
def V.ids (acc : List Nat) : V → List Nat
  | .ptr id _ => if acc.contains id then acc else id :: acc
  | .pc d cs => if d then acc else V.idsl acc cs
  | .sl d xs => if d then acc else V.idsll acc xs
  | .ms id _ _ _ => if acc.contains id then acc else id :: acc
  | .fn _ cap => V.idsl acc cap
  | .yld id => if acc.contains id then acc else id :: acc
  | .map id => if acc.contains id then acc else id :: acc
  | .agg cs => V.idsl acc cs
  | .tup vs => V.idsl acc vs
  | _ => acc
def V.idsl (acc : List Nat) : List V → List Nat
  | [] => acc
  | v :: r => V.idsl (V.ids acc v) r
def V.idsll (acc : List Nat) : List (List V) → List Nat
  | [] => acc
  | v :: r => V.idsll (V.idsl acc v) r
end

inductive K where
  | bool | int (k : IntKind) | str | ptr (e : TypeId) | rawp | slice (e : TypeId) | struct (eq : Bool) (fs : List (Nat × TypeId)) | array (n : Nat) (e : TypeId) | map (k e : TypeId) | func | other
  deriving Inhabited, DecidableEq
def K.isAgg : K → Bool
  | .struct _ _ | .array _ _ => true
  | _ => false
structure TI where
  k : K
  size : Nat
  bytes : Nat
  zero : List V
  deriving Inhabited

inductive Blk where
  | cells (t : TypeId) (own : List Nat) (cs : List V)
  | hole
  | dead
  | loop (state : LoopState) (pending : Option Code) (fn : FuncId) (fr : List V) (params : List Tmp) (assign body : Code)
  | map (es : List (V × List V))
  deriving Inhabited

def Blk.all (p : Nat → Bool) : Blk → Bool
  | .cells _ _ cs => V.alll p cs
  | .hole => true
  | .dead => true
  | .loop _ _ _ fr _ _ _ => V.alll p fr
  | .map es => es.all fun e => V.all p e.1 && V.alll p e.2

def Blk.ren (f : Nat → Nat) : Blk → Blk
  | .cells t ow cs => .cells t ow (V.renl f cs)
  | .hole => .hole
  | .dead => .dead
  | .loop s p g fr ps a b => .loop s p g (V.renl f fr) ps a b
  | .map es => .map (es.map fun e => (V.ren f e.1, V.renl f e.2))

def Blk.ids (acc : List Nat) : Blk → List Nat
  | .cells _ _ cs => V.idsl acc cs
  | .hole => acc
  | .dead => acc
  | .loop _ _ _ fr _ _ _ => V.idsl acc fr
  | .map es => es.foldl (fun acc e => V.idsl (V.ids acc e.1) e.2) acc

def Blk.isHole : Blk → Bool
  | .hole => true
  | _ => false

inductive Owner where
  | tmp (t : Tmp)
  | cell (id off : Nat)
  | base (id off : Nat)
  deriving Inhabited, DecidableEq

structure St where
  fr : List V
  own : List Nat
  hp : List Blk
  al : List (Tmp × Owner) := []
  nb : Nat := 0
  deriving Inhabited

inductive Ex where
  | normal | exit (id : Nat) | ret
  deriving Inhabited, DecidableEq

structure Cfg where
  fn : FuncId → Option Func
  ty : TypeId → Option TI
  kill : FuncId → Nat → List Nat
  draw : FuncId → Nat → List (Bool × List Nat)
  ext : FuncId → Bool
  inpl : FuncId → Bool := fun _ => false
  birth : FuncId → Bool := fun _ => false
  frz : FuncId → Nat → List (Nat × Tmp) := fun _ _ => []
  solo : TypeId → Bool := fun _ => false
  cln : FuncId → Option TypeId := fun _ => none
  nilB : TypeId → Nat → Bool := fun _ _ => false
  nilT : TypeId → Bool := fun _ => false
  srt : FuncId → FuncId → Option (TypeId × Nat) := fun _ _ => none
  clm : FuncId → Bool := fun _ => false

structure Orc where
  code : FuncId → Option Nat → Code → St → Option (Ex × St)
  call : FuncId → List V → List Blk → Option (V × Bool × List Blk)
  round : Nat → List V → List Blk → Option (Bool × List Blk)

def ofConst : Value → V
  | .bool b => .bool b
  | .int k n => .int k n
  | .string s => .str s.data.toList
  | .pointer none => .nilp
  | .slice none 0 0 => .sl true []
  | .nilFunc => .nilf
  | .map none => .nilm
  | _ => .any

def ev (fr : List V) : Operand → V
  | .tmp t => fr.getD t .any
  | .const v => ofConst v
  | .global _ => .any
  | .func f => .fn f []

def cellsV : V → Option (List V)
  | .agg cs => some cs
  | .any => none
  | .tup _ => none
  | v => some [v]

def mkV (agg : Bool) (cs : List V) : Option V :=
  if agg then some (.agg cs) else match cs with
    | [v] => some v
    | _ => none

def St.put (st : St) (d : Option Tmp) (v : V) : St :=
  match d with
  | none => st
  | some d => { st with fr := st.fr.set d v, own := st.own.filter (· != d), al := st.al.filter fun p => p.1 != d && p.2 != .tmp d }

def St.owns (st : St) (d : Option Tmp) (own : Bool) : St :=
  match d with
  | none => st
  | some d => if own then { st with own := d :: st.own } else st

def St.putOwn (st : St) (d : Option Tmp) (v : V) (own : Bool) : St := (st.put d v).owns d own

def St.alias (st : St) (d : Option Tmp) (o : Option Owner) : St :=
  match d, o with
  | some d, some o => { st with al := (d, o) :: st.al }
  | _, _ => st

def bytesLt : List UInt8 → List UInt8 → Bool
  | _, [] => false
  | [], _ :: _ => true
  | a :: x, b :: y => a < b || (a == b && bytesLt x y)

def strMax : Nat := 140737488355328

def strOp (op : BinOp) (x y : List UInt8) : Option V :=
  match op with
  | .add => if x.length + y.length ≤ strMax then some (.str (x ++ y)) else none
  | .eql => some (.bool (x == y))
  | .neq => some (.bool !(x == y))
  | .lss => some (.bool (bytesLt x y))
  | .leq => some (.bool (bytesLt x y || x == y))
  | .gtr => some (.bool !(bytesLt x y || x == y))
  | .geq => some (.bool !(bytesLt x y))
  | _ => none

def bits (k : IntKind) (f : BitVec k.bits → BitVec k.bits → BitVec k.bits) (x y : Int) : V :=
  .int k (k.wrap (f (BitVec.ofInt k.bits x) (BitVec.ofInt k.bits y)).toNat)

def intOp (op : BinOp) (k : IntKind) (x y : Int) : Option V :=
  match op with
  | .add => some (.int k (k.wrap (x + y)))
  | .sub => some (.int k (k.wrap (x - y)))
  | .mul => some (.int k (k.wrap (x * y)))
  | .quo => if y = 0 then none else some (.int k (k.wrap (x.tdiv y)))
  | .rem => if y = 0 then none else some (.int k (x.tmod y))
  | .and => some (bits k (· &&& ·) x y)
  | .or => some (bits k (· ||| ·) x y)
  | .xor => some (bits k (· ^^^ ·) x y)
  | .andNot => some (bits k (fun a b => a &&& ~~~b) x y)
  | .eql => some (.bool (x == y))
  | .neq => some (.bool (x != y))
  | .lss => some (.bool (x < y))
  | .leq => some (.bool (x ≤ y))
  | .gtr => some (.bool (x > y))
  | .geq => some (.bool (x ≥ y))
  | _ => none

def shiftOp (op : BinOp) (k : IntKind) (x y : Int) : Option V :=
  if y < 0 then none else
  match op with
  | .shl => some (.int k (k.wrap (x * 2 ^ (min y.toNat k.bits))))
  | .shr => some (.int k (x.fdiv (2 ^ (min y.toNat k.bits))))
  | _ => none

def eqFs (cfg : Cfg) (eq : TypeId → V → V → Option Bool) : List (Nat × TypeId) → List V → List V → Option Bool
  | [], _, _ => some true
  | (off, t) :: r, xs, ys =>
    match cfg.ty t with
    | none => none
    | some ti =>
      if off + ti.size ≤ xs.length ∧ off + ti.size ≤ ys.length then
        match mkV ti.k.isAgg ((xs.drop off).take ti.size), mkV ti.k.isAgg ((ys.drop off).take ti.size) with
        | some a, some b => match eq t a b with
          | some e => match eqFs cfg eq r xs ys with
            | some e' => some (e && e')
            | none => none
          | none => none
        | _, _ => none
      else none

def eqT (cfg : Cfg) : Nat → TypeId → V → V → Option Bool
  | 0, _, _, _ => none
  | d + 1, t, x, y =>
    match (cfg.ty t).map TI.k, x, y with
    | some .bool, .bool a, .bool b => some (a == b)
    | some (.int _), .int k a, .int k' b => if k = k' then some (a == b) else none
    | some .str, .str a, .str b => some (a == b)
    | some (.ptr _), .nilp, .nilp => some true
    | some (.ptr _), .nilp, .ptr _ _ => some false
    | some (.ptr _), .nilp, .pc _ _ => some false
    | some (.ptr _), .ptr _ _, .nilp => some false
    | some (.ptr _), .pc _ _, .nilp => some false
    | some (.ptr e), .ptr i o, .ptr j q => if i = j ∧ o = q ∧ (cfg.ty e).isSome then some true else none
    | some .func, .nilf, .nilf => some true
    | some .func, .nilf, .fn _ _ => some false
    | some .func, .fn _ _, .nilf => some false
    | some (.map _ _), .nilm, .nilm => some true
    | some (.map _ _), .nilm, .map _ => some false
    | some (.map _ _), .map _, .nilm => some false
    | some (.struct true fs), .agg xs, .agg ys => eqFs cfg (eqT cfg d) fs xs ys
    | _, _, _ => none
def binOpV (cfg : Cfg) (op : BinOp) (t : TypeId) (x y : V) : Option V :=
  match op, x, y with
  | .shl, .int k a, .int _ b => shiftOp .shl k a b
  | .shr, .int k a, .int _ b => shiftOp .shr k a b
  | op, .int k a, .int k' b => if k = k' then intOp op k a b else none
  | op, .str a, .str b => strOp op a b
  | .eql, x, y => (eqT cfg 20 t x y).map .bool
  | .neq, x, y => (eqT cfg 20 t x y).map fun b => .bool !b
  | _, _, _ => none

def unOpV (op : UnOp) (x : V) : Option V :=
  match op, x with
  | .neg, .int k n => some (.int k (k.wrap (0 - n)))
  | .xor, .int k n => some (bits k (· ^^^ ·) (if k.signed then -1 else k.max) n)
  | .not, .bool b => some (.bool !b)
  | _, _ => none

def byteRow (b : UInt8) : List V := [.int .u8 b.toNat]
def rowByteS : List V → Option UInt8
  | [.int .u8 n] => if n = (UInt8.ofNat n.toNat).toNat then some (UInt8.ofNat n.toNat) else none
  | _ => none
def rowByte : List V → Option UInt8
  | [.int .u8 n] => some (UInt8.ofNat n.toNat)
  | _ => none

def convV (cfg : Cfg) (src dst : TypeId) (x : V) : Option V :=
  match (cfg.ty src).map TI.k, (cfg.ty dst).map TI.k, x with
  | some _, some (.int k), .int _ n => some (.int k (k.wrap n))
  | some _, some .str, .str s => some (.str s)
  | some (.slice e), some .str, .sl _ xs =>
    if ((cfg.ty e).map TI.k) = some (.int .u8) then (xs.mapM rowByte).map .str else none
  | some ks, some (.slice e), .str s =>
    if ((cfg.ty e).map TI.k) = some (.int .u8) ∧ ks = .str then some (.sl true (s.map byteRow)) else none
  | _, _, _ => none

def convPV (cfg : Cfg) (hp : List Blk) (src dst : TypeId) (x : V) : Option V :=
  match (cfg.ty src).map TI.k, (cfg.ty dst).map TI.k, x with
  | some (.ptr t), some .rawp, .ptr id off =>
    match cfg.ty t, hp[id]? with
    | some ti, some (.cells _ _ cs) => if ti.size ≠ 0 ∧ off < cs.length then some (.ptr id off) else none
    | _, _ => none
  | some .rawp, some (.ptr t), .ptr id off =>
    match cfg.ty t, hp[id]? with
    | some ti, some (.cells t' _ cs) => if t' = t ∧ off = 0 ∧ cs.length = ti.size ∧ ti.size ≠ 0 ∧ cfg.solo t = true then some (.ptr id off) else none
    | _, _ => none
  | _, _, _ => none

def loadV (cfg : Cfg) (hp : List Blk) (t : TypeId) (p : V) : Option V :=
  match cfg.ty t with
  | none => none
  | some ti =>
    match p with
    | .pc _ cs => if ti.size ≤ cs.length then mkV ti.k.isAgg (cs.take ti.size) else none
    | .ptr id off =>
      match hp[id]? with
      | some (.cells _ _ cs) => if off + ti.size ≤ cs.length then mkV ti.k.isAgg ((cs.drop off).take ti.size) else none
      | _ => none
    | _ => none

def fieldV (cfg : Cfg) (s : TypeId) (p : V) (i : Nat) : Option V :=
  match (cfg.ty s).map TI.k with
  | some (.struct _ fs) =>
    match fs[i]? with
    | some (o, t) =>
      if ((cfg.ty t).map TI.size).getD 0 = 0 then none else
      match p with
      | .ptr id off => some (.ptr id (off + o))
      | .pc d cs => some (.pc d (cs.drop o))
      | _ => none
    | none => none
  | _ => none

def partV (cfg : Cfg) (s : TypeId) (x : V) (i : Nat) : Option V :=
  match (cfg.ty s).map TI.k, x with
  | some (.struct _ fs), .agg cs =>
    match fs[i]? with
    | some (o, t) =>
      match cfg.ty t with
      | some ti => if o + ti.size ≤ cs.length then mkV ti.k.isAgg ((cs.drop o).take ti.size) else none
      | none => none
    | none => none
  | _, _ => none

def indexAddrV (cfg : Cfg) (t : TypeId) (x i : V) : Option V :=
  match i with
  | .int _ i =>
    if i < 0 then none else
    match (cfg.ty t).map TI.k, x with
    | some (.slice e), .sl d xs =>
      match xs[i.toNat]? with
      | some row => if some row.length = (cfg.ty e).map TI.size then some (.pc d row) else none
      | none => none
    | some (.slice e), .ms id off len _ =>
      match cfg.ty e with
      | some ti => if i.toNat < len then some (.ptr id (off + i.toNat * ti.size)) else none
      | none => none
    | some (.array n e), .ptr id off =>
      match cfg.ty e with
      | some ti => if i.toNat < n then some (.ptr id (off + i.toNat * ti.size)) else none
      | none => none
    | some (.array n e), .pc d cs =>
      match cfg.ty e with
      | some ti => if i.toNat < n then some (.pc d (cs.drop (i.toNat * ti.size))) else none
      | none => none
    | _, _ => none
  | _ => none

def indexV (cfg : Cfg) (t : TypeId) (x i : V) : Option V :=
  match i with
  | .int _ i =>
    if i < 0 then none else
    match (cfg.ty t).map TI.k, x with
    | some .str, .str s => match s[i.toNat]? with
      | some b => some (.int .u8 b.toNat)
      | none => none
    | some (.array n e), .agg cs =>
      match cfg.ty e with
      | some ti => if i.toNat < n ∧ i.toNat * ti.size + ti.size ≤ cs.length then mkV ti.k.isAgg ((cs.drop (i.toNat * ti.size)).take ti.size) else none
      | none => none
    | _, _ => none
  | _ => none

def rowsFit (size : Nat) : List (List V) → Bool
  | [] => true
  | r :: _ => r.length == size

def bound (x : Option V) (dflt most : Nat) : Option Nat :=
  match x with
  | none => some dflt
  | some (.int _ i) => if 0 ≤ i ∧ i ≤ most then some i.toNat else none
  | some _ => none

def sliceV (cfg : Cfg) (t : TypeId) (x : V) (lo hi mx : Option V) : Option V :=
  match (cfg.ty t).map TI.k, x with
  | some .str, .str s =>
    match mx with
    | some _ => none
    | none =>
      match bound hi s.length s.length with
      | none => none
      | some h => match bound lo 0 h with
        | none => none
        | some l => some (.str ((s.drop l).take (h - l)))
  | some (.slice e), .sl d xs =>
    match cfg.ty e with
    | none => none
    | some ti =>
      if rowsFit ti.size xs = false then none else
      match mx with
      | none =>
        match bound hi xs.length xs.length with
        | none => none
        | some h => match bound lo 0 h with
          | none => none
          | some l => some (.sl d ((xs.drop l).take (h - l)))
      | some m =>
        match bound (some m) 0 xs.length with
        | none => none
        | some m => match hi with
          | none => none
          | some h => match bound (some h) 0 m with
            | none => none
            | some h => match bound lo 0 h with
              | none => none
              | some l => some (.sl d ((xs.drop l).take (h - l)))
  | some (.slice e), .ms id off len cap =>
    match cfg.ty e with
    | none => none
    | some ti =>
      if ti.size = 0 then none else
      match bound mx cap cap with
      | none => none
      | some m => match bound hi len m with
        | none => none
        | some h => match bound lo 0 h with
          | none => none
          | some l => if mx.isSome && hi.isNone then none else
            if m = l then some (.sl true []) else some (.ms id (off + l * ti.size) (h - l) (m - l))
  | some (.array n e), .ptr id off =>
    match cfg.ty e with
    | none => none
    | some ti =>
      match bound mx n n with
      | none => none
      | some m => match bound hi n m with
        | none => none
        | some h => match bound lo 0 h with
          | none => none
          | some l => if mx.isSome && hi.isNone then none else
            if m = l then some (.sl true []) else some (.ms id (off + l * ti.size) (h - l) (m - l))
  | _, _ => none

def capZero (lo mx : Option V) : Bool :=
  match mx with
  | some (.int _ m) => match lo with
    | none => m == 0
    | some (.int _ l) => m == l
    | _ => false
  | _ => false

def fillV (place : Nat → Option (Nat × Nat)) (cells : List V) : List (Nat × V) → Option (List V)
  | [] => some cells
  | (i, v) :: rest =>
    match place i with
    | none => none
    | some (off, size) =>
      match cellsV v with
      | none => none
      | some cs =>
        if cs.length = size ∧ off + size ≤ cells.length then
          fillV place (cells.take off ++ cs ++ cells.drop (off + size)) rest
        else none

def buildV (cfg : Cfg) (t : TypeId) (parts : List (Nat × V)) : Option V :=
  match cfg.ty t with
  | none => none
  | some ti =>
    match ti.k with
    | .struct _ fs => (fillV (fun i => (fs[i]?).bind fun (o, t) => (cfg.ty t).map fun f => (o, f.size)) ti.zero parts).map .agg
    | .array _ e => (cfg.ty e).bind fun f => (fillV (fun i => some (i * f.size, f.size)) ti.zero parts).map .agg
    | _ => none

def fieldsKnown (cfg : Cfg) (t : TypeId) : Bool :=
  match (cfg.ty t).map TI.k with
  | some (.struct _ fs) => fs.all fun f => (cfg.ty f.2).isSome
  | _ => true

def rowsOf (size : Nat) : Nat → List V → List (List V)
  | 0, _ => []
  | n + 1, cs => cs.take size :: rowsOf size n (cs.drop size)

def reps (n : Nat) (z : List V) : List V := (List.replicate n z).flatten

def buildSliceV (cfg : Cfg) (t : TypeId) (len : Nat) (parts : List (Nat × V)) : Option V :=
  match (cfg.ty t).map TI.k with
  | some (.slice e) =>
    match cfg.ty e with
    | some f =>
      if f.size = 0 ∨ 16777216 < len * f.size then none else
      match fillV (fun i => some (i * f.size, f.size)) (reps len f.zero) parts with
      | some cs => some (.sl (V.ltl 0 cs) (rowsOf f.size len cs))
      | none => none
    | none => none
  | _ => none

def cellOwner (hp : List Blk) : V → Option Owner
  | .ptr id off =>
    match hp[id]? with
    | some (.cells _ ow _) => if ow.contains off then some (.cell id off) else none
    | _ => none
  | _ => none

def isOwner (st : St) : Owner → Bool
  | .tmp t => st.own.contains t
  | .cell id off => (cellOwner st.hp (.ptr id off)).isSome
  | .base _ _ => false

def findAlias (t : Tmp) : List (Tmp × Owner) → Option Owner
  | [] => none
  | (u, o) :: r => if u = t then some o else findAlias t r

def ownerOf (st : St) (t : Tmp) : Option Owner :=
  if st.own.contains t then some (.tmp t) else
  match findAlias t st.al with
  | some o => if isOwner st o then some o else none
  | none => none

def dropOwn (st : St) : Owner → St
  | .tmp t => { st with own := st.own.filter (· != t) }
  | .cell id off =>
    match st.hp[id]? with
    | some (.cells t ow cs) => { st with hp := st.hp.set id (.cells t (ow.filter (· != off)) cs) }
    | _ => st
  | .base _ _ => st

def heldV (st : St) : Owner → V
  | .tmp t => st.fr.getD t .any
  | .cell id off =>
    match st.hp[id]? with
    | some (.cells _ _ cs) => cs.getD off .any
    | _ => .any
  | .base _ _ => .any

def headByte : List (List V) → Bool
  | [.int .u8 _] :: _ => true
  | _ => false

def heldByte : V → Bool
  | .sl _ ys => headByte ys
  | _ => false

def heldFits (size : Nat) : V → Bool
  | .sl _ ys => rowsFit size ys
  | _ => false

def appendV (d1 d2 : Bool) (xs ys : List (List V)) : V :=
  .sl ((xs.isEmpty || d1) && (ys.isEmpty || d2)) (xs ++ ys)

def appendTo (cfg : Cfg) (ti : TI) (dst : Option Tmp) (t tx : TypeId) (d1 : Bool) (xs : List (List V)) (x : V) (st : St) : Option St :=
  match x with
  | .sl d2 ys =>
    if t = tx ∧ (xs.length + ys.length) * ti.bytes ≤ strMax ∧ rowsFit ti.size ys = true ∧ rowsFit ti.size xs = true ∧ (ti.k = .int .u8 ∨ headByte (xs ++ ys) = false) then
      some (st.putOwn dst (appendV d1 d2 xs ys) true)
    else none
  | .str b =>
    if (cfg.ty tx).map TI.k = some .str ∧ ti.k = .int .u8 ∧ ti.size = 1 ∧ (xs.length + b.length) * ti.bytes ≤ strMax ∧ rowsFit ti.size xs = true then
      some (st.putOwn dst (appendV d1 true xs (b.map byteRow)) true)
    else none
  | _ => none

def appendOp (cfg : Cfg) (dst : Option Tmp) (t tx : TypeId) (s x : Operand) (st : St) : Option St :=
  match (cfg.ty t).map TI.k with
  | some (.slice e) =>
    match cfg.ty e with
    | some ti =>
      if ti.size = 0 ∨ ti.bytes = 0 then none else
      match s with
      | .tmp u =>
        match ev st.fr s with
        | .sl d1 xs =>
          match ownerOf st u with
          | none => none
          | some ow => if heldFits ti.size (heldV st ow) && (!headByte xs || heldByte (heldV st ow)) then appendTo cfg ti dst t tx d1 xs (ev st.fr x) (dropOwn st ow) else none
        | _ => none
      | .const (.slice none 0 0) => appendTo cfg ti dst t tx true [] (ev st.fr x) st
      | _ => none
    | none => none
  | _ => none

def lenV (cfg : Cfg) (t : TypeId) (x : V) : Option V :=
  match (cfg.ty t).map TI.k, x with
  | some .str, .str s => some (.int .i64 s.length)
  | some (.slice _), .sl _ xs => some (.int .i64 xs.length)
  | some (.slice _), .ms _ _ n _ => some (.int .i64 n)
  | some (.slice _), .nils => some (.int .i64 0)
  | some (.array n _), _ => some (.int .i64 n)
  | some (.map _ _), .nilm => some (.int .i64 0)
  | _, _ => none

def minmaxGo (mx : Bool) (k : IntKind) (a : Int) : List V → Option V
  | [] => some (.int k a)
  | .int k' b :: r => if k = k' then minmaxGo mx k (if mx then (if a < b then b else a) else (if b < a then b else a)) r else none
  | _ => none
def minmax (mx : Bool) : List V → Option V
  | .int k a :: r => minmaxGo mx k a r
  | _ => none
theorem minmax_def (mx : Bool) (l : List V) : minmax mx l = match l with
    | [.int k a] => some (.int k a)
    | .int k a :: .int k' b :: r => if k = k' then minmax mx (.int k (if mx then (if a < b then b else a) else (if b < a then b else a)) :: r) else none
    | _ => none := by
  split
  · rfl
  · rfl
  · rename_i h1 h2
    unfold minmax
    split
    · rename_i k a r
      unfold minmaxGo
      split
      · exact absurd rfl (h1 _ _)
      · exact absurd rfl (h2 _ _ _ _ _)
      · rfl
    · rfl

def isSl : V → Bool
  | .sl _ _ => true
  | _ => false

def heldSome : V → Bool
  | .sl _ (_ :: _) => true
  | _ => false

def dataOp (dst : Option Tmp) (x : Operand) (st : St) : Option St :=
  match x with
  | .tmp u =>
    match findAlias u st.al with
    | some (.cell id off) => if isOwner st (.cell id off) && heldSome (heldV st (.cell id off)) && isSl (ev st.fr x) then some ((st.put dst .any).alias dst (some (.base id off))) else none
    | _ => none
  | _ => none

def textOp (cfg : Cfg) (dst : Option Tmp) (t : TypeId) (p n : Operand) (st : St) : Option St :=
  match (cfg.ty t).map TI.k, p with
  | some (.ptr e), .tmp u =>
    match (cfg.ty e).map TI.k, findAlias u st.al with
    | some (.int .u8), some (.base id off) =>
      if isOwner st (.cell id off) && Nat.blt u st.fr.length then
        match heldV st (.cell id off), ev st.fr n with
        | .sl _ xs, .int .i64 k =>
          match xs.mapM rowByteS with
          | some bs => if k = bs.length ∧ bs.length ≤ strMax then some (st.put dst (.str bs)) else none
          | none => none
        | _, _ => none
      else none
    | _, _ => none
  | _, _ => none

def builtinOp (cfg : Cfg) (b : Builtin) (dst : Option Tmp) (args : List Operand) (types : List TypeId) (st : St) : Option St :=
  match b, args, types with
  | .append, [s, x], [t, tx] => appendOp cfg dst t tx s x st
  | .len, [x], t :: _ => (lenV cfg t (ev st.fr x)).map fun v => st.put dst v
  | .min, xs, _ => (minmax false (xs.map (ev st.fr))).map fun v => st.put dst v
  | .max, xs, _ => (minmax true (xs.map (ev st.fr))).map fun v => st.put dst v
  | .unsafeSliceData, [x], _ => dataOp dst x st
  | .unsafeString, [p, n], [t, _] => textOp cfg dst t p n st
  | _, _, _ => none

def nilOffs : Nat → List V → List Nat
  | _, [] => []
  | i, v :: r => if isSl v then i :: nilOffs (i + 1) r else nilOffs (i + 1) r

def pushBlk (st : St) (dst : Option Tmp) (b : Blk) : St :=
  { st with hp := st.hp ++ [b] }.put dst (.ptr st.hp.length 0)

def movesFrom (st : St) (x : Operand) : Option (Option Tmp) :=
  match x with
  | .tmp u => if st.own.contains u && isSl (ev st.fr x) then some (some u) else none
  | .const (.slice none 0 0) => some none
  | _ => none

def storeOp (cfg : Cfg) (t : TypeId) (p x : Operand) (st : St) : Option St :=
  match cfg.ty t with
  | none => none
  | some ti =>
    match ev st.fr p, cellsV (ev st.fr x) with
    | .ptr id off, some vs =>
      match st.hp[id]? with
      | some (.cells t' ow cs) =>
        if vs.length = ti.size ∧ off + ti.size ≤ cs.length ∧ ti.size ≠ 0 then
          let ow1 := ow.filter fun o => decide (o < off) || decide (off + ti.size ≤ o)
          let cs1 := cs.take off ++ vs ++ cs.drop (off + ti.size)
          match movesFrom st x with
          | none => some { st with own := st.own, hp := st.hp.set id (.cells t' ow1 cs1), al := [] }
          | some none => some { st with own := st.own, hp := st.hp.set id (.cells t' (off :: ow1) cs1), al := [] }
          | some (some u) => some { st with own := st.own.filter (· != u), hp := st.hp.set id (.cells t' (off :: ow1) cs1), al := [] }
        else none
      | _ => none
    | _, _ => none

def wantedV (ops : List Oper) (fr : List V) (o : Oper) : Option Bool :=
  match o.guard with
  | none => some true
  | some (j, want) =>
    match ((ops[j]?).bind (·.dst)) with
    | some d => match fr.getD d .any with
      | .bool b => some (b == want)
      | .tup [] => some false
      | _ => none
    | none => none

def isAppend : Builtin → Bool
  | .append => true
  | .unsafeSliceData => true
  | .unsafeString => true
  | _ => false

def reachGo (hp : List Blk) : Nat → List Nat → List Nat
  | 0, R => R
  | n + 1, R =>
    let R' := R.foldl (fun acc i => match hp[i]? with
      | some b => b.ids acc
      | none => acc) R
    if R'.length = R.length then R else reachGo hp n R'

def reach (hp : List Blk) (args : List V) : List Nat :=
  let R := reachGo hp hp.length (V.idsl [] args)
  (List.range hp.length).filter fun i => R.contains i

def closedIn (hp : List Blk) (R : List Nat) (args : List V) : Bool :=
  V.alll (fun i => R.contains i) args && R.all fun r => match hp[r]? with
    | some b => !b.isHole && b.all fun i => R.contains i
    | none => false

def subHp (hp : List Blk) (R : List Nat) : List Blk :=
  R.map fun r => (hp.getD r .hole).ren fun i => R.idxOf i

def backId (R : List Nat) (n i : Nat) : Nat :=
  match R[i]? with
  | some r => r
  | none => n + (i - R.length)

def putBack (hp : List Blk) : List Nat → List Blk → List Blk
  | r :: R, b :: bs => putBack (hp.set r b) R bs
  | _, _ => hp

def backHp (hp : List Blk) (R : List Nat) (hp' : List Blk) : List Blk :=
  let bs := hp'.map (Blk.ren (backId R hp.length))
  putBack hp R bs ++ bs.drop R.length

def keepsO (R : List Nat) : Owner → Bool
  | .tmp _ => true
  | .cell id _ => !R.contains id
  | .base _ _ => false
def keepAl (R : List Nat) (l : List (Tmp × Owner)) : List (Tmp × Owner) := l.filter fun p => keepsO R p.2
def nilRow : List V → List V
  | [] => []
  | v :: r => (if isSl v then .nils else v) :: nilRow r
def partsCode : List (Nat × Operand) → Nat
  | [] => 0
  | (i, _) :: r => i + 1 + 16 * partsCode r
def buildN (cfg : Cfg) (t : TypeId) (parts : List (Nat × V)) : Option V :=
  match cfg.ty t with
  | none => none
  | some ti =>
    match ti.k with
    | .struct _ fs => (fillV (fun i => (fs[i]?).bind fun (o, t) => (cfg.ty t).map fun f => (o, f.size)) (nilRow ti.zero) parts).map .agg
    | _ => none
def isNils : V → Bool
  | .nils => true
  | _ => false
def unnil (v : V) : V := if isNils v then .sl true [] else v
def nilAt : Nat → List V → List Nat
  | _, [] => []
  | i, v :: r => if isNils v then i :: nilAt (i + 1) r else nilAt (i + 1) r
def storeN (cfg : Cfg) (t : TypeId) (p x : Operand) (st : St) : Option St :=
  match cfg.ty t with
  | none => none
  | some ti =>
    match ev st.fr p, ev st.fr x with
    | .ptr id off, .agg vs =>
      match nilAt off vs with
      | [] => none
      | n :: ns =>
        match st.hp[id]? with
        | some (.cells t' ow cs) =>
          if vs.length = ti.size ∧ off + ti.size ≤ cs.length ∧ ti.size ≠ 0 then
            some { st with own := st.own, hp := st.hp.set id (.cells t' (n :: (ns ++ ow.filter fun o => decide (o < off) || decide (off + ti.size ≤ o))) (cs.take off ++ vs.map unnil ++ cs.drop (off + ti.size))), al := [] }
          else none
        | _ => none
    | _, _ => none

def boxN (t : TypeId) (x : V) (dst : Option Tmp) (st : St) : Option St :=
  match x with
  | .agg vs => match nilAt 0 vs with
    | [] => none
    | n :: ns => some (pushBlk st dst (.cells t (n :: ns) (vs.map unnil)))
  | _ => none
def buildX (cfg : Cfg) (t : TypeId) (code : Nat) (parts : List (Nat × V)) : Option V := if cfg.nilB t code then buildN cfg t parts else buildV cfg t parts
def boxV (t : TypeId) (x : V) (dst : Option Tmp) (st : St) : Option St :=
  match cellsV x with
  | some cs => some (pushBlk st dst (.cells t [] cs))
  | none => none
def nilOr (b : Bool) (x y : Option St) : Option St := if b then (match x with
  | some s => some s
  | none => y) else y
def boxX (cfg : Cfg) (t : TypeId) (x : V) (dst : Option Tmp) (st : St) : Option St := nilOr (cfg.nilT t) (boxN t x dst st) (boxV t x dst st)
def storeX (cfg : Cfg) (t : TypeId) (p x : Operand) (st : St) : Option St := nilOr (cfg.nilT t) (storeN cfg t p x st) (storeOp cfg t p x st)
def evOp (cfg : Cfg) (orc : Orc) (lim : Bool) (o : Oper) (st : St) : Option St :=
  match o.op with
  | .move x =>
    match x with
    | .tmp u => if st.own.contains u && !lim && o.dst != some u then some ((st.put o.dst (ev st.fr x)).alias o.dst (some (.tmp u))) else some (st.put o.dst (ev st.fr x))
    | _ => some (st.put o.dst (ev st.fr x))
  | .assign x =>
    match x with
    | .tmp u => if st.own.contains u && !lim then some ((dropOwn st (.tmp u)).putOwn o.dst (ev st.fr x) true) else some (st.put o.dst (ev st.fr x))
    | .const (.slice none 0 0) => if lim then some (st.put o.dst (.sl true [])) else some (st.putOwn o.dst (.sl true []) true)
    | _ => some (st.put o.dst (ev st.fr x))
  | .pick c a b => match ev st.fr c with
    | .bool true => some (st.put o.dst (ev st.fr a))
    | .bool false => some (st.put o.dst (ev st.fr b))
    | _ => none
  | .alloc t => if lim then none else
    match cfg.ty t with
    | some ti => some (pushBlk st o.dst (.cells t (nilOffs 0 ti.zero) ti.zero))
    | none => none
  | .box t x => if lim then none else boxX cfg t (ev st.fr x) o.dst st
  | .build t parts => if fieldsKnown cfg t then (buildX cfg t (partsCode parts.toList) (parts.toList.map fun (p : Nat × Operand) => (p.1, ev st.fr p.2))).map fun v => st.put o.dst v else none
  | .buildSlice t len parts => (buildSliceV cfg t len (parts.toList.map fun (p : Nat × Operand) => (p.1, ev st.fr p.2))).map fun v => st.put o.dst v
  | .load t p => (loadV cfg st.hp t (ev st.fr p)).map fun v => if isSl v && !lim then (st.put o.dst v).alias o.dst (cellOwner st.hp (ev st.fr p)) else st.put o.dst v
  | .store t p x => if lim || o.dst.isSome then none else storeX cfg t p x st
  | .nilCheck x => match ev st.fr x with
    | .ptr id off => some (st.put o.dst (.ptr id off))
    | .pc d cs => some (st.put o.dst (.pc d cs))
    | .fn f cap => some (st.put o.dst (.fn f cap))
    | .yld id => some (st.put o.dst (.yld id))
    | _ => none
  | .binOp op t x y _ => (binOpV cfg op t (ev st.fr x) (ev st.fr y)).map fun v => st.put o.dst v
  | .unOp op _ x => (unOpV op (ev st.fr x)).map fun v => st.put o.dst v
  | .convert src dst x => match if lim then none else convPV cfg st.hp src dst (ev st.fr x) with
    | some v => some (st.put o.dst v)
    | none => (convV cfg src dst (ev st.fr x)).map fun v => st.put o.dst v
  | .makeFunc (.func f) first cap => if first.isEmpty then some (st.put o.dst (.fn f (cap.toList.map (ev st.fr)))) else none
  | .slice t x lo hi mx =>
    (sliceV cfg t (ev st.fr x) (lo.map (ev st.fr)) (hi.map (ev st.fr)) (mx.map (ev st.fr))).map fun v =>
      if !lim && isSl v && capZero (lo.map (ev st.fr)) (mx.map (ev st.fr)) then st.putOwn o.dst v true else st.put o.dst v
  | .fieldAddr s p i => (fieldV cfg s (ev st.fr p) i).map fun v => st.put o.dst v
  | .field s x i => (partV cfg s (ev st.fr x) i).map fun v => st.put o.dst v
  | .indexAddr t x i => (indexAddrV cfg t (ev st.fr x) (ev st.fr i)).map fun v => st.put o.dst v
  | .index t x i => (indexV cfg t (ev st.fr x) (ev st.fr i)).map fun v => st.put o.dst v
  | .extract x i => match ev st.fr x with
    | .tup vs => match vs[i]? with
      | some v => some (st.put o.dst v)
      | none => none
    | _ => none
  | .call c =>
    match c.callee with
    | .builtin b => if lim && isAppend b then none else builtinOp cfg b o.dst c.args.toList c.argTypes.toList st
    | .value f =>
      match ev st.fr f with
      | .fn g cap =>
        let args := c.args.toList.map (ev st.fr) ++ cap
        if lim then
          if V.ltl 0 args then
            match orc.call g args [] with
            | some (v, _, []) => some (st.put o.dst v)
            | _ => none
          else none
        else if cfg.ext g then
          match args with
          | [v] => some (st.put o.dst v)
          | _ => none
        else if V.ltl 0 args then
          match orc.call g args [] with
          | some (v, own, []) => some ({ st with al := keepAl [] st.al }.putOwn o.dst v (own && isSl v))
          | some (v, own, hp) => some ({ st with hp := backHp st.hp [] hp, al := keepAl [] st.al }.putOwn o.dst (v.ren (backId [] st.hp.length)) (own && isSl v))
          | none => none
        else
          let R := reach st.hp args
          if closedIn st.hp R args then
            match orc.call g (V.renl (fun i => R.idxOf i) args) (subHp st.hp R) with
            | some (v, own, hp) => some ({ st with hp := backHp st.hp R hp, al := keepAl R st.al }.putOwn o.dst (v.ren (backId R st.hp.length)) (own && isSl v))
            | none => none
          else none
      | .yld id =>
        if lim then none else
        let args := .yld id :: c.args.toList.map (ev st.fr)
        let R := reach st.hp args
        if closedIn st.hp R args then
          match orc.round (R.idxOf id) (V.renl (fun i => R.idxOf i) (c.args.toList.map (ev st.fr))) (subHp st.hp R) with
          | some (b, hp) => some ({ st with hp := backHp st.hp R hp, al := keepAl R st.al }.put o.dst (.bool b))
          | none => none
        else none
      | _ => none
    | .invoke _ _ => none
  | _ => none

def evOps (cfg : Cfg) (orc : Orc) (lim : Nat → Bool) (ops : List Oper) : List Nat → St → Option St
  | [], st => some st
  | i :: rest, st =>
    match ops[i]? with
    | none => none
    | some o =>
      match wantedV ops st.fr o with
      | none => none
      | some false => evOps cfg orc lim ops rest (st.put o.dst (.tup []))
      | some true =>
        match evOp cfg orc (lim i) o st with
        | none => none
        | some st' => evOps cfg orc lim ops rest st'

def V.drop1 (id : Nat) (v : V) : V := if V.all (fun i => !Nat.beq i id) v then v else .any

def aloneIn (id : Nat) (hp : List Blk) : Bool := (hp.set id .dead).all (Blk.all fun i => !Nat.beq i id)

def srcM (cfg : Cfg) (hp : List Blk) (t tx : TypeId) (ti : TI) (x : V) : Option (Nat × List V) :=
  match x with
  | .sl _ ys => if t = tx ∧ rowsFit ti.size ys = true then some (ys.length, ys.flatten) else none
  | .ms id off len _ => if t = tx then match hp[id]? with
    | some (.cells _ _ cs) => if off + len * ti.size ≤ cs.length then some (len, (cs.drop off).take (len * ti.size)) else none
    | _ => none
    else none
  | .nils => if t = tx then some (0, []) else none
  | _ => none

def zerosM (cfg : Cfg) (tx : TypeId) (ti : TI) (x : V) : Option (Nat × List V) :=
  match (cfg.ty tx).map TI.k, x with
  | some (.int .i64), .int .i64 n => if 0 ≤ n ∧ n.toNat * ti.bytes ≤ strMax then some (n.toNat, reps n.toNat ti.zero) else none
  | _, _ => none

def emptyV : V → Bool
  | .sl _ [] => true
  | _ => false

def emptyM (st : St) (s : Operand) : Option St :=
  match s with
  | .const (.slice none 0 0) => some st
  | .tmp u => match ownerOf st u with
      | some ow => if emptyV (ev st.fr s) && emptyV (heldV st ow) then some (dropOwn st ow) else none
      | none => none
  | _ => none

def birthM (e : TypeId) (dst : Option Tmp) (k : Nat) (new : List V) (st : St) : St :=
  { st with hp := st.hp ++ [Blk.cells e [] new], al := [] }.put dst (.ms st.hp.length 0 k k)

def St.lose (st : St) (id : Nat) : St := { st with fr := st.fr.map (V.drop1 id), hp := st.hp.set id .dead, al := [] }

def writeM (cs new : List V) (off : Nat) : List V := cs.take off ++ new ++ cs.drop (off + new.length)

def appendAtM (cfg : Cfg) (e : TypeId) (ti : TI) (dst : Option Tmp) (id len cap k : Nat) (new : List V) (st : St) : Option St :=
  match st.hp[id]? with
  | some (.cells t ow cs) =>
    if t = e then
      if k = 0 then some (st.put dst (.ms id 0 len cap))
      else if len + k ≤ cap then
        if (len + k) * ti.size ≤ cs.length ∧ new.length = k * ti.size then
          some ({ st with hp := st.hp.set id (.cells t (ow.filter fun o => decide (o < len * ti.size) || decide ((len + k) * ti.size ≤ o)) (writeM cs new (len * ti.size))), al := [] }.put dst (.ms id 0 (len + k) cap))
        else none
      else if cs.length = len * ti.size ∧ st.nb ≤ id ∧ aloneIn id st.hp = true ∧ V.alll (fun i => !Nat.beq i id) (cs ++ new) = true ∧ (len + k) * ti.bytes ≤ strMax ∧ len ≠ 0 then
        some ({ st.lose id with hp := (st.lose id).hp.set id (.cells e [] (cs ++ new)) }.put dst (.ms id 0 (len + k) (len + k)))
      else none
    else none
  | _ => none

def appendNilM (cfg : Cfg) (e : TypeId) (ti : TI) (dst : Option Tmp) (t tx : TypeId) (x : V) (hp : List Blk) (st : St) : Option St :=
  match zerosM cfg tx ti x with
  | some (k, new) => if k = 0 then some (st.put dst .nils) else some (birthM e dst k new st)
  | none => match srcM cfg hp t tx ti x with
    | some (k, new) => if k = 0 then some (st.put dst .nils) else if k * ti.bytes ≤ strMax then some (birthM e dst k new st) else none
    | none => none

def appendM (cfg : Cfg) (bi : Bool) (dst : Option Tmp) (t tx : TypeId) (s x : Operand) (st : St) : Option St :=
  match (cfg.ty t).map TI.k with
  | some (.slice e) =>
    match cfg.ty e with
    | some ti =>
      if ti.size = 0 ∨ ti.bytes = 0 ∨ cfg.solo e = true then none else
      match ev st.fr s with
      | .ms id 0 len cap => match srcM cfg st.hp t tx ti (ev st.fr x) with
        | some (k, new) => appendAtM cfg e ti dst id len cap k new st
        | none => none
      | .nils => appendNilM cfg e ti dst t tx (ev st.fr x) st.hp st
      | .sl _ _ => if bi then match emptyM st s with
        | some st1 => appendNilM cfg e ti dst t tx (ev st.fr x) st.hp st1
        | none => none
        else none
      | _ => none
    | none => none
  | _ => none

def makeM (cfg : Cfg) (dst : Option Tmp) (t : TypeId) (len cap : V) (st : St) : Option St :=
  match (cfg.ty t).map TI.k, len, cap with
  | some (.slice e), .int .i64 n, .int .i64 c =>
    match cfg.ty e with
    | some ti =>
      if ti.size ≠ 0 ∧ cfg.solo e = false ∧ 0 ≤ n ∧ n ≤ c ∧ c.toNat * ti.bytes ≤ strMax ∧ c ≤ 9223372036854775807 then
        some ({ st with hp := st.hp ++ [Blk.cells e [] (reps c.toNat ti.zero)], al := [] }.put dst (.ms st.hp.length 0 n.toNat c.toNat))
      else none
    | none => none
  | _, _, _ => none

def keyEq : V → V → Option Bool
  | .int k a, .int k' b => if k = k' then some (a == b) else none
  | .str a, .str b => some (a == b)
  | .bool a, .bool b => some (a == b)
  | _, _ => none

def findM (k : V) : List (V × List V) → Nat → Option (Option (Nat × List V))
  | [], _ => some none
  | (k', v) :: r, i => match keyEq k k' with
    | some true => some (some (i, v))
    | some false => findM k r (i + 1)
    | none => none

def keyFits : K → V → Bool
  | .int _, .int _ _ => true
  | .str, .str _ => true
  | .bool, .bool _ => true
  | _, _ => false

def mapGet (cfg : Cfg) (dst : Option Tmp) (t : TypeId) (x k : V) (ok : Bool) (st : St) : Option St :=
  match (cfg.ty t).map TI.k with
  | some (.map kt et) =>
    if ((cfg.ty kt).map fun ti => keyFits ti.k k).getD false then
      match cfg.ty et with
      | some te =>
        let es := match x with
          | .nilm => some []
          | .map id => match st.hp[id]? with
            | some (.map es) => some es
            | _ => none
          | _ => none
        match es with
        | none => none
        | some es => match findM k es 0 with
          | some (some (_, [v])) => some (st.put dst (if ok then .tup [v, .bool true] else v))
          | some none => match mkV te.k.isAgg te.zero with
            | some z => some (st.put dst (if ok then .tup [z, .bool false] else z))
            | none => none
          | _ => none
      | none => none
    else none
  | _ => none

def setM (k v : V) (es : List (V × List V)) : Option (List (V × List V)) :=
  match findM k es 0 with
  | some none => some (es ++ [(k, [v])])
  | some (some (i, _)) => some (es.set i (k, [v]))
  | none => none

def mapSet (cfg : Cfg) (t : TypeId) (x k v : V) (st : St) : Option St :=
  match (cfg.ty t).map TI.k, x with
  | some (.map kt _), .map id =>
    if ((cfg.ty kt).map fun ti => keyFits ti.k k).getD false then
      match st.hp[id]? with
      | some (.map es) => match setM k v es with
        | some es' => some { st with hp := st.hp.set id (.map es'), al := [] }
        | none => none
      | _ => none
    else none
  | _, _ => none

def callG (orc : Orc) (dst : Option Tmp) (g : FuncId) (args : List V) (st : St) : Option St :=
  if V.ltl 0 args then
    match orc.call g args [] with
    | some (v, own, []) => some ({ st with al := keepAl [] st.al }.putOwn dst v (own && isSl v))
    | some (v, own, hp) => some ({ st with hp := backHp st.hp [] hp, al := keepAl [] st.al }.putOwn dst (v.ren (backId [] st.hp.length)) (own && isSl v))
    | none => none
  else
    let R := reach st.hp args
    if closedIn st.hp R args then
      match orc.call g (V.renl (fun i => R.idxOf i) args) (subHp st.hp R) with
      | some (v, own, hp) => some ({ st with hp := backHp st.hp R hp, al := keepAl R st.al }.putOwn dst (v.ren (backId R st.hp.length)) (own && isSl v))
      | none => none
    else none

def evN (fr : List V) : Operand → V
  | .const (.slice none 0 0) => .nils
  | x => ev fr x

def nilArg : Operand → Bool
  | .const (.slice none 0 0) => true
  | _ => false

def sliceNil (cfg : Cfg) (t : TypeId) (lo hi : Option Nat) (dst : Option Tmp) (st : St) : Option St :=
  match (cfg.ty t).map TI.k, lo, hi with
  | some (.slice e), some _, some _ => if (cfg.ty e).isSome then some (st.put dst .nils) else none
  | _, _, _ => none

def byteElem (cfg : Cfg) (t : TypeId) : Bool :=
  match (cfg.ty t).map TI.k with
  | some (.slice e) => match (cfg.ty e).map TI.k with
    | some (.int .u8) => true
    | _ => false
  | _ => false
def buildOwn (cfg : Cfg) (d : Option Tmp) (t : TypeId) (v : Option V) (st : St) : Option St :=
  match v with
  | some (.sl dd xs) => if byteElem cfg t || !headByte xs then some (st.putOwn d (.sl dd xs) true) else none
  | _ => none
def evNew (cfg : Cfg) (bi : Bool) (o : Oper) (st : St) : Option St :=
  match o.op with
  | .makeSlice t len cap => makeM cfg o.dst t (ev st.fr len) (ev st.fr cap) st
  | .makeMap _ none => some ({ st with hp := st.hp ++ [Blk.map []], al := [] }.put o.dst (.map st.hp.length))
  | .mapUpdate t m k v => if o.dst.isSome then none else mapSet cfg t (ev st.fr m) (ev st.fr k) (ev st.fr v) st
  | .lookup t x i ok => mapGet cfg o.dst t (ev st.fr x) (ev st.fr i) ok st
  | .buildSlice t n parts => if bi then buildOwn cfg o.dst t (buildSliceV cfg t n (parts.toList.map fun (p : Nat × Operand) => (p.1, ev st.fr p.2))) st else none
  | .slice t x lo hi none =>
    match ev st.fr x with
    | .nils => sliceNil cfg t (bound (lo.map (ev st.fr)) 0 0) (bound (hi.map (ev st.fr)) 0 0) o.dst st
    | _ => none
  | .call c =>
    match c.callee with
    | .builtin b =>
      match b, c.args.toList, c.argTypes.toList with
      | .append, [s, x], [t, tx] => appendM cfg bi o.dst t tx s x st
      | .cap, [x], t :: _ => match (cfg.ty t).map TI.k, ev st.fr x with
        | some (.slice _), .nils => some (st.put o.dst (.int .i64 0))
        | _, _ => none
      | _, _, _ => none
    | _ => none
  | _ => none

def nilCall (cfg : Cfg) (o : Oper) (st : St) : Option (FuncId × List V) :=
  match o.op with
  | .call ⟨.value f, args, _⟩ =>
    match ev st.fr f with
    | .fn g cap => if args.toList.any nilArg && !cfg.ext g then some (g, args.toList.map (evN st.fr) ++ cap) else none
    | _ => none
  | _ => none

def clmCall (cfg : Cfg) (bi : Bool) (o : Oper) (st : St) : Option (FuncId × List V) :=
  match o.op with
  | .call ⟨.value f, args, _⟩ =>
    match ev st.fr f with
    | .fn g [] => if bi && cfg.clm g && V.ltl 0 (args.toList.map (ev st.fr)) then some (g, args.toList.map (ev st.fr)) else none
    | _ => none
  | _ => none
def cloneG (orc : Orc) (dst : Option Tmp) (g : FuncId) (args : List V) (st : St) : Option St :=
  match orc.call g args [.hole] with
  | some (v, own, hp) => some ({ st with hp := backHp (st.hp ++ [Blk.hole]) [st.hp.length] hp, al := keepAl [st.hp.length] st.al }.putOwn dst (v.ren (backId [st.hp.length] (st.hp.length + 1))) (own && isSl v))
  | none => none
def evOpM (cfg : Cfg) (orc : Orc) (bi : Bool) (o : Oper) (st : St) : Option St :=
  match nilCall cfg o st with
  | some (g, args) => callG orc o.dst g args st
  | none => match clmCall cfg bi o st with
    | some (g, args) => cloneG orc o.dst g args st
    | none => match evNew cfg bi o st with
      | some s => some s
      | none => evOp cfg orc false o st

def freezeT (cfg : Cfg) (t : Tmp) (st : St) : Option St :=
  match st.fr.getD t .any with
  | .nils => some (st.put (some t) (.sl true []))
  | .sl _ _ => some st
  | .ms id off len _ =>
    match st.hp[id]? with
    | some (.cells e _ cs) =>
      match cfg.ty e with
      | some ti =>
        if st.nb ≤ id ∧ off + len * ti.size ≤ cs.length ∧ ti.size ≠ 0 ∧ aloneIn id st.hp = true ∧ V.alll (fun i => !Nat.beq i id) cs = true then
          some ((st.lose id).put (some t) (.sl (V.ltl 0 ((cs.drop off).take (len * ti.size))) (rowsOf ti.size len (cs.drop off))))
        else none
      | none => none
    | _ => none
  | _ => none

def freezes (cfg : Cfg) (i : Nat) : List (Nat × Tmp) → St → Option St
  | [], st => some st
  | (j, t) :: r, st => if Nat.beq j i then match freezeT cfg t st with
    | some s => freezes cfg i r s
    | none => none
    else freezes cfg i r st

def evOpsM (cfg : Cfg) (orc : Orc) (bi : Bool) (fz : List (Nat × Tmp)) (ops : List Oper) : List Nat → St → Option St
  | [], st => some st
  | i :: rest, st =>
    match ops[i]? with
    | none => none
    | some o =>
      match wantedV ops st.fr o with
      | none => none
      | some false => evOpsM cfg orc bi fz ops rest (st.put o.dst (.tup []))
      | some true =>
        match evOpM cfg orc bi o st with
        | none => none
        | some st' => match freezes cfg i fz st' with
          | none => none
          | some st'' => evOpsM cfg orc bi fz ops rest st''

def V.beqC : V → V → Bool
  | .any, .any => true
  | .bool a, .bool b => a == b
  | .int k a, .int k' b => (match k, k' with | .i8, .i8 | .i16, .i16 | .i32, .i32 | .i64, .i64 | .u8, .u8 | .u16, .u16 | .u32, .u32 | .u64, .u64 => true | _, _ => false) && a == b
  | .str [], .str [] => true
  | .nilp, .nilp => true
  | .nilf, .nilf => true
  | .nilm, .nilm => true
  | .sl true [], .sl true [] => true
  | _, _ => false

def beqL : List V → List V → Bool
  | [], [] => true
  | a :: x, b :: y => V.beqC a b && beqL x y
  | _, _ => false

theorem beqC_eq {a b : V} (h : V.beqC a b = true) : a = b := by
  unfold V.beqC at h
  split at h <;> first | (cases h; done) | rfl | skip
  · simp at h; rw [h]
  · simp only [Bool.and_eq_true, beq_iff_eq] at h
    obtain ⟨h1, h2⟩ := h
    subst h2
    split at h1 <;> first | (cases h1; done) | rfl

theorem beqL_eq : ∀ {x y : List V}, beqL x y = true → x = y
  | [], [], _ => rfl
  | a :: x, b :: y, h => by
    simp only [beqL, Bool.and_eq_true] at h
    rw [beqC_eq h.1, beqL_eq h.2]
  | [], _ :: _, h => by simp [beqL] at h
  | _ :: _, [], h => by simp [beqL] at h

def limV (cfg : Cfg) (orc : Orc) (hole : Nat) (o : Oper) (fr : List V) (hp : List Blk) : Option V :=
  match o.op with
  | .move x => some (ev fr x)
  | .assign x => some (ev fr x)
  | .pick c a b => match ev fr c with
    | .bool true => some (ev fr a)
    | .bool false => some (ev fr b)
    | _ => none
  | .alloc t => match cfg.ty t, hp[hole]? with
    | some ti, some (.cells t' ow cs) => if Nat.beq t t' && ow == nilOffs 0 ti.zero && beqL cs ti.zero then some (.ptr hole 0) else none
    | _, _ => none
  | .build t parts => if fieldsKnown cfg t then buildX cfg t (partsCode parts.toList) (parts.toList.map fun (p : Nat × Operand) => (p.1, ev fr p.2)) else none
  | .buildSlice t len parts => buildSliceV cfg t len (parts.toList.map fun (p : Nat × Operand) => (p.1, ev fr p.2))
  | .load t p => loadV cfg hp t (ev fr p)
  | .nilCheck x => match ev fr x with
    | .ptr id off => some (.ptr id off)
    | .pc d cs => some (.pc d cs)
    | .fn f cap => some (.fn f cap)
    | .yld id => some (.yld id)
    | _ => none
  | .binOp op t x y _ => binOpV cfg op t (ev fr x) (ev fr y)
  | .unOp op _ x => unOpV op (ev fr x)
  | .convert src dst x => convV cfg src dst (ev fr x)
  | .makeFunc (.func f) first cap => if first.isEmpty then some (.fn f (cap.toList.map (ev fr))) else none
  | .slice t x lo hi mx => sliceV cfg t (ev fr x) (lo.map (ev fr)) (hi.map (ev fr)) (mx.map (ev fr))
  | .fieldAddr s p i => fieldV cfg s (ev fr p) i
  | .field s x i => partV cfg s (ev fr x) i
  | .indexAddr t x i => indexAddrV cfg t (ev fr x) (ev fr i)
  | .index t x i => indexV cfg t (ev fr x) (ev fr i)
  | .extract x i => match ev fr x with
    | .tup vs => vs[i]?
    | _ => none
  | .call c =>
    match c.callee with
    | .builtin b =>
      match b, c.args.toList, c.argTypes.toList with
      | .len, [x], t :: _ => lenV cfg t (ev fr x)
      | .min, xs, _ => minmax false (xs.map (ev fr))
      | .max, xs, _ => minmax true (xs.map (ev fr))
      | _, _, _ => none
    | .value f =>
      match ev fr f with
      | .fn g cap =>
        if V.ltl 0 (c.args.toList.map (ev fr) ++ cap) then
          match orc.call g (c.args.toList.map (ev fr) ++ cap) [] with
          | some (v, _, []) => some v
          | _ => none
        else none
      | _ => none
    | .invoke _ _ => none
  | _ => none

def limAt (hole : Nat) (o : Oper) (fr : List V) : List Nat :=
  match o.op with
  | .load _ p => match ev fr p with
    | .ptr id _ => [id]
    | _ => []
  | .alloc _ => [hole]
  | _ => []

def fullAt (o : Oper) (st st' : St) : List Nat :=
  match o.op with
  | .store _ p _ => match ev st.fr p with
    | .ptr id _ => [id]
    | _ => []
  | .call c =>
    match c.callee with
    | .value f => match ev st.fr f with
      | .fn _ cap => reach st.hp (c.args.toList.map (ev st.fr) ++ cap) ++ (List.range (st'.hp.length - st.hp.length)).map (st.hp.length + ·)
      | .yld id => reach st.hp (.yld id :: c.args.toList.map (ev st.fr)) ++ (List.range (st'.hp.length - st.hp.length)).map (st.hp.length + ·)
      | _ => []
    | _ => []
  | .alloc _ | .box _ _ => [st.hp.length]
  | _ => []

def disj (x y : List Nat) : Bool := x.all fun i => !y.contains i

def isAlloc (o : Oper) : Bool :=
  match o.op with
  | .alloc _ => true
  | _ => false

def rank : List Oper → List (Bool × List Nat) → Nat → Nat
  | o :: ops, (l, _) :: info, i + 1 => (if l && isAlloc o then 1 else 0) + rank ops info i
  | _, _, _ => 0

def laidAhead (cfg : Cfg) : List Oper → List (Bool × List Nat) → List Blk
  | o :: ops, (true, _) :: info => match o.op with
    | .alloc t => (match cfg.ty t with
      | some ti => .cells t (nilOffs 0 ti.zero) ti.zero
      | none => .hole) :: laidAhead cfg ops info
    | _ => laidAhead cfg ops info
  | _ :: ops, _ :: info => laidAhead cfg ops info
  | _, _ => []

structure DS where
  st : St
  gh : List (List Nat)

def touched (gh : List (List Nat)) (i : Nat) (cont : List Nat) (T : List Nat) : Option (List (List Nat)) :=
  if cont.isEmpty then some gh else
  if cont.all fun k => disj T (gh.getD k []) then some (gh.set i T) else none

def evD (cfg : Cfg) (orc : Orc) (n0 : Nat) (ops : List Oper) (info : List (Bool × List Nat)) (i : Nat) (s : DS) : Option DS :=
  match ops[i]?, info[i]? with
  | some o, some (lim, cont) =>
    match wantedV ops s.st.fr o with
    | none => none
    | some false => some { s with st := s.st.put o.dst (.tup []) }
    | some true =>
      if lim then
        match limV cfg orc (n0 + rank ops info i) o s.st.fr s.st.hp with
        | none => none
        | some v => (touched s.gh i cont (limAt (n0 + rank ops info i) o s.st.fr)).map fun gh => { st := s.st.put o.dst v, gh := gh }
      else
        match evOp cfg orc false o s.st with
        | none => none
        | some st' => (touched s.gh i cont (fullAt o s.st st')).map fun gh => { st := st', gh := gh }
  | _, _ => none

def evDs (cfg : Cfg) (orc : Orc) (n0 : Nat) (ops : List Oper) (info : List (Bool × List Nat)) : List Nat → DS → Option DS
  | [], s => some s
  | i :: rest, s => match evD cfg orc n0 ops info i s with
    | none => none
    | some s' => evDs cfg orc n0 ops info rest s'

def evDraw (cfg : Cfg) (orc : Orc) (ops : List Oper) (info : List (Bool × List Nat)) (st : St) : Option St :=
  (evDs cfg orc st.hp.length ops info (List.range ops.length) { st := { st with hp := st.hp ++ laidAhead cfg ops info, al := [] }, gh := List.replicate ops.length [] }).map DS.st

def killAll (fr : List V) : List Nat → List V
  | [] => fr
  | t :: r => killAll (fr.set t .any) r

def St.kill (st : St) (l : List Nat) : St := { st with fr := killAll st.fr l, own := st.own.filter (fun t => !l.contains t), al := [] }

def resOf (cfg : Cfg) (st : St) : ResultVar → Option V
  | .tmp t => some (st.fr.getD t .any)
  | .cell p t => loadV cfg st.hp t (st.fr.getD p .any)

def resOwn (st : St) : ResultVar → Bool
  | .tmp t => st.own.contains t
  | _ => false

def resultsV (cfg : Cfg) (st : St) (rs : List ResultVar) : Option (V × Bool) :=
  match rs with
  | [r] => (resOf cfg st r).map fun v => (v, resOwn st r)
  | rs => (rs.mapM (resOf cfg st)).map fun vs => (.tup vs, false)

def firstReg : Code → Nat
  | .region id _ _ => id
  | .seq a _ => firstReg a
  | .cond _ a _ => firstReg a
  | .block _ c => firstReg c
  | .loop c => firstReg c
  | _ => 0

def rangeKey (assign body : Code) : Nat := 100000 + (if firstReg assign = 0 then firstReg body else firstReg assign)

def upTo (hp : List Blk) : Nat → Nat → Nat
  | 0, n => n
  | k + 1, n => if (hp.take n).all (Blk.all fun i => Nat.blt i n) then n else upTo hp k (n + 1)

def topIds (l : List V) : Nat := (V.idsl [] l).foldl (fun n i => max n (i + 1)) 0

def St.gc (st : St) : St :=
  let n := upTo st.hp (st.hp.length - max st.nb (topIds st.fr)) (max st.nb (topIds st.fr))
  if Nat.ble st.nb n && V.ltl n st.fr && (st.hp.take n).all (Blk.all fun i => Nat.blt i n) then { st with hp := st.hp.take n, al := [] } else st

def Ex.jump : Ex → Option Code
  | .normal => none
  | .ret => some .ret
  | .exit i => some (.exit i)

def jumpEx : Option Code → Option Ex
  | none => some .normal
  | some .ret => some .ret
  | some (.exit i) => some (.exit i)
  | _ => none

def inLoop (round : Option Nat) (hp : List Blk) : Bool :=
  match round with
  | none => true
  | some id => match hp[id]? with
    | some (.loop _ _ _ _ _ _ _) => true
    | _ => false

def notBusy : LoopState → Bool
  | .busy => false
  | _ => true

def isReady : LoopState → Bool
  | .ready => true
  | _ => false

def clnCallM (cfg : Cfg) (t : TypeId) (xs : List (List V)) : Option (V × Bool × List Blk) :=
  match (cfg.ty t).map TI.k with
  | some (.slice e) =>
    match cfg.ty e with
    | some ti =>
      if ¬ (ti.size = 0 ∨ ti.bytes = 0 ∨ cfg.solo e = true) ∧ xs.length * ti.bytes ≤ strMax ∧ rowsFit ti.size xs = true then
        if xs.length = 0 then some (.nils, false, [.hole]) else some (.ms 1 0 xs.length xs.length, false, [.hole, .cells e [] xs.flatten])
      else none
    | none => none
  | _ => none
def clnCall (cfg : Cfg) (f : FuncId) (args : List V) (hp : List Blk) : Option (V × Bool × List Blk) :=
  match cfg.cln f, args, hp with
  | some t, [.sl d xs], [] =>
    match (cfg.ty t).map TI.k with
    | some (.slice e) =>
      match cfg.ty e with
      | some ti =>
        if ¬ (ti.size = 0 ∨ ti.bytes = 0) ∧ xs.length * ti.bytes ≤ strMax ∧ rowsFit ti.size xs = true ∧ (ti.k = .int .u8 ∨ headByte xs = false) then
          some (.sl (xs.isEmpty || d) xs, true, [])
        else none
      | none => none
    | _ => none
  | some t, [.sl _ xs], [.hole] => clnCallM cfg t xs
  | _, _, _ => none

def cmpZ (a b : Int) : Int := if a < b then -1 else if b < a then 1 else 0
def cfOf (code : Nat) (x y : Int × Int) : Int := if code = 0 then cmpZ x.1 y.1 else if cmpZ y.2 x.2 = 0 then cmpZ x.1 y.1 else cmpZ y.2 x.2
def insZ (code : Nat) (x : Int × Int) : List (Int × Int) → List (Int × Int)
  | [] => [x]
  | y :: r => if cfOf code x y < 0 then x :: y :: r else y :: insZ code x r
def sortZ (code : Nat) : List (Int × Int) → List (Int × Int)
  | [] => []
  | x :: r => insZ code x (sortZ code r)
def strictZ (code : Nat) : List (Int × Int) → Bool
  | [] => true
  | x :: r => r.all (fun y => cfOf code x y != 0) && strictZ code r
def pairsZ : Nat → List V → Option (List (Int × Int))
  | 0, _ => some []
  | n + 1, .int .i64 a :: .int .i64 b :: r => (pairsZ n r).map fun l => (a, b) :: l
  | _, _ => none
def flatZ : List (Int × Int) → List V
  | [] => []
  | p :: r => .int .i64 p.1 :: .int .i64 p.2 :: flatZ r
def srtCall (cfg : Cfg) (f : FuncId) (args : List V) (hp : List Blk) : Option (V × Bool × List Blk) :=
  match args, hp with
  | [.ms 0 0 len _, .fn g []], [.cells e _ cs] =>
    match cfg.srt f g with
    | some (t, code) =>
      if t = e ∧ len ≤ 1000000000 then
        match pairsZ len cs with
        | some l => if strictZ code l then some (.tup [], false, [.cells e [] (flatZ (sortZ code l) ++ cs.drop (2 * len))]) else none
        | none => none
      else none
    | none => none
  | [.sl _ [], .fn g []], [] => if (cfg.srt f g).isSome then some (.tup [], false, []) else none
  | [.nils, .fn g []], [] => if (cfg.srt f g).isSome then some (.tup [], false, []) else none
  | _, _ => none

def step (cfg : Cfg) (orc : Orc) : Orc where
  code f round c st :=
    match c with
    | .skip => some (.normal, st)
    | .label _ => some (.normal, st)
    | .seq a b => match orc.code f round a st with
      | some (.normal, st') => orc.code f round b st'
      | r => r
    | .cond c a b => match ev st.fr c with
      | .bool true => orc.code f round a st
      | .bool false => orc.code f round b st
      | _ => none
    | .block id body => match orc.code f round body st with
      | some (.exit i, st') => if i = id then some (.normal, st') else some (.exit i, st')
      | r => r
    | .loop body => match orc.code f round body (st.kill (cfg.kill f (firstReg body))).gc with
      | some (.normal, st') => orc.code f round (.loop body) st'
      | r => r
    | .exit id => some (.exit id, st)
    | .ret => some (.ret, st)
    | .region id ops draw =>
      if draw then (evDraw cfg orc ops.toList (cfg.draw f id) st).map fun st' => (.normal, { st' with al := [] }) else
      if cfg.inpl f then (evOpsM cfg orc (cfg.birth f) (cfg.frz f id) ops.toList (List.range ops.size) st).map fun st' => (.normal, { st' with al := [] }) else
      (evOps cfg orc (fun _ => false) ops.toList (List.range ops.size) st).map fun st' => (.normal, { st' with al := [] })
    | .scope body => orc.code f round body st
    | .rangeFunc g ps assign body =>
      match ev st.fr g with
      | .fn gf cap =>
        let l := st.hp.length
        let hp1 := st.hp ++ [.loop .ready none f (killAll st.fr (cfg.kill f (rangeKey assign body))) ps.toList assign body]
        let args := .yld l :: cap
        let R := reach hp1 args
        if inLoop round st.hp && closedIn hp1 R args then
          match orc.call gf (V.renl (fun i => R.idxOf i) args) (subHp hp1 R) with
          | some (_, _, hp') =>
            let hp2 := backHp hp1 R hp'
            match hp2[l]? with
            | some (.loop s pe _ _ _ _ _) =>
              if notBusy s then
                match jumpEx pe with
                | some e => some (e, { st with hp := hp2.set l .dead, al := [] })
                | none => none
              else none
            | _ => none
          | none => none
        else none
      | _ => none
    | _ => none
  call f args hp :=
    match cfg.fn f with
    | none => match clnCall cfg f args hp with
      | some r => some r
      | none => srtCall cfg f args hp
    | some fn =>
      match fn.body with
      | none => none
      | some c =>
        match orc.code f none c { fr := args ++ List.replicate (fn.ntmps - args.length) .any, own := [], hp := hp, al := [], nb := hp.length } with
        | some (.exit _, _) => none
        | none => none
        | some (_, st') =>
          match resultsV cfg st' fn.results.toList with
          | none => none
          | some (v, own) =>
            if V.lt hp.length v && (st'.hp.take hp.length).all (Blk.all fun i => Nat.blt i hp.length) then some (v, own && isSl v, st'.hp.take hp.length)
            else some (v, own && isSl v, st'.hp)
  round id args hp :=
    match hp[id]? with
    | some (.loop s _ fn fr ps assign body) =>
      if isReady s && Nat.beq args.length ps.length then
        match orc.code fn (some id) assign { fr := (ps.zip args).foldl (fun f p => f.set p.1 p.2) fr, own := [], hp := hp, al := [], nb := hp.length } with
        | some (.normal, st1) =>
          match st1.hp[id]? with
          | some (.loop s1 pe1 fn1 fr1 ps1 as1 bo1) =>
            if isReady s1 then
              match orc.code fn (some id) body { st1 with hp := st1.hp.set id (.loop .busy pe1 fn1 fr1 ps1 as1 bo1), al := [] } with
              | some (ex, st2) =>
                match st2.hp[id]? with
                | some (.loop _ _ fn2 fr2 ps2 as2 bo2) =>
                  let hp2 := st2.hp.set id (.loop (if ex.jump.isNone then .ready else .done) ex.jump fn2 fr2 ps2 as2 bo2)
                  if (hp2.take hp.length).all (Blk.all fun i => Nat.blt i hp.length) then some (ex.jump.isNone, hp2.take hp.length)
                  else some (ex.jump.isNone, hp2)
                | _ => none
              | none => none
            else none
          | _ => none
        | _ => none
      else none
    | _ => none

def preds : List Oper → Nat → List (List Nat) → List (List Nat)
  | [], _, acc => acc
  | o :: r, i, acc => preds r (i + 1) (acc ++ [o.after.toList.foldl (fun l e => if Region.binds .any e then e.on :: ((acc.getD e.on []).filter fun p => !l.contains p) ++ l else l) []])

def predsOk (ops : List Oper) (pr : List (List Nat)) : Bool :=
  (List.range ops.length).all fun i => match ops[i]? with
    | some o => (pr.getD i []).all (fun p => Nat.blt p i) && o.after.toList.all (fun e => !Region.binds .any e || (Nat.blt e.on i && (pr.getD i []).contains e.on && (pr.getD e.on []).all fun p => (pr.getD i []).contains p)) &&
      (pr.getD i []).all (fun p => o.after.toList.any fun e => Region.binds .any e && (Nat.beq e.on p || (pr.getD e.on []).contains p))
    | none => true

def writes (o : Oper) : Bool :=
  match o.op with
  | .store _ _ _ => true
  | .alloc _ | .box _ _ => true
  | .call c => match c.callee with
    | .value _ => true
    | .builtin .append => true
    | _ => false
  | _ => false

def looksIn (o : Oper) : Bool :=
  match o.op with
  | .load _ _ | .alloc _ => true
  | _ => false

def isApp (o : Oper) : Bool :=
  match o.op with
  | .call c => match c.callee with
    | .builtin .append => true
    | _ => false
  | _ => false

def isSource (o : Oper) (d : Option Tmp) : Bool :=
  match o.op, d with
  | .move (.tmp t), some d => Nat.beq t d
  | _, _ => false

def apartOk (ops : List Oper) (info : List (Bool × List Nat)) (i j : Nat) : Bool :=
  match ops[i]?, ops[j]?, info[i]?, info[j]? with
  | some x, some y, some (_, cx), some (ly, cy) =>
    x.apart ops.toArray y && (cx.contains j == cy.contains i) && (ly || !(looksIn x && writes y) || cx.contains j) && !(isAlloc x && isApp y)
  | _, _, _, _ => false

def isLim (info : List (Bool × List Nat)) (i : Nat) : Bool :=
  match info[i]? with
  | some (l, _) => l
  | none => false

def drawsOk (ops : List Oper) (info : List (Bool × List Nat)) : Bool :=
  let pr := preds ops 0 []
  Nat.beq ops.length info.length && predsOk ops pr &&
  (List.range ops.length).all (fun j => (List.range j).all fun i => (pr.getD j []).contains i || (isLim info i && apartOk ops info i j) || (isLim info j && apartOk ops info j i)) &&
  (List.range ops.length).all (fun i => !isLim info i || (List.range ops.length).all fun k => isLim info k || match ops[i]?, ops[k]? with
    | some x, some y => !isSource y x.dst
    | _, _ => true) &&
  (List.range ops.length).all (fun i => match info[i]? with
    | some (_, c) => !c.contains i
    | none => false)

def regsOk (cfg : Cfg) (f : FuncId) : Code → Bool
  | .region id ops draw => !draw || drawsOk ops.toList (cfg.draw f id)
  | .seq a b => regsOk cfg f a && regsOk cfg f b
  | .cond _ a b => regsOk cfg f a && regsOk cfg f b
  | .block _ c => regsOk cfg f c
  | .loop c => regsOk cfg f c
  | .rangeFunc _ _ a b => regsOk cfg f a && regsOk cfg f b
  | .scope c => regsOk cfg f c
  | _ => true

def run (cfg : Cfg) : Nat → Orc
  | 0 => ⟨fun _ _ _ _ => none, fun _ _ _ => none, fun _ _ _ => none⟩
  | n + 1 => step cfg (run cfg n)

def Ev (cfg : Cfg) (f : FuncId) (args : List V) (v : V) : Prop :=
  ∃ n own hp, (run cfg n).call f args [] = some (v, own, hp)

inductive Tree (α : Type) where
  | leaf
  | node (l : Tree α) (k : Nat) (v : α) (r : Tree α)

def srtAt : List (Nat × Nat × TypeId × Nat) → FuncId → FuncId → Option (TypeId × Nat)
  | [], _, _ => none
  | (f', g', t, c) :: r, f, g => if Nat.beq f' f && Nat.beq g' g then some (t, c) else srtAt r f g
def clnAt : List (Nat × TypeId) → FuncId → Option TypeId
  | [], _ => none
  | (g, t) :: r, f => if Nat.beq g f then some t else clnAt r f

def Tree.find {α : Type} (t : Tree α) (k : Nat) : Option α :=
  match t with
  | .leaf => none
  | .node l k' v r => if Nat.beq k k' then some v else if Nat.blt k k' then l.find k else r.find k

end Go.Abs
/-! What the interpreter answers given enough fuel: one oracle, that is its own step. -/
namespace Go.Abs
variable {cfg : Cfg} {o o' : Orc}

structure Orc.Le (o o' : Orc) : Prop where
  code : ∀ f r c st x, o.code f r c st = some x → o'.code f r c st = some x
  call : ∀ f a h x, o.call f a h = some x → o'.call f a h = some x
  round : ∀ f a h x, o.round f a h = some x → o'.round f a h = some x

theorem Orc.Le.refl (o : Orc) : o.Le o := ⟨fun _ _ _ _ _ h => h, fun _ _ _ _ h => h, fun _ _ _ _ h => h⟩
theorem Orc.Le.trans {a b c : Orc} (h : a.Le b) (k : b.Le c) : a.Le c :=
  ⟨fun _ _ _ _ _ x => k.code _ _ _ _ _ (h.code _ _ _ _ _ x), fun _ _ _ _ x => k.call _ _ _ _ (h.call _ _ _ _ x), fun _ _ _ _ x => k.round _ _ _ _ (h.round _ _ _ _ x)⟩

theorem evOp_mono (h : o.Le o') {lim : Bool} {op : Oper} {st s : St} (hs : evOp cfg o lim op st = some s) : evOp cfg o' lim op st = some s := by
  obtain ⟨dst, op, ty, pos, after, guard⟩ := op
  cases op <;> simp only [evOp] at hs ⊢ <;> first | exact hs | skip
  case makeFunc fn fi ca => cases fn <;> exact hs
  rename_i c
  obtain ⟨callee, args, types⟩ := c
  cases callee with
  | builtin b => exact hs
  | invoke a b => exact hs
  | value f =>
    simp only at hs ⊢
    split
    · rename_i g cap hf
      simp only [hf] at hs
      split at hs
      · rename_i hl
        rw [if_pos hl]
        split at hs
        · rename_i hp
          rw [if_pos hp]
          split at hs
          · rename_i hc; rw [h.call _ _ _ _ hc]; exact hs
          · cases hs
        · cases hs
      · rename_i hl
        rw [if_neg hl]
        split at hs
        · rename_i hx; rw [if_pos hx]; exact hs
        · rename_i hx
          rw [if_neg hx]
          split at hs
          · rename_i hp
            rw [if_pos hp]
            split at hs
            · rename_i hc; rw [h.call _ _ _ _ hc]; exact hs
            · rename_i v1 own1 hp1 hne hc
              rw [h.call _ _ _ _ hc]
              cases hp1 with
              | nil => exact absurd rfl hne
              | cons _ _ => exact hs
            · cases hs
          · rename_i hp
            rw [if_neg hp]
            split at hs
            · rename_i hcl
              rw [if_pos hcl]
              split at hs
              · rename_i hc; rw [h.call _ _ _ _ hc]; exact hs
              · cases hs
            · cases hs
    · rename_i id hf
      simp only [hf] at hs
      split at hs
      · cases hs
      · rename_i hl
        rw [if_neg hl]
        split at hs
        · rename_i hcl
          rw [if_pos hcl]
          split at hs
          · rename_i hc; rw [h.round _ _ _ _ hc]; exact hs
          · cases hs
        · cases hs
    · rename_i h1 h2
      split at hs
      · rename_i hf; exact absurd hf (h1 _ _)
      · rename_i hf; exact absurd hf (h2 _)
      · cases hs

theorem evOps_mono (h : o.Le o') {lim : Nat → Bool} {ops : List Oper} : ∀ (l : List Nat) {st s : St}, evOps cfg o lim ops l st = some s → evOps cfg o' lim ops l st = some s
  | [], st, s, hs => by simpa [evOps] using hs
  | i :: l, st, s, hs => by
    simp only [evOps] at hs ⊢
    split at hs
    · cases hs
    · rename_i op hop
      (try simp only [hop])
      split at hs
      · cases hs
      · rename_i hw; (try simp only [hw]); exact evOps_mono h l hs
      · rename_i hw
        (try simp only [hw])
        split at hs
        · cases hs
        · rename_i st' he; rw [evOp_mono h he]; exact evOps_mono h l hs

theorem callG_mono (h : o.Le o') {dst : Option Tmp} {g : FuncId} {args : List V} {st s : St} (hs : callG o dst g args st = some s) : callG o' dst g args st = some s := by
  unfold callG at hs ⊢
  split at hs
  · rename_i hp
    rw [if_pos hp]
    split at hs
    · rename_i hc; rw [h.call _ _ _ _ hc]; exact hs
    · rename_i v1 own1 hp1 hne hc
      rw [h.call _ _ _ _ hc]
      cases hp1 with
      | nil => exact absurd rfl hne
      | cons _ _ => exact hs
    · cases hs
  · rename_i hp
    rw [if_neg hp]
    simp only at hs ⊢
    split at hs
    · rename_i hcl
      rw [if_pos hcl]
      split at hs
      · rename_i hc; rw [h.call _ _ _ _ hc]; exact hs
      · cases hs
    · cases hs

theorem cloneG_mono (h : o.Le o') {dst : Option Tmp} {g : FuncId} {args : List V} {st s : St} (hs : cloneG o dst g args st = some s) : cloneG o' dst g args st = some s := by
  unfold cloneG at hs ⊢
  split at hs
  · rename_i hc; rw [h.call _ _ _ _ hc]; exact hs
  · cases hs

theorem evOpM_mono (h : o.Le o') {bi : Bool} {op : Oper} {st s : St} (hs : evOpM cfg o bi op st = some s) : evOpM cfg o' bi op st = some s := by
  unfold evOpM at hs ⊢
  split at hs
  · rename_i hn; (try simp only [hn]); exact callG_mono h hs
  · rename_i hn
    (try simp only [hn])
    split at hs
    · rename_i hc; (try simp only [hc]); exact cloneG_mono h hs
    · rename_i hc
      (try simp only [hc])
      split at hs
      · rename_i he; (try simp only [he]); exact hs
      · rename_i he; (try simp only [he]); exact evOp_mono h hs

theorem evOpsM_mono (h : o.Le o') {bi : Bool} {fz : List (Nat × Tmp)} {ops : List Oper} : ∀ (l : List Nat) {st s : St}, evOpsM cfg o bi fz ops l st = some s → evOpsM cfg o' bi fz ops l st = some s
  | [], st, s, hs => by simpa [evOpsM] using hs
  | i :: l, st, s, hs => by
    simp only [evOpsM] at hs ⊢
    split at hs
    · cases hs
    · rename_i op hop
      (try simp only [hop])
      split at hs
      · cases hs
      · rename_i hw; (try simp only [hw]); exact evOpsM_mono h l hs
      · rename_i hw
        (try simp only [hw])
        split at hs
        · cases hs
        · rename_i st' he
          rw [evOpM_mono h he]
          simp only
          split at hs
          · cases hs
          · rename_i st2 hf; (try simp only [hf]); exact evOpsM_mono h l hs

theorem limV_mono (h : o.Le o') {hole : Nat} {op : Oper} {fr : List V} {hp : List Blk} {v : V} (hs : limV cfg o hole op fr hp = some v) : limV cfg o' hole op fr hp = some v := by
  obtain ⟨dst, op, ty, pos, after, guard⟩ := op
  cases op <;> simp only [limV] at hs ⊢ <;> first | exact hs | skip
  case makeFunc fn fi ca => cases fn <;> exact hs
  rename_i c
  obtain ⟨callee, args, types⟩ := c
  cases callee with
  | builtin b => exact hs
  | invoke a b => exact hs
  | value f =>
    simp only at hs ⊢
    split
    · rename_i g cap hf
      simp only [hf] at hs
      split at hs
      · rename_i hp
        rw [if_pos hp]
        split at hs
        · rename_i hc; rw [h.call _ _ _ _ hc]; exact hs
        · cases hs
      · cases hs
    · rename_i h1
      split at hs
      · rename_i hf; exact absurd hf (h1 _ _)
      · cases hs

theorem evD_mono (h : o.Le o') {n0 : Nat} {ops : List Oper} {info : List (Bool × List Nat)} {i : Nat} {s s' : DS} (hs : evD cfg o n0 ops info i s = some s') : evD cfg o' n0 ops info i s = some s' := by
  unfold evD at hs ⊢
  split at hs
  · rename_i op lim cont ho hi
    (try simp only [ho, hi])
    split at hs
    · cases hs
    · rename_i hw; (try simp only [hw]); exact hs
    · rename_i hw
      (try simp only [hw])
      split at hs
      · rename_i hl
        rw [if_pos hl]
        split at hs
        · cases hs
        · rename_i hv; rw [limV_mono h hv]; exact hs
      · rename_i hl
        rw [if_neg hl]
        split at hs
        · cases hs
        · rename_i hv; rw [evOp_mono h hv]; exact hs
  · cases hs

theorem evDs_mono (h : o.Le o') {n0 : Nat} {ops : List Oper} {info : List (Bool × List Nat)} : ∀ (l : List Nat) {s s' : DS}, evDs cfg o n0 ops info l s = some s' → evDs cfg o' n0 ops info l s = some s'
  | [], s, s', hs => by simpa [evDs] using hs
  | i :: l, s, s', hs => by
    simp only [evDs] at hs ⊢
    split at hs
    · cases hs
    · rename_i hd; rw [evD_mono h hd]; exact evDs_mono h l hs

theorem evDraw_mono (h : o.Le o') {ops : List Oper} {info : List (Bool × List Nat)} {st s : St} (hs : evDraw cfg o ops info st = some s) : evDraw cfg o' ops info st = some s := by
  unfold evDraw at hs ⊢
  obtain ⟨d, hd, rfl⟩ := Option.map_eq_some_iff.1 hs
  rw [evDs_mono h _ hd]; rfl

theorem step_mono (h : o.Le o') : (step cfg o).Le (step cfg o') where
  code f r c st x hs := by
    cases c with
    | seq a b =>
      simp only [step] at hs ⊢
      split at hs
      · rename_i hc; rw [h.code _ _ _ _ _ hc]; exact h.code _ _ _ _ _ hs
      · rename_i hn
        rw [h.code _ _ _ _ _ hs]
        split
        · rename_i he; cases he; exact absurd hs (hn _)
        · rfl
    | cond c a b =>
      simp only [step] at hs ⊢
      split at hs
      · rename_i hc; (try simp only [hc]); exact h.code _ _ _ _ _ hs
      · rename_i hc; (try simp only [hc]); exact h.code _ _ _ _ _ hs
      · cases hs
    | block id b =>
      simp only [step] at hs ⊢
      split at hs
      · rename_i hc; rw [h.code _ _ _ _ _ hc]; exact hs
      · rename_i hn
        rw [h.code _ _ _ _ _ hs]
        split
        · rename_i he; cases he; exact absurd hs (hn _ _)
        · rfl
    | loop b =>
      simp only [step] at hs ⊢
      split at hs
      · rename_i hc; rw [h.code _ _ _ _ _ hc]; exact h.code _ _ _ _ _ hs
      · rename_i hn
        rw [h.code _ _ _ _ _ hs]
        split
        · rename_i he; cases he; exact absurd hs (hn _)
        · rfl
    | region id ops draw =>
      simp only [step] at hs ⊢
      split at hs
      · rename_i hd
        rw [if_pos hd]
        obtain ⟨s, hs1, rfl⟩ := Option.map_eq_some_iff.1 hs
        rw [evDraw_mono h hs1]; rfl
      · rename_i hd
        rw [if_neg hd]
        split at hs
        · rename_i hm
          rw [if_pos hm]
          obtain ⟨s, hs1, rfl⟩ := Option.map_eq_some_iff.1 hs
          rw [evOpsM_mono h _ hs1]; rfl
        · rename_i hm
          rw [if_neg hm]
          obtain ⟨s, hs1, rfl⟩ := Option.map_eq_some_iff.1 hs
          rw [evOps_mono h _ hs1]; rfl
    | scope b => simp only [step] at hs ⊢; exact h.code _ _ _ _ _ hs
    | rangeFunc g ps a b =>
      simp only [step] at hs ⊢
      split
      · rename_i gf cap hg
        simp only [hg] at hs
        split at hs
        · rename_i hcl
          rw [if_pos hcl]
          split at hs
          · rename_i hc; rw [h.call _ _ _ _ hc]; exact hs
          · cases hs
        · cases hs
      · rename_i hg
        split at hs
        · rename_i hf; exact absurd hf (hg _ _)
        · cases hs
    | _ => exact hs
  call f a hp x hs := by
    simp only [step] at hs ⊢
    split at hs
    · rename_i hfn
      (try simp only [hfn])
      exact hs
    · rename_i fn hfn
      (try simp only [hfn])
      split at hs
      · cases hs
      · rename_i c hb
        (try simp only [hb])
        split at hs
        · cases hs
        · cases hs
        · rename_i e st2 hne hc
          rw [h.code _ _ _ _ _ hc]
          cases e with
          | exit i => exact absurd rfl (hne i)
          | normal => exact hs
          | ret => exact hs
  round id a hp x hs := by
    simp only [step] at hs ⊢
    split at hs
    · rename_i hl
      split at hs
      · rename_i hcond
        rw [if_pos hcond]
        split at hs
        · rename_i hc
          rw [h.code _ _ _ _ _ hc]
          simp only
          split at hs
          · rename_i hl1
            split at hs
            · rename_i hr1
              rw [if_pos hr1]
              split at hs
              · rename_i hc2
                rw [h.code _ _ _ _ _ hc2]
                exact hs
              · cases hs
            · cases hs
          · cases hs
        · cases hs
      · cases hs
    · cases hs

theorem run_mono : ∀ {k j : Nat}, k ≤ j → (run cfg k).Le (run cfg j)
  | 0, j, _ => ⟨fun f r c st x h => by simp [run] at h, fun f a hp x h => by simp [run] at h, fun f a hp x h => by simp [run] at h⟩
  | k + 1, j, hj => by
    obtain ⟨j, rfl⟩ : ∃ i, j = i + 1 := ⟨j - 1, by omega⟩
    exact step_mono (run_mono (Nat.le_of_succ_le_succ hj))

open Classical in
noncomputable def limOf {α : Type} (u : Nat → Option α) : Option α := if h : ∃ k, (u k).isSome then u (Classical.choose h) else none

theorem limOf_iff {α : Type} {u : Nat → Option α} (hu : ∀ k j x, k ≤ j → u k = some x → u j = some x) {x : α} : limOf u = some x ↔ ∃ k, u k = some x := by
  unfold limOf
  constructor
  · intro h
    split at h
    · exact ⟨_, h⟩
    · cases h
  · rintro ⟨k, hk⟩
    have h : ∃ k, (u k).isSome := ⟨k, by rw [hk]; rfl⟩
    rw [dif_pos h]
    obtain ⟨y, hy⟩ := Option.isSome_iff_exists.1 (Classical.choose_spec h)
    rw [hy]
    have h1 := hu _ (max k (Classical.choose h)) _ (Nat.le_max_left _ _) hk
    have h2 := hu _ (max k (Classical.choose h)) _ (Nat.le_max_right _ _) hy
    rw [h1] at h2
    exact h2.symm

noncomputable def Lim (cfg : Cfg) : Orc where
  code f r c st := limOf fun k => (run cfg k).code f r c st
  call f a hp := limOf fun k => (run cfg k).call f a hp
  round f a hp := limOf fun k => (run cfg k).round f a hp

theorem lim_code_iff {f : FuncId} {r : Option Nat} {c : Code} {st : St} {x : Ex × St} : (Lim cfg).code f r c st = some x ↔ ∃ k, (run cfg k).code f r c st = some x :=
  limOf_iff fun _ _ _ hkj h => (run_mono hkj).code _ _ _ _ _ h
theorem lim_call_iff {f : FuncId} {a : List V} {hp : List Blk} {x : V × Bool × List Blk} : (Lim cfg).call f a hp = some x ↔ ∃ k, (run cfg k).call f a hp = some x :=
  limOf_iff fun _ _ _ hkj h => (run_mono hkj).call _ _ _ _ h
theorem lim_round_iff {f : Nat} {a : List V} {hp : List Blk} {x : Bool × List Blk} : (Lim cfg).round f a hp = some x ↔ ∃ k, (run cfg k).round f a hp = some x :=
  limOf_iff fun _ _ _ hkj h => (run_mono hkj).round _ _ _ _ h

theorem run_le_lim (k : Nat) : (run cfg k).Le (Lim cfg) := ⟨fun _ _ _ _ _ h => lim_code_iff.2 ⟨k, h⟩, fun _ _ _ _ h => lim_call_iff.2 ⟨k, h⟩, fun _ _ _ _ h => lim_round_iff.2 ⟨k, h⟩⟩

theorem fin_code {f : FuncId} {r : Option Nat} {c : Code} {st : St} {x : Ex × St} (h : (Lim cfg).code f r c st = some x) : ∃ k, ∀ j, k ≤ j → (run cfg j).code f r c st = some x := by
  obtain ⟨k, hk⟩ := lim_code_iff.1 h
  exact ⟨k, fun j hj => (run_mono hj).code _ _ _ _ _ hk⟩
theorem fin_call {f : FuncId} {a : List V} {hp : List Blk} {x : V × Bool × List Blk} (h : (Lim cfg).call f a hp = some x) : ∃ k, ∀ j, k ≤ j → (run cfg j).call f a hp = some x := by
  obtain ⟨k, hk⟩ := lim_call_iff.1 h
  exact ⟨k, fun j hj => (run_mono hj).call _ _ _ _ hk⟩
theorem fin_round {f : Nat} {a : List V} {hp : List Blk} {x : Bool × List Blk} (h : (Lim cfg).round f a hp = some x) : ∃ k, ∀ j, k ≤ j → (run cfg j).round f a hp = some x := by
  obtain ⟨k, hk⟩ := lim_round_iff.1 h
  exact ⟨k, fun j hj => (run_mono hj).round _ _ _ _ hk⟩

theorem evOp_fin {lim : Bool} {op : Oper} {st s : St} (hs : evOp cfg (Lim cfg) lim op st = some s) : ∃ k, ∀ j, k ≤ j → evOp cfg (run cfg j) lim op st = some s := by
  obtain ⟨dst, op, ty, pos, after, guard⟩ := op
  cases op <;> simp only [evOp] at hs ⊢ <;> first | exact ⟨0, fun _ _ => hs⟩ | skip
  case makeFunc fn fi ca => cases fn <;> exact ⟨0, fun _ _ => hs⟩
  rename_i c
  obtain ⟨callee, args, types⟩ := c
  cases callee with
  | builtin b => exact ⟨0, fun _ _ => hs⟩
  | invoke a b => exact ⟨0, fun _ _ => hs⟩
  | value f =>
    simp only at hs ⊢
    split
    · rename_i g cap hf
      simp only [hf] at hs
      split at hs
      · rename_i hl
        simp only [if_pos hl]
        split at hs
        · rename_i hp
          simp only [if_pos hp]
          split at hs
          · rename_i hc
            obtain ⟨k, hk⟩ := fin_call hc
            exact ⟨k, fun j hj => by rw [hk j hj]; exact hs⟩
          · cases hs
        · cases hs
      · rename_i hl
        simp only [if_neg hl]
        split at hs
        · rename_i hx; simp only [if_pos hx]; exact ⟨0, fun _ _ => hs⟩
        · rename_i hx
          simp only [if_neg hx]
          split at hs
          · rename_i hp
            simp only [if_pos hp]
            split at hs
            · rename_i hc
              obtain ⟨k, hk⟩ := fin_call hc
              exact ⟨k, fun j hj => by rw [hk j hj]; exact hs⟩
            · rename_i v1 own1 hp1 hne hc
              obtain ⟨k, hk⟩ := fin_call hc
              refine ⟨k, fun j hj => ?_⟩
              rw [hk j hj]
              cases hp1 with
              | nil => exact absurd rfl hne
              | cons _ _ => exact hs
            · cases hs
          · rename_i hp
            simp only [if_neg hp]
            split at hs
            · rename_i hcl
              simp only [if_pos hcl]
              split at hs
              · rename_i hc
                obtain ⟨k, hk⟩ := fin_call hc
                exact ⟨k, fun j hj => by rw [hk j hj]; exact hs⟩
              · cases hs
            · cases hs
    · rename_i id hf
      simp only [hf] at hs
      split at hs
      · cases hs
      · rename_i hl
        simp only [if_neg hl]
        split at hs
        · rename_i hcl
          simp only [if_pos hcl]
          split at hs
          · rename_i hc
            obtain ⟨k, hk⟩ := fin_round hc
            exact ⟨k, fun j hj => by rw [hk j hj]; exact hs⟩
          · cases hs
        · cases hs
    · rename_i h1 h2
      split at hs
      · rename_i hf; exact absurd hf (h1 _ _)
      · rename_i hf; exact absurd hf (h2 _)
      · cases hs

theorem evOps_fin {lim : Nat → Bool} {ops : List Oper} : ∀ (l : List Nat) {st s : St}, evOps cfg (Lim cfg) lim ops l st = some s → ∃ k, ∀ j, k ≤ j → evOps cfg (run cfg j) lim ops l st = some s
  | [], st, s, hs => ⟨0, fun _ _ => by simpa [evOps] using hs⟩
  | i :: l, st, s, hs => by
    simp only [evOps] at hs ⊢
    split at hs
    · cases hs
    · rename_i op hop
      (try simp only [hop])
      split at hs
      · cases hs
      · rename_i hw; (try simp only [hw]); exact evOps_fin l hs
      · rename_i hw
        (try simp only [hw])
        split at hs
        · cases hs
        · rename_i st' he
          obtain ⟨k1, h1⟩ := evOp_fin he
          obtain ⟨k2, h2⟩ := evOps_fin l hs
          exact ⟨max k1 k2, fun j hj => by rw [h1 j (by omega)]; exact h2 j (by omega)⟩

theorem callG_fin {dst : Option Tmp} {g : FuncId} {args : List V} {st s : St} (hs : callG (Lim cfg) dst g args st = some s) : ∃ k, ∀ j, k ≤ j → callG (run cfg j) dst g args st = some s := by
  unfold callG at hs ⊢
  split at hs
  · rename_i hp
    simp only [if_pos hp]
    split at hs
    · rename_i hc
      obtain ⟨k, hk⟩ := fin_call hc
      exact ⟨k, fun j hj => by rw [hk j hj]; exact hs⟩
    · rename_i v1 own1 hp1 hne hc
      obtain ⟨k, hk⟩ := fin_call hc
      refine ⟨k, fun j hj => ?_⟩
      rw [hk j hj]
      cases hp1 with
      | nil => exact absurd rfl hne
      | cons _ _ => exact hs
    · cases hs
  · rename_i hp
    simp only [if_neg hp]
    simp only at hs ⊢
    split at hs
    · rename_i hcl
      simp only [if_pos hcl]
      split at hs
      · rename_i hc
        obtain ⟨k, hk⟩ := fin_call hc
        exact ⟨k, fun j hj => by rw [hk j hj]; exact hs⟩
      · cases hs
    · cases hs

theorem cloneG_fin {dst : Option Tmp} {g : FuncId} {args : List V} {st s : St} (hs : cloneG (Lim cfg) dst g args st = some s) : ∃ k, ∀ j, k ≤ j → cloneG (run cfg j) dst g args st = some s := by
  unfold cloneG at hs ⊢
  split at hs
  · rename_i hc
    obtain ⟨k, hk⟩ := fin_call hc
    exact ⟨k, fun j hj => by rw [hk j hj]; exact hs⟩
  · cases hs

theorem evOpM_fin {bi : Bool} {op : Oper} {st s : St} (hs : evOpM cfg (Lim cfg) bi op st = some s) : ∃ k, ∀ j, k ≤ j → evOpM cfg (run cfg j) bi op st = some s := by
  unfold evOpM at hs ⊢
  split at hs
  · rename_i hn; (try simp only [hn]); exact callG_fin hs
  · rename_i hn
    (try simp only [hn])
    split at hs
    · rename_i hc; (try simp only [hc]); exact cloneG_fin hs
    · rename_i hc
      (try simp only [hc])
      split at hs
      · rename_i he; (try simp only [he]); exact ⟨0, fun _ _ => hs⟩
      · rename_i he; (try simp only [he]); exact evOp_fin hs

theorem evOpsM_fin {bi : Bool} {fz : List (Nat × Tmp)} {ops : List Oper} : ∀ (l : List Nat) {st s : St}, evOpsM cfg (Lim cfg) bi fz ops l st = some s → ∃ k, ∀ j, k ≤ j → evOpsM cfg (run cfg j) bi fz ops l st = some s
  | [], st, s, hs => ⟨0, fun _ _ => by simpa [evOpsM] using hs⟩
  | i :: l, st, s, hs => by
    simp only [evOpsM] at hs ⊢
    split at hs
    · cases hs
    · rename_i op hop
      (try simp only [hop])
      split at hs
      · cases hs
      · rename_i hw; (try simp only [hw]); exact evOpsM_fin l hs
      · rename_i hw
        (try simp only [hw])
        split at hs
        · cases hs
        · rename_i st' he
          split at hs
          · cases hs
          · rename_i st2 hf
            obtain ⟨k1, h1⟩ := evOpM_fin he
            obtain ⟨k2, h2⟩ := evOpsM_fin l hs
            exact ⟨max k1 k2, fun j hj => by rw [h1 j (by omega)]; simp only [hf]; exact h2 j (by omega)⟩

theorem limV_fin {hole : Nat} {op : Oper} {fr : List V} {hp : List Blk} {v : V} (hs : limV cfg (Lim cfg) hole op fr hp = some v) : ∃ k, ∀ j, k ≤ j → limV cfg (run cfg j) hole op fr hp = some v := by
  obtain ⟨dst, op, ty, pos, after, guard⟩ := op
  cases op <;> simp only [limV] at hs ⊢ <;> first | exact ⟨0, fun _ _ => hs⟩ | skip
  case makeFunc fn fi ca => cases fn <;> exact ⟨0, fun _ _ => hs⟩
  rename_i c
  obtain ⟨callee, args, types⟩ := c
  cases callee with
  | builtin b => exact ⟨0, fun _ _ => hs⟩
  | invoke a b => exact ⟨0, fun _ _ => hs⟩
  | value f =>
    simp only at hs ⊢
    split
    · rename_i g cap hf
      simp only [hf] at hs
      split at hs
      · rename_i hp
        simp only [if_pos hp]
        split at hs
        · rename_i hc
          obtain ⟨k, hk⟩ := fin_call hc
          exact ⟨k, fun j hj => by rw [hk j hj]; exact hs⟩
        · cases hs
      · cases hs
    · rename_i h1
      split at hs
      · rename_i hf; exact absurd hf (h1 _ _)
      · cases hs

theorem evD_fin {n0 : Nat} {ops : List Oper} {info : List (Bool × List Nat)} {i : Nat} {s s' : DS} (hs : evD cfg (Lim cfg) n0 ops info i s = some s') : ∃ k, ∀ j, k ≤ j → evD cfg (run cfg j) n0 ops info i s = some s' := by
  unfold evD at hs ⊢
  split at hs
  · rename_i op lim cont ho hi
    (try simp only [ho, hi])
    split at hs
    · cases hs
    · rename_i hw; (try simp only [hw]); exact ⟨0, fun _ _ => hs⟩
    · rename_i hw
      (try simp only [hw])
      split at hs
      · rename_i hl
        simp only [if_pos hl]
        split at hs
        · cases hs
        · rename_i hv
          obtain ⟨k, hk⟩ := limV_fin hv
          exact ⟨k, fun j hj => by rw [hk j hj]; exact hs⟩
      · rename_i hl
        simp only [if_neg hl]
        split at hs
        · cases hs
        · rename_i hv
          obtain ⟨k, hk⟩ := evOp_fin hv
          exact ⟨k, fun j hj => by rw [hk j hj]; exact hs⟩
  · cases hs

theorem evDs_fin {n0 : Nat} {ops : List Oper} {info : List (Bool × List Nat)} : ∀ (l : List Nat) {s s' : DS}, evDs cfg (Lim cfg) n0 ops info l s = some s' → ∃ k, ∀ j, k ≤ j → evDs cfg (run cfg j) n0 ops info l s = some s'
  | [], s, s', hs => ⟨0, fun _ _ => by simpa [evDs] using hs⟩
  | i :: l, s, s', hs => by
    simp only [evDs] at hs ⊢
    split at hs
    · cases hs
    · rename_i hd
      obtain ⟨k1, h1⟩ := evD_fin hd
      obtain ⟨k2, h2⟩ := evDs_fin l hs
      exact ⟨max k1 k2, fun j hj => by rw [h1 j (by omega)]; exact h2 j (by omega)⟩

theorem evDraw_fin {ops : List Oper} {info : List (Bool × List Nat)} {st s : St} (hs : evDraw cfg (Lim cfg) ops info st = some s) : ∃ k, ∀ j, k ≤ j → evDraw cfg (run cfg j) ops info st = some s := by
  unfold evDraw at hs ⊢
  obtain ⟨d, hd, rfl⟩ := Option.map_eq_some_iff.1 hs
  obtain ⟨k, hk⟩ := evDs_fin _ hd
  exact ⟨k, fun j hj => by rw [hk j hj]; rfl⟩

theorem step_code_fin {f : FuncId} {r : Option Nat} {c : Code} {st : St} {x : Ex × St} (hs : (step cfg (Lim cfg)).code f r c st = some x) : ∃ k, (step cfg (run cfg k)).code f r c st = some x := by
  cases c with
  | seq a b =>
    simp only [step] at hs ⊢
    split at hs
    · rename_i hc
      obtain ⟨k1, h1⟩ := fin_code hc
      obtain ⟨k2, h2⟩ := fin_code hs
      exact ⟨max k1 k2, by rw [h1 _ (Nat.le_max_left _ _)]; exact h2 _ (Nat.le_max_right _ _)⟩
    · rename_i hn
      obtain ⟨k, hk⟩ := fin_code hs
      refine ⟨k, ?_⟩
      rw [hk k (Nat.le_refl _)]
      split
      · rename_i he; cases he; exact absurd hs (hn _)
      · rfl
  | cond c a b =>
    simp only [step] at hs ⊢
    split at hs
    · rename_i hc; (try simp only [hc]); exact lim_code_iff.1 hs
    · rename_i hc; (try simp only [hc]); exact lim_code_iff.1 hs
    · cases hs
  | block id b =>
    simp only [step] at hs ⊢
    split at hs
    · rename_i hc
      obtain ⟨k, hk⟩ := fin_code hc
      exact ⟨k, by rw [hk k (Nat.le_refl _)]; exact hs⟩
    · rename_i hn
      obtain ⟨k, hk⟩ := fin_code hs
      refine ⟨k, ?_⟩
      rw [hk k (Nat.le_refl _)]
      split
      · rename_i he; cases he; exact absurd hs (hn _ _)
      · rfl
  | loop b =>
    simp only [step] at hs ⊢
    split at hs
    · rename_i hc
      obtain ⟨k1, h1⟩ := fin_code hc
      obtain ⟨k2, h2⟩ := fin_code hs
      exact ⟨max k1 k2, by rw [h1 _ (Nat.le_max_left _ _)]; exact h2 _ (Nat.le_max_right _ _)⟩
    · rename_i hn
      obtain ⟨k, hk⟩ := fin_code hs
      refine ⟨k, ?_⟩
      rw [hk k (Nat.le_refl _)]
      split
      · rename_i he; cases he; exact absurd hs (hn _)
      · rfl
  | region id ops draw =>
    simp only [step] at hs ⊢
    split at hs
    · rename_i hd
      simp only [if_pos hd]
      obtain ⟨s, hs1, rfl⟩ := Option.map_eq_some_iff.1 hs
      obtain ⟨k, hk⟩ := evDraw_fin hs1
      exact ⟨k, by rw [hk k (Nat.le_refl _)]; rfl⟩
    · rename_i hd
      simp only [if_neg hd]
      split at hs
      · rename_i hm
        simp only [if_pos hm]
        obtain ⟨s, hs1, rfl⟩ := Option.map_eq_some_iff.1 hs
        obtain ⟨k, hk⟩ := evOpsM_fin _ hs1
        exact ⟨k, by rw [hk k (Nat.le_refl _)]; rfl⟩
      · rename_i hm
        simp only [if_neg hm]
        obtain ⟨s, hs1, rfl⟩ := Option.map_eq_some_iff.1 hs
        obtain ⟨k, hk⟩ := evOps_fin _ hs1
        exact ⟨k, by rw [hk k (Nat.le_refl _)]; rfl⟩
  | scope b => simp only [step] at hs ⊢; exact lim_code_iff.1 hs
  | rangeFunc g ps a b =>
    simp only [step] at hs ⊢
    split
    · rename_i gf cap hg
      simp only [hg] at hs
      split at hs
      · rename_i hcl
        simp only [if_pos hcl]
        split at hs
        · rename_i hc
          obtain ⟨k, hk⟩ := fin_call hc
          exact ⟨k, by rw [hk k (Nat.le_refl _)]; exact hs⟩
        · cases hs
      · cases hs
    · rename_i hg
      split at hs
      · rename_i hf; exact absurd hf (hg _ _)
      · cases hs
  | _ => exact ⟨0, hs⟩

theorem step_call_fin {f : FuncId} {a : List V} {hp : List Blk} {x : V × Bool × List Blk} (hs : (step cfg (Lim cfg)).call f a hp = some x) : ∃ k, (step cfg (run cfg k)).call f a hp = some x := by
  simp only [step] at hs ⊢
  split at hs
  · rename_i hfn
    exact ⟨0, by (try simp only [step, hfn]); exact hs⟩
  · rename_i fn hfn
    (try simp only [hfn])
    split at hs
    · cases hs
    · rename_i c hb
      (try simp only [hb])
      split at hs
      · cases hs
      · cases hs
      · rename_i e st2 hne hc
        obtain ⟨k, hk⟩ := fin_code hc
        refine ⟨k, ?_⟩
        rw [hk k (Nat.le_refl _)]
        cases e with
        | exit i => exact absurd rfl (hne i)
        | normal => exact hs
        | ret => exact hs

theorem step_round_fin {id : Nat} {a : List V} {hp : List Blk} {x : Bool × List Blk} (hs : (step cfg (Lim cfg)).round id a hp = some x) : ∃ k, (step cfg (run cfg k)).round id a hp = some x := by
  simp only [step] at hs ⊢
  split at hs
  · rename_i hl
    split at hs
    · rename_i hcond
      simp only [if_pos hcond]
      split at hs
      · rename_i hc
        split at hs
        · rename_i hl1
          split at hs
          · rename_i hr1
            split at hs
            · rename_i hc2
              obtain ⟨k1, h1⟩ := fin_code hc
              obtain ⟨k2, h2⟩ := fin_code hc2
              refine ⟨max k1 k2, ?_⟩
              rw [h1 _ (Nat.le_max_left _ _)]
              simp only [hl1, if_pos hr1]
              rw [h2 _ (Nat.le_max_right _ _)]
              exact hs
            · cases hs
          · cases hs
        · cases hs
      · cases hs
    · cases hs
  · cases hs

theorem lim_code (f : FuncId) (r : Option Nat) (c : Code) (st : St) : (Lim cfg).code f r c st = (step cfg (Lim cfg)).code f r c st := by
  apply Option.ext
  intro x
  constructor
  · intro h
    obtain ⟨k, hk⟩ := lim_code_iff.1 h
    cases k with
    | zero => simp [run] at hk
    | succ k => exact (step_mono (run_le_lim k)).code _ _ _ _ _ hk
  · intro h
    obtain ⟨k, hk⟩ := step_code_fin h
    exact lim_code_iff.2 ⟨k + 1, hk⟩
theorem lim_call (f : FuncId) (a : List V) (hp : List Blk) : (Lim cfg).call f a hp = (step cfg (Lim cfg)).call f a hp := by
  apply Option.ext
  intro x
  constructor
  · intro h
    obtain ⟨k, hk⟩ := lim_call_iff.1 h
    cases k with
    | zero => simp [run] at hk
    | succ k => exact (step_mono (run_le_lim k)).call _ _ _ _ hk
  · intro h
    obtain ⟨k, hk⟩ := step_call_fin h
    exact lim_call_iff.2 ⟨k + 1, hk⟩
theorem lim_round (f : Nat) (a : List V) (hp : List Blk) : (Lim cfg).round f a hp = (step cfg (Lim cfg)).round f a hp := by
  apply Option.ext
  intro x
  constructor
  · intro h
    obtain ⟨k, hk⟩ := lim_round_iff.1 h
    cases k with
    | zero => simp [run] at hk
    | succ k => exact (step_mono (run_le_lim k)).round _ _ _ _ hk
  · intro h
    obtain ⟨k, hk⟩ := step_round_fin h
    exact lim_round_iff.2 ⟨k + 1, hk⟩

theorem ev_of_lim {f : FuncId} {args : List V} {v : V} {own : Bool} {hp : List Blk} (h : (Lim cfg).call f args [] = some (v, own, hp)) : Ev cfg f args v := by
  obtain ⟨k, hk⟩ := lim_call_iff.1 h
  exact ⟨k, own, hp, hk⟩

end Go.Abs
/-! Walking code: what holds behind it. -/
namespace Go.Abs
variable {cfg : Cfg} {f : FuncId} {r : Option Nat} {st : St} {Q : Ex → St → Prop} {orc : Orc}

def Wp (cfg : Cfg) (f : FuncId) (r : Option Nat) (c : Code) (st : St) (Q : Ex → St → Prop) : Prop := ∃ e s, (Lim cfg).code f r c st = some (e, s) ∧ Q e s

def WpO (o : Option St) (K : St → Prop) : Prop := ∃ s, o = some s ∧ K s
def WpC (v : V) (x y : Prop) : Prop := (v = .bool true ∧ x) ∨ (v = .bool false ∧ y)
def WpN (Q : Ex → St → Prop) (K : St → Prop) (e : Ex) (s : St) : Prop :=
  match e with
  | .normal => K s
  | .exit i => Q (.exit i) s
  | .ret => Q .ret s

@[congr] theorem WpO_congr {o o' : Option St} {K : St → Prop} (h : o = o') : WpO o K = WpO o' K := by rw [h]
@[congr] theorem WpC_congr {v v' : V} {x y : Prop} (h : v = v') : WpC v x y = WpC v' x y := by rw [h]
@[congr] theorem Wp_congr {c : Code} : Wp cfg f r c st Q = Wp cfg f r c st Q := rfl

theorem WpO_some {s : St} {K : St → Prop} : WpO (some s) K = K s := by simp [WpO]
theorem WpO_none {K : St → Prop} : WpO none K = False := by simp [WpO]
theorem WpC_true {x y : Prop} : WpC (.bool true) x y = x := by simp [WpC]
theorem WpC_false {x y : Prop} : WpC (.bool false) x y = y := by simp [WpC]
theorem WpC_split {b : Bool} {x y : Prop} (h1 : b = true → x) (h2 : b = false → y) : WpC (.bool b) x y := by cases b <;> simp_all [WpC]
theorem WpN_normal {K : St → Prop} {s : St} : WpN Q K .normal s = K s := rfl
theorem WpN_exit {K : St → Prop} {s : St} {i : Nat} : WpN Q K (.exit i) s = Q (.exit i) s := rfl
theorem WpN_ret {K : St → Prop} {s : St} : WpN Q K .ret s = Q .ret s := rfl

def WpB (id : Nat) (Q : Ex → St → Prop) (e : Ex) (s : St) : Prop :=
  match e with
  | .exit i => if i = id then Q .normal s else Q (.exit i) s
  | .normal => Q .normal s
  | .ret => Q .ret s
theorem WpB_normal {id : Nat} {s : St} : WpB id Q .normal s = Q .normal s := rfl
theorem WpB_ret {id : Nat} {s : St} : WpB id Q .ret s = Q .ret s := rfl
theorem WpB_exit {id i : Nat} {s : St} : WpB id Q (.exit i) s = if i = id then Q .normal s else Q (.exit i) s := rfl

theorem w_skip : Wp cfg f r .skip st Q = Q .normal st := by
  apply propext; simp only [Wp]; rw [lim_code]
  exact ⟨fun ⟨e, s, h, hq⟩ => by cases h; exact hq, fun h => ⟨_, _, rfl, h⟩⟩
theorem w_label {l : Nat} : Wp cfg f r (.label l) st Q = Q .normal st := by
  apply propext; simp only [Wp]; rw [lim_code]
  exact ⟨fun ⟨e, s, h, hq⟩ => by cases h; exact hq, fun h => ⟨_, _, rfl, h⟩⟩
theorem w_exit {i : Nat} : Wp cfg f r (.exit i) st Q = Q (.exit i) st := by
  apply propext; simp only [Wp]; rw [lim_code]
  exact ⟨fun ⟨e, s, h, hq⟩ => by cases h; exact hq, fun h => ⟨_, _, rfl, h⟩⟩
theorem w_ret : Wp cfg f r .ret st Q = Q .ret st := by
  apply propext; simp only [Wp]; rw [lim_code]
  exact ⟨fun ⟨e, s, h, hq⟩ => by cases h; exact hq, fun h => ⟨_, _, rfl, h⟩⟩
theorem w_scope {c : Code} : Wp cfg f r (.scope c) st Q = Wp cfg f r c st Q := by simp only [Wp]; rw [lim_code]; rfl

theorem w_seq {a b : Code} : Wp cfg f r (.seq a b) st Q = Wp cfg f r a st (WpN Q fun s => Wp cfg f r b s Q) := by
  apply propext
  simp only [Wp]
  constructor
  · rintro ⟨e, s, h, hq⟩
    rw [lim_code] at h
    simp only [step] at h
    split at h
    · rename_i s1 h1
      exact ⟨_, _, h1, e, s, h, hq⟩
    · rename_i hn
      refine ⟨e, s, h, ?_⟩
      cases e with
      | normal => exact absurd h (hn s)
      | exit i => exact hq
      | ret => exact hq
  · rintro ⟨e, s, h, hq⟩
    cases e with
    | normal =>
      obtain ⟨e2, s2, h2, hq2⟩ := hq
      refine ⟨e2, s2, ?_, hq2⟩
      rw [lim_code]; simp only [step, h, h2]
    | exit i => refine ⟨_, _, ?_, hq⟩; rw [lim_code]; simp only [step, h]
    | ret => refine ⟨_, _, ?_, hq⟩; rw [lim_code]; simp only [step, h]

theorem w_cond {c : Operand} {a b : Code} : Wp cfg f r (.cond c a b) st Q = WpC (ev st.fr c) (Wp cfg f r a st Q) (Wp cfg f r b st Q) := by
  apply propext
  simp only [Wp, WpC]
  rw [lim_code]
  simp only [step]
  constructor
  · rintro ⟨e, s, h, hq⟩
    split at h
    · rename_i hc; exact .inl ⟨hc, e, s, h, hq⟩
    · rename_i hc; exact .inr ⟨hc, e, s, h, hq⟩
    · cases h
  · rintro (⟨hc, e, s, h, hq⟩ | ⟨hc, e, s, h, hq⟩)
    · exact ⟨e, s, by rw [hc]; exact h, hq⟩
    · exact ⟨e, s, by rw [hc]; exact h, hq⟩

theorem w_block {id : Nat} {c : Code} : Wp cfg f r (.block id c) st Q = Wp cfg f r c st (WpB id Q) := by
  apply propext
  simp only [Wp]
  constructor
  · rintro ⟨e, s, h, hq⟩
    rw [lim_code] at h
    simp only [step] at h
    split at h
    · rename_i i s1 h1
      refine ⟨_, _, h1, ?_⟩
      simp only [WpB]
      split at h <;> rename_i hi <;> cases h
      · rw [if_pos hi]; exact hq
      · rw [if_neg hi]; exact hq
    · rename_i hn
      refine ⟨e, s, h, ?_⟩
      cases e with
      | normal => exact hq
      | exit i => exact absurd h (hn i s)
      | ret => exact hq
  · rintro ⟨e, s, h, hq⟩
    cases e with
    | normal => refine ⟨_, _, ?_, hq⟩; rw [lim_code]; simp only [step, h]
    | ret => refine ⟨_, _, ?_, hq⟩; rw [lim_code]; simp only [step, h]
    | exit i =>
      simp only [WpB] at hq
      by_cases hi : i = id
      · rw [if_pos hi] at hq
        refine ⟨_, _, ?_, hq⟩; rw [lim_code]; simp only [step, h]; rw [if_pos hi]
      · rw [if_neg hi] at hq
        refine ⟨_, _, ?_, hq⟩; rw [lim_code]; simp only [step, h]; rw [if_neg hi]

theorem w_region {id : Nat} {ops : Array Oper} (hm : cfg.inpl f = false) : Wp cfg f r (.region id ops false) st Q = WpO (evOps cfg (Lim cfg) (fun _ => false) ops.toList (List.range ops.size) st) fun s => Q .normal { s with al := [] } := by
  apply propext
  simp only [Wp, WpO]
  rw [lim_code]
  simp only [step, Bool.false_eq_true, if_false, hm, Option.map_eq_some_iff]
  constructor
  · rintro ⟨e, s, ⟨s1, h1, h2⟩, hq⟩
    cases h2
    exact ⟨s1, h1, hq⟩
  · rintro ⟨s1, h1, hq⟩
    exact ⟨_, _, ⟨s1, h1, rfl⟩, hq⟩

theorem w_regionM {id : Nat} {ops : Array Oper} (hm : cfg.inpl f = true) : Wp cfg f r (.region id ops false) st Q = WpO (evOpsM cfg (Lim cfg) (cfg.birth f) (cfg.frz f id) ops.toList (List.range ops.size) st) fun s => Q .normal { s with al := [] } := by
  apply propext
  simp only [Wp, WpO]
  rw [lim_code]
  simp only [step, Bool.false_eq_true, if_false, hm, if_true, Option.map_eq_some_iff]
  constructor
  · rintro ⟨e, s, ⟨s1, h1, h2⟩, hq⟩
    cases h2
    exact ⟨s1, h1, hq⟩
  · rintro ⟨s1, h1, hq⟩
    exact ⟨_, _, ⟨s1, h1, rfl⟩, hq⟩

theorem w_draw {id : Nat} {ops : Array Oper} : Wp cfg f r (.region id ops true) st Q = WpO (evDraw cfg (Lim cfg) ops.toList (cfg.draw f id) st) fun s => Q .normal { s with al := [] } := by
  apply propext
  simp only [Wp, WpO]
  rw [lim_code]
  simp only [step, if_true, Option.map_eq_some_iff]
  constructor
  · rintro ⟨e, s, ⟨s1, h1, h2⟩, hq⟩
    cases h2
    exact ⟨s1, h1, hq⟩
  · rintro ⟨s1, h1, hq⟩
    exact ⟨_, _, ⟨s1, h1, rfl⟩, hq⟩

theorem Wp.mono {c : Code} {Q' : Ex → St → Prop} (h : Wp cfg f r c st Q) (k : ∀ e s, Q e s → Q' e s) : Wp cfg f r c st Q' := by
  obtain ⟨e, s, h, hq⟩ := h
  exact ⟨e, s, h, k _ _ hq⟩

theorem w_loop1 {c : Code} : Wp cfg f r (.loop c) st Q = Wp cfg f r c (st.kill (cfg.kill f (firstReg c))).gc (WpN Q fun s => Wp cfg f r (.loop c) s Q) := by
  apply propext
  simp only [Wp]
  constructor
  · rintro ⟨e, s, h, hq⟩
    rw [lim_code] at h
    simp only [step] at h
    split at h
    · rename_i s1 h1
      exact ⟨_, _, h1, e, s, h, hq⟩
    · rename_i hn
      refine ⟨e, s, h, ?_⟩
      cases e with
      | normal => exact absurd h (hn s)
      | exit i => exact hq
      | ret => exact hq
  · rintro ⟨e, s, h, hq⟩
    cases e with
    | normal =>
      obtain ⟨e2, s2, h2, hq2⟩ := hq
      refine ⟨e2, s2, ?_, hq2⟩
      rw [lim_code]; simp only [step, h, h2]
    | exit i => refine ⟨_, _, ?_, hq⟩; rw [lim_code]; simp only [step, h]
    | ret => refine ⟨_, _, ?_, hq⟩; rw [lim_code]; simp only [step, h]

def St.head (st : St) (K : List Nat) : St := (st.kill K).gc

theorem w_loop {α : Type} {c : Code} (S : α → St) (I : α → Prop) (μ : α → Nat) (x0 : α) (hI : I x0) (h0 : st.head (cfg.kill f (firstReg c)) = S x0)
    (round : ∀ x, I x → Wp cfg f r c (S x) (WpN Q fun s => ∃ y, I y ∧ μ y < μ x ∧ s.head (cfg.kill f (firstReg c)) = S y)) : Wp cfg f r (.loop c) st Q := by
  have key : ∀ (n : Nat) (x : α) (st : St), μ x = n → I x → st.head (cfg.kill f (firstReg c)) = S x → Wp cfg f r (.loop c) st Q := by
    intro n
    induction n using Nat.strongRecOn with
    | _ n ih =>
      intro x st hn hx hs
      rw [w_loop1]
      have := round x hx
      simp only [St.head] at hs
      rw [hs]
      refine this.mono fun e s h => ?_
      cases e with
      | normal =>
        obtain ⟨y, hy, hlt, hsy⟩ := h
        exact ih _ (hn ▸ hlt) y s rfl hy hsy
      | exit i => exact h
      | ret => exact h
  exact key _ x0 st rfl hI h0

def Ret (cfg : Cfg) (rs : List ResultVar) (n : Nat) (R : V → Bool → List Blk → Prop) (e : Ex) (s : St) : Prop :=
  (∀ i, e ≠ .exit i) ∧ ∃ v own, resultsV cfg s rs = some (v, own) ∧
    R v (own && isSl v) (if V.lt n v && (s.hp.take n).all (Blk.all fun i => Nat.blt i n) then s.hp.take n else s.hp)

theorem call_of {fn : Func} {c : Code} {args : List V} {hp : List Blk} {R : V → Bool → List Blk → Prop} (hf : cfg.fn f = some fn) (hb : fn.body = some c)
    (h : Wp cfg f none c { fr := args ++ List.replicate (fn.ntmps - args.length) .any, own := [], hp := hp, al := [], nb := hp.length } (Ret cfg fn.results.toList hp.length R)) :
    ∃ v own hp', (Lim cfg).call f args hp = some (v, own, hp') ∧ R v own hp' := by
  obtain ⟨e, s, hc, he, v, own, hv, hR⟩ := h
  rw [lim_call]
  simp only [step, hf, hb, hc, hv]
  cases e with
  | exit i => exact absurd rfl (he i)
  | normal =>
    split at hR <;> rename_i hcond
    · exact ⟨_, _, _, by rw [if_pos hcond], hR⟩
    · exact ⟨_, _, _, by rw [if_neg hcond], hR⟩
  | ret =>
    split at hR <;> rename_i hcond
    · exact ⟨_, _, _, by rw [if_pos hcond], hR⟩
    · exact ⟨_, _, _, by rw [if_neg hcond], hR⟩

theorem call_eq {fn : Func} {c : Code} {args : List V} {hp : List Blk} {v : V} {own : Bool} {hp' : List Blk} (hf : cfg.fn f = some fn) (hb : fn.body = some c)
    (h : Wp cfg f none c { fr := args ++ List.replicate (fn.ntmps - args.length) .any, own := [], hp := hp, al := [], nb := hp.length } (Ret cfg fn.results.toList hp.length fun v' own' h' => v' = v ∧ own' = own ∧ h' = hp')) :
    (Lim cfg).call f args hp = some (v, own, hp') := by
  obtain ⟨v', own', h', hc, rfl, rfl, rfl⟩ := call_of hf hb h
  exact hc

theorem call_cln {f : FuncId} {t e : TypeId} {ti : TI} {d : Bool} {xs : List (List V)} (hf : cfg.fn f = none) (hc : cfg.cln f = some t) (hk : (cfg.ty t).map TI.k = some (.slice e)) (hti : cfg.ty e = some ti)
    (hsz : ¬ (ti.size = 0 ∨ ti.bytes = 0)) (hl : xs.length * ti.bytes ≤ strMax) (hfit : rowsFit ti.size xs = true) (htag : ti.k = .int .u8 ∨ headByte xs = false) :
    (Lim cfg).call f [.sl d xs] [] = some (.sl (xs.isEmpty || d) xs, true, []) := by
  rw [lim_call]
  simp only [step, hf, clnCall, hc, hk, hti]
  rw [if_pos ⟨hsz, hl, hfit, htag⟩]
theorem cmpZ_pos {a b : Int} : cmpZ a b < 0 ↔ a < b := by unfold cmpZ; split <;> (try split) <;> omega
theorem cmpZ_zero {a b : Int} : cmpZ a b = 0 ↔ a = b := by unfold cmpZ; split <;> (try split) <;> omega
theorem cmpZ_rev (a b : Int) : cmpZ a b = - cmpZ b a := by unfold cmpZ; split <;> split <;> (try split) <;> omega
theorem cf_rev (code : Nat) (x y : Int × Int) : cfOf code x y = - cfOf code y x := by
  unfold cfOf
  have h1 := cmpZ_rev x.1 y.1
  have h2 := cmpZ_rev x.2 y.2
  split
  · exact h1
  · split <;> split <;> omega
theorem cf_trans {code : Nat} {x y z : Int × Int} (h1 : cfOf code x y < 0) (h2 : cfOf code y z < 0) : cfOf code x z < 0 := by
  unfold cfOf at *
  have a1 := @cmpZ_pos x.1 y.1
  have a2 := @cmpZ_pos y.1 z.1
  have a3 := @cmpZ_pos x.1 z.1
  have b1 := @cmpZ_pos y.2 x.2
  have b2 := @cmpZ_pos z.2 y.2
  have b3 := @cmpZ_pos z.2 x.2
  have c1 := @cmpZ_zero y.2 x.2
  have c2 := @cmpZ_zero z.2 y.2
  have c3 := @cmpZ_zero z.2 x.2
  split at h1
  · rename_i h0
    rw [if_pos h0] at h2 ⊢
    rw [a1] at h1; rw [a2] at h2; rw [a3]; omega
  · rename_i h0
    rw [if_neg h0] at h2 ⊢
    by_cases e1 : cmpZ y.2 x.2 = 0 <;> by_cases e2 : cmpZ z.2 y.2 = 0 <;> by_cases e3 : cmpZ z.2 x.2 = 0 <;> simp only [e1, e2, e3, if_true, if_false] at h1 h2 ⊢ <;> omega
theorem insZ_perm (code : Nat) (x : Int × Int) : ∀ l, (insZ code x l).Perm (x :: l)
  | [] => .refl _
  | y :: r => by
    unfold insZ
    split
    · exact .refl _
    · exact ((insZ_perm code x r).cons y).trans (.swap x y r)
theorem sortZ_perm (code : Nat) : ∀ l, (sortZ code l).Perm l
  | [] => .refl _
  | x :: r => (insZ_perm code x _).trans ((sortZ_perm code r).cons x)
theorem sortZ_len (code : Nat) (l : List (Int × Int)) : (sortZ code l).length = l.length := (sortZ_perm code l).length_eq
theorem insZ_sorted {code : Nat} {x : Int × Int} : ∀ {l : List (Int × Int)}, (l.Pairwise fun a b => cfOf code a b < 0) → (∀ y ∈ l, cfOf code x y ≠ 0) → (insZ code x l).Pairwise fun a b => cfOf code a b < 0
  | [], _, _ => List.pairwise_singleton _ _
  | y :: r, h, hx => by
    cases h with
    | cons h1 h2 =>
      unfold insZ
      split
      · rename_i hlt
        refine .cons (fun z hz => ?_) (.cons h1 h2)
        rcases List.mem_cons.1 hz with rfl | hz
        · exact hlt
        · exact cf_trans hlt (h1 z hz)
      · rename_i hge
        refine .cons (fun z hz => ?_) (insZ_sorted h2 fun z hz => hx z (by simp [hz]))
        rcases List.mem_cons.1 ((insZ_perm code x r).mem_iff.1 hz) with rfl | hz
        · have := hx y (by simp)
          have := cf_rev code z y
          omega
        · exact h1 z hz
theorem strictZ_pair {code : Nat} : ∀ {l : List (Int × Int)}, strictZ code l = true → l.Pairwise fun a b => cfOf code a b ≠ 0
  | [], _ => .nil
  | x :: r, h => by
    simp only [strictZ, Bool.and_eq_true, List.all_eq_true, bne_iff_ne] at h
    exact .cons h.1 (strictZ_pair h.2)
theorem sortZ_sorted {code : Nat} : ∀ {l : List (Int × Int)}, strictZ code l = true → (sortZ code l).Pairwise fun a b => cfOf code a b < 0
  | [], _ => .nil
  | x :: r, h => by
    simp only [strictZ, Bool.and_eq_true, List.all_eq_true, bne_iff_ne] at h
    exact insZ_sorted (sortZ_sorted h.2) fun y hy => h.1 y ((sortZ_perm code r).mem_iff.1 hy)
theorem sortZ_unique {code : Nat} {l l' : List (Int × Int)} (hst : strictZ code l = true) (hp : l'.Perm l) (hs : l'.Pairwise fun a b => ¬ cfOf code b a < 0) : l' = sortZ code l := by
  have h0 : l'.Pairwise fun a b => cfOf code a b ≠ 0 := hp.symm.pairwise (strictZ_pair hst) fun {x y} h => by rw [cf_rev]; omega
  have h1 : l'.Pairwise fun a b => cfOf code a b < 0 := (hs.and h0).imp fun {a b} h => by have := cf_rev code a b; omega
  refine (hp.trans (sortZ_perm code l).symm).eq_of_pairwise (fun a b _ _ h2 h3 => ?_) h1 (sortZ_sorted hst)
  have := cf_rev code a b
  omega
theorem pairsZ_inv : ∀ {n : Nat} {cs : List V} {l : List (Int × Int)}, pairsZ n cs = some l → l.length = n ∧ cs = flatZ l ++ cs.drop (2 * n)
  | 0, cs, l, h => by simp [pairsZ] at h; subst h; exact ⟨rfl, by simp [flatZ]⟩
  | n + 1, cs, l, h => by
    unfold pairsZ at h
    split at h
    · rename_i h0; cases h0
    · rename_i k a b r h0
      cases h0
      obtain ⟨l1, h1, rfl⟩ := Option.map_eq_some_iff.1 h
      obtain ⟨h2, h3⟩ := pairsZ_inv h1
      refine ⟨by simp [h2], ?_⟩
      rw [show 2 * (n + 1) = 2 * n + 1 + 1 by omega, List.drop_succ_cons, List.drop_succ_cons]
      simp only [flatZ, List.cons_append]
      rw [← h3]
    · cases h
theorem pairsZ_flat : ∀ (l : List (Int × Int)) (r : List V), pairsZ l.length (flatZ l ++ r) = some l
  | [], _ => rfl
  | p :: l, r => by
    show (pairsZ l.length (flatZ l ++ r)).map _ = _
    rw [pairsZ_flat l r]; rfl
theorem flatZ_len : ∀ l : List (Int × Int), (flatZ l).length = 2 * l.length
  | [] => rfl
  | p :: l => by simp only [flatZ, List.length_cons, flatZ_len l]; omega
theorem call_srt0 {f g : FuncId} {t : TypeId} {code : Nat} {d : Bool} (hf : cfg.fn f = none) (hc : cfg.cln f = none) (hs : cfg.srt f g = some (t, code)) :
    (Lim cfg).call f [.sl d [], .fn g []] [] = some (.tup [], false, []) := by
  rw [lim_call]
  simp only [step, hf, clnCall, hc, srtCall, hs, Option.isSome_some, if_true]
theorem call_srtN {f g : FuncId} {t : TypeId} {code : Nat} (hf : cfg.fn f = none) (hc : cfg.cln f = none) (hs : cfg.srt f g = some (t, code)) :
    (Lim cfg).call f [.nils, .fn g []] [] = some (.tup [], false, []) := by
  rw [lim_call]
  simp only [step, hf, clnCall, hc, srtCall, hs, Option.isSome_some, if_true]
theorem call_srt {f g : FuncId} {t : TypeId} {code : Nat} {ow : List Nat} {l : List (Int × Int)} {cap : Nat} {r : List V} (hf : cfg.fn f = none) (hc : cfg.cln f = none) (hs : cfg.srt f g = some (t, code)) (hl : l.length ≤ 1000000000) (hst : strictZ code l = true) :
    (Lim cfg).call f [.ms 0 0 l.length cap, .fn g []] [.cells t ow (flatZ l ++ r)] = some (.tup [], false, [.cells t [] (flatZ (sortZ code l) ++ r)]) := by
  rw [lim_call]
  simp only [step, hf, clnCall, hc, srtCall, hs, pairsZ_flat, hst, if_true]
  rw [if_pos (show True ∧ l.length ≤ 1000000000 from ⟨trivial, hl⟩), ← flatZ_len, List.drop_left]

theorem evOps_nil {lim : Nat → Bool} {ops : List Oper} : evOps cfg orc lim ops [] st = some st := rfl

def evOne (cfg : Cfg) (orc : Orc) (ops : List Oper) (i : Nat) (st : St) : Option St :=
  match ops[i]? with
  | none => none
  | some o => match wantedV ops st.fr o with
    | none => none
    | some false => some (st.put o.dst (.tup []))
    | some true => evOp cfg orc false o st

theorem evOps_cons {ops : List Oper} {i : Nat} {l : List Nat} : evOps cfg orc (fun _ => false) ops (i :: l) st = (evOne cfg orc ops i st).bind (evOps cfg orc (fun _ => false) ops l) := by
  simp only [evOps, evOne]
  rcases ops[i]? with _ | o
  · rfl
  · simp only
    rcases wantedV ops st.fr o with _ | _ | _
    · rfl
    · rfl
    · simp only
      rcases evOp cfg orc false o st with _ | s <;> rfl

theorem WpO_bind {o : Option St} {k : St → Option St} {K : St → Prop} : WpO (o.bind k) K = WpO o fun s => WpO (k s) K := by
  apply propext
  simp only [WpO, Option.bind_eq_some_iff]
  constructor
  · rintro ⟨s, ⟨a, h1, h2⟩, h3⟩; exact ⟨a, h1, s, h2, h3⟩
  · rintro ⟨a, h1, s, h2, h3⟩; exact ⟨s, ⟨a, h1, h2⟩, h3⟩

def guardV (v : V) (want : Bool) (x : Option St) (y : Option St) : Option St :=
  match v with
  | .bool b => if b == want then x else y
  | .tup [] => y
  | _ => none
@[congr] theorem guardV_congr {v v' : V} {w : Bool} {x y : Option St} (h : v = v') : guardV v w x y = guardV v' w x y := by rw [h]
theorem guardV_u {w : Bool} {x y : Option St} : guardV (.tup []) w x y = y := rfl
theorem guardV_tt {x y : Option St} : guardV (.bool true) true x y = x := rfl
theorem guardV_tf {x y : Option St} : guardV (.bool true) false x y = y := rfl
theorem guardV_ft {x y : Option St} : guardV (.bool false) true x y = y := rfl
theorem guardV_ff {x y : Option St} : guardV (.bool false) false x y = x := rfl

def guardAt (all : List (Option Tmp)) (fr : List V) (j : Nat) : V :=
  match all.getD j none with
  | some d => fr.getD d .any
  | none => .any

def dsts (ops : List Oper) : List (Option Tmp) := ops.map (·.dst)

theorem dsts_get {ops : List Oper} {j : Nat} : (dsts ops).getD j none = (ops[j]?).bind (·.dst) := by
  simp only [dsts, List.getD_eq_getElem?_getD, List.getElem?_map]
  rcases ops[j]? with _ | o <;> simp

def evO (cfg : Cfg) (orc : Orc) (all : List (Option Tmp)) (o : Oper) (st : St) : Option St :=
  match o.guard with
  | none => evOp cfg orc false o st
  | some (j, w) => guardV (guardAt all st.fr j) w (evOp cfg orc false o st) (some (st.put o.dst (.tup [])))

def evGo (cfg : Cfg) (orc : Orc) (all : List (Option Tmp)) : List Oper → St → Option St
  | [], st => some st
  | o :: rest, st => (evO cfg orc all o st).bind (evGo cfg orc all rest)

theorem evO_eq {all : List Oper} {o : Oper} : evO cfg orc (dsts all) o st = match wantedV all st.fr o with
    | none => none
    | some false => some (st.put o.dst (.tup []))
    | some true => evOp cfg orc false o st := by
  simp only [evO, wantedV, guardAt, dsts_get]
  rcases o.guard with _ | ⟨j, w⟩
  · rfl
  · simp only
    rcases (all[j]?).bind (·.dst) with _ | e
    · rfl
    · simp only
      cases st.fr.getD e .any <;> try rfl
      · rename_i b; cases b <;> cases w <;> rfl
      · rename_i l; cases l <;> rfl

theorem evGo_eq {all : List Oper} : ∀ (rest : List Oper) (k : Nat) (st : St), all.drop k = rest → evOps cfg orc (fun _ => false) all ((List.range' k rest.length)) st = evGo cfg orc (dsts all) rest st
  | [], k, st, h => rfl
  | o :: rest, k, st, h => by
    have hk : all[k]? = some o := by
      have := congrArg (·[0]?) h
      simpa using this
    simp only [List.length_cons, List.range'_succ, evOps_cons, evGo]
    have h1 : evOne cfg orc all k st = evO cfg orc (dsts all) o st := by
      rw [evO_eq]
      simp only [evOne, hk]
    rw [h1]
    congr 1
    funext s
    exact evGo_eq rest (k + 1) s (by rw [← List.drop_drop, h]; rfl)

theorem w_reg {id : Nat} {ops : Array Oper} (hm : cfg.inpl f = false) : Wp cfg f r (.region id ops false) st Q = WpO (evGo cfg (Lim cfg) (dsts ops.toList) ops.toList st) fun s => Q .normal { s with al := [] } := by
  rw [w_region hm, show List.range ops.size = List.range' 0 ops.toList.length by simp [List.range_eq_range'], evGo_eq ops.toList 0 st rfl]

def bindF (cfg : Cfg) (fz : List (Nat × Tmp)) (i : Nat) (o : Option St) : Option St := o.bind (freezes cfg i fz)
@[congr] theorem bindF_congr {fz : List (Nat × Tmp)} {i : Nat} {o o' : Option St} (h : o = o') : bindF cfg fz i o = bindF cfg fz i o' := by rw [h]
theorem bindF_nil {i : Nat} {o : Option St} : bindF cfg [] i o = o := by cases o <;> rfl
theorem bindF_cons {i : Nat} {st : St} {p : Nat × Tmp} {fz : List (Nat × Tmp)} : bindF cfg (p :: fz) i (some st) = freezes cfg i (p :: fz) st := rfl
theorem freezes_nil {i : Nat} : freezes cfg i [] st = some st := rfl
theorem freezes_no {i j : Nat} {t : Tmp} {fz : List (Nat × Tmp)} (h : Nat.beq j i = false) : freezes cfg i ((j, t) :: fz) st = freezes cfg i fz st := by simp [freezes, h]
theorem freezes_at {i : Nat} {t : Tmp} {fz : List (Nat × Tmp)} : freezes cfg i ((i, t) :: fz) st = (freezeT cfg t st).bind (freezes cfg i fz) := by
  simp only [freezes, Nat.beq_refl, if_true]
  rcases freezeT cfg t st with _ | s <;> rfl

def evSM (cfg : Cfg) (orc : Orc) (bi : Bool) (fz : List (Nat × Tmp)) (all : List (Option Tmp)) (i : Nat) (o : Oper) (st : St) : Option St :=
  match o.guard with
  | none => bindF cfg fz i (evOpM cfg orc bi o st)
  | some (j, w) => guardV (guardAt all st.fr j) w (bindF cfg fz i (evOpM cfg orc bi o st)) (some (st.put o.dst (.tup [])))

def evMgo (cfg : Cfg) (orc : Orc) (bi : Bool) (fz : List (Nat × Tmp)) (all : List (Option Tmp)) : Nat → List Oper → St → Option St
  | _, [], st => some st
  | i, o :: rest, st => (evSM cfg orc bi fz all i o st).bind (evMgo cfg orc bi fz all (i + 1) rest)

theorem evMgo_eq {bi : Bool} {fz : List (Nat × Tmp)} {all : List Oper} : ∀ (rest : List Oper) (k : Nat) (st : St), all.drop k = rest → evOpsM cfg orc bi fz all ((List.range' k rest.length)) st = evMgo cfg orc bi fz (dsts all) k rest st
  | [], k, st, h => rfl
  | o :: rest, k, st, h => by
    have hk : all[k]? = some o := by
      have := congrArg (·[0]?) h
      simpa using this
    simp only [List.length_cons, List.range'_succ, evOpsM, evMgo, hk]
    have ih := fun s => evMgo_eq (bi := bi) (fz := fz) (all := all) rest (k + 1) s (by rw [← List.drop_drop, h]; rfl)
    have fin : (match evOpM cfg orc bi o st with
        | none => none
        | some st' => match freezes cfg k fz st' with
          | none => none
          | some st'' => evOpsM cfg orc bi fz all (List.range' (k + 1) rest.length) st'') = (bindF cfg fz k (evOpM cfg orc bi o st)).bind (evMgo cfg orc bi fz (dsts all) (k + 1) rest) := by
      simp only [bindF]
      rcases evOpM cfg orc bi o st with _ | s
      · rfl
      · simp only [Option.bind_some]
        rcases freezes cfg k fz s with _ | s'
        · rfl
        · simp only [Option.bind_some]; exact ih s'
    simp only [wantedV, evSM, guardAt, dsts_get]
    rcases o.guard with _ | ⟨j, w⟩
    · exact fin
    · simp only
      rcases (all[j]?).bind (·.dst) with _ | e
      · rfl
      · simp only
        cases st.fr.getD e .any <;> try rfl
        · rename_i b
          cases b <;> cases w <;> first | exact fin | exact ih _
        · rename_i l
          cases l
          · exact ih _
          · rfl

theorem w_regM {id : Nat} {ops : Array Oper} (hm : cfg.inpl f = true) : Wp cfg f r (.region id ops false) st Q = WpO (evMgo cfg (Lim cfg) (cfg.birth f) (cfg.frz f id) (dsts ops.toList) 0 ops.toList st) fun s => Q .normal { s with al := [] } := by
  rw [w_regionM hm, show List.range ops.size = List.range' 0 ops.toList.length by simp [List.range_eq_range'], evMgo_eq ops.toList 0 st rfl]

theorem s_plain {bi : Bool} {fz : List (Nat × Tmp)} {all : List (Option Tmp)} {i : Nat} {d : Option Tmp} {op : Op} {ty : TypeId} {ps : String} {af : Array Edge} :
    evSM cfg orc bi fz all i ⟨d, op, ty, ps, af, none⟩ st = bindF cfg fz i (evOpM cfg orc bi ⟨d, op, ty, ps, af, none⟩ st) := rfl
theorem s_guard {bi : Bool} {fz : List (Nat × Tmp)} {all : List (Option Tmp)} {i : Nat} {d : Option Tmp} {op : Op} {ty : TypeId} {ps : String} {af : Array Edge} {j : Nat} {w : Bool} :
    evSM cfg orc bi fz all i ⟨d, op, ty, ps, af, some (j, w)⟩ st = guardV (guardAt all st.fr j) w (bindF cfg fz i (evOpM cfg orc bi ⟨d, op, ty, ps, af, some (j, w)⟩ st)) (some (st.put d (.tup []))) := rfl
def orM (a b : Option St) : Option St :=
  match a with
  | some s => some s
  | none => b
@[congr] theorem orM_congr {a a' b : Option St} (h : a = a') : orM a b = orM a' b := by rw [h]
theorem orM_some {s : St} {b : Option St} : orM (some s) b = some s := rfl
theorem orM_none {b : Option St} : orM none b = b := rfl
section
variable {bi : Bool} {d : Option Tmp} {ty : TypeId} {ps : String} {af : Array Edge} {g : Option (Nat × Bool)}
theorem m_move {x : Operand} : evOpM cfg orc bi ⟨d, .move x, ty, ps, af, g⟩ st = evOp cfg orc false ⟨d, .move x, ty, ps, af, g⟩ st := rfl
theorem m_assign {x : Operand} : evOpM cfg orc bi ⟨d, .assign x, ty, ps, af, g⟩ st = evOp cfg orc false ⟨d, .assign x, ty, ps, af, g⟩ st := rfl
theorem m_pick {c x y : Operand} : evOpM cfg orc bi ⟨d, .pick c x y, ty, ps, af, g⟩ st = evOp cfg orc false ⟨d, .pick c x y, ty, ps, af, g⟩ st := rfl
theorem m_alloc {t : TypeId} : evOpM cfg orc bi ⟨d, .alloc t, ty, ps, af, g⟩ st = evOp cfg orc false ⟨d, .alloc t, ty, ps, af, g⟩ st := rfl
theorem m_build {t : TypeId} {l : Array (Nat × Operand)} : evOpM cfg orc bi ⟨d, .build t l, ty, ps, af, g⟩ st = evOp cfg orc false ⟨d, .build t l, ty, ps, af, g⟩ st := rfl
def litM (cfg : Cfg) (d : Option Tmp) (t : TypeId) (v : Option V) (st : St) (y : Option St) (b : Bool) : Option St := if b then orM (buildOwn cfg d t v st) y else y
@[congr] theorem litM_congr {t : TypeId} {v v' : Option V} {y : Option St} {b b' : Bool} (h : v = v') (h2 : b = b') : litM cfg d t v st y b = litM cfg d t v' st y b' := by rw [h, h2]
theorem litM_f {t : TypeId} {v : Option V} {y : Option St} : litM cfg d t v st y false = y := rfl
theorem litM_t {t : TypeId} {v : Option V} {y : Option St} : litM cfg d t v st y true = orM (buildOwn cfg d t v st) y := rfl
theorem m_buildSlice {t : TypeId} {k : Nat} {l : Array (Nat × Operand)} : evOpM cfg orc bi ⟨d, .buildSlice t k l, ty, ps, af, g⟩ st =
    litM cfg d t (buildSliceV cfg t k (l.toList.map fun (p : Nat × Operand) => (p.1, ev st.fr p.2))) st (evOp cfg orc false ⟨d, .buildSlice t k l, ty, ps, af, g⟩ st) bi := by
  unfold evOpM
  simp only [nilCall, evNew, litM]
  cases bi <;> simp only [Bool.false_eq_true, if_false, if_true] <;> rfl
theorem m_load {t : TypeId} {x : Operand} : evOpM cfg orc bi ⟨d, .load t x, ty, ps, af, g⟩ st = evOp cfg orc false ⟨d, .load t x, ty, ps, af, g⟩ st := rfl
theorem m_store {t : TypeId} {x y : Operand} : evOpM cfg orc bi ⟨d, .store t x y, ty, ps, af, g⟩ st = evOp cfg orc false ⟨d, .store t x y, ty, ps, af, g⟩ st := rfl
theorem m_box {t : TypeId} {x : Operand} : evOpM cfg orc bi ⟨d, .box t x, ty, ps, af, g⟩ st = evOp cfg orc false ⟨d, .box t x, ty, ps, af, g⟩ st := rfl
theorem m_nilCheck {x : Operand} : evOpM cfg orc bi ⟨d, .nilCheck x, ty, ps, af, g⟩ st = evOp cfg orc false ⟨d, .nilCheck x, ty, ps, af, g⟩ st := rfl
theorem m_binOp {op : BinOp} {t t2 : TypeId} {x y : Operand} : evOpM cfg orc bi ⟨d, .binOp op t x y t2, ty, ps, af, g⟩ st = evOp cfg orc false ⟨d, .binOp op t x y t2, ty, ps, af, g⟩ st := rfl
theorem m_unOp {op : UnOp} {t : TypeId} {x : Operand} : evOpM cfg orc bi ⟨d, .unOp op t x, ty, ps, af, g⟩ st = evOp cfg orc false ⟨d, .unOp op t x, ty, ps, af, g⟩ st := rfl
theorem m_convert {t t2 : TypeId} {x : Operand} : evOpM cfg orc bi ⟨d, .convert t t2 x, ty, ps, af, g⟩ st = evOp cfg orc false ⟨d, .convert t t2 x, ty, ps, af, g⟩ st := rfl
theorem m_makeFunc {fn : Fn} {x y : Array Operand} : evOpM cfg orc bi ⟨d, .makeFunc fn x y, ty, ps, af, g⟩ st = evOp cfg orc false ⟨d, .makeFunc fn x y, ty, ps, af, g⟩ st := rfl
theorem m_fieldAddr {t : TypeId} {x : Operand} {i : Nat} : evOpM cfg orc bi ⟨d, .fieldAddr t x i, ty, ps, af, g⟩ st = evOp cfg orc false ⟨d, .fieldAddr t x i, ty, ps, af, g⟩ st := rfl
theorem m_field {t : TypeId} {x : Operand} {i : Nat} : evOpM cfg orc bi ⟨d, .field t x i, ty, ps, af, g⟩ st = evOp cfg orc false ⟨d, .field t x i, ty, ps, af, g⟩ st := rfl
theorem m_indexAddr {t : TypeId} {x y : Operand} : evOpM cfg orc bi ⟨d, .indexAddr t x y, ty, ps, af, g⟩ st = evOp cfg orc false ⟨d, .indexAddr t x y, ty, ps, af, g⟩ st := rfl
theorem m_index {t : TypeId} {x y : Operand} : evOpM cfg orc bi ⟨d, .index t x y, ty, ps, af, g⟩ st = evOp cfg orc false ⟨d, .index t x y, ty, ps, af, g⟩ st := rfl
theorem m_extract {x : Operand} {i : Nat} : evOpM cfg orc bi ⟨d, .extract x i, ty, ps, af, g⟩ st = evOp cfg orc false ⟨d, .extract x i, ty, ps, af, g⟩ st := rfl
theorem m_slice3 {t : TypeId} {x : Operand} {lo hi : Option Operand} {mx : Operand} : evOpM cfg orc bi ⟨d, .slice t x lo hi (some mx), ty, ps, af, g⟩ st = evOp cfg orc false ⟨d, .slice t x lo hi (some mx), ty, ps, af, g⟩ st := rfl
def cutNil (cfg : Cfg) (t : TypeId) (v : V) (lo hi : Option Nat) (d : Option Tmp) (st : St) : Option St :=
  match v with
  | .nils => sliceNil cfg t lo hi d st
  | _ => none
@[congr] theorem cutNil_congr {t : TypeId} {v v' : V} {lo hi : Option Nat} {d : Option Tmp} (h : v = v') : cutNil cfg t v lo hi d st = cutNil cfg t v' lo hi d st := by rw [h]
theorem m_slice {t : TypeId} {x : Operand} {lo hi : Option Operand} : evOpM cfg orc bi ⟨d, .slice t x lo hi none, ty, ps, af, g⟩ st =
    orM (cutNil cfg t (ev st.fr x) (bound (lo.map (ev st.fr)) 0 0) (bound (hi.map (ev st.fr)) 0 0) d st) (evOp cfg orc false ⟨d, .slice t x lo hi none, ty, ps, af, g⟩ st) := rfl
theorem cutNil_nils {t : TypeId} {lo hi : Option Nat} : cutNil cfg t .nils lo hi d st = sliceNil cfg t lo hi d st := rfl
theorem cutNil_sl {t : TypeId} {lo hi : Option Nat} {b : Bool} {xs : List (List V)} : cutNil cfg t (.sl b xs) lo hi d st = none := rfl
theorem cutNil_ms {t : TypeId} {lo hi : Option Nat} {i o l c : Nat} : cutNil cfg t (.ms i o l c) lo hi d st = none := rfl
theorem cutNil_str {t : TypeId} {lo hi : Option Nat} {s : List UInt8} : cutNil cfg t (.str s) lo hi d st = none := rfl
theorem cutNil_ptr {t : TypeId} {lo hi : Option Nat} {i o : Nat} : cutNil cfg t (.ptr i o) lo hi d st = none := rfl
theorem m_append {x y : Operand} {t tx : TypeId} : evOpM cfg orc bi ⟨d, .call ⟨.builtin .append, #[x, y], #[t, tx]⟩, ty, ps, af, g⟩ st = orM (appendM cfg bi d t tx x y st) (evOp cfg orc false ⟨d, .call ⟨.builtin .append, #[x, y], #[t, tx]⟩, ty, ps, af, g⟩ st) := rfl
theorem m_len {args : Array Operand} {ts : Array TypeId} : evOpM cfg orc bi ⟨d, .call ⟨.builtin .len, args, ts⟩, ty, ps, af, g⟩ st = evOp cfg orc false ⟨d, .call ⟨.builtin .len, args, ts⟩, ty, ps, af, g⟩ st := rfl
theorem m_min {args : Array Operand} {ts : Array TypeId} : evOpM cfg orc bi ⟨d, .call ⟨.builtin .min, args, ts⟩, ty, ps, af, g⟩ st = evOp cfg orc false ⟨d, .call ⟨.builtin .min, args, ts⟩, ty, ps, af, g⟩ st := rfl
theorem m_max {args : Array Operand} {ts : Array TypeId} : evOpM cfg orc bi ⟨d, .call ⟨.builtin .max, args, ts⟩, ty, ps, af, g⟩ st = evOp cfg orc false ⟨d, .call ⟨.builtin .max, args, ts⟩, ty, ps, af, g⟩ st := rfl
def capNil (cfg : Cfg) (t : TypeId) (v : V) (d : Option Tmp) (st : St) : Option St :=
  match (cfg.ty t).map TI.k, v with
  | some (.slice _), .nils => some (st.put d (.int .i64 0))
  | _, _ => none
theorem m_cap {x : Operand} {t : TypeId} : evOpM cfg orc bi ⟨d, .call ⟨.builtin .cap, #[x], #[t]⟩, ty, ps, af, g⟩ st = capNil cfg t (ev st.fr x) d st := by
  show (match capNil cfg t (ev st.fr x) d st with | some s => some s | none => _) = _
  rcases capNil cfg t (ev st.fr x) d st with _ | s <;> rfl
theorem m_make {t : TypeId} {l c : Operand} : evOpM cfg orc bi ⟨d, .makeSlice t l c, ty, ps, af, g⟩ st = makeM cfg d t (ev st.fr l) (ev st.fr c) st := by
  show (match makeM cfg d t (ev st.fr l) (ev st.fr c) st with | some s => some s | none => _) = _
  rcases makeM cfg d t (ev st.fr l) (ev st.fr c) st with _ | s <;> rfl
theorem m_makeMap {t : TypeId} : evOpM cfg orc bi ⟨d, .makeMap t none, ty, ps, af, g⟩ st = some ({ st with hp := st.hp ++ [Blk.map []], al := [] }.put d (.map st.hp.length)) := rfl
theorem m_mapUpdate {t : TypeId} {x k v : Operand} : evOpM cfg orc bi ⟨none, .mapUpdate t x k v, ty, ps, af, g⟩ st = mapSet cfg t (ev st.fr x) (ev st.fr k) (ev st.fr v) st := by
  show (match mapSet cfg t (ev st.fr x) (ev st.fr k) (ev st.fr v) st with | some s => some s | none => _) = _
  rcases mapSet cfg t (ev st.fr x) (ev st.fr k) (ev st.fr v) st with _ | s <;> rfl
theorem m_lookup {t : TypeId} {x k : Operand} {ok : Bool} : evOpM cfg orc bi ⟨d, .lookup t x k ok, ty, ps, af, g⟩ st = mapGet cfg d t (ev st.fr x) (ev st.fr k) ok st := by
  show (match mapGet cfg d t (ev st.fr x) (ev st.fr k) ok st with | some s => some s | none => _) = _
  rcases mapGet cfg d t (ev st.fr x) (ev st.fr k) ok st with _ | s <;> rfl
def pickM (b : Bool) (x y : Option St) : Option St := if b then x else y
@[congr] theorem pickM_congr {b b' : Bool} {x y : Option St} (h : b = b') : pickM b x y = pickM b' x y := by rw [h]
theorem pickM_t {x y : Option St} : pickM true x y = x := rfl
theorem pickM_f {x y : Option St} : pickM false x y = y := rfl
def nilV (cfg : Cfg) (orc : Orc) (st : St) (d : Option Tmp) (v : V) (args : List V) (y : Option St) : Option St :=
  match v with
  | .fn h cap => pickM (cfg.ext h) y (callG orc d h (args ++ cap) st)
  | _ => y
@[congr] theorem nilV_congr {d : Option Tmp} {v v' : V} {args args' : List V} {y : Option St} (h : v = v') (h' : args = args') : nilV cfg orc st d v args y = nilV cfg orc st d v' args' y := by rw [h, h']
theorem nilV_fn {d : Option Tmp} {h : FuncId} {cap args : List V} {y : Option St} : nilV cfg orc st d (.fn h cap) args y = pickM (cfg.ext h) y (callG orc d h (args ++ cap) st) := rfl
def cloneV (cfg : Cfg) (orc : Orc) (bi : Bool) (st : St) (d : Option Tmp) (v : V) (args : List V) (y : Option St) : Option St :=
  match v with
  | .fn h [] => pickM (bi && cfg.clm h && V.ltl 0 args) (cloneG orc d h args st) y
  | _ => y
@[congr] theorem cloneV_congr {bi bi' : Bool} {d : Option Tmp} {v v' : V} {args args' : List V} {y : Option St} (h0 : bi = bi') (h : v = v') (h' : args = args') : cloneV cfg orc bi st d v args y = cloneV cfg orc bi' st d v' args' y := by rw [h0, h, h']
theorem cloneV_f {d : Option Tmp} {v : V} {args : List V} {y : Option St} : cloneV cfg orc false st d v args y = y := by
  unfold cloneV; split <;> rfl
theorem cloneV_fn {d : Option Tmp} {h : FuncId} {args : List V} {y : Option St} : cloneV cfg orc true st d (.fn h []) args y = pickM (cfg.clm h && V.ltl 0 args) (cloneG orc d h args st) y := rfl
theorem cloneV_cap {d : Option Tmp} {h : FuncId} {c : V} {cs args : List V} {y : Option St} : cloneV cfg orc true st d (.fn h (c :: cs)) args y = y := rfl
theorem m_call {x : Operand} {args : Array Operand} {ts : Array TypeId} : evOpM cfg orc bi ⟨d, .call ⟨.value x, args, ts⟩, ty, ps, af, g⟩ st =
    pickM (args.toList.any nilArg) (nilV cfg orc st d (ev st.fr x) (args.toList.map (evN st.fr)) (cloneV cfg orc bi st d (ev st.fr x) (args.toList.map (ev st.fr)) (evOp cfg orc false ⟨d, .call ⟨.value x, args, ts⟩, ty, ps, af, g⟩ st))) (cloneV cfg orc bi st d (ev st.fr x) (args.toList.map (ev st.fr)) (evOp cfg orc false ⟨d, .call ⟨.value x, args, ts⟩, ty, ps, af, g⟩ st)) := by
  have hc : nilCall cfg ⟨d, .call ⟨.value x, args, ts⟩, ty, ps, af, g⟩ st = none → evOpM cfg orc bi ⟨d, .call ⟨.value x, args, ts⟩, ty, ps, af, g⟩ st = cloneV cfg orc bi st d (ev st.fr x) (args.toList.map (ev st.fr)) (evOp cfg orc false ⟨d, .call ⟨.value x, args, ts⟩, ty, ps, af, g⟩ st) := fun hn => by
    unfold evOpM
    rw [hn]
    simp only [clmCall, cloneV, evNew]
    cases hv : ev st.fr x with
    | fn h cap =>
      cases cap with
      | nil =>
        simp only
        cases hb : (bi && cfg.clm h && V.ltl 0 (args.toList.map (ev st.fr))) <;> simp [pickM]
      | cons c cs => rfl
    | _ => rfl
  unfold pickM
  cases ha : args.toList.any nilArg with
  | false =>
    have hn : nilCall cfg ⟨d, .call ⟨.value x, args, ts⟩, ty, ps, af, g⟩ st = none := by
      unfold nilCall
      simp only [ha, Bool.false_and, Bool.false_eq_true, if_false]
      split <;> rfl
    rw [hc hn]; simp
  | true =>
    simp only [if_true]
    cases hv : ev st.fr x with
    | fn h cap =>
      cases he : cfg.ext h with
      | false => simp [evOpM, nilCall, nilV, hv, ha, he, pickM]
      | true =>
        have hn : nilCall cfg ⟨d, .call ⟨.value x, args, ts⟩, ty, ps, af, g⟩ st = none := by simp [nilCall, hv, he]
        rw [hc hn, hv]; simp [nilV, he, pickM]
    | _ =>
      have hn : nilCall cfg ⟨d, .call ⟨.value x, args, ts⟩, ty, ps, af, g⟩ st = none := by simp [nilCall, hv]
      rw [hc hn, hv]; simp [nilV]
end

theorem g_cons {all : List (Option Tmp)} {o : Oper} {rest : List Oper} {K : St → Prop} : WpO (evGo cfg orc all (o :: rest) st) K = WpO (evO cfg orc all o st) fun s => WpO (evGo cfg orc all rest s) K := WpO_bind

theorem o_plain {all : List (Option Tmp)} {d : Option Tmp} {op : Op} {ty : TypeId} {ps : String} {af : Array Edge} : evO cfg orc all ⟨d, op, ty, ps, af, none⟩ st = evOp cfg orc false ⟨d, op, ty, ps, af, none⟩ st := rfl
theorem o_guard {all : List (Option Tmp)} {d : Option Tmp} {op : Op} {ty : TypeId} {ps : String} {af : Array Edge} {j : Nat} {w : Bool} :
    evO cfg orc all ⟨d, op, ty, ps, af, some (j, w)⟩ st = guardV (guardAt all st.fr j) w (evOp cfg orc false ⟨d, op, ty, ps, af, some (j, w)⟩ st) (some (st.put d (.tup []))) := rfl

def evD0 (cfg : Cfg) (orc : Orc) (hole : Nat) (i : Nat) (o : Oper) (l : Bool) (c : List Nat) (st : St) (gh : List (List Nat)) : Option DS :=
  if l then
    match limV cfg orc hole o st.fr st.hp with
    | none => none
    | some v => (touched gh i c (limAt hole o st.fr)).map fun gh => { st := st.put o.dst v, gh := gh }
  else
    match evOp cfg orc false o st with
    | none => none
    | some st' => (touched gh i c (fullAt o st st')).map fun gh => { st := st', gh := gh }

def guardD (v : V) (want : Bool) (x : Option DS) (y : Option DS) : Option DS :=
  match v with
  | .bool b => if b == want then x else y
  | .tup [] => y
  | _ => none
@[congr] theorem guardD_congr {v v' : V} {w : Bool} {x y : Option DS} (h : v = v') : guardD v w x y = guardD v' w x y := by rw [h]
theorem guardD_u {w : Bool} {x y : Option DS} : guardD (.tup []) w x y = y := rfl
theorem guardD_tt {x y : Option DS} : guardD (.bool true) true x y = x := rfl
theorem guardD_tf {x y : Option DS} : guardD (.bool true) false x y = y := rfl
theorem guardD_ft {x y : Option DS} : guardD (.bool false) true x y = y := rfl
theorem guardD_ff {x y : Option DS} : guardD (.bool false) false x y = x := rfl

def evD1 (cfg : Cfg) (orc : Orc) (hole : Nat) (all : List (Option Tmp)) (i : Nat) (o : Oper) (l : Bool) (c : List Nat) (st : St) (gh : List (List Nat)) : Option DS :=
  match o.guard with
  | none => evD0 cfg orc hole i o l c st gh
  | some (j, w) => guardD (guardAt all st.fr j) w (evD0 cfg orc hole i o l c st gh) (some { st := st.put o.dst (.tup []), gh := gh })

def nextHole (l : Bool) (o : Oper) (hole : Nat) : Nat := if l && isAlloc o then hole + 1 else hole

def evDgo (cfg : Cfg) (orc : Orc) (all : List (Option Tmp)) : Nat → Nat → List Oper → List (Bool × List Nat) → DS → Option DS
  | _, _, [], _, s => some s
  | hole, i, o :: rest, (l, c) :: left, s => (evD1 cfg orc hole all i o l c s.st s.gh).bind (evDgo cfg orc all (nextHole l o hole) (i + 1) rest left)
  | _, _, _ :: _, [], _ => none

theorem rank_succ : ∀ (ops : List Oper) (info : List (Bool × List Nat)) (i : Nat) {o : Oper} {l : Bool} {c : List Nat}, ops[i]? = some o → info[i]? = some (l, c) → rank ops info (i + 1) = rank ops info i + (if l && isAlloc o then 1 else 0)
  | [], info, i, o, l, c, h, _ => by simp at h
  | x :: ops, [], i, o, l, c, _, h => by simp at h
  | x :: ops, (m, d) :: info, 0, o, l, c, h1, h2 => by
    simp only [List.getElem?_cons_zero, Option.some.injEq, Prod.mk.injEq] at h1 h2
    obtain ⟨rfl, rfl⟩ := h2
    subst h1
    simp [rank]
  | x :: ops, (m, d) :: info, i + 1, o, l, c, h1, h2 => by
    simp only [List.getElem?_cons_succ] at h1 h2
    have := rank_succ ops info i h1 h2
    rw [show rank (x :: ops) ((m, d) :: info) (i + 1 + 1) = (if m && isAlloc x then 1 else 0) + rank ops info (i + 1) from rfl, show rank (x :: ops) ((m, d) :: info) (i + 1) = (if m && isAlloc x then 1 else 0) + rank ops info i from rfl, this]
    omega

theorem evDgo_eq {n0 : Nat} {all : List Oper} {info : List (Bool × List Nat)} : ∀ (rest : List Oper) (left : List (Bool × List Nat)) (i : Nat) (s : DS), all.drop i = rest → info.drop i = left →
    evDs cfg orc n0 all info (List.range' i rest.length) s = evDgo cfg orc (dsts all) (n0 + rank all info i) i rest left s
  | [], left, i, s, _, _ => by simp [evDs, evDgo]
  | o :: rest, left, i, s, h1, h2 => by
    have ho : all[i]? = some o := by
      have := congrArg (·[0]?) h1
      simpa using this
    have hl : info[i]? = left[0]? := by
      have := congrArg (·[0]?) h2
      simpa using this
    simp only [List.length_cons, List.range'_succ, evDs]
    cases left with
    | nil =>
      simp only [evDgo]
      have : evD cfg orc n0 all info i s = none := by
        unfold evD
        simp only [ho, hl]; rfl
      rw [this]
    | cons lc left =>
      obtain ⟨l, c⟩ := lc
      simp only [evDgo]
      have h0 : evD cfg orc n0 all info i s = evD1 cfg orc (n0 + rank all info i) (dsts all) i o l c s.st s.gh := by
        unfold evD evD1
        simp only [ho, hl, List.getElem?_cons_zero]
        rcases hg : o.guard with _ | ⟨j, w⟩
        · simp only [wantedV, hg, evD0] <;> rfl
        · simp only [wantedV, hg, guardAt, dsts_get]
          rcases (all[j]?).bind (·.dst) with _ | e
          · rfl
          · simp only
            cases s.st.fr.getD e .any <;> try rfl
            · rename_i b; cases b <;> cases w <;> rfl
            · rename_i l; cases l <;> rfl
      rw [h0]
      rcases evD1 cfg orc (n0 + rank all info i) (dsts all) i o l c s.st s.gh with _ | s'
      · rfl
      · simp only [Option.bind_some]
        rw [evDgo_eq rest left (i + 1) s' (by rw [← List.drop_drop, h1]; rfl) (by rw [← List.drop_drop, h2]; rfl), rank_succ all info i ho (by rw [hl]; rfl)]
        congr 1
        unfold nextHole
        split <;> omega

inductive KI where
  | code (c : Code)
  | ops (all : List (Option Tmp)) (rest : List Oper)
  | opsM (bi : Bool) (fz : List (Nat × Tmp)) (i : Nat) (all : List (Option Tmp)) (rest : List Oper)
  | blk (id : Nat)
  | again (c : Code)
  | drw (hole i : Nat) (all : List (Option Tmp)) (rest : List Oper) (left : List (Bool × List Nat)) (gh : List (List Nat))

def WK (cfg : Cfg) (f : FuncId) (r : Option Nat) : List KI → (Ex → St → Prop) → Ex → St → Prop
  | [], Q, e, s => Q e s
  | .code c :: k, Q, e, s => match e with
    | .normal => Wp cfg f r c s (WK cfg f r k Q)
    | e => WK cfg f r k Q e s
  | .ops all rest :: k, Q, e, s => match e with
    | .normal => WpO (evGo cfg (Lim cfg) all rest s) fun s => WK cfg f r k Q .normal { s with al := [] }
    | e => WK cfg f r k Q e s
  | .opsM bi fz i all rest :: k, Q, e, s => match e with
    | .normal => WpO (evMgo cfg (Lim cfg) bi fz all i rest s) fun s => WK cfg f r k Q .normal { s with al := [] }
    | e => WK cfg f r k Q e s
  | .drw hole i all rest left gh :: k, Q, e, s => match e with
    | .normal => ∃ d, evDgo cfg (Lim cfg) all hole i rest left { st := s, gh := gh } = some d ∧ WK cfg f r k Q .normal { d.st with al := [] }
    | e => WK cfg f r k Q e s
  | .blk id :: k, Q, e, s => match e with
    | .exit i => if i = id then WK cfg f r k Q .normal s else WK cfg f r k Q (.exit i) s
    | e => WK cfg f r k Q e s
  | .again c :: k, Q, e, s => match e with
    | .normal => Wp cfg f r (.loop c) s (WK cfg f r k Q)
    | e => WK cfg f r k Q e s

def WS (cfg : Cfg) (f : FuncId) (r : Option Nat) (k : List KI) (Q : Ex → St → Prop) (o : Option St) : Prop := ∃ s, o = some s ∧ WK cfg f r k Q .normal s
def WD (cfg : Cfg) (f : FuncId) (r : Option Nat) (hole i : Nat) (all : List (Option Tmp)) (rest : List Oper) (left : List (Bool × List Nat)) (k : List KI) (Q : Ex → St → Prop) (o : Option DS) : Prop :=
  ∃ s, o = some s ∧ WK cfg f r (.drw hole i all rest left s.gh :: k) Q .normal s.st

variable {k : List KI}

theorem k_start {c : Code} : Wp cfg f r c st Q = WK cfg f r [.code c] Q .normal st := by
  simp only [WK]
theorem k_nil {e : Ex} : WK cfg f r [] Q e st = Q e st := rfl
theorem k_skip : WK cfg f r (.code .skip :: k) Q .normal st = WK cfg f r k Q .normal st := by simp only [WK, w_skip]
theorem k_label {l : Nat} : WK cfg f r (.code (.label l) :: k) Q .normal st = WK cfg f r k Q .normal st := by simp only [WK, w_label]
theorem k_scope {c : Code} : WK cfg f r (.code (.scope c) :: k) Q .normal st = WK cfg f r (.code c :: k) Q .normal st := by simp only [WK, w_scope]
theorem k_ret : WK cfg f r (.code .ret :: k) Q .normal st = WK cfg f r k Q .ret st := by simp only [WK, w_ret]
theorem k_exit {i : Nat} : WK cfg f r (.code (.exit i) :: k) Q .normal st = WK cfg f r k Q (.exit i) st := by simp only [WK, w_exit]

theorem WpN_WK {k : List KI} {b : Code} : (WpN (WK cfg f r k Q) fun s => Wp cfg f r b s (WK cfg f r k Q)) = WK cfg f r (.code b :: k) Q := by
  funext e s; cases e <;> rfl
theorem WpB_WK {k : List KI} {id : Nat} : WpB id (WK cfg f r k Q) = WK cfg f r (.blk id :: k) Q := by
  funext e s; cases e <;> rfl
theorem k_seq {a b : Code} : WK cfg f r (.code (.seq a b) :: k) Q .normal st = WK cfg f r (.code a :: .code b :: k) Q .normal st := by
  show Wp cfg f r _ _ _ = Wp cfg f r _ _ _
  rw [w_seq, WpN_WK]
theorem k_block {id : Nat} {c : Code} : WK cfg f r (.code (.block id c) :: k) Q .normal st = WK cfg f r (.code c :: .blk id :: k) Q .normal st := by
  show Wp cfg f r _ _ _ = Wp cfg f r _ _ _
  rw [w_block, WpB_WK]
def WC (cfg : Cfg) (f : FuncId) (r : Option Nat) (k : List KI) (Q : Ex → St → Prop) (st : St) (v : V) (a b : Code) : Prop := WpC v (WK cfg f r (.code a :: k) Q .normal st) (WK cfg f r (.code b :: k) Q .normal st)
@[congr] theorem WC_congr {s s' : St} {v v' : V} {a b : Code} (h0 : s = s') (h : v = v') : WC cfg f r k Q s v a b = WC cfg f r k Q s' v' a b := by rw [h0, h]
theorem WC_true {a b : Code} : WC cfg f r k Q st (.bool true) a b = WK cfg f r (.code a :: k) Q .normal st := WpC_true
theorem WC_false {a b : Code} : WC cfg f r k Q st (.bool false) a b = WK cfg f r (.code b :: k) Q .normal st := WpC_false
theorem WC_split {a b : Code} {x : Bool} (h1 : x = true → WK cfg f r (.code a :: k) Q .normal st) (h2 : x = false → WK cfg f r (.code b :: k) Q .normal st) : WC cfg f r k Q st (.bool x) a b := WpC_split h1 h2
theorem k_cond {c : Operand} {a b : Code} : WK cfg f r (.code (.cond c a b) :: k) Q .normal st = WC cfg f r k Q st (ev st.fr c) a b := by
  show Wp cfg f r _ _ _ = WpC _ (Wp cfg f r _ _ _) (Wp cfg f r _ _ _)
  rw [w_cond]
def WR (cfg : Cfg) (f : FuncId) (r : Option Nat) (k : List KI) (Q : Ex → St → Prop) (st : St) (all : List (Option Tmp)) (rest : List Oper) : Prop := WK cfg f r (.ops all rest :: k) Q .normal st
@[congr] theorem WR_congr {all all' : List (Option Tmp)} {rest : List Oper} (h : all = all') : WR cfg f r k Q st all rest = WR cfg f r k Q st all' rest := by rw [h]
theorem k_enter {all : List (Option Tmp)} {rest : List Oper} : WR cfg f r k Q st all rest = WK cfg f r (.ops all rest :: k) Q .normal st := rfl
def WDR (cfg : Cfg) (f : FuncId) (r : Option Nat) (k : List KI) (Q : Ex → St → Prop) (st : St) (hole : Nat) (all : List (Option Tmp)) (rest : List Oper) (left : List (Bool × List Nat)) (gh : List (List Nat)) : Prop := WK cfg f r (.drw hole 0 all rest left gh :: k) Q .normal st
@[congr] theorem WDR_congr {s s' : St} {hole hole' : Nat} {all all' : List (Option Tmp)} {rest : List Oper} {left left' : List (Bool × List Nat)} {gh gh' : List (List Nat)} (h0 : s = s') (h1 : hole = hole') (h2 : all = all') (h3 : left = left') (h4 : gh = gh') :
    WDR cfg f r k Q s hole all rest left gh = WDR cfg f r k Q s' hole' all' rest left' gh' := by rw [h0, h1, h2, h3, h4]
theorem k_enterD {hole : Nat} {all : List (Option Tmp)} {rest : List Oper} {left : List (Bool × List Nat)} {gh : List (List Nat)} : WDR cfg f r k Q st hole all rest left gh = WK cfg f r (.drw hole 0 all rest left gh :: k) Q .normal st := rfl

theorem k_regionF {id : Nat} {ops : Array Oper} (hm : cfg.inpl f = false) : WK cfg f r (.code (.region id ops false) :: k) Q .normal st = WR cfg f r k Q st (dsts ops.toList) ops.toList := by
  show Wp cfg f r _ _ _ = _
  rw [w_reg hm]; rfl
def WRM (cfg : Cfg) (f : FuncId) (r : Option Nat) (k : List KI) (Q : Ex → St → Prop) (st : St) (bi : Bool) (fz : List (Nat × Tmp)) (all : List (Option Tmp)) (rest : List Oper) : Prop := WK cfg f r (.opsM bi fz 0 all rest :: k) Q .normal st
@[congr] theorem WRM_congr {s s' : St} {bi bi' : Bool} {fz fz' : List (Nat × Tmp)} {all all' : List (Option Tmp)} {rest : List Oper} (h0 : s = s') (h1 : bi = bi') (h2 : fz = fz') (h3 : all = all') : WRM cfg f r k Q s bi fz all rest = WRM cfg f r k Q s' bi' fz' all' rest := by rw [h0, h1, h2, h3]
theorem k_enterM {bi : Bool} {fz : List (Nat × Tmp)} {all : List (Option Tmp)} {rest : List Oper} : WRM cfg f r k Q st bi fz all rest = WK cfg f r (.opsM bi fz 0 all rest :: k) Q .normal st := rfl
theorem k_regionM {id : Nat} {ops : Array Oper} (hm : cfg.inpl f = true) : WK cfg f r (.code (.region id ops false) :: k) Q .normal st = WRM cfg f r k Q st (cfg.birth f) (cfg.frz f id) (dsts ops.toList) ops.toList := by
  show Wp cfg f r _ _ _ = _
  rw [w_regM hm]; rfl
def WRS (b : Bool) (cfg : Cfg) (f : FuncId) (r : Option Nat) (k : List KI) (Q : Ex → St → Prop) (st : St) (id : Nat) (ops : Array Oper) : Prop :=
  if b then WRM cfg f r k Q st (cfg.birth f) (cfg.frz f id) (dsts ops.toList) ops.toList else WR cfg f r k Q st (dsts ops.toList) ops.toList
@[congr] theorem WRS_congr {b b' : Bool} {id : Nat} {ops : Array Oper} (h : b = b') : WRS b cfg f r k Q st id ops = WRS b' cfg f r k Q st id ops := by rw [h]
theorem WRS_t {id : Nat} {ops : Array Oper} : WRS true cfg f r k Q st id ops = WRM cfg f r k Q st (cfg.birth f) (cfg.frz f id) (dsts ops.toList) ops.toList := rfl
theorem WRS_f {id : Nat} {ops : Array Oper} : WRS false cfg f r k Q st id ops = WR cfg f r k Q st (dsts ops.toList) ops.toList := rfl
theorem k_region {id : Nat} {ops : Array Oper} : WK cfg f r (.code (.region id ops false) :: k) Q .normal st = WRS (cfg.inpl f) cfg f r k Q st id ops := by
  cases h : cfg.inpl f with
  | true => rw [k_regionM h]; rfl
  | false => rw [k_regionF h]; rfl
theorem k_opsM_nil {bi : Bool} {fz : List (Nat × Tmp)} {i : Nat} {all : List (Option Tmp)} : WK cfg f r (.opsM bi fz i all [] :: k) Q .normal st = WK cfg f r k Q .normal { st with al := [] } := by
  simp only [WK, evMgo, WpO_some]
theorem k_opsM {bi : Bool} {fz : List (Nat × Tmp)} {i : Nat} {all : List (Option Tmp)} {o : Oper} {rest : List Oper} : WK cfg f r (.opsM bi fz i all (o :: rest) :: k) Q .normal st = WS cfg f r (.opsM bi fz (i + 1) all rest :: k) Q (evSM cfg (Lim cfg) bi fz all i o st) := by
  simp only [WK, WS, evMgo, WpO_bind]; rfl
theorem k_draw {id : Nat} {ops : Array Oper} : WK cfg f r (.code (.region id ops true) :: k) Q .normal st =
    WDR cfg f r k Q { st with hp := st.hp ++ laidAhead cfg ops.toList (cfg.draw f id), al := [] } st.hp.length (dsts ops.toList) ops.toList (cfg.draw f id) (List.replicate ops.toList.length []) := by
  show Wp cfg f r _ _ _ = ∃ d, _
  rw [w_draw]
  apply propext
  have h0 : rank ops.toList (cfg.draw f id) 0 = 0 := by cases ops.toList <;> simp [rank]
  have e : ∀ s, evDs cfg (Lim cfg) st.hp.length ops.toList (cfg.draw f id) (List.range ops.toList.length) s = evDgo cfg (Lim cfg) (dsts ops.toList) st.hp.length 0 ops.toList (cfg.draw f id) s := fun s => by
    rw [List.range_eq_range', evDgo_eq ops.toList (cfg.draw f id) 0 s rfl rfl, h0, Nat.add_zero]
  simp only [WpO, evDraw, Option.map_eq_some_iff, e]
  constructor
  · rintro ⟨s, ⟨d, h1, h2⟩, h3⟩; subst h2; exact ⟨d, h1, h3⟩
  · rintro ⟨d, h1, h3⟩; exact ⟨_, ⟨d, h1, rfl⟩, h3⟩
theorem k_drw_nil {hole i : Nat} {all : List (Option Tmp)} {left : List (Bool × List Nat)} {gh : List (List Nat)} : WK cfg f r (.drw hole i all [] left gh :: k) Q .normal st = WK cfg f r k Q .normal { st with al := [] } := by
  show (∃ d, _) = _
  simp [evDgo]
theorem k_drw {hole i : Nat} {all : List (Option Tmp)} {rest : List Oper} {left : List (Bool × List Nat)} {o : Oper} {l : Bool} {c : List Nat} {gh : List (List Nat)} : WK cfg f r (.drw hole i all (o :: rest) ((l, c) :: left) gh :: k) Q .normal st =
    WD cfg f r (nextHole l o hole) (i + 1) all rest left k Q (evD1 cfg (Lim cfg) hole all i o l c st gh) := by
  show (∃ d, _) = ∃ s, _ ∧ ∃ d, _
  apply propext
  simp only [evDgo, Option.bind_eq_some_iff]
  constructor
  · rintro ⟨d, ⟨a, h1, h2⟩, h3⟩; exact ⟨a, h1, d, h2, h3⟩
  · rintro ⟨a, h1, d, h2, h3⟩; exact ⟨d, ⟨a, h1, h2⟩, h3⟩
theorem k_ops_nil {all : List (Option Tmp)} : WK cfg f r (.ops all [] :: k) Q .normal st = WK cfg f r k Q .normal { st with al := [] } := by
  simp only [WK, evGo, WpO_some]
theorem k_ops {all : List (Option Tmp)} {o : Oper} {rest : List Oper} : WK cfg f r (.ops all (o :: rest) :: k) Q .normal st = WS cfg f r (.ops all rest :: k) Q (evO cfg (Lim cfg) all o st) := by
  simp only [WK, WS, g_cons]; rfl
theorem k_some : WS cfg f r k Q (some st) = WK cfg f r k Q .normal st := by simp [WS]
theorem k_none : WS cfg f r k Q none = False := by simp [WS]
theorem k_someD {hole i : Nat} {all : List (Option Tmp)} {rest : List Oper} {left : List (Bool × List Nat)} {gh : List (List Nat)} : WD cfg f r hole i all rest left k Q (some ⟨st, gh⟩) = WK cfg f r (.drw hole i all rest left gh :: k) Q .normal st := by simp [WD]
theorem nextHole_f {o : Oper} {h : Nat} : nextHole false o h = h := rfl
theorem nextHole_t {o : Oper} {h : Nat} : nextHole true o h = if isAlloc o then h + 1 else h := by simp [nextHole]
theorem k_noneD {hole i : Nat} {all : List (Option Tmp)} {rest : List Oper} {left : List (Bool × List Nat)} : WD cfg f r hole i all rest left k Q none = False := by simp [WD]
theorem d_plain {hole i : Nat} {all : List (Option Tmp)} {d : Option Tmp} {op : Op} {ty : TypeId} {ps : String} {af : Array Edge} {l : Bool} {c : List Nat} {gh : List (List Nat)} :
    evD1 cfg orc hole all i ⟨d, op, ty, ps, af, none⟩ l c st gh = evD0 cfg orc hole i ⟨d, op, ty, ps, af, none⟩ l c st gh := rfl
theorem d_guard {hole i : Nat} {all : List (Option Tmp)} {d : Option Tmp} {op : Op} {ty : TypeId} {ps : String} {af : Array Edge} {l : Bool} {c : List Nat} {gh : List (List Nat)} {j : Nat} {w : Bool} :
    evD1 cfg orc hole all i ⟨d, op, ty, ps, af, some (j, w)⟩ l c st gh = guardD (guardAt all st.fr j) w (evD0 cfg orc hole i ⟨d, op, ty, ps, af, some (j, w)⟩ l c st gh) (some { st := st.put d (.tup []), gh := gh }) := rfl
theorem d_lim0 {hole i : Nat} {o : Oper} {gh : List (List Nat)} :
    evD0 cfg orc hole i o true [] st gh = (limV cfg orc hole o st.fr st.hp).map fun v => { st := st.put o.dst v, gh := gh } := by
  simp only [evD0, if_true]
  rcases limV cfg orc hole o st.fr st.hp with _ | v
  · rfl
  · simp [touched]
theorem d_full0 {hole i : Nat} {o : Oper} {gh : List (List Nat)} :
    evD0 cfg orc hole i o false [] st gh = (evOp cfg orc false o st).map fun s => { st := s, gh := gh } := by
  simp only [evD0, Bool.false_eq_true, if_false]
  rcases evOp cfg orc false o st with _ | v
  · rfl
  · simp [touched]
theorem k_blk_normal {id : Nat} : WK cfg f r (.blk id :: k) Q .normal st = WK cfg f r k Q .normal st := rfl
theorem k_blk_ret {id : Nat} : WK cfg f r (.blk id :: k) Q .ret st = WK cfg f r k Q .ret st := rfl
theorem k_blk_exit {id i : Nat} : WK cfg f r (.blk id :: k) Q (.exit i) st = WK cfg f r k Q (if i = id then .normal else .exit i) st := by
  show (if i = id then _ else _) = _
  split <;> rfl
theorem k_code_ret {c : Code} : WK cfg f r (.code c :: k) Q .ret st = WK cfg f r k Q .ret st := rfl
theorem k_code_exit {c : Code} {i : Nat} : WK cfg f r (.code c :: k) Q (.exit i) st = WK cfg f r k Q (.exit i) st := rfl
theorem k_again_ret {c : Code} : WK cfg f r (.again c :: k) Q .ret st = WK cfg f r k Q .ret st := rfl
theorem k_again_exit {c : Code} {i : Nat} : WK cfg f r (.again c :: k) Q (.exit i) st = WK cfg f r k Q (.exit i) st := rfl
theorem WpN_WK' {k : List KI} {b : Code} : (WpN (WK cfg f r k Q) fun s => Wp cfg f r (.loop b) s (WK cfg f r k Q)) = WK cfg f r (.again b :: k) Q := by
  funext e s; cases e <;> rfl
theorem k_loop1 {c : Code} : WK cfg f r (.code (.loop c) :: k) Q .normal st = WK cfg f r (.code c :: .again c :: k) Q .normal (st.head (cfg.kill f (firstReg c))) := by
  show Wp cfg f r _ _ _ = Wp cfg f r _ _ _
  rw [w_loop1, WpN_WK']; rfl
theorem k_again {c : Code} : WK cfg f r (.again c :: k) Q .normal st = WK cfg f r (.code c :: .again c :: k) Q .normal (st.head (cfg.kill f (firstReg c))) := k_loop1

@[congr] theorem WS_congr {o o' : Option St} (h : o = o') : WS cfg f r k Q o = WS cfg f r k Q o' := by rw [h]
@[congr] theorem WD_congr {hole hole' i i' : Nat} {all : List (Option Tmp)} {rest : List Oper} {left : List (Bool × List Nat)} {o o' : Option DS} (h1 : hole = hole') (h2 : i = i') (h : o = o') : WD cfg f r hole i all rest left k Q o = WD cfg f r hole' i' all rest left k Q o' := by rw [h1, h2, h]
@[congr] theorem WK_congr {e e' : Ex} {s s' : St} (he : e = e') (h : s = s') : WK cfg f r k Q e s = WK cfg f r k Q e' s' := by rw [he, h]

theorem k_loop {α : Type} {c : Code} (S : α → St) (I : α → Prop) (μ : α → Nat) (x0 : α) {K : List Nat} (hK : cfg.kill f (firstReg c) = K) (hI : I x0) (h0 : st.head K = S x0)
    (round : ∀ x, I x → ∀ k' Q', (∀ y s, I y → μ y < μ x → s.head K = S y → WK cfg f r k' Q' .normal s) → (∀ i s, WK cfg f r k Q (.exit i) s → WK cfg f r k' Q' (.exit i) s) → (∀ s, WK cfg f r k Q .ret s → WK cfg f r k' Q' .ret s) →
      WK cfg f r (.code c :: k') Q' .normal (S x)) : WK cfg f r (.code (.loop c) :: k) Q .normal st := by
  subst hK
  show Wp cfg f r _ _ _
  refine w_loop S I μ x0 hI h0 fun x hx => ?_
  have := round x hx [] (WpN (WK cfg f r k Q) fun s => ∃ y, I y ∧ μ y < μ x ∧ s.head (cfg.kill f (firstReg c)) = S y) (fun y s h1 h2 h3 => ⟨y, h1, h2, h3⟩) (fun i s h => h) fun s h => h
  exact this

theorem WD_split {hole i : Nat} {all : List (Option Tmp)} {rest : List Oper} {left : List (Bool × List Nat)} {b w : Bool} {x y : Option DS} (h1 : b = true → WD cfg f r hole i all rest left k Q (guardD (.bool true) w x y)) (h2 : b = false → WD cfg f r hole i all rest left k Q (guardD (.bool false) w x y)) :
    WD cfg f r hole i all rest left k Q (guardD (.bool b) w x y) := by cases b <;> simp_all
theorem WS_split {b w : Bool} {x y : Option St} (h1 : b = true → WS cfg f r k Q (guardV (.bool true) w x y)) (h2 : b = false → WS cfg f r k Q (guardV (.bool false) w x y)) :
    WS cfg f r k Q (guardV (.bool b) w x y) := by cases b <;> simp_all

theorem wrap_i64 {n : Int} (h1 : -9223372036854775808 ≤ n) (h2 : n ≤ 9223372036854775807) : IntKind.i64.wrap n = n := by
  have e1 : (2 : Int) ^ IntKind.i64.bits = 18446744073709551616 := by decide
  have e2 : (2 : Int) ^ (IntKind.i64.bits - 1) = 9223372036854775808 := by decide
  simp only [IntKind.wrap, e1, e2, show IntKind.i64.signed = true from rfl, Bool.true_and, decide_eq_true_eq]
  split <;> omega

theorem ret1 {t : Tmp} {e : Ex} {s : St} {R : V → Bool → List Blk → Prop} {v : V} {own : Bool} (he : ∀ i, e ≠ .exit i) (hv : s.fr.getD t .any = v) (hl : V.lt 0 v = true) (ho : (s.own.contains t && isSl v) = own) (h : R v own []) :
    Ret cfg [.tmp t] 0 R e s := by
  refine ⟨he, v, s.own.contains t, by simp only [resultsV, resOf, resOwn, hv, Option.map_some], ?_⟩
  rw [ho]
  simp only [hl, List.take_zero, List.all_nil, Bool.and_self, if_true]
  exact h
theorem ret1n {t : Tmp} {e : Ex} {s : St} {R : V → Bool → List Blk → Prop} {v : V} (he : ∀ i, e ≠ .exit i) (hv : s.fr.getD t .any = v) (hl : V.lt 0 v = true) (hs : isSl v = false) (h : R v false []) :
    Ret cfg [.tmp t] 0 R e s := ret1 he hv hl (by rw [hs, Bool.and_false]) h
theorem retc1 {p : Tmp} {ty : TypeId} {e : Ex} {s : St} {R : V → Bool → List Blk → Prop} {v : V} (he : ∀ i, e ≠ .exit i) (hv : loadV cfg s.hp ty (s.fr.getD p .any) = some v) (hl : V.lt 0 v = true) (h : R v false []) :
    Ret cfg [.cell p ty] 0 R e s := by
  refine ⟨he, v, false, by simp only [resultsV, resOf, resOwn, hv, Option.map_some], ?_⟩
  simp only [hl, List.take_zero, List.all_nil, Bool.and_self, if_true, Bool.false_and]
  exact h
theorem ret2 {t u : Tmp} {e : Ex} {s : St} {R : V → Bool → List Blk → Prop} {v w : V} (he : ∀ i, e ≠ .exit i) (hv : s.fr.getD t .any = v) (hw : s.fr.getD u .any = w) (hl : V.lt 0 v = true) (hl2 : V.lt 0 w = true) (h : R (.tup [v, w]) false []) :
    Ret cfg [.tmp t, .tmp u] 0 R e s := by
  refine ⟨he, .tup [v, w], false, by simp only [resultsV, List.mapM_cons, List.mapM_nil, resOf, hv, hw]; rfl, ?_⟩
  have : V.lt 0 (.tup [v, w]) = true := by
    simp only [V.lt, V.all, V.alll, Bool.and_true] at hl hl2 ⊢
    rw [hl, hl2]; rfl
  simp only [this, List.take_zero, List.all_nil, Bool.and_self, if_true, Bool.false_and]
  exact h
theorem ex_normal {i : Nat} : Ex.normal ≠ .exit i := by simp
theorem ex_ret {i : Nat} : Ex.ret ≠ .exit i := by simp

def mkF (n : Nat) (l : List (Nat × V)) : List V := l.foldl (fun f p => f.set p.1 p.2) (List.replicate n .any)

theorem lim_of_run {k : Nat} {f : FuncId} {a : List V} {hp : List Blk} {x : V × Bool × List Blk} (h : (run cfg k).call f a hp = some x) : (Lim cfg).call f a hp = some x := lim_call_iff.2 ⟨k, h⟩

theorem rf_nil {n : Nat} : rowsFit n [] = true := rfl
theorem rf_cons {n : Nat} {r : List V} {t : List (List V)} : rowsFit n (r :: t) = (r.length == n) := rfl
theorem hb_nil : headByte [] = false := rfl
theorem hb_nil1 {t : List (List V)} : headByte ([] :: t) = false := rfl
theorem hb_two {a b : V} {c : List V} {t : List (List V)} : headByte ((a :: b :: c) :: t) = false := by cases a <;> (try rfl) ; rename_i k n; cases k <;> rfl
theorem hb_i64 {n : Int} {t : List (List V)} : headByte ([.int .i64 n] :: t) = false := rfl
theorem hb_u8 {n : Int} {t : List (List V)} : headByte ([.int .u8 n] :: t) = true := rfl
theorem hb_str {n : List UInt8} {t : List (List V)} : headByte ([.str n] :: t) = false := rfl
theorem hb_bool {n : Bool} {t : List (List V)} : headByte ([.bool n] :: t) = false := rfl
theorem hb_sl {d : Bool} {xs : List (List V)} {t : List (List V)} : headByte ([.sl d xs] :: t) = false := rfl

section
variable {d : Option Tmp} {ty : TypeId} {ps : String} {af : Array Edge} {g : Option (Nat × Bool)}
theorem e_move {x : Operand} : evOp cfg orc false ⟨d, .move x, ty, ps, af, g⟩ st = match x with
    | .tmp u => if st.own.contains u && !false && d != some u then some ((st.put d (ev st.fr x)).alias d (some (.tmp u))) else some (st.put d (ev st.fr x))
    | _ => some (st.put d (ev st.fr x)) := rfl
theorem e_assign {x : Operand} : evOp cfg orc false ⟨d, .assign x, ty, ps, af, g⟩ st = match x with
    | .tmp u => if st.own.contains u && !false then some ((dropOwn st (.tmp u)).putOwn d (ev st.fr x) true) else some (st.put d (ev st.fr x))
    | .const (.slice none 0 0) => some (st.putOwn d (.sl true []) true)
    | _ => some (st.put d (ev st.fr x)) := by
  rcases x with u | v | f | f <;> try rfl
theorem e_pick {c a b : Operand} : evOp cfg orc false ⟨d, .pick c a b, ty, ps, af, g⟩ st = match ev st.fr c with
    | .bool true => some (st.put d (ev st.fr a))
    | .bool false => some (st.put d (ev st.fr b))
    | _ => none := rfl
theorem e_alloc {t : TypeId} : evOp cfg orc false ⟨d, .alloc t, ty, ps, af, g⟩ st = match cfg.ty t with
    | some ti => some (pushBlk st d (.cells t (nilOffs 0 ti.zero) ti.zero))
    | none => none := rfl
theorem nilOr_f {x y : Option St} : nilOr false x y = y := rfl
theorem nilOr_s {s : St} {y : Option St} : nilOr true (some s) y = some s := rfl
theorem nilOr_n {y : Option St} : nilOr true none y = y := rfl
@[congr] theorem nilOr_congr {b b' : Bool} {x x' y : Option St} (h : b = b') (h2 : x = x') : nilOr b x y = nilOr b' x' y := by rw [h, h2]
theorem e_box {t : TypeId} {x : Operand} : evOp cfg orc false ⟨d, .box t x, ty, ps, af, g⟩ st = nilOr (cfg.nilT t) (boxN t (ev st.fr x) d st) (match cellsV (ev st.fr x) with
    | some cs => some (pushBlk st d (.cells t [] cs))
    | none => none) := rfl
theorem e_build {t : TypeId} {parts : Array (Nat × Operand)} : evOp cfg orc false ⟨d, .build t parts, ty, ps, af, g⟩ st =
    if fieldsKnown cfg t then (buildX cfg t (partsCode parts.toList) (parts.toList.map fun (p : Nat × Operand) => (p.1, ev st.fr p.2))).map fun v => st.put d v else none := rfl
theorem e_buildSlice {t : TypeId} {len : Nat} {parts : Array (Nat × Operand)} : evOp cfg orc false ⟨d, .buildSlice t len parts, ty, ps, af, g⟩ st =
    (buildSliceV cfg t len (parts.toList.map fun (p : Nat × Operand) => (p.1, ev st.fr p.2))).map fun v => st.put d v := rfl
def takeV (st : St) (d : Option Tmp) (p : V) : Option V → Option St
  | some v => some (if isSl v then (st.put d v).alias d (cellOwner st.hp p) else st.put d v)
  | none => none
theorem takeV_some {p v : V} : takeV st d p (some v) = some (if isSl v then (st.put d v).alias d (cellOwner st.hp p) else st.put d v) := rfl
@[congr] theorem takeV_congr {p p' : V} {o o' : Option V} (h1 : p = p') (h : o = o') : takeV st d p o = takeV st d p' o' := by rw [h1, h]
theorem e_load {t : TypeId} {p : Operand} : evOp cfg orc false ⟨d, .load t p, ty, ps, af, g⟩ st = takeV st d (ev st.fr p) (loadV cfg st.hp t (ev st.fr p)) := by
  simp only [evOp, takeV, Bool.not_false, Bool.and_true]
  rcases loadV cfg st.hp t (ev st.fr p) with _ | v <;> rfl
theorem e_store {t : TypeId} {p x : Operand} : evOp cfg orc false ⟨d, .store t p x, ty, ps, af, g⟩ st = if d.isSome then none else nilOr (cfg.nilT t) (storeN cfg t p x st) (storeOp cfg t p x st) := by
  simp [evOp, storeX]
theorem e_nilCheck {x : Operand} : evOp cfg orc false ⟨d, .nilCheck x, ty, ps, af, g⟩ st = match ev st.fr x with
    | .ptr id off => some (st.put d (.ptr id off))
    | .pc dd cs => some (st.put d (.pc dd cs))
    | .fn f cap => some (st.put d (.fn f cap))
    | .yld id => some (st.put d (.yld id))
    | _ => none := rfl
def putV (st : St) (d : Option Tmp) : Option V → Option St
  | some v => some (st.put d v)
  | none => none
theorem putV_some {v : V} : putV st d (some v) = some (st.put d v) := rfl
@[congr] theorem putV_congr {o o' : Option V} (h : o = o') : putV st d o = putV st d o' := by rw [h]
theorem putV_eq {o : Option V} : (o.map fun v => st.put d v) = putV st d o := by cases o <;> rfl
theorem e_binOp {op : BinOp} {t t2 : TypeId} {x y : Operand} : evOp cfg orc false ⟨d, .binOp op t x y t2, ty, ps, af, g⟩ st = putV st d (binOpV cfg op t (ev st.fr x) (ev st.fr y)) := putV_eq
theorem e_unOp {op : UnOp} {t : TypeId} {x : Operand} : evOp cfg orc false ⟨d, .unOp op t x, ty, ps, af, g⟩ st = putV st d (unOpV op (ev st.fr x)) := putV_eq
theorem e_convert {t t2 : TypeId} {x : Operand} : evOp cfg orc false ⟨d, .convert t t2 x, ty, ps, af, g⟩ st = match convPV cfg st.hp t t2 (ev st.fr x) with
    | some v => some (st.put d v)
    | none => putV st d (convV cfg t t2 (ev st.fr x)) := by
  simp only [evOp, Bool.false_eq_true, if_false, putV_eq] <;> (rcases convPV cfg st.hp t t2 (ev st.fr x) with _ | v <;> rfl)
theorem e_makeFunc {f : FuncId} {first cap : Array Operand} : evOp cfg orc false ⟨d, .makeFunc (.func f) first cap, ty, ps, af, g⟩ st = if first.isEmpty then some (st.put d (.fn f (cap.toList.map (ev st.fr)))) else none := rfl
def cutV (st : St) (d : Option Tmp) (z : Bool) : Option V → Option St
  | some v => some (if isSl v && z then st.putOwn d v true else st.put d v)
  | none => none
theorem cutV_some {z : Bool} {v : V} : cutV st d z (some v) = some (if isSl v && z then st.putOwn d v true else st.put d v) := rfl
@[congr] theorem cutV_congr {z z' : Bool} {o o' : Option V} (h1 : z = z') (h : o = o') : cutV st d z o = cutV st d z' o' := by rw [h1, h]
theorem e_slice {t : TypeId} {x : Operand} {lo hi mx : Option Operand} : evOp cfg orc false ⟨d, .slice t x lo hi mx, ty, ps, af, g⟩ st =
    cutV st d (capZero (lo.map (ev st.fr)) (mx.map (ev st.fr))) (sliceV cfg t (ev st.fr x) (lo.map (ev st.fr)) (hi.map (ev st.fr)) (mx.map (ev st.fr))) := by
  simp only [evOp, Bool.not_false, Bool.true_and]
  rcases sliceV cfg t (ev st.fr x) (lo.map (ev st.fr)) (hi.map (ev st.fr)) (mx.map (ev st.fr)) with _ | v <;> rfl
theorem e_fieldAddr {t : TypeId} {p : Operand} {i : Nat} : evOp cfg orc false ⟨d, .fieldAddr t p i, ty, ps, af, g⟩ st = putV st d (fieldV cfg t (ev st.fr p) i) := putV_eq
theorem e_field {t : TypeId} {p : Operand} {i : Nat} : evOp cfg orc false ⟨d, .field t p i, ty, ps, af, g⟩ st = putV st d (partV cfg t (ev st.fr p) i) := putV_eq
theorem e_indexAddr {t : TypeId} {x i : Operand} : evOp cfg orc false ⟨d, .indexAddr t x i, ty, ps, af, g⟩ st = putV st d (indexAddrV cfg t (ev st.fr x) (ev st.fr i)) := putV_eq
theorem e_index {t : TypeId} {x i : Operand} : evOp cfg orc false ⟨d, .index t x i, ty, ps, af, g⟩ st = putV st d (indexV cfg t (ev st.fr x) (ev st.fr i)) := putV_eq
theorem e_extract {x : Operand} {i : Nat} : evOp cfg orc false ⟨d, .extract x i, ty, ps, af, g⟩ st = match ev st.fr x with
    | .tup vs => putV st d vs[i]?
    | _ => none := by
  simp only [evOp]
  generalize ev st.fr x = w
  cases w with
  | tup vs =>
    show (match vs[i]? with | some v => some (st.put d v) | none => none) = putV st d vs[i]?
    rcases vs[i]? with _ | v <;> rfl
  | _ => rfl
theorem e_builtin {b : Builtin} {args : Array Operand} {ts : Array TypeId} : evOp cfg orc false ⟨d, .call ⟨.builtin b, args, ts⟩, ty, ps, af, g⟩ st = builtinOp cfg b d args.toList ts.toList st := rfl

def callRes (st : St) (d : Option Tmp) : Option (V × Bool × List Blk) → Option St
  | some (v, own, []) => some ({ st with al := keepAl [] st.al }.putOwn d v (own && isSl v))
  | some (v, own, hp) => some ({ st with hp := backHp st.hp [] hp, al := keepAl [] st.al }.putOwn d (v.ren (backId [] st.hp.length)) (own && isSl v))
  | none => none
@[congr] theorem callRes_congr {o o' : Option (V × Bool × List Blk)} (h : o = o') : callRes st d o = callRes st d o' := by rw [h]
theorem callRes_nil {v : V} {own : Bool} : callRes st d (some (v, own, [])) = some ({ st with al := keepAl [] st.al }.putOwn d v (own && isSl v)) := rfl
theorem callRes_cons {v : V} {own : Bool} {b : Blk} {hp : List Blk} : callRes st d (some (v, own, b :: hp)) = some ({ st with hp := st.hp ++ (b :: hp).map (Blk.ren (backId [] st.hp.length)), al := keepAl [] st.al }.putOwn d (v.ren (backId [] st.hp.length)) (own && isSl v)) := by
  simp [callRes, backHp, putBack]

def callHeap (cfg : Cfg) (orc : Orc) (st : St) (d : Option Tmp) (f : FuncId) (args : List V) : Option St :=
  if closedIn st.hp (reach st.hp args) args then
    match orc.call f (V.renl (fun i => (reach st.hp args).idxOf i) args) (subHp st.hp (reach st.hp args)) with
    | some (v, own, hp) => some ({ st with hp := backHp st.hp (reach st.hp args) hp, al := keepAl (reach st.hp args) st.al }.putOwn d (v.ren (backId (reach st.hp args) st.hp.length)) (own && isSl v))
    | none => none
  else none

def callFn (cfg : Cfg) (orc : Orc) (st : St) (d : Option Tmp) (f : FuncId) (args : List V) (pure ext : Bool) : Option St :=
  if ext then
    match args with
    | [v] => some (st.put d v)
    | _ => none
  else if pure then callRes st d (orc.call f args []) else callHeap cfg orc st d f args
@[congr] theorem callFn_congr {f f' : FuncId} {as bs : List V} {p p' e e' : Bool} (h0 : f = f') (h1 : as = bs) (h2 : p = p') (h3 : e = e') : callFn cfg orc st d f as p e = callFn cfg orc st d f' bs p' e' := by rw [h0, h1, h2, h3]
theorem callFn_pure {f : FuncId} {as : List V} : callFn cfg orc st d f as true false = callRes st d (orc.call f as []) := rfl
theorem callFn_heap {f : FuncId} {as : List V} : callFn cfg orc st d f as false false = callHeap cfg orc st d f as := rfl
theorem callFn_ext {v : V} {f : FuncId} {p : Bool} : callFn cfg orc st d f [v] p true = some (st.put d v) := by cases p <;> rfl

def callYield (cfg : Cfg) (orc : Orc) (st : St) (d : Option Tmp) (id : Nat) (args : List V) : Option St :=
  if closedIn st.hp (reach st.hp (.yld id :: args)) (.yld id :: args) then
    match orc.round ((reach st.hp (.yld id :: args)).idxOf id) (V.renl (fun i => (reach st.hp (.yld id :: args)).idxOf i) args) (subHp st.hp (reach st.hp (.yld id :: args))) with
    | some (b, hp) => some ({ st with hp := backHp st.hp (reach st.hp (.yld id :: args)) hp, al := keepAl (reach st.hp (.yld id :: args)) st.al }.put d (.bool b))
    | none => none
  else none

def callV (cfg : Cfg) (orc : Orc) (st : St) (d : Option Tmp) (f : V) (args : List V) : Option St :=
  match f with
  | .fn g cap => callFn cfg orc st d g (args ++ cap) (V.ltl 0 (args ++ cap)) (cfg.ext g)
  | .yld id => callYield cfg orc st d id args
  | _ => none
@[congr] theorem callV_congr {f f' : V} {as bs : List V} (h0 : f = f') (h1 : as = bs) : callV cfg orc st d f as = callV cfg orc st d f' bs := by rw [h0, h1]
theorem callV_fn {f : FuncId} {cap as : List V} : callV cfg orc st d (.fn f cap) as = callFn cfg orc st d f (as ++ cap) (V.ltl 0 (as ++ cap)) (cfg.ext f) := rfl
theorem callV_yld {id : Nat} {as : List V} : callV cfg orc st d (.yld id) as = callYield cfg orc st d id as := rfl

theorem e_call {f : Operand} {args : Array Operand} {ts : Array TypeId} : evOp cfg orc false ⟨d, .call ⟨.value f, args, ts⟩, ty, ps, af, g⟩ st = callV cfg orc st d (ev st.fr f) (args.toList.map (ev st.fr)) := by
  simp only [evOp, Bool.false_eq_true, if_false]
  generalize ev st.fr f = w
  cases w with
  | fn g cap =>
    show (if cfg.ext g = true then _ else _) = if cfg.ext g = true then _ else _
    split
    · rfl
    · show (if _ then _ else _) = if _ then _ else _
      split
      · rcases orc.call g (args.toList.map (ev st.fr) ++ cap) [] with _ | ⟨v, own, _ | ⟨b, hp⟩⟩ <;> rfl
      · rfl
  | yld id => rfl
  | _ => rfl
end

theorem k_range {g : Operand} {ps : Array Tmp} {assign body : Code} {gf : FuncId} {cap args args' : List V} {hp1 hp2 hp' hp3 : List Blk} {R : List Nat} {v : V} {own : Bool} {s : LoopState} {pe : Option Code} {fn0 : FuncId} {fr0 : List V} {ps0 : List Tmp} {as0 bo0 : Code} {e : Ex}
    (hg : ev st.fr g = .fn gf cap) (h1 : st.hp ++ [.loop .ready none f (killAll st.fr (cfg.kill f (rangeKey assign body))) ps.toList assign body] = hp1) (ha0 : .yld st.hp.length :: cap = args) (hR : reach hp1 args = R) (hc : (inLoop r st.hp && closedIn hp1 R args) = true)
    (ha : V.renl (fun i => R.idxOf i) args = args') (hs : subHp hp1 R = hp2) (hcall : (Lim cfg).call gf args' hp2 = some (v, own, hp')) (hb : backHp hp1 R hp' = hp3) (hl : hp3[st.hp.length]? = some (.loop s pe fn0 fr0 ps0 as0 bo0)) (hn : notBusy s = true) (hj : jumpEx pe = some e)
    (hk : WK cfg f r k Q e { st with hp := hp3.set st.hp.length .dead, al := [] }) : WK cfg f r (.code (.rangeFunc g ps assign body) :: k) Q .normal st := by
  subst h1 ha0 hR ha hs hb
  refine ⟨e, _, ?_, hk⟩
  rw [lim_code]
  simp only [step, hg, hc, if_true, hcall, hl, hn, hj]

def RB (id n : Nat) (R : Bool → List Blk → Prop) (ex : Ex) (s : St) : Prop :=
  ∃ s2 pe2 fn2 fr2 ps2 as2 bo2, s.hp[id]? = some (.loop s2 pe2 fn2 fr2 ps2 as2 bo2) ∧
    R ex.jump.isNone (if ((s.hp.set id (.loop (if ex.jump.isNone then .ready else .done) ex.jump fn2 fr2 ps2 as2 bo2)).take n).all (Blk.all fun i => Nat.blt i n) then (s.hp.set id (.loop (if ex.jump.isNone then .ready else .done) ex.jump fn2 fr2 ps2 as2 bo2)).take n
      else s.hp.set id (.loop (if ex.jump.isNone then .ready else .done) ex.jump fn2 fr2 ps2 as2 bo2))
def RA (cfg : Cfg) (fn : FuncId) (id : Nat) (body : Code) (n : Nat) (R : Bool → List Blk → Prop) (ex : Ex) (s : St) : Prop :=
  ex = .normal ∧ ∃ pe1 fn1 fr1 ps1 as1 bo1, s.hp[id]? = some (.loop .ready pe1 fn1 fr1 ps1 as1 bo1) ∧ Wp cfg fn (some id) body { s with hp := s.hp.set id (.loop .busy pe1 fn1 fr1 ps1 as1 bo1), al := [] } (RB id n R)

theorem round_of {id : Nat} {args : List V} {hp : List Blk} {pe : Option Code} {fn : FuncId} {fr : List V} {ps : List Tmp} {assign body : Code} {R : Bool → List Blk → Prop} (hl : hp[id]? = some (.loop .ready pe fn fr ps assign body)) (hn : args.length = ps.length)
    (h : Wp cfg fn (some id) assign { fr := (ps.zip args).foldl (fun f p => f.set p.1 p.2) fr, own := [], hp := hp, al := [], nb := hp.length } (RA cfg fn id body hp.length R)) :
    ∃ b hp', (Lim cfg).round id args hp = some (b, hp') ∧ R b hp' := by
  obtain ⟨e, s, h1, rfl, pe1, fn1, fr1, ps1, as1, bo1, h2, e2, s2, h3, st2, pe2, fn2, fr2, ps2, as2, bo2, h4, hR⟩ := h
  rw [lim_round]
  simp only [step, hl, isReady, hn, Nat.beq_refl, Bool.and_self, if_true, h1, h2, h3, h4]
  generalize s2.hp.set id (.loop (if e2.jump.isNone = true then .ready else .done) e2.jump fn2 fr2 ps2 as2 bo2) = X at hR ⊢
  by_cases hc : (X.take hp.length).all (Blk.all fun i => Nat.blt i hp.length) = true
  · rw [if_pos hc] at hR ⊢; exact ⟨_, _, rfl, hR⟩
  · rw [if_neg hc] at hR ⊢; exact ⟨_, _, rfl, hR⟩

theorem round_eq {id : Nat} {args : List V} {hp hp' : List Blk} {b : Bool} {pe : Option Code} {fn : FuncId} {fr : List V} {ps : List Tmp} {assign body : Code} (hl : hp[id]? = some (.loop .ready pe fn fr ps assign body)) (hn : args.length = ps.length)
    (h : Wp cfg fn (some id) assign { fr := (ps.zip args).foldl (fun f p => f.set p.1 p.2) fr, own := [], hp := hp, al := [], nb := hp.length } (RA cfg fn id body hp.length fun b' h' => b' = b ∧ h' = hp')) :
    (Lim cfg).round id args hp = some (b, hp') := by
  obtain ⟨b', h', h1, rfl, rfl⟩ := round_of hl hn h
  exact h1

def rngs : Code → List (Code × Code)
  | .seq a b => rngs a ++ rngs b
  | .cond _ a b => rngs a ++ rngs b
  | .block _ c => rngs c
  | .loop c => rngs c
  | .scope c => rngs c
  | .rangeFunc _ _ a b => (a, b) :: rngs b
  | _ => []
def rngA (fn : Func) (i : Nat) : Code := (((rngs (fn.body.getD .skip))[i]?).getD (.skip, .skip)).1
def rngB (fn : Func) (i : Nat) : Code := (((rngs (fn.body.getD .skip))[i]?).getD (.skip, .skip)).2

def touchL (hole i : Nat) (o : Oper) (c : List Nat) (st : St) (gh : List (List Nat)) : Option V → Option DS
  | some v => (touched gh i c (limAt hole o st.fr)).map fun gh => { st := st.put o.dst v, gh := gh }
  | none => none
@[congr] theorem touchL_congr {hole i : Nat} {o : Oper} {c : List Nat} {gh : List (List Nat)} {v v' : Option V} (h : v = v') : touchL hole i o c st gh v = touchL hole i o c st gh v' := by rw [h]
theorem touchL_some {hole i : Nat} {o : Oper} {c : List Nat} {gh : List (List Nat)} {v : V} : touchL hole i o c st gh (some v) = (touched gh i c (limAt hole o st.fr)).map fun gh => { st := st.put o.dst v, gh := gh } := rfl
theorem d_lim {hole i : Nat} {o : Oper} {a : Nat} {c : List Nat} {gh : List (List Nat)} : evD0 cfg orc hole i o true (a :: c) st gh = touchL hole i o (a :: c) st gh (limV cfg orc hole o st.fr st.hp) := by
  simp only [evD0, if_true]
  rcases limV cfg orc hole o st.fr st.hp with _ | v <;> rfl
def touchF (i : Nat) (o : Oper) (c : List Nat) (st : St) (gh : List (List Nat)) : Option St → Option DS
  | some st' => (touched gh i c (fullAt o st st')).map fun gh => { st := st', gh := gh }
  | none => none
@[congr] theorem touchF_congr {i : Nat} {o : Oper} {c : List Nat} {gh : List (List Nat)} {v v' : Option St} (h : v = v') : touchF i o c st gh v = touchF i o c st gh v' := by rw [h]
theorem touchF_some {i : Nat} {o : Oper} {c : List Nat} {gh : List (List Nat)} {st' : St} : touchF i o c st gh (some st') = (touched gh i c (fullAt o st st')).map fun gh => { st := st', gh := gh } := rfl
theorem d_full {hole i : Nat} {o : Oper} {a : Nat} {c : List Nat} {gh : List (List Nat)} : evD0 cfg orc hole i o false (a :: c) st gh = touchF i o (a :: c) st gh (evOp cfg orc false o st) := by
  simp only [evD0, Bool.false_eq_true, if_false]
  rcases evOp cfg orc false o st with _ | v <;> rfl

theorem reachGo_nil (hp : List Blk) : ∀ n, reachGo hp n [] = []
  | 0 => rfl
  | n + 1 => by simp [reachGo]
theorem reach_pure {hp : List Blk} {args : List V} (h : V.idsl [] args = []) : reach hp args = [] := by
  simp [reach, h, reachGo_nil]
theorem fa_call {d : Option Tmp} {ty : TypeId} {ps : String} {af : Array Edge} {g : Option (Nat × Bool)} {f : Operand} {args : Array Operand} {ts : Array TypeId} {st' : St} :
    fullAt ⟨d, .call ⟨.value f, args, ts⟩, ty, ps, af, g⟩ st st' = match ev st.fr f with
      | .fn _ cap => reach st.hp (args.toList.map (ev st.fr) ++ cap) ++ (List.range (st'.hp.length - st.hp.length)).map (st.hp.length + ·)
      | .yld id => reach st.hp (.yld id :: args.toList.map (ev st.fr)) ++ (List.range (st'.hp.length - st.hp.length)).map (st.hp.length + ·)
      | _ => [] := rfl

theorem callG_eq {d : Option Tmp} {g : FuncId} {args : List V} : callG orc d g args st = if V.ltl 0 args then callRes st d (orc.call g args []) else callHeap cfg orc st d g args := by
  unfold callG callRes callHeap
  split
  · rcases orc.call g args [] with _ | ⟨v, own, _ | ⟨b, hp⟩⟩ <;> rfl
  · rfl
def callG0 (cfg : Cfg) (orc : Orc) (st : St) (d : Option Tmp) (g : FuncId) (args : List V) (b : Bool) : Option St := if b then callRes st d (orc.call g args []) else callHeap cfg orc st d g args
@[congr] theorem callG0_congr {d : Option Tmp} {g : FuncId} {args args' : List V} {b b' : Bool} (h : args = args') (h' : b = b') : callG0 cfg orc st d g args b = callG0 cfg orc st d g args' b' := by rw [h, h']
theorem callG_go {cfg : Cfg} {d : Option Tmp} {g : FuncId} {args : List V} : callG (Lim cfg) d g args st = callG0 cfg (Lim cfg) st d g args (V.ltl 0 args) := callG_eq
theorem callG0_t {d : Option Tmp} {g : FuncId} {args : List V} : callG0 cfg orc st d g args true = callRes st d (orc.call g args []) := rfl
theorem callG0_f {d : Option Tmp} {g : FuncId} {args : List V} : callG0 cfg orc st d g args false = callHeap cfg orc st d g args := rfl

theorem callYield_eq {d : Option Tmp} {id n : Nat} {args args' : List V} {R : List Nat} {hp2 hp' hp3 : List Blk} {b : Bool} (hR : reach st.hp (.yld id :: args) = R) (hc : closedIn st.hp R (.yld id :: args) = true) (hi : R.idxOf id = n) (ha : V.renl (fun i => R.idxOf i) args = args')
    (hs : subHp st.hp R = hp2) (hr : (Lim cfg).round n args' hp2 = some (b, hp')) (hb : backHp st.hp R hp' = hp3) : callYield cfg (Lim cfg) st d id args = some ({ st with hp := hp3, al := keepAl R st.al }.put d (.bool b)) := by
  subst hR hi ha hs hb
  simp only [callYield, hc, if_true, hr]

theorem callHeap_eq {d : Option Tmp} {f : FuncId} {args args' : List V} {R : List Nat} {hp2 hp' hp3 : List Blk} {v v' : V} {own own' : Bool} (hR : reach st.hp args = R) (hc : closedIn st.hp R args = true) (ha : V.renl (fun i => R.idxOf i) args = args')
    (hs : subHp st.hp R = hp2) (hr : (Lim cfg).call f args' hp2 = some (v, own, hp')) (hb : backHp st.hp R hp' = hp3) (hv : v.ren (backId R st.hp.length) = v') (ho : (own && isSl v) = own') : callHeap cfg (Lim cfg) st d f args = some ({ st with hp := hp3, al := keepAl R st.al }.putOwn d v' own') := by
  subst hR ha hs hb hv ho
  simp only [callHeap, hc, if_true, hr]

theorem callHeap_at {d : Option Tmp} {f : FuncId} {args args' : List V} {R : List Nat} {hp2 hp' : List Blk} {v : V} {own : Bool} (hr : (Lim cfg).call f args' hp2 = some (v, own, hp')) (hR : reach st.hp args = R := by kernel_rfl) (hc : closedIn st.hp R args = true := by kernel_rfl)
    (ha : V.renl (fun i => R.idxOf i) args = args' := by kernel_rfl) (hs : subHp st.hp R = hp2 := by kernel_rfl) :
    callHeap cfg (Lim cfg) st d f args = some ({ st with hp := backHp st.hp R hp', al := keepAl R st.al }.putOwn d (v.ren (backId R st.hp.length)) (own && isSl v)) := by
  subst hR ha hs
  simp only [callHeap, hc, if_true, hr]
theorem ka_nil {R : List Nat} : keepAl R [] = [] := rfl
theorem ka_tmp {R : List Nat} {t u : Tmp} {l : List (Tmp × Owner)} : keepAl R ((t, .tmp u) :: l) = (t, .tmp u) :: keepAl R l := rfl
theorem ka_base {R : List Nat} {t : Tmp} {i o : Nat} {l : List (Tmp × Owner)} : keepAl R ((t, .base i o) :: l) = keepAl R l := rfl
theorem ka_cell {R : List Nat} {t : Tmp} {i o : Nat} {l : List (Tmp × Owner)} : keepAl R ((t, .cell i o) :: l) = if R.contains i then keepAl R l else (t, .cell i o) :: keepAl R l := by
  unfold keepAl
  rw [List.filter_cons]
  show (if (!R.contains i) = true then _ else _) = _
  cases R.contains i <;> rfl
theorem rn_cells {f : Nat → Nat} {t : TypeId} {ow : List Nat} {cs : List V} : Blk.ren f (.cells t ow cs) = .cells t ow (V.renl f cs) := rfl
theorem rn_dead {f : Nat → Nat} : Blk.ren f .dead = .dead := rfl
theorem rn_map {f : Nat → Nat} {es : List (V × List V)} : Blk.ren f (.map es) = .map (es.map fun e => (V.ren f e.1, V.renl f e.2)) := rfl
theorem rn_nil {f : Nat → Nat} : V.renl f [] = [] := rfl
theorem rn_cons {f : Nat → Nat} {v : V} {l : List V} : V.renl f (v :: l) = V.ren f v :: V.renl f l := rfl
theorem rn_any {f : Nat → Nat} : V.ren f .any = .any := rfl
theorem rn_bool {f : Nat → Nat} {b : Bool} : V.ren f (.bool b) = .bool b := rfl
theorem rn_int {f : Nat → Nat} {k : IntKind} {n : Int} : V.ren f (.int k n) = .int k n := rfl
theorem rn_str {f : Nat → Nat} {s : List UInt8} : V.ren f (.str s) = .str s := rfl
theorem rn_nilp {f : Nat → Nat} : V.ren f .nilp = .nilp := rfl
theorem rn_nils {f : Nat → Nat} : V.ren f .nils = .nils := rfl
theorem rn_nilf {f : Nat → Nat} : V.ren f .nilf = .nilf := rfl
theorem rn_nilm {f : Nat → Nat} : V.ren f .nilm = .nilm := rfl
theorem rn_ptr {f : Nat → Nat} {i o : Nat} : V.ren f (.ptr i o) = .ptr (f i) o := rfl
theorem rn_ms {f : Nat → Nat} {i o l c : Nat} : V.ren f (.ms i o l c) = .ms (f i) o l c := rfl
theorem rn_yld {f : Nat → Nat} {i : Nat} : V.ren f (.yld i) = .yld (f i) := rfl
theorem rn_vmap {f : Nat → Nat} {i : Nat} : V.ren f (.map i) = .map (f i) := rfl
theorem rn_fn {f : Nat → Nat} {g : FuncId} {l : List V} : V.ren f (.fn g l) = .fn g (V.renl f l) := rfl
theorem rn_agg {f : Nat → Nat} {l : List V} : V.ren f (.agg l) = .agg (V.renl f l) := rfl
theorem rn_tup {f : Nat → Nat} {l : List V} : V.ren f (.tup l) = .tup (V.renl f l) := rfl
theorem rn_sl {f : Nat → Nat} {xs : List (List V)} : V.ren f (.sl true xs) = .sl true xs := rfl
theorem rn_pc {f : Nat → Nat} {xs : List V} : V.ren f (.pc true xs) = .pc true xs := rfl
theorem bk_nil {n i : Nat} : backId [] n i = n + i := rfl
theorem bk_zero {n r : Nat} {R : List Nat} : backId (r :: R) n 0 = r := rfl
theorem bk_succ {n i r : Nat} {R : List Nat} : backId (r :: R) n (i + 1) = backId R n i := by
  simp [backId]
theorem bh_nil {hp hp' : List Blk} : backHp hp [] hp' = hp ++ hp'.map (Blk.ren (backId [] hp.length)) := by simp [backHp, putBack]
theorem bh_def {hp hp' : List Blk} {r : Nat} {R : List Nat} : backHp hp (r :: R) hp' = putBack hp (r :: R) (hp'.map (Blk.ren (backId (r :: R) hp.length))) ++ (hp'.map (Blk.ren (backId (r :: R) hp.length))).drop (r :: R).length := rfl
theorem pb_nil {hp bs : List Blk} : putBack hp [] bs = hp := by cases bs <;> rfl
theorem pb_cons {hp bs : List Blk} {r : Nat} {R : List Nat} {b : Blk} : putBack hp (r :: R) (b :: bs) = putBack (hp.set r b) R bs := rfl

theorem blt0 {n : Nat} : Nat.blt n 0 = false := rfl
theorem strNN : (([] : List UInt8) == []) = true := rfl
theorem strCN {b : UInt8} {s : List UInt8} : ((b :: s) == []) = false := rfl
theorem ite_min {a b : Int} : (if b < a then b else a) = min a b := by rw [Int.min_def]; split <;> split <;> omega
theorem ite_max {a b : Int} : (if a < b then b else a) = max a b := by rw [Int.max_def]; split <;> split <;> omega
theorem filter_range0 (n : Nat) : (List.range (n + 1)).filter (fun i => [0].contains i) = [0] := by
  induction n with
  | zero => rfl
  | succ n ih => rw [List.range_succ, List.filter_append, ih]; rfl
theorem reach_0 {t : TypeId} {ow : List Nat} {cs : List V} {l : List Blk} {o : Nat} (h : V.idsl [0] cs = [0]) : reach (.cells t ow cs :: l) [.ptr 0 o] = [0] := by
  have e : V.idsl [] [V.ptr 0 o] = [0] := rfl
  simp only [reach, e, List.length_cons, reachGo, List.foldl, List.getElem?_cons_zero, Blk.ids, h, if_true]
  exact filter_range0 _
theorem str_from {t : TypeId} (ht : (cfg.ty t).map TI.k = some .str) {s : List UInt8} {j : Nat} (h : j ≤ s.length) : sliceV cfg t (.str s) (some (.int .i64 (j : Int))) none none = some (.str (s.drop j)) := by
  have e1 : (0 : Int) ≤ (j : Int) ∧ (j : Int) ≤ (s.length : Int) := by omega
  simp only [sliceV, ht, bound, if_pos e1, Int.toNat_natCast]
  rw [List.take_of_length_le (by simp)]

theorem slice_tail {t e : TypeId} {s1 b1 : Nat} {z1 : List V} {te : TI} {d : Bool} {r : List V} {xs : List (List V)} (ht : cfg.ty t = some ⟨.slice e, s1, b1, z1⟩) (he : cfg.ty e = some te) (hr : r.length = te.size) :
    sliceV cfg t (.sl d (r :: xs)) (some (.int .i64 1)) none none = some (.sl d xs) := by
  have hf : rowsFit te.size (r :: xs) = true := by simp [rowsFit, hr]
  have e1 : ((0 : Int) ≤ 1 ∧ (1 : Int) ≤ ((r :: xs).length : Nat)) := by simp only [List.length_cons]; omega
  simp only [sliceV, ht, he, Option.map_some, hf, bound, if_pos e1, Bool.true_eq_false, if_false]
  simp

theorem ret0 {n : Nat} {e : Ex} {s : St} {R : V → Bool → List Blk → Prop} {hp' : List Blk} (he : ∀ i, e ≠ .exit i) (ht : (if (s.hp.take n).all (Blk.all fun i => Nat.blt i n) then s.hp.take n else s.hp) = hp') (h : R (.tup []) false hp') : Ret cfg [] n R e s := by
  refine ⟨he, .tup [], false, rfl, ?_⟩
  simp only [V.lt, V.all, V.alll, Bool.true_and, Bool.false_and, ht]
  exact h

theorem isE : (#[] : Array Operand).isEmpty = true := rfl

attribute [go_sem]
  guardV_u guardD_u k_enter k_enterD dsts List.map_cons List.map_nil nextHole_f nextHole_t isAlloc k_draw k_drw k_drw_nil k_someD k_noneD d_plain d_guard d_lim0 d_full0 guardD_tt
  guardD_tf guardD_ft guardD_ff limV laidAhead List.replicate Array.toList k_seq k_region k_ops k_ops_nil k_some k_none k_skip k_label k_scope k_ret k_exit WRS_t WRS_f k_enterM k_opsM k_opsM_nil s_plain s_guard bindF_nil bindF_cons freezes_nil freezes_at orM_some orM_none m_move m_assign m_pick m_alloc m_box m_build partsCode buildX buildN nilRow nilOr_f nilOr_s nilOr_n storeN boxN isNils unnil nilAt m_buildSlice litM_f litM_t buildOwn byteElem m_load m_store m_nilCheck m_binOp m_unOp m_convert m_makeFunc m_fieldAddr m_field m_indexAddr m_index m_extract
  m_slice3 m_slice cutNil_nils cutNil_sl cutNil_ms cutNil_str cutNil_ptr sliceNil m_append m_len m_min m_max m_cap capNil m_make m_makeMap m_mapUpdate m_lookup m_call cloneV_f cloneV_fn cloneV_cap pickM_t pickM_f nilV_fn callG_go callG0_t callG0_f rn_cells rn_dead rn_map rn_nil rn_cons rn_any rn_bool rn_int rn_str rn_nilp rn_nils rn_nilf rn_nilm rn_ptr rn_ms rn_yld rn_vmap rn_fn rn_agg rn_tup rn_sl rn_pc bk_nil bk_zero bk_succ bh_nil bh_def pb_nil pb_cons
  strNN strCN
  nilArg evN List.any_cons List.any_nil k_blk_normal k_blk_ret
  k_blk_exit k_code_ret k_code_exit k_again_ret k_again_exit k_block k_cond k_nil o_plain o_guard guardV_tt guardV_tf guardV_ft guardV_ff guardAt WC_true WC_false e_move e_assign
  e_pick e_alloc e_box e_build e_buildSlice takeV_some e_load e_store e_nilCheck putV_some e_binOp e_unOp e_convert e_makeFunc cutV_some e_slice e_fieldAddr e_field e_indexAddr
  e_index e_extract e_builtin callRes_nil callRes_cons callFn_pure callFn_heap callFn_ext callV_fn callV_yld e_call ev St.put St.putOwn St.owns St.alias dropOwn pushBlk List.set
  List.set_cons_zero List.set_cons_succ List.getD_cons_zero List.getD_cons_succ List.getD_nil List.getElem?_cons_zero List.getElem?_cons_succ List.getElem?_nil List.filter_nil
  List.filter_cons List.contains_nil List.contains_cons Bool.false_and Bool.and_false Bool.true_and Bool.and_true Bool.or_false Bool.false_or Bool.or_true Bool.true_or Bool.not_false
  Bool.not_true if_false if_true ite_false ite_true Bool.false_eq_true builtinOp lenV isAppend ofConst Option.map_some Option.map_none Option.bind_some Option.bind_none
  List.length_map List.length_cons List.length_nil List.length_append Nat.zero_add binOpV intOp unOpV indexAddrV loadV fieldV partV storeOp mkV K.isAgg cellsV movesFrom isSl
  cellOwner nilOffs List.take_succ_cons List.take_zero List.take_nil List.drop_succ_cons List.drop_zero List.drop_nil List.cons_append List.nil_append List.append_nil decide_true
  decide_false bne_self_eq_false bne_iff_ne ne_eq beq_iff_eq Option.isSome_none Option.isSome_some not_true_eq_false not_false_eq_true and_self and_true true_and and_false false_and
  Option.some.injEq Option.getD_some Option.getD_none eqT eqFs buildV fillV fieldsKnown buildSliceV rowsOf reps convV convPV capZero List.all_cons List.all_nil minmax minmaxGo
  appendOp appendTo ownerOf findAlias isOwner heldV heldFits heldByte appendV indexV killAll V.ltl V.lt V.alll V.all Bool.true_eq_false eq_self List.isEmpty_nil List.isEmpty_cons
  Owner.tmp.injEq Owner.cell.injEq or_self or_false false_or or_true true_or List.flatten_cons List.flatten_nil Nat.not_lt_zero Bool.not_eq_true Bool.not_eq_false Bool.and_self
  Bool.or_self rf_nil rf_cons hb_nil hb_nil1 hb_two hb_i64 hb_u8 hb_str hb_bool hb_sl d_lim d_full touchL_some touchF_some touched limAt fa_call fullAt disj Nat.sub_self
  List.range_zero V.idsl V.ids Nat.beq_refl beq_self_eq_true beqL V.beqC reach_pure isE ka_nil ka_tmp ka_base ka_cell
end Go.Abs
