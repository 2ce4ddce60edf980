/-
  The abstract machine: abstract values, an abstract heap, and an evaluator of the model's code over them. No program is named here. That what it computes is what the model does is proved in the text of the name Am2.
-/
import Derived.Tactics
namespace Go.AM

/-- A value, seen abstractly. 'undef': any value. 'sc': just this value. 'ptr', 'sl', 'map': memory of the running call. 'eptr', 'esl', 'emap': memory that is only read, by its contents. -/
inductive AV where
  | undef
  | sc (v : Value)
  | ptr (i off : Nat)
  | eptr (cs : List AV)
  | sl (i z off len : Nat)
  | esl (xs : List (List AV))
  | map (i : Nat)
  | emap (es : List (Value × AV))
  | func (f : FuncId) (first cap : List AV)
  | agg (cs : List AV)
  | tup (vs : List AV)

instance : Inhabited AV := ⟨.undef⟩

inductive Blk where
  | cells (cs : List AV)
  | map (es : List (Value × AV))

/-- The blocks of the running call, the newest first; 'n': how many. -/
structure Hp where
  n : Nat
  bs : List (Option Blk)

abbrev Fr := List AV

def Hp.nil : Hp := ⟨0, []⟩
def Hp.get (H : Hp) (i : Nat) : Option Blk := bif Nat.blt i H.n then (H.bs[H.n - 1 - i]?).join else none
def Hp.put (H : Hp) (i : Nat) (b : Option Blk) : Hp := ⟨H.n, H.bs.set (H.n - 1 - i) b⟩
def Hp.push (H : Hp) (b : Blk) : Hp := ⟨H.n + 1, some b :: H.bs⟩
def Hp.trunc (H : Hp) (L : Nat) : Hp := ⟨L, H.bs.drop (H.n - L)⟩

/-- What needs nothing of the world. -/
def pureRun {α : Type} (P : Program) : Sem α → Option α
  | .pure a => some a
  | .program k => pureRun P (k P)
  | _ => none

def mapO {α β : Type} (f : α → Option β) : List α → Option (List β)
  | [] => some []
  | x :: xs => (f x).bind fun y => (mapO f xs).bind fun ys => some (y :: ys)

def nilSl : Value := .slice none 0 0

def ofV : Value → AV
  | .agg cs => .agg (cs.toList.map .sc)
  | .tuple vs => .tup (vs.toList.map .sc)
  | v => .sc v

def uv : AV := .sc undef

def opd (fr : Fr) : Operand → AV
  | .tmp t => fr.getD t .undef
  | .const v => ofV v
  | .global g => .sc (.pointer (some ⟨g, 0, none⟩))
  | .func f => .func f [] []

/-- A value of one cell. -/
def one : AV → Bool
  | .undef => false
  | .agg _ => false
  | .tup _ => false
  | .sc (.agg _) => false
  | .sc (.tuple _) => false
  | _ => true

def cellsOf : AV → Option (List AV)
  | .agg cs => some cs
  | x => if one x then some [x] else none

def sz (P : Program) (T : TypeId) : Option Nat := (P.info? T).map (·.size)

def aggB (P : Program) (T : TypeId) : Option Bool :=
  match P.underlying T with
  | some (.struct _) => some true
  | some (.array _ _) => some true
  | some _ => some false
  | none => none

def zeroA (P : Program) (T : TypeId) : Option AV := ((P.info? T).bind (·.zero)).map ofV

def getB (H : Hp) (i : Nat) : Option (List AV) :=
  match H.get i with
  | some (.cells cs) => some cs
  | _ => none

def getM (H : Hp) (i : Nat) : Option (List (Value × AV)) :=
  match H.get i with
  | some (.map es) => some es
  | _ => none

def ld1 (H : Hp) : AV → Option AV
  | .ptr i off => (getB H i).bind fun cs => cs[off]?
  | .eptr cs => cs.head?
  | _ => none

def ldN (H : Hp) (n : Nat) : AV → Option AV
  | .ptr i off => (getB H i).bind fun cs => if off + n ≤ cs.length then some (.agg ((cs.drop off).take n)) else none
  | .eptr cs => if n ≤ cs.length then some (.agg (cs.take n)) else none
  | _ => none

def loadA (P : Program) (H : Hp) (T : TypeId) (x : AV) : Option AV :=
  match aggB P T with
  | some true => (sz P T).bind fun n => ldN H n x
  | some false => ld1 H x
  | none => none

def setCells (cs : List AV) (off : Nat) (vs : List AV) : List AV := cs.take off ++ vs ++ cs.drop (off + vs.length)

def stN (H : Hp) (n : Nat) (x : AV) (vs : List AV) : Option Hp :=
  match x with
  | .ptr i off => (getB H i).bind fun cs =>
      if vs.length = n ∧ off + n ≤ cs.length ∧ vs.all one = true then some (H.put i (some (.cells (setCells cs off vs)))) else none
  | _ => none

def storeA (P : Program) (H : Hp) (T : TypeId) (x v : AV) : Option Hp :=
  (sz P T).bind fun n => (cellsOf v).bind fun vs => stN H n x vs

def addrAdd (o : Nat) : AV → Option AV
  | .ptr i off => some (.ptr i (off + o))
  | .eptr cs => some (.eptr (cs.drop o))
  | _ => none

def fieldOff (P : Program) (s : TypeId) (f : Nat) : Option Nat :=
  match P.underlying s with
  | some (.struct fs) => match fs[f]? with
    | some fd => match sz P fd.type with
      | some (_ + 1) => some fd.offset
      | _ => none
    | none => none
  | _ => none

def fieldAddrA (P : Program) (s : TypeId) (f : Nat) (x : AV) : Option AV := (fieldOff P s f).bind fun o => addrAdd o x

def elemAt (s : Nat) (n : Int) : AV → Option AV
  | .sl i z off len => if z = s ∧ 0 ≤ n ∧ n < len then some (.ptr i (off + n.toNat * s)) else none
  | .esl xs => if 0 ≤ n then (xs[n.toNat]?).bind fun c => if c.length = s then some (.eptr c) else none else none
  | _ => none

def arrAt (s len : Nat) (n : Int) (x : AV) : Option AV := if 0 ≤ n ∧ n < len then addrAdd (n.toNat * s) x else none

def idxA (P : Program) (T : TypeId) (x : AV) : AV → Option AV
  | .sc (.int _ n) =>
    match P.underlying T with
    | some (.array len e) => (sz P e).bind fun s => arrAt s len n x
    | some (.slice e) => (sz P e).bind fun s => elemAt s n x
    | _ => none
  | _ => none

/-- 'index': of a string, of an array that is a value. -/
def indexA (P : Program) (T : TypeId) (x ix : AV) : Option AV :=
  match x, ix with
  | .sc v, .sc i => (pureRun P (Instr.index T v i)).map ofV
  | .agg cs, .sc (.int _ n) =>
    match P.underlying T with
    | some (.array len e) => (sz P e).bind fun s => if 0 ≤ n ∧ n < len then
        (match aggB P e with
         | some true => if n.toNat * s + s ≤ cs.length then some (.agg ((cs.drop (n.toNat * s)).take s)) else none
         | some false => cs[n.toNat * s]?
         | none => none) else none
    | _ => none
  | _, _ => none

def fieldA (P : Program) (T : TypeId) (f : Nat) : AV → Option AV
  | .agg cs =>
    match P.underlying T with
    | some (.struct fs) => (fs[f]?).bind fun fd => (sz P fd.type).bind fun s =>
        match aggB P fd.type with
        | some true => if fd.offset + s ≤ cs.length then some (.agg ((cs.drop fd.offset).take s)) else none
        | some false => cs[fd.offset]?
        | none => none
    | _ => none
  | _ => none

def natOf : AV → Option Nat
  | .sc (.int _ n) => if 0 ≤ n then some n.toNat else none
  | _ => none

def lowOf : Option AV → Option Nat
  | none => some 0
  | some x => natOf x

def highOf (d : Nat) : Option AV → Option Nat
  | none => some d
  | some x => natOf x

def sliceE (P : Program) (T : TypeId) (xs : List (List AV)) (l h : Nat) : Option AV :=
  if l ≤ h ∧ h ≤ xs.length then
    (match P.underlying T with
     | some (.slice e) => (sz P e).bind fun s =>
       if l = 0 then some (.esl (xs.take h)) else if l < h then ((xs[l]?).bind fun c => if c.length = s then some (.esl ((xs.take h).drop l)) else none) else some (.esl [])
     | _ => none) else none

def sliceO (P : Program) (T : TypeId) (i z off len l h : Nat) : Option AV :=
  if l ≤ h ∧ h ≤ len then
    (match P.underlying T with
     | some (.slice e) => (sz P e).bind fun s => if s = z then (if l = 0 then some (.sl i z off h) else if l < h then some (.sl i z (off + l * z) (h - l)) else some (.esl [])) else none
     | _ => none) else none

def sliceP (P : Program) (H : Hp) (T : TypeId) (i off l : Nat) (hi : Option AV) : Option AV :=
  match P.underlying T with
  | some (.array n e) => (sz P e).bind fun s => (highOf n hi).bind fun h => (getB H i).bind fun cs => if l ≤ h ∧ h ≤ n ∧ off + n * s ≤ cs.length then
      (if l = 0 then some (.sl i s off h) else if l < h then some (.sl i s (off + l * s) (h - l)) else some (.esl [])) else none
  | _ => none

def valOpt : Option AV → Option (Option Value)
  | none => some none
  | some (.sc v) => some (some v)
  | some _ => none

/-- 'x[lo:hi]' of a slice, of an array behind a pointer, of a string. -/
def sliceA (P : Program) (H : Hp) (T : TypeId) (x : AV) (lo hi mx : Option AV) : Option AV :=
  match mx with
  | some _ => none
  | none =>
    match x with
    | .esl xs => (lowOf lo).bind fun l => (highOf xs.length hi).bind fun h => sliceE P T xs l h
    | .sl i z off len => (lowOf lo).bind fun l => (highOf len hi).bind fun h => sliceO P T i z off len l h
    | .ptr i off => (lowOf lo).bind fun l => sliceP P H T i off l hi
    | .sc v => (valOpt lo).bind fun a => (valOpt hi).bind fun b => (pureRun P (Instr.sliceAt T v a b none)).map .sc
    | _ => none

/-- '==' and '!=' against nil. -/
def nilEq (P : Program) (T : TypeId) (x : AV) (b : Value) : Option Bool :=
  match P.underlying T with
  | some (.pointer _) => (match x, b with
    | .ptr _ _, .pointer none => some false
    | .eptr _, .pointer none => some false
    | .sc (.pointer none), .pointer none => some true
    | _, _ => none)
  | some (.slice _) => (match x, b with
    | .sl _ _ _ _, .slice none _ _ => some false
    | .sc (.slice none _ _), .slice none _ _ => some true
    | _, _ => none)
  | some (.map _ _) => (match x, b with
    | .map _, .map none => some false
    | .emap _, .map none => some false
    | .sc (.map none), .map none => some true
    | _, _ => none)
  | some (.func _ _ _) => (match x, b with
    | .func _ _ _, .nilFunc => some false
    | .sc .nilFunc, .nilFunc => some true
    | _, _ => none)
  | _ => none

/-- 'at most', so that the kernel reckons it on numbers that are known in part. -/
def leI : Int → Int → Bool
  | .ofNat a, .ofNat b => Nat.ble a b
  | .ofNat _, .negSucc _ => false
  | .negSucc _, .ofNat _ => true
  | .negSucc a, .negSucc b => Nat.ble b a

/-- Two numbers of one kind. -/
def intBin (op : BinOp) (k : IntKind) (a b : Int) : Option AV :=
  match op with
  | .add => some (.sc (.int k (k.wrap (a + b))))
  | .sub => some (.sc (.int k (k.wrap (a - b))))
  | .mul => some (.sc (.int k (k.wrap (a * b))))
  | .eql => some (.sc (.bool (a == b)))
  | .neq => some (.sc (.bool (a != b)))
  | .lss => some (.sc (.bool (!(leI b a))))
  | .leq => some (.sc (.bool (leI a b)))
  | .gtr => some (.sc (.bool (!(leI a b))))
  | .geq => some (.sc (.bool (leI b a)))
  | .quo => if b = 0 then none else some (.sc (.int k (k.wrap (a.tdiv b))))
  | .rem => if b = 0 then none else some (.sc (.int k (a.tmod b)))
  | .and => some (.sc (.int k (k.wrap (BitVec.ofInt k.bits a &&& BitVec.ofInt k.bits b).toNat)))
  | .or => some (.sc (.int k (k.wrap (BitVec.ofInt k.bits a ||| BitVec.ofInt k.bits b).toNat)))
  | .xor => some (.sc (.int k (k.wrap (BitVec.ofInt k.bits a ^^^ BitVec.ofInt k.bits b).toNat)))
  | .andNot => some (.sc (.int k (k.wrap (BitVec.ofInt k.bits a &&& ~~~ BitVec.ofInt k.bits b).toNat)))
  | _ => none

def shiftBin (op : BinOp) (k : IntKind) (a b : Int) : Option AV :=
  if b < 0 then none else
  match op with
  | .shl => some (.sc (.int k (k.wrap (a * 2 ^ (min b.toNat k.bits)))))
  | .shr => some (.sc (.int k (a.fdiv (2 ^ (min b.toNat k.bits)))))
  | _ => none

def isShift : BinOp → Bool
  | .shl => true
  | .shr => true
  | _ => false

def intBin' (op : BinOp) (k : IntKind) (a : Int) (k' : IntKind) (b : Int) : Option AV :=
  bif isShift op then shiftBin op k a b
  else if k = k' then intBin op k a b else none

def strBin (op : BinOp) (a b : ByteArray) : Option AV :=
  match op with
  | .add => if ((a.size + b.size : Nat) : Int) > 9223372036854775807 then none else some (.sc (.string (a ++ b)))
  | .eql => some (.sc (.bool (a.toList == b.toList)))
  | .neq => some (.sc (.bool (!(a.toList == b.toList))))
  | .lss => some (.sc (.bool (Op.bytesLess a.toList b.toList)))
  | .leq => some (.sc (.bool (Op.bytesLess a.toList b.toList || a.toList == b.toList)))
  | .gtr => some (.sc (.bool (!(Op.bytesLess a.toList b.toList || a.toList == b.toList))))
  | .geq => some (.sc (.bool (!(Op.bytesLess a.toList b.toList))))
  | _ => none

/-- '==', '!=' of what is not a number. -/
def boolBin (op : BinOp) (a b : Bool) : Option AV :=
  match op with
  | .eql => some (.sc (.bool (a == b)))
  | .neq => some (.sc (.bool (a != b)))
  | _ => none

def nilBin (P : Program) (op : BinOp) (T : TypeId) (x : AV) (b : Value) : Option AV :=
  match op with
  | .eql => (nilEq P T x b).map fun t => .sc (.bool t)
  | .neq => (nilEq P T x b).map fun t => .sc (.bool (!t))
  | _ => none

def binA (P : Program) (op : BinOp) (T : TypeId) (x y : AV) : Option AV :=
  match x with
  | .sc (.int k a) => (match y with
    | .sc (.int k' b) => intBin' op k a k' b
    | _ => none)
  | .sc (.string a) => (match y with
    | .sc (.string b) => strBin op a b
    | _ => none)
  | .sc (.bool a) => (match y with
    | .sc (.bool b) => (match P.underlying T with
      | some .bool => boolBin op a b
      | _ => none)
    | _ => none)
  | x => (match y with
    | .sc b => nilBin P op T x b
    | _ => none)

def unA (P : Program) (op : UnOp) : AV → Option AV
  | .sc a => (pureRun P (Op.unary op a)).map ofV
  | _ => none

def convA (P : Program) (src dst : TypeId) : AV → Option AV
  | .sc a => (pureRun P (convert src dst a)).map ofV
  | _ => none

def pickA (c a b : AV) : Option AV :=
  match c with
  | .sc (.bool true) => some a
  | .sc (.bool false) => some b
  | _ => none

def extractA (i : Nat) : AV → Option AV
  | .tup vs => vs[i]?
  | _ => none

def nilCheckA : AV → Option AV
  | .ptr i off => some (.ptr i off)
  | .eptr cs => some (.eptr cs)
  | .func f a b => some (.func f a b)
  | _ => none

/-- A literal's parts laid into its cells. -/
def fillA (place : Nat → Option (Nat × Nat)) (cells : List AV) : List (Nat × AV) → Option (List AV)
  | [] => some cells
  | (i, v) :: rest => (place i).bind fun (off, size) => (cellsOf v).bind fun vs =>
      if vs.length = size ∧ off + size ≤ cells.length then fillA place (setCells cells off vs) rest else none

def structPlaces (P : Program) (fs : List Field) : Option (List (Nat × Nat)) := mapO (fun f => (sz P f.type).map fun s => (f.offset, s)) fs

def buildA (P : Program) (T : TypeId) (parts : List (Nat × AV)) : Option AV :=
  (zeroA P T).bind fun z => (cellsOf z).bind fun zs =>
  match P.underlying T with
  | some (.struct fs) => (structPlaces P fs.toList).bind fun pl => (fillA (pl[·]?) zs parts).map .agg
  | some (.array _ e) => (sz P e).bind fun s => (fillA (fun i => some (i * s, s)) zs parts).map .agg
  | _ => none

def repl {α : Type} (xs : List α) : Nat → List α
  | 0 => []
  | n + 1 => xs ++ repl xs n

def buildSliceA (P : Program) (T : TypeId) (len : Nat) (parts : List (Nat × AV)) (H : Hp) : Option (AV × Hp) :=
  match P.underlying T with
  | some (.slice e) => (sz P e).bind fun s => (zeroA P e).bind fun z => (cellsOf z).bind fun zs =>
      if zs.length = s ∧ 0 < s ∧ len * s ≤ 16777216 then
        (fillA (fun i => some (i * s, s)) (repl zs len) parts).map fun cs => (.sl H.n s 0 len, H.push (.cells cs))
      else none
  | _ => none

def makeSliceA (P : Program) (T : TypeId) (l c : AV) (H : Hp) : Option (AV × Hp) :=
  match P.underlying T, l, c with
  | some (.slice e), .sc (.int _ n), .sc (.int _ m) => (P.info? e).bind fun info => (zeroA P e).bind fun z => (cellsOf z).bind fun zs =>
      if zs.length = info.size ∧ 0 < info.size ∧ 0 ≤ n ∧ n = m ∧ n < 9223372036854775808 ∧ info.bytes * n ≤ 281474976710656 then
        some (.sl H.n info.size 0 n.toNat, H.push (.cells (repl zs n.toNat)))
      else none
  | _, _, _ => none

/-- The rows that a slice holds. -/
def chunks (z : Nat) : Nat → List AV → List (List AV)
  | 0, _ => []
  | n + 1, cs => cs.take z :: chunks z n (cs.drop z)

def rowsOf (z : Nat) (H : Hp) : AV → Option (List AV × Nat)
  | .sl i z' off len => (getB H i).bind fun cs => if z' = z ∧ off + len * z ≤ cs.length then some ((cs.drop off).take (len * z), len) else none
  | .esl xs => if xs.all (fun x => x.length == z) then some (xs.flatten, xs.length) else none
  | .sc (.slice none 0 0) => some ([], 0)
  | _ => none

def appendA (P : Program) (sT : TypeId) (s x : AV) (H : Hp) : Option (AV × Hp) :=
  match P.underlying sT with
  | some (.slice e) => (P.info? e).bind fun info => (zeroA P e).bind fun z => (cellsOf z).bind fun zs => (rowsOf info.size H x).bind fun p =>
    if info.size = 0 ∨ zs.length ≠ info.size ∨ p.1.all one = false then none else
    match s with
    | .sc (.slice none 0 0) =>
      if p.2 = 0 then some (s, H) else
      if p.2 * info.bytes ≤ 140737488355328 ∧ p.2 ≤ 4611686018427387904 then some (.sl H.n info.size 0 p.2, H.push (.cells p.1)) else none
    | .sl i z off len => (getB H i).bind fun cs =>
      if z = info.size ∧ off = 0 ∧ len * z = cs.length then
        (if p.2 = 0 then some (s, H) else
         if (len + p.2) * info.bytes ≤ 140737488355328 ∧ len + p.2 ≤ 4611686018427387904 then some (.sl H.n z 0 (len + p.2), (H.put i none).push (.cells (cs ++ p.1))) else none)
      else none
    | _ => none
  | _ => none

def lenP (P : Program) (T : TypeId) (x : AV) : Option AV :=
  match P.underlying T, x with
  | some (.slice _), .sl _ _ _ len => some (.sc (.int .i64 len))
  | some (.slice _), .esl xs => some (.sc (.int .i64 xs.length))
  | some (.slice _), .sc (.slice none 0 0) => some (.sc (.int .i64 0))
  | some .string, .sc (.string s) => some (.sc (.int .i64 s.size))
  | some (.map _ _), .emap es => some (.sc (.int .i64 es.length))
  | some (.array n _), _ => some (.sc (.int .i64 n))
  | _, _ => none

def lenM (P : Program) (T : TypeId) (es : List (Value × AV)) : Option AV :=
  match P.underlying T with
  | some (.map _ _) => some (.sc (.int .i64 es.length))
  | _ => none

def lenA (P : Program) (T : TypeId) (H : Hp) (x : AV) : Option AV :=
  match x with
  | .map i => (getM H i).bind fun es => lenM P T es
  | x => lenP P T x

def copyA (P : Program) (T : TypeId) (d x : AV) (H : Hp) : Option (AV × Hp) :=
  match P.underlying T, d with
  | some (.slice e), .sl i z off len => (sz P e).bind fun s => (rowsOf s H x).bind fun (src, n) => (getB H i).bind fun cs =>
      if z = s ∧ off + (min n len) * s ≤ cs.length ∧ (src.take ((min n len) * s)).all one = true ∧ n * s = src.length then
        some (.sc (.int .i64 (min n len : Nat)), H.put i (some (.cells (setCells cs off (src.take ((min n len) * s))))))
      else none
  | _, _ => none

def keyIs : TypeDesc → Value → Bool
  | .int k, .int k' _ => k == k'
  | .string, .string _ => true
  | .bool, .bool _ => true
  | _, _ => false

def keyEq : Value → Value → Bool
  | .int _ a, .int _ b => a == b
  | .string a, .string b => a == b
  | .bool a, .bool b => a == b
  | _, _ => false

def findA (k : Value) : List (Value × AV) → Option AV
  | [] => none
  | (k', v) :: es => bif keyEq k k' then some v else findA k es

def updA (k : Value) (v : AV) : List (Value × AV) → List (Value × AV)
  | [] => [(k, v)]
  | (k', v') :: es => bif keyEq k k' then (k, v) :: es else (k', v') :: updA k v es

def entriesP : AV → Option (List (Value × AV))
  | .emap es => some es
  | .sc (.map none) => some []
  | _ => none

def entriesOf (H : Hp) : AV → Option (List (Value × AV))
  | .map i => getM H i
  | x => entriesP x

def lookupA (P : Program) (T : TypeId) (ok : Bool) (x k : AV) (H : Hp) : Option AV :=
  match P.underlying T, k with
  | some (.map kT eT), .sc kv => (P.underlying kT).bind fun kd => (entriesOf H x).bind fun es =>
      if keyIs kd kv ∧ es.all (fun e => keyIs kd e.1) = true then
        (zeroA P eT).bind fun z =>
          match findA kv es with
          | some v => some (bif ok then .tup [v, .sc (.bool true)] else v)
          | none => some (bif ok then .tup [z, .sc (.bool false)] else z)
      else none
  | _, _ => none

def mapUpdateA (P : Program) (T : TypeId) (x k v : AV) (H : Hp) : Option Hp :=
  match P.underlying T, k, x with
  | some (.map kT _), .sc kv, .map i => (P.underlying kT).bind fun kd => (getM H i).bind fun es =>
      if keyIs kd kv ∧ es.all (fun e => keyIs kd e.1) = true then some (H.put i (some (.map (updA kv v es)))) else none
  | _, _, _ => none

def expoDepth : Nat := 12

def expoS (v : Value) : Option AV :=
  match v with
  | .slice none 0 0 => some (.esl [])
  | _ => some (.sc v)

/-- Memory of the running call, seen by its contents. -/
def expo (H : Hp) : Nat → AV → Option AV
  | 0, _ => none
  | n + 1, x =>
    match x with
    | .undef => some .undef
    | .sc v => expoS v
    | .ptr i off => (getB H i).bind fun cs => (mapO (expo H n) (cs.drop off)).map .eptr
    | .sl i z off len => (getB H i).bind fun cs => if off + len * z ≤ cs.length then (mapO (expo H n) ((cs.drop off).take (len * z))).map fun cs => .esl (chunks z len cs) else none
    | .map i => (getM H i).bind fun es => (mapO (fun e => (expo H n e.2).map fun v => (e.1, v)) es).map .emap
    | .func f a b => (mapO (expo H n) a).bind fun a => (mapO (expo H n) b).map fun b => .func f a b
    | .agg cs => (mapO (expo H n) cs).map .agg
    | .tup cs => (mapO (expo H n) cs).map .tup
    | x => some x

def extFree (H : Hp) : Nat → AV → Bool
  | 0, _ => false
  | n + 1, x =>
    match x with
    | .undef => true
    | .sc _ => true
    | .ptr i off => match getB H i with | some cs => (cs.drop off).all (extFree H n) | none => false
    | .sl i z off len => match getB H i with | some cs => ((cs.drop off).take (len * z)).all (extFree H n) | none => false
    | .map i => match getM H i with | some es => es.all (fun e => extFree H n e.2) | none => false
    | .func _ a b => a.all (extFree H n) && b.all (extFree H n)
    | .agg cs => cs.all (extFree H n)
    | .tup cs => cs.all (extFree H n)
    | .eptr _ => false
    | .esl xs => xs.isEmpty
    | .emap _ => false

def ownFree : Nat → AV → Bool
  | 0, _ => false
  | n + 1, x =>
    match x with
    | .ptr _ _ => false
    | .sl _ _ _ _ => false
    | .map _ => false
    | .func _ a b => a.all (ownFree n) && b.all (ownFree n)
    | .agg cs => cs.all (ownFree n)
    | .tup cs => cs.all (ownFree n)
    | _ => true

/-- What a function is, as the evaluator needs it. -/
structure FnA where
  code : Code
  ntmps : Nat
  results : List ResultVar

/-- The evaluator's surroundings: the program, its functions, which of them are taken as pure ones, whether loops' heads are cleared. -/
structure Env where
  P : Program
  fn : FuncId → Option FnA
  isPure : FuncId → Bool
  clr : Bool

abbrev Rec := FuncId → List AV → Hp → Option (AV × Hp)

/-- A call of a pure function: by the contents of what it is handed; what it hands back, by its contents. -/
def callPure (r : Rec) (f : FuncId) (args : List AV) : Option (AV × Bool) :=
  (r f args .nil).bind fun (v, Hc) => (expo Hc expoDepth v).map fun v' => (v', extFree Hc expoDepth v)

def callA (env : Env) (r : Rec) (f : FuncId) (args : List AV) (H : Hp) : Option (AV × Hp) :=
  bif env.isPure f then
    (mapO (expo H expoDepth) args).bind fun args' => (callPure r f args').bind fun (v, fl) =>
      bif args.all (ownFree expoDepth) || fl then some (v, H) else none
  else r f args H

def callV (env : Env) (r : Rec) (g : AV) (args : List AV) (H : Hp) : Option (AV × Hp) :=
  match g with
  | .func f a b => callA env r f (a ++ args ++ b) H
  | _ => none

def vA (H : Hp) (x : Option AV) : Option (AV × Hp) := x.bind fun x => some (x, H)
def uA (x : Option Hp) : Option (AV × Hp) := x.bind fun H => some (uv, H)
def boxA (H : Hp) (x : AV) : Option (AV × Hp) := (cellsOf x).bind fun cs => some (.ptr H.n 0, H.push (.cells cs))
def allocA (P : Program) (H : Hp) (T : TypeId) : Option (AV × Hp) := (zeroA P T).bind fun z => boxA H z
def makeMapA (H : Hp) : Option Operand → Option (AV × Hp)
  | none => some (.map H.n, H.push (.map []))
  | some _ => none
def makeFuncA (H : Hp) (first cap : List AV) : Fn → Option (AV × Hp)
  | .func f => some (.func f first cap, H)
  | _ => none
def partsA (fr : Fr) (parts : Array (Nat × Operand)) : List (Nat × AV) := parts.toList.map fun p => (p.1, opd fr p.2)
def lenOp (P : Program) (H : Hp) : List AV → List TypeId → Option (AV × Hp)
  | [x], [T] => vA H (lenA P T H x)
  | _, _ => none
def appendOp (P : Program) (H : Hp) : List AV → List TypeId → Option (AV × Hp)
  | [s, x], [T, T'] => if T' = T then appendA P T s x H else none
  | _, _ => none
def copyOp (P : Program) (H : Hp) : List AV → List TypeId → Option (AV × Hp)
  | [d, x], [T, _] => copyA P T d x H
  | _, _ => none
def minOp (P : Program) (H : Hp) (ts : Array TypeId) (ty : TypeId) : List AV → Option (AV × Hp)
  | [.sc a, .sc b] => vA H ((pureRun P (Builtin.min_ ts ty #[a, b])).map ofV)
  | _ => none
def maxOp (P : Program) (H : Hp) (ts : Array TypeId) (ty : TypeId) : List AV → Option (AV × Hp)
  | [.sc a, .sc b] => vA H ((pureRun P (Builtin.max_ ts ty #[a, b])).map ofV)
  | _ => none
def builtinA (P : Program) (H : Hp) (b : Builtin) (args : List AV) (ts : Array TypeId) (ty : TypeId) : Option (AV × Hp) :=
  match b with
  | .len => lenOp P H args ts.toList
  | .append => appendOp P H args ts.toList
  | .copy => copyOp P H args ts.toList
  | .min => minOp P H ts ty args
  | .max => maxOp P H ts ty args
  | _ => none
def callOp (env : Env) (r : Rec) (fr : Fr) (H : Hp) (c : Call) (ty : TypeId) : Option (AV × Hp) :=
  match c.callee with
  | .value g => callV env r (opd fr g) (c.args.toList.map (opd fr)) H
  | .builtin b => builtinA env.P H b (c.args.toList.map (opd fr)) c.argTypes ty
  | _ => none
def sliceOp (P : Program) (fr : Fr) (H : Hp) (T : TypeId) (x : Operand) (lo hi mx : Option Operand) : Option AV :=
  sliceA P H T (opd fr x) (lo.map (opd fr)) (hi.map (opd fr)) (mx.map (opd fr))

/-- One operation: what it yields, and the heap behind it. -/
def evOp (env : Env) (r : Rec) (fr : Fr) (H : Hp) (ty : TypeId) : Op → Option (AV × Hp)
  | .move x => some (opd fr x, H)
  | .assign x => some (opd fr x, H)
  | .pick c a b => vA H (pickA (opd fr c) (opd fr a) (opd fr b))
  | .alloc T => allocA env.P H T
  | .box _ x => boxA H (opd fr x)
  | .build T parts => vA H (buildA env.P T (partsA fr parts))
  | .buildSlice T len parts => buildSliceA env.P T len (partsA fr parts) H
  | .load T a => vA H (loadA env.P H T (opd fr a))
  | .store T a x => uA (storeA env.P H T (opd fr a) (opd fr x))
  | .nilCheck x => vA H (nilCheckA (opd fr x))
  | .binOp op T x y _ => vA H (binA env.P op T (opd fr x) (opd fr y))
  | .unOp op _ x => vA H (unA env.P op (opd fr x))
  | .convert s d x => vA H (convA env.P s d (opd fr x))
  | .makeFunc f first cap => makeFuncA H (first.toList.map (opd fr)) (cap.toList.map (opd fr)) f
  | .makeMap _ m => makeMapA H m
  | .makeSlice T l c => makeSliceA env.P T (opd fr l) (opd fr c) H
  | .slice T x lo hi mx => vA H (sliceOp env.P fr H T x lo hi mx)
  | .fieldAddr s x f => vA H (fieldAddrA env.P s f (opd fr x))
  | .field T x f => vA H (fieldA env.P T f (opd fr x))
  | .indexAddr T x i => vA H (idxA env.P T (opd fr x) (opd fr i))
  | .index T x i => vA H (indexA env.P T (opd fr x) (opd fr i))
  | .lookup T x k ok => vA H (lookupA env.P T ok (opd fr x) (opd fr k) H)
  | .mapUpdate T m k x => uA (mapUpdateA env.P T (opd fr m) (opd fr k) (opd fr x) H)
  | .extract x i => vA H (extractA i (opd fr x))
  | .call c => callOp env r fr H c ty
  | _ => none

def putA (fr : Fr) (dst : Option Tmp) (v : AV) : Fr :=
  match dst with
  | some d => fr.set d v
  | none => fr

/- Forcing: each of these is 'k' at the value itself; the kernel, which evaluates late, then holds the value written out. -/
def frN {R : Type} (k : Nat → R) : Nat → R
  | 0 => k 0
  | n + 1 => k (n + 1)

def frI {R : Type} (k : Int → R) : Int → R
  | .ofNat n => frN (fun n => k (.ofNat n)) n
  | .negSucc n => frN (fun n => k (.negSucc n)) n

def frV {R : Type} (k : Value → R) : Value → R
  | .bool true => k (.bool true)
  | .bool false => k (.bool false)
  | .int kd n => frI (fun n => k (.int kd n)) n
  | v => k v

def frL {α R : Type} (f : α → (α → R) → R) : List α → (List α → R) → R
  | [], k => k []
  | x :: xs, k => f x fun x => frL f xs fun xs => k (x :: xs)

def frA {R : Type} : Nat → AV → (AV → R) → R
  | 0, x, k => k x
  | n + 1, x, k =>
    match x with
    | .sc v => frV (fun v => k (.sc v)) v
    | .ptr i off => frN (fun i => frN (fun off => k (.ptr i off)) off) i
    | .sl i z off len => frN (fun i => frN (fun z => frN (fun off => frN (fun len => k (.sl i z off len)) len) off) z) i
    | .map i => frN (fun i => k (.map i)) i
    | .agg cs => frL (frA n) cs fun cs => k (.agg cs)
    | .tup cs => frL (frA n) cs fun cs => k (.tup cs)
    | .func f a b => frL (frA n) a fun a => frL (frA n) b fun b => k (.func f a b)
    | .eptr cs => frL (frA n) cs fun cs => k (.eptr cs)
    | x => k x

def frB {R : Type} (k : Option Blk → R) : Option Blk → R
  | some (.cells cs) => frL (frA 2) cs fun cs => k (some (.cells cs))
  | some (.map es) => frL (fun e k => frV (fun a => frA 2 e.2 fun b => k (a, b)) e.1) es fun es => k (some (.map es))
  | none => k none

def frS {α R : Type} : List α → (List α → R) → R
  | [], k => k []
  | x :: xs, k => frS xs fun xs => k (x :: xs)

/-- The heap's spine, and its newest block. -/
def frH {R : Type} (H : Hp) (k : Hp → R) : R :=
  match H with
  | ⟨n, bs⟩ => frN (fun n => frS bs fun bs =>
      match bs with
      | [] => k ⟨n, []⟩
      | b :: bs => frB (fun b => k ⟨n, b :: bs⟩) b) n

/-- The frame behind an operation. -/
def putK {R : Type} (clr : Bool) (fr : Fr) (dst : Option Tmp) (v : AV) (H : Hp) (k : Fr → Hp → R) : R :=
  bif clr then k (putA fr dst v) H else frA 3 v fun v => frS (putA fr dst v) fun fr => k fr H

/-- A guard: run, skip, or both ways with the slot known. -/
def guardK {R : Type} (fr : Fr) (s : Nat) (want : Bool) (run skip : Fr → Option R) : AV → Option R
  | .sc (.bool b) => bif b then (bif want then run (fr.set s (.sc (.bool true))) else skip (fr.set s (.sc (.bool true))))
      else (bif want then skip (fr.set s (.sc (.bool false))) else run (fr.set s (.sc (.bool false))))
  | .sc (.tuple _) => skip fr
  | _ => none

def slotOf (ops : Array Oper) (j : Nat) : Nat := ((ops[j]?).bind (·.dst)).getD 1000000

/-- The operations of a region, in the order of the text. Where a guard's slot is a Bool that is not known, both ways go on with it known. -/
def evOps {R : Type} (env : Env) (r : Rec) (ops : Array Oper) (k : Fr → Hp → Option R) : List Oper → Fr → Hp → Option R
  | [], fr, H => k fr H
  | o :: os, fr, H =>
    match o.guard with
    | none => (evOp env r fr H o.type o.op).bind fun p => putK env.clr fr o.dst p.1 p.2 (evOps env r ops k os)
    | some (j, want) =>
      match (ops[j]?).bind (·.dst) with
      | none => none
      | some s =>
        guardK fr s want
          (fun fr => (evOp env r fr H o.type o.op).bind fun p => putK env.clr fr o.dst p.1 p.2 (evOps env r ops k os))
          (fun fr => putK env.clr fr o.dst uv H (evOps env r ops k os))
          (fr.getD s .undef)

/-- What an operation does to the heap: 0 nothing, 1 it reads, 2 it makes a block, 3 it may change blocks. -/
def cls (env : Env) : Op → Nat
  | .move _ => 0
  | .assign _ => 0
  | .pick _ _ _ => 0
  | .build _ _ => 0
  | .binOp _ _ _ _ _ => 0
  | .unOp _ _ _ => 0
  | .convert _ _ _ => 0
  | .makeFunc _ _ _ => 0
  | .slice _ _ _ _ _ => 1
  | .fieldAddr _ _ _ => 0
  | .field _ _ _ => 0
  | .indexAddr _ _ _ => 0
  | .index _ _ _ => 0
  | .extract _ _ => 0
  | .nilCheck _ => 0
  | .load _ _ => 1
  | .lookup _ _ _ _ => 1
  | .alloc _ => 2
  | .box _ _ => 2
  | .buildSlice _ _ _ => 2
  | .makeMap _ _ => 2
  | .makeSlice _ _ _ => 2
  | .call c => match c.callee with
    | .value (.func f) => bif env.isPure f then 1 else 3
    | .builtin .len => 1
    | .builtin .min => 0
    | .builtin .max => 0
    | _ => 3
  | _ => 3

def opTmps (o : Oper) : List Nat := o.op.operands.toList.filterMap fun | .tmp t => some t | _ => none

/-- Every slot that an operation reads or writes. -/
def namesOf (ops : Array Oper) (o : Oper) : List Nat :=
  o.dst.toList ++ (match o.guard with | some (j, _) => [slotOf ops j] | none => []) ++ opTmps o

def writesIn (o : Oper) (ns : List Nat) : Bool := match o.dst with | some d => ns.elem d | none => false

/-- Two operations, the first ahead of the second in the text, of which neither waits for the other. -/
def freeOk (env : Env) (ops : Array Oper) (x y : Oper) : Bool :=
  !(writesIn x (namesOf ops y)) && !(writesIn y (namesOf ops x)) &&
  (let a := cls env x.op; let b := cls env y.op
   (Nat.ble a 2 && Nat.ble b 2) || (Nat.beq a 0) || (Nat.beq b 0) ||
   (match x.op, y.op with | .load _ (.tmp _), .store _ (.tmp _) _ => true | _, _ => false))

def addAll (s : List Nat) : List Nat → List Nat
  | [] => s
  | x :: xs => addAll (bif s.elem x then s else x :: s) xs

def predsOf (acc : List (List Nat)) (s : List Nat) : List Edge → List Nat
  | [] => s
  | e :: es => predsOf acc (bif Region.binds .any e then addAll s (e.on :: acc.getD e.on []) else s) es

/-- Of each operation: those for which it waits. -/
def predsL (acc : List (List Nat)) : List Oper → List (List Nat)
  | [] => acc
  | o :: os => predsL (acc ++ [predsOf acc [] o.after.toList]) os

def preds (ops : Array Oper) : List (List Nat) := predsL [] ops.toList

def pairOk (env : Env) (ops : Array Oper) (pr : List (List Nat)) (i j : Nat) : Bool :=
  (pr.getD j []).elem i || (match ops[i]?, ops[j]? with | some x, some y => freeOk env ops x y | _, _ => false)

def edgesBack (ops : Array Oper) : Bool :=
  (List.range ops.size).all fun j => match ops[j]? with
    | some o => o.after.toList.all fun e => !(Region.binds .any e) || Nat.blt e.on j
    | none => true

/-- May the order of the text stand for every order? -/
def drawOk (env : Env) (ops : Array Oper) : Bool :=
  env.P.follows .mixedOrders && edgesBack ops && (let pr := preds ops; (List.range ops.size).all fun j => (List.range j).all fun i => pairOk env ops pr i j)

def ptrApart (fr : Fr) (s t : Nat) : Bool :=
  match fr.getD s .undef, fr.getD t .undef with
  | .ptr i _, .ptr j _ => !(Nat.beq i j)
  | .eptr _, .ptr _ _ => true
  | _, _ => false

def stays (ops : Array Oper) (i s : Nat) : Bool :=
  (List.range ops.size).all fun j => Nat.blt j i || (match ops[j]? with
    | some o => (match o.dst with | some d => !(Nat.beq d s) | none => true)
    | none => true)

def dynPair (pr : List (List Nat)) (ops : Array Oper) (fr : Fr) (i j : Nat) : Bool :=
  (pr.getD j []).elem i || (match ops[i]?, ops[j]? with
    | some x, some y => (match x.op, y.op with | .load _ (.tmp s), .store _ (.tmp t) _ => ptrApart fr s t && stays ops i s && stays ops j t | _, _ => true)
    | _, _ => true)

/-- Loads that may come behind a store: from another block. -/
def drawDyn (ops : Array Oper) (fr : Fr) : Bool :=
  let pr := preds ops
  (List.range ops.size).all fun j => (List.range j).all fun i => dynPair pr ops fr i j

/-- The slots that a piece of code reads first, and those that it writes first. -/
structure RW where
  rd : List Nat
  wr : List Nat

def RW.read (x : RW) (t : Nat) : RW := bif x.rd.elem t || x.wr.elem t then x else ⟨t :: x.rd, x.wr⟩
def RW.write (x : RW) (t : Nat) : RW := bif x.rd.elem t || x.wr.elem t then x else ⟨x.rd, t :: x.wr⟩
def RW.opd (x : RW) : Operand → RW
  | .tmp t => x.read t
  | _ => x
def RW.opds (x : RW) : List Operand → RW
  | [] => x
  | o :: os => (x.opd o).opds os
def RW.dst (x : RW) : Option Nat → RW
  | some d => x.write d
  | none => x
def RW.ops (ops : Array Oper) : RW → List Oper → RW
  | x, [] => x
  | x, o :: os => RW.ops ops (((match o.guard with | some (j, _) => x.read (slotOf ops j) | none => x).opds o.op.operands.toList).dst o.dst) os
def RW.code (x : RW) : Code → RW
  | .region _ ops _ => RW.ops ops x ops.toList
  | .seq a b => (x.code a).code b
  | .cond c a b => ((x.opd c).code a).code b
  | .block _ c => x.code c
  | .loop c => x.code c
  | .scope c => x.code c
  | _ => x

def tmpsOf (c : Code) : List Nat := ((⟨[], []⟩ : RW).code c).wr

def clearAll (fr : Fr) : List Nat → Fr
  | [] => fr
  | t :: ts => clearAll (fr.set t .undef) ts

def below (L : Nat) : Nat → AV → Bool
  | 0, _ => false
  | n + 1, x =>
    match x with
    | .ptr i _ => decide (i < L)
    | .sl i _ _ _ => decide (i < L)
    | .map i => decide (i < L)
    | .func _ a b => a.all (below L n) && b.all (below L n)
    | .agg cs => cs.all (below L n)
    | .tup cs => cs.all (below L n)
    | _ => true

def blkBelow (L : Nat) : Option Blk → Bool
  | some (.cells cs) => cs.all (below L expoDepth)
  | some (.map es) => es.all (fun e => below L expoDepth e.2)
  | none => true

/-- At a loop's head: what the last round made is forgotten if nothing leads to it. -/
def gcA (L : Nat) (fr : Fr) (H : Hp) : Hp :=
  bif Nat.ble H.n L then H else
  bif fr.all (below L expoDepth) && (H.trunc L).bs.all (blkBelow L) then H.trunc L else H

def loopN {R : Type} (clr : Bool) (ts : List Nat) (L : Nat) (step : Fr → Hp → (Fr → Hp → Option R) → Option R) : Nat → Fr → Hp → Option R
  | 0, _, _ => none
  | n + 1, fr, H =>
    bif clr then
      (let fr := clearAll fr ts; step fr (gcA L fr H) (loopN clr ts L step n))
    else step fr H (loopN clr ts L step n)

/-- Jumps to labels of a scope. -/
def jumpN {R : Type} (clr : Bool) (ts : List Nat) (L : Nat) (c : Code) (kg : Nat → Fr → Hp → Option R) (step : Nat → Fr → Hp → (Nat → Fr → Hp → Option R) → Option R) : Nat → Nat → Fr → Hp → Option R
  | 0, _, _, _ => none
  | n + 1, l, fr, H =>
    bif (findLabel c l).isSome then
      (bif clr then
        (let fr := clearAll fr ts; step l fr (gcA L fr H) (jumpN clr ts L c kg step n))
      else step l fr H (jumpN clr ts L c kg step n))
    else kg l fr H

/-- A piece of code: what becomes of its normal end, of a jump to the end of a block, of a return, of a jump to a label. 'seek': begin behind a label. -/
def ev {R : Type} (env : Env) (r : Rec) (fuel : Nat) : Option Nat → Code → Fr → Hp → (Fr → Hp → Option R) → (Nat → Fr → Hp → Option R) → (Fr → Hp → Option R) → (Nat → Fr → Hp → Option R) → Option R
  | none, .skip, fr, H, kn, _, _, _ => kn fr H
  | none, .label _, fr, H, kn, _, _, _ => kn fr H
  | none, .ret, fr, H, _, _, kr, _ => kr fr H
  | none, .exit id, fr, H, _, kx, _, _ => kx id fr H
  | none, .goto l, fr, H, _, _, _, kg => kg l fr H
  | none, .seq a b, fr, H, kn, kx, kr, kg => ev env r fuel none a fr H (fun fr H => ev env r fuel none b fr H kn kx kr kg) kx kr kg
  | none, .cond c a b, fr, H, kn, kx, kr, kg =>
    match opd fr c with
    | .sc (.bool t) => bif t then ev env r fuel none a fr H kn kx kr kg else ev env r fuel none b fr H kn kx kr kg
    | _ => none
  | none, .block id c, fr, H, kn, kx, kr, kg => ev env r fuel none c fr H kn (fun i fr H => bif Nat.beq i id then kn fr H else kx i fr H) kr kg
  | none, .loop c, fr, H, _, kx, kr, kg => loopN env.clr (tmpsOf c) H.n (fun fr H kn => ev env r fuel none c fr H kn kx kr kg) fuel fr H
  | none, .scope c, fr, H, kn, kx, kr, kg =>
    ev env r fuel none c fr H kn kx kr (jumpN env.clr (tmpsOf c) H.n c kg (fun l fr H kg => ev env r fuel (some l) c fr H kn kx kr kg) fuel)
  | none, .region _ ops draw, fr, H, kn, _, _, _ =>
    bif draw then (bif drawOk env ops then evOps env r ops (fun fr H => bif drawDyn ops fr then kn fr H else none) ops.toList fr H else none)
    else evOps env r ops kn ops.toList fr H
  | some l, .seq a b, fr, H, kn, kx, kr, kg =>
    bif (findLabel a l).isSome then ev env r fuel (some l) a fr H (fun fr H => ev env r fuel none b fr H kn kx kr kg) kx kr kg
    else ev env r fuel (some l) b fr H kn kx kr kg
  | some l, .label l', fr, H, kn, _, _, _ => bif Nat.beq l' l then kn fr H else none
  | _, _, _, _, _, _, _, _ => none

def resA (P : Program) (fr : Fr) (H : Hp) : ResultVar → Option AV
  | .tmp t => fr[t]?
  | .cell a T => (fr[a]?).bind fun x => loadA P H T x

def retA (P : Program) (rs : List ResultVar) (fr : Fr) (H : Hp) : Option (AV × Hp) :=
  match rs with
  | [r] => (resA P fr H r).bind fun v => some (v, H)
  | rs => (mapO (resA P fr H) rs).bind fun vs => some (.tup vs, H)

def frame0 (args : List AV) (n : Nat) : Fr := args ++ List.replicate (n - args.length) uv

def runFn (env : Env) : Nat → Rec
  | 0 => fun _ _ _ => none
  | n + 1 => fun f args H => (env.fn f).bind fun fn =>
      ev env (runFn env n) n none fn.code (frame0 args fn.ntmps) H (retA env.P fn.results) (fun _ _ _ => none) (retA env.P fn.results) (fun _ _ _ => none)

end Go.AM
