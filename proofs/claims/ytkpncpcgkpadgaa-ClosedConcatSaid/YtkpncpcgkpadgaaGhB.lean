/- GH, second part: the operations that touch no memory. -/
import Derived.Test.YtkpncpcgkpadgaaGhA
import Derived.Laws.StructEq
import Derived.Laws.Sem
set_option linter.all false
namespace Go.Proofs.Ytkpncpcgkpadgaa.GH
open Go

/-- What a slot holds: a value; a pointer into a box of this frame; a slice over a whole box of this frame; nothing that is told. -/
inductive AV where
  | v (x : Value)
  | loc (k off : Nat)
  | lsl (k n : Nat)
  | junk

abbrev Env := Nat → AV
abbrev Sto := Nat → Option (List Value)

def Env.put (e : Env) (d : Nat) (x : AV) : Env := fun t => bif Nat.beq t d then x else e t
def Env.ev (e : Env) : Operand → AV
  | .tmp t => e t
  | .const v => .v v
  | .global g => .v (.pointer (some ⟨g, 0, none⟩))
  | .func f => .v (.func (.func f) #[] #[])
def Sto.put (S : Sto) (k : Nat) (cs : List Value) : Sto := fun t => bif Nat.beq t k then some cs else S t

/-- A choice by a Bool. -/
def bc (b : Bool) (X Y : Prop) : Prop := match b with
  | true => X
  | false => Y

def vK (x : AV) (k : Value → Prop) : Prop := match x with
  | .v u => k u
  | _ => False
def ptrK (p : Option Addr) (k : Addr → Prop) : Prop := match p with
  | some a => k a
  | none => False
def optK {α : Type} (p : Option α) (k : α → Prop) : Prop := match p with
  | some a => k a
  | none => False

def intBinK (op : BinOp) (kd kd' : IntKind) (m n : Int) (k : Value → Prop) : Prop :=
  match op with
  | .shl => 0 ≤ n ∧ k (.int kd (kd.wrap (m * 2 ^ (min n.toNat kd.bits))))
  | .shr => 0 ≤ n ∧ k (.int kd (m.fdiv (2 ^ (min n.toNat kd.bits))))
  | op => bc (decide (kd = kd')) (match op with
    | .add => k (.int kd (kd.wrap (m + n)))
    | .sub => k (.int kd (kd.wrap (m - n)))
    | .mul => k (.int kd (kd.wrap (m * n)))
    | .quo => n ≠ 0 ∧ k (.int kd (kd.wrap (m.tdiv n)))
    | .rem => n ≠ 0 ∧ k (.int kd (m.tmod n))
    | .and => k (.int kd (kd.wrap (BitVec.ofInt kd.bits m &&& BitVec.ofInt kd.bits n).toNat))
    | .or => k (.int kd (kd.wrap (BitVec.ofInt kd.bits m ||| BitVec.ofInt kd.bits n).toNat))
    | .xor => k (.int kd (kd.wrap (BitVec.ofInt kd.bits m ^^^ BitVec.ofInt kd.bits n).toNat))
    | .andNot => k (.int kd (kd.wrap (BitVec.ofInt kd.bits m &&& ~~~(BitVec.ofInt kd.bits n)).toNat))
    | .eql => k (.bool (m == n))
    | .neq => k (.bool (m != n))
    | .lss => k (.bool (decide (m < n)))
    | .leq => k (.bool (decide (m ≤ n)))
    | .gtr => k (.bool (decide (m > n)))
    | .geq => k (.bool (decide (m ≥ n)))
    | _ => False) False

def strBinK (op : BinOp) (x y : ByteArray) (k : Value → Prop) : Prop :=
  match op with
  | .add => ((x.size + y.size : Nat) : Int) ≤ IntKind.i64.max ∧ k (.string (x ++ y))
  | .eql => k (.bool (x.toList == y.toList))
  | .neq => k (.bool (!(x.toList == y.toList)))
  | .lss => k (.bool (Op.bytesLess x.toList y.toList))
  | .leq => k (.bool (Op.bytesLess x.toList y.toList || x.toList == y.toList))
  | .gtr => k (.bool (!(Op.bytesLess x.toList y.toList || x.toList == y.toList)))
  | .geq => k (.bool (!(Op.bytesLess x.toList y.toList)))
  | _ => False

/-- The equality of two values of a type, where it is one Bool. -/
def conj : List Bool → Bool
  | [] => true
  | [b] => b
  | b :: bs => b && conj bs

def isAggT (P : Program) (t : TypeId) : Bool := match P.underlying t with
  | some (.struct _) => true
  | some (.array _ _) => true
  | _ => false

def partV (P : Program) (t : TypeId) (cs : List Value) (off : Nat) : Option Value :=
  match P.info? t, P.underlying t with
  | some i, some (.struct _) => some (.agg (List.toArray ((cs.drop off).take i.size)))
  | some i, some (.array _ _) => some (.agg (List.toArray ((cs.drop off).take i.size)))
  | some _, some _ => cs[off]?
  | _, _ => none

/-- A comparison with nil. -/
def nilEq {α : Type} (a b : Option α) : Option Bool := match b with
  | none => some a.isNone
  | some _ => match a with
    | none => some false
    | some _ => none

mutual
def eqV (P : Program) : Nat → TypeId → Value → Value → Option Bool
  | 0, _, _, _ => none
  | d + 1, t, x, y =>
    match P.underlying t, x, y with
    | some .bool, .bool a, .bool b => some (a == b)
    | some (.int _), .int k a, .int k' b => bif decide (k = k') then some (a == b) else none
    | some .string, .string a, .string b => some (a.toList == b.toList)
    | some (.slice _), .slice a _ _, .slice b _ _ => nilEq a b
    | some (.pointer _), .pointer a, .pointer b => nilEq a b
    | some (.map _ _), .map a, .map b => nilEq a b
    | some (.func _ _ _), .nilFunc, .nilFunc => some true
    | some (.func _ _ _), .nilFunc, .func _ _ _ => some false
    | some (.func _ _ _), .func _ _ _, .nilFunc => some false
    | some (.struct fs), .agg xs, .agg ys => bif P.stoodInHeld t then none else (eqFs P d fs.toList xs.toList ys.toList).map conj
    | _, _, _ => none
def eqFs (P : Program) : Nat → List Field → List Value → List Value → Option (List Bool)
  | 0, _, _, _ => none
  | _ + 1, [], _, _ => some []
  | d + 1, f :: fs, xs, ys =>
    bif f.name == "_" then none else
    match partV P f.type xs f.offset, partV P f.type ys f.offset with
    | some a, some b => match eqV P d f.type a b, eqFs P d fs xs ys with
      | some r, some rs => some (r :: rs)
      | _, _ => none
    | _, _ => none
end

def eqTop (P : Program) (t : TypeId) (x y : Value) : Option Bool := match x with
  | .agg _ => bif P.eqGuardType P.depth t then none else eqV P 40 t x y
  | .nilIface => none
  | _ => eqV P 40 t x y

def setL : List Value → Nat → List Value → List Value
  | cs, _, [] => cs
  | cs, i, x :: xs => setL (cs.set i x) (i + 1) xs

def placesV (P : Program) : List Field → Option (List (Nat × Nat))
  | [] => some []
  | f :: fs => match P.info? f.type, placesV P fs with
    | some i, some r => some ((f.offset, i.size) :: r)
    | _, _ => none

def fillV (place : Nat → Option (Nat × Nat)) (cs : List Value) : List (Nat × AV) → Option (List Value)
  | [] => some cs
  | (i, .v x) :: rest => match place i with
    | some (off, size) => bif Nat.beq x.cells.size size && Nat.ble (off + size) cs.length then fillV place (setL cs off x.cells.toList) rest else none
    | none => none
  | _ => none

def buildV (P : Program) (t : TypeId) (parts : List (Nat × AV)) : Option (List Value) :=
  match P.info? t, P.underlying t with
  | some i, some (.struct fs) => match i.zero, placesV P fs.toList with
    | some z, some pl => fillV (fun j => pl[j]?) z.cells.toList parts
    | _, _ => none
  | some i, some (.array _ e) => match i.zero, P.info? e with
    | some z, some ie => fillV (fun j => some (j * ie.size, ie.size)) z.cells.toList parts
    | _, _ => none
  | _, _ => none

/-- The values of a list of slots, where all are told. -/
def valsV : List AV → Option (List Value)
  | [] => some []
  | .v x :: xs => match valsV xs with
    | some r => some (x :: r)
    | none => none
  | _ => none

def eqlK (P : Program) (op : BinOp) (t : TypeId) (x y : Value) (k : Value → Prop) : Prop :=
  match op with
  | .eql => optK (eqTop P t x y) fun b => k (.bool b)
  | .neq => optK (eqTop P t x y) fun b => k (.bool (!b))
  | _ => False

def binK (P : Program) (op : BinOp) (t : TypeId) (x y : Value) (k : Value → Prop) : Prop :=
  match x with
  | .int kd m => match y with
    | .int kd' n => intBinK op kd kd' m n k
    | _ => False
  | .string a => match y with
    | .string b => strBinK op a b k
    | _ => False
  | .float .. => False
  | .complex .. => False
  | x => eqlK P op t x y k

def unK (op : UnOp) (x : Value) (k : Value → Prop) : Prop :=
  match op, x with
  | .neg, .int kd n => k (.int kd (kd.wrap (0 - n)))
  | .not, .bool b => k (.bool (!b))
  | _, _ => False

def convK (P : Program) (src dst : TypeId) (x : Value) (k : Value → Prop) : Prop :=
  match P.underlying src, P.underlying dst, x with
  | some _, some (.int kd), .int _ n => k (.int kd (kd.wrap n))
  | some _, some .string, .string s => k (.string s)
  | _, _, _ => False

def fieldAddrK (P : Program) (t : TypeId) (x : AV) (f : Nat) (k : AV → Prop) : Prop :=
  match P.underlying t with
  | some (.struct fs) => match fs[f]? with
    | some fd => match P.info? fd.type with
      | some i => bif Nat.beq i.size 0 then False else match x with
        | .loc b off => k (.loc b (off + fd.offset))
        | .v (.pointer p) => ptrK p fun a => k (.v (.pointer (some (a.add fd.offset))))
        | _ => False
      | none => False
    | none => False
  | _ => False

def indexAddrK (P : Program) (t : TypeId) (x ix : AV) (k : AV → Prop) : Prop :=
  match P.underlying t, ix with
  | some (.slice e), .v (.int _ i) => match P.info? e, x with
    | some ie, .v (.slice A n _) => ptrK A fun a => (0 ≤ i ∧ i < (n : Int)) ∧ k (.v (.pointer (some (a.add (i.toNat * ie.size)))))
    | _, _ => False
  | some (.array len e), .v (.int _ i) => match P.info? e, x with
    | some ie, .v (.pointer A) => ptrK A fun a => (0 ≤ i ∧ i < (len : Int)) ∧ k (.v (.pointer (some (a.add (i.toNat * ie.size)))))
    | some ie, .loc b off => (0 ≤ i ∧ i < (len : Int)) ∧ k (.loc b (off + i.toNat * ie.size))
    | _, _ => False
  | _, _ => False

/-- A bound of a slice expression: at most `y`. -/
def bndK (x : Option AV) (dflt y : Nat) (k : Nat → Prop) : Prop := match x with
  | none => k dflt
  | some (.v (.int _ i)) => (0 ≤ i ∧ i ≤ (y : Int)) ∧ k i.toNat
  | some _ => False

/-- Where a slice of a slice begins. -/
def subA (A : Option Addr) (c l sz : Nat) : Option Addr := match l with
  | 0 => A
  | l' + 1 => if c = l' + 1 then A else A.map fun x => x.add ((l' + 1) * sz)

def sliceK (P : Program) (t : TypeId) (x : AV) (lo hi : Option AV) (k : AV → Prop) : Prop :=
  match P.underlying t, x with
  | some .string, .v (.string s) => bndK hi s.size s.size fun h => bndK lo 0 h fun l => k (.v (.string (s.extract l h)))
  | some (.slice e), .v (.slice A n c) => match P.info? e with
    | some ie => bndK hi n c fun h => bndK lo 0 h fun l => k (.v (.slice (subA A c l ie.size) (h - l) (c - l)))
    | none => False
  | some (.array m e), .v (.pointer A) => match P.info? e with
    | some ie => ptrK A fun a => bndK hi m m fun h => bndK lo 0 h fun l => k (.v (.slice (subA (some a) m l ie.size) (h - l) (m - l)))
    | none => False
  | _, _ => False

def indexK (P : Program) (t : TypeId) (x ix : AV) (k : AV → Prop) : Prop :=
  match P.underlying t, x, ix with
  | some .string, .v (.string s), .v (.int _ i) => (0 ≤ i ∧ i < (s.size : Int)) ∧ k (.v (.int .u8 (s[i.toNat]!).toNat))
  | some (.array _ _), .v (.agg _), .v (.int _ _) => False
  | _, _, _ => False

def lenK (P : Program) (t : TypeId) (x : AV) (k : AV → Prop) : Prop :=
  match P.underlying t, x with
  | some .string, .v (.string s) => k (.v (.int .i64 (s.size : Nat)))
  | some (.array n _), _ => k (.v (.int .i64 (n : Nat)))
  | some (.slice _), .v (.slice _ n _) => k (.v (.int .i64 (n : Nat)))
  | some (.slice _), .lsl _ n => k (.v (.int .i64 (n : Nat)))
  | _, _ => False

def capK (P : Program) (t : TypeId) (x : AV) (k : AV → Prop) : Prop :=
  match P.underlying t, x with
  | some (.slice _), .v (.slice _ _ c) => k (.v (.int .i64 (c : Nat)))
  | _, _ => False

def mnx (b : Builtin) (x y : Int) : Int := match b with
  | .min => if y < x then y else x
  | _ => if y > x then y else x

def builtinK (P : Program) (b : Builtin) (ts : List TypeId) (xs : List AV) (k : AV → Prop) : Prop :=
  match b, ts, xs with
  | .len, t :: _, x :: _ => lenK P t x k
  | .cap, t :: _, x :: _ => capK P t x k
  | .min, _, [.v (.int kd x), .v (.int _ y)] => k (.v (.int kd (mnx .min x y)))
  | .max, _, [.v (.int kd x), .v (.int _ y)] => k (.v (.int kd (mnx .max x y)))
  | _, _, _ => False

def extractK (x : AV) (i : Nat) (k : AV → Prop) : Prop := match x with
  | .v (.tuple vs) => optK (vs.toList[i]?) fun u => k (.v u)
  | _ => False

def fieldK (P : Program) (t : TypeId) (x : AV) (f : Nat) (k : AV → Prop) : Prop :=
  match P.underlying t, x with
  | some (.struct fs), .v (.agg cs) => match fs[f]? with
    | some fd => optK (partV P fd.type cs.toList fd.offset) fun u => k (.v u)
    | none => False
  | _, _ => False

def nilCheckK (x : AV) (k : AV → Prop) : Prop := match x with
  | .loc a b => k (.loc a b)
  | .v (.pointer p) => ptrK p fun a => k (.v (.pointer (some a)))
  | .v (.func (.func f) u v) => k (.v (.func (.func f) u v))
  | _ => False

/-- An operation that touches no memory. -/
def pureK (P : Program) (ev : Operand → AV) (op : Op) (k : AV → Prop) : Prop :=
  match op with
  | .move x => k (ev x)
  | .assign x => k (ev x)
  | .pick c a b => match ev c with
    | .v (.bool c) => bc c (k (ev a)) (k (ev b))
    | _ => False
  | .build t parts => optK (buildV P t (parts.toList.map fun p => (p.1, ev p.2))) fun cs => k (.v (.agg (List.toArray cs)))
  | .nilCheck x => nilCheckK (ev x) k
  | .binOp op t x y _ => match ev x, ev y with
    | .v a, .v b => binK P op t a b fun u => k (.v u)
    | _, _ => False
  | .unOp op _ x => vK (ev x) fun a => unK op a fun u => k (.v u)
  | .convert src dst x => vK (ev x) fun a => convK P src dst a fun u => k (.v u)
  | .makeFunc fn first caps => optK (valsV (first.toList.map ev)) fun xs => optK (valsV (caps.toList.map ev)) fun ys => k (.v (.func fn (List.toArray xs) (List.toArray ys)))
  | .fieldAddr t x f => fieldAddrK P t (ev x) f k
  | .field t x f => fieldK P t (ev x) f k
  | .indexAddr t x i => indexAddrK P t (ev x) (ev i) k
  | .index t x i => indexK P t (ev x) (ev i) k
  | .slice t x lo hi none => sliceK P t (ev x) (lo.map ev) (hi.map ev) k
  | .extract x i => extractK (ev x) i k
  | .call { callee := .builtin b, args, argTypes } => builtinK P b argTypes.toList (args.toList.map ev) k
  | _ => False

end Go.Proofs.Ytkpncpcgkpadgaa.GH
