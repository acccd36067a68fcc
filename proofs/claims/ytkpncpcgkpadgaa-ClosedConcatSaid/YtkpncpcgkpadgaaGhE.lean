/- GH, fifth part: the operations that touch memory. -/
import Derived.Test.YtkpncpcgkpadgaaGhD
set_option linter.all false
namespace Go.Proofs.Ytkpncpcgkpadgaa.GH
open Go

inductive Sc where
  | int (k : IntKind) | bool | str | sl | ptr | mp | fn | any

def scOf (P : Program) (t : TypeId) : Sc := match P.underlying t with
  | some (.int k) => .int k
  | some .bool => .bool
  | some .string => .str
  | some (.slice _) => .sl
  | some (.pointer _) => .ptr
  | some (.map _ _) => .mp
  | some (.func _ _ _) => .fn
  | _ => .any

def exSc : Sc → (Value → Prop) → Prop
  | .int k, K => ∃ n : Int, K (.int k n)
  | .bool, K => ∃ b : Bool, K (.bool b)
  | .str, K => ∃ s : ByteArray, K (.string s)
  | .sl, K => ∃ s : Sl, K (.slice s.a s.n s.c)
  | .ptr, K => ∃ p : Option Addr, K (.pointer p)
  | .mp, K => ∃ r : Option Nat, K (.map r)
  | .fn, K => ∃ (f : FuncId) (cap : List Value), K (.func (.func f) #[] (List.toArray cap))
  | .any, K => ∃ v : Value, K v

def exCells : List Sc → (List Value → Prop) → Prop
  | [], K => K []
  | s :: ss, K => exSc s fun v => exCells ss fun vs => K (v :: vs)

mutual
def flatT (P : Program) : Nat → TypeId → List Sc
  | 0, _ => []
  | d + 1, t => match P.underlying t with
    | some (.struct fs) => flatF P d fs.toList
    | some (.array n e) => (List.replicate n (flatT P d e)).flatten
    | _ => [scOf P t]
def flatF (P : Program) : Nat → List Field → List Sc
  | 0, _ => []
  | _ + 1, [] => []
  | d + 1, f :: fs => flatT P d f.type ++ flatF P d fs
end

def exVal (P : Program) (t : TypeId) (K : Value → Prop) : Prop := match isAggT P t with
  | true => exCells (flatT P 20 t) fun cs => K (.agg (List.toArray cs))
  | false => exSc (scOf P t) K

def exTup (P : Program) : List TypeId → (List Value → Prop) → Prop
  | [], K => K []
  | t :: ts, K => exVal P t fun v => exTup P ts fun vs => K (v :: vs)

def exRes (P : Program) (t : TypeId) (K : Value → Prop) : Prop := match P.underlying t with
  | some (.tuple es) => exTup P es.toList fun vs => K (.tuple (List.toArray vs))
  | _ => exVal P t K

theorem exSc_some {s : Sc} {K : Value → Prop} (h : exSc s K) : ∃ v, K v := by
  cases s <;> first
    | (obtain ⟨_, h⟩ := h; exact ⟨_, h⟩)
    | (obtain ⟨_, _, h⟩ := h; exact ⟨_, h⟩)

theorem exCells_some : ∀ {l : List Sc} {K : List Value → Prop}, exCells l K → ∃ vs, vs.length = l.length ∧ K vs
  | [], _, h => ⟨[], rfl, h⟩
  | _ :: _, _, h => by
    obtain ⟨v, h⟩ := exSc_some h
    obtain ⟨vs, hl, h⟩ := exCells_some h
    exact ⟨v :: vs, by simp [hl], h⟩

theorem exVal_some {P : Program} {t : TypeId} {K : Value → Prop} (h : exVal P t K) : ∃ v, K v := by
  unfold exVal at h
  split at h
  · obtain ⟨cs, _, h⟩ := exCells_some h; exact ⟨_, h⟩
  · exact exSc_some h

theorem exTup_some {P : Program} : ∀ {ts : List TypeId} {K : List Value → Prop}, exTup P ts K → ∃ vs, K vs
  | [], _, h => ⟨[], h⟩
  | _ :: _, _, h => by
    obtain ⟨v, h⟩ := exVal_some h
    obtain ⟨vs, h⟩ := exTup_some h
    exact ⟨_, h⟩

theorem exRes_some {P : Program} {t : TypeId} {K : Value → Prop} (h : exRes P t K) : ∃ v, K v := by
  unfold exRes at h
  split at h
  · obtain ⟨vs, h⟩ := exTup_some h; exact ⟨_, h⟩
  · exact exVal_some h

/-- The cells of a slice's first `n` cells. -/
def readsSl (L : GHeap) (A : Option Addr) (n : Nat) (cs : List Value) : Prop := cs.length = n ∧ match A with
  | some a => L.reads a 0 cs
  | none => n = 0

/-- `append`: within the capacity, or into a new row. -/
def appendK (size bytes : Nat) (L : GHeap) (s : Sl) (m : Nat) (new : List Value) (k : Sl → GHeap → Prop) : Prop :=
  ((s.n + m) * bytes ≤ 281474976710656 ∧ (s.c < s.n + m → Builtin.nextslicecap (s.n + m) s.c * bytes ≤ 281474976710656)) ∧
  (s.n + m ≤ s.c → (m = 0 ∧ k s L) ∨ ∃ a, s.a = some a ∧ L.may (a.add (s.n * size)) 0 new.length ∧ k ⟨s.a, s.n + m, s.c⟩ (L.sets (a.add (s.n * size)) 0 new)) ∧
  (s.c < s.n + m → ∃ old, readsSl L s.a (s.n * size) old ∧ ∀ b c', L.unused b → s.n + m ≤ c' → k ⟨some ⟨b, 0, none⟩, s.n + m, c'⟩ (L.alloc b (old ++ new) (c' * size)))

def zeros (n : Nat) (z : List Value) : List Value := (List.replicate n z).flatten

/-- A new block: known in the ghost heap, or a box of the frame's own. -/
def newK (hp : Nat → Bool) (d : Option Nat) (cs : List Value) (S : Sto) (L : GHeap) (kb : Nat → AV) (kl : Nat → AV) (k : AV → Sto → GHeap → Prop) : Prop :=
  match d with
  | none => False
  | some d => match hp d with
    | true => ∀ b, L.unused b → k (kb b) S (L.alloc b cs cs.length)
    | false => match S d with
      | none => k (kl d) (S.put d cs) L
      | some _ => match S (d + 1000000) with
        | none => k (kl (d + 1000000)) (S.put (d + 1000000) cs) L
        | some _ => False

def loadK (P : Program) (t : TypeId) (x : AV) (S : Sto) (L : GHeap) (k : AV → Prop) : Prop :=
  match P.info? t, P.underlying t with
  | some i, some _ => match x with
    | .loc b off => match S b with
      | none => False
      | some cs => match isAggT P t with
        | true => match Nat.ble (off + i.size) cs.length with
          | true => k (.v (.agg (List.toArray ((cs.drop off).take i.size))))
          | false => False
        | false => optK cs[off]? fun v => k (.v v)
    | .v (.pointer A) => ptrK A fun a => match isAggT P t with
      | true => match Nat.beq (flatT P 20 t).length i.size with
        | true => exCells (flatT P 20 t) fun cs => L.reads a 0 cs ∧ k (.v (.agg (List.toArray cs)))
        | false => False
      | false => exSc (scOf P t) fun v => L.mem a = some v ∧ k (.v v)
    | _ => False
  | _, _ => False

def storeK (P : Program) (t : TypeId) (x : AV) (v : Value) (S : Sto) (L : GHeap) (k : Sto → GHeap → Prop) : Prop :=
  match P.info? t with
  | none => False
  | some i => match Nat.beq v.cells.size i.size && v.cells.toList.all Value.oneCell' with
    | false => False
    | true => match x with
      | .loc b off => match S b with
        | none => False
        | some cs => match Nat.ble (off + i.size) cs.length with
          | true => k (S.put b (setL cs off v.cells.toList)) L
          | false => False
      | .v (.pointer A) => ptrK A fun a => L.may a 0 i.size ∧ k S (L.sets a 0 v.cells.toList)
      | _ => False

def buildSliceV (P : Program) (t : TypeId) (len : Nat) (parts : List (Nat × AV)) : Option (List Value) :=
  match P.underlying t with
  | some (.slice e) => match P.info? e with
    | some ie => bif Nat.ble (len * ie.size) 16777216 then match ie.zero with
      | some z => bif Nat.beq z.cells.size ie.size then fillV (fun j => some (j * ie.size, ie.size)) (zeros len z.cells.toList) parts else none
      | none => none
      else none
    | none => none
  | _ => none

def makeSliceK (P : Program) (t : TypeId) (len cap : AV) (L : GHeap) (k : Sl → GHeap → Prop) : Prop :=
  match P.underlying t, len, cap with
  | some (.slice e), .v (.int _ n), .v (.int _ c) => match P.info? e with
    | some ie => match ie.zero with
      | some z => match Nat.beq z.cells.size ie.size with
        | true => (0 ≤ n ∧ n ≤ c ∧ c * ((max ie.bytes 1 : Nat) : Int) ≤ 140737488355328) ∧
          ∀ b, L.unused b → k ⟨some ⟨b, 0, none⟩, n.toNat, c.toNat⟩ (L.alloc b (zeros c.toNat z.cells.toList) (c.toNat * ie.size))
        | false => False
      | none => False
    | none => False
  | _, _, _ => False

def isIntT (P : Program) (t : TypeId) : Bool := match P.underlying t with
  | some (.int _) => true
  | _ => false

def appK (P : Program) (t t' : TypeId) (s x : AV) (S : Sto) (L : GHeap) (k : Sl → GHeap → Prop) : Prop :=
  match P.underlying t, s with
  | some (.slice e), .v (.slice A n c) => match P.info? e with
    | some ie => match Nat.beq ie.bytes 0 || isIntT P t' || (P.underlying t').isNone with
      | true => match !Nat.beq ie.bytes 0 && isIntT P t' with
        | false => False
        | true => match ie.zero with
          | none => False
          | some z => match Nat.beq z.cells.size ie.size && z.cells.toList.all Value.oneCell' with
            | false => False
            | true => match x with
              | .v (.int _ m) => (0 ≤ m ∧ m * (ie.bytes : Int) ≤ 281474976710656) ∧ appendK ie.size ie.bytes L ⟨A, n, c⟩ m.toNat (zeros m.toNat z.cells.toList) k
              | _ => False
      | false => match ie.zero with
        | none => False
        | some z => match Nat.beq z.cells.size ie.size with
          | false => False
          | true => match x with
            | .lsl d m => match S d with
              | none => False
              | some cs => match Nat.beq cs.length (m * ie.size) && cs.all Value.oneCell' with
                | true => appendK ie.size ie.bytes L ⟨A, n, c⟩ m cs k
                | false => False
            | .v (.slice B m _) => ∃ cs, (readsSl L B (m * ie.size) cs ∧ cs.all Value.oneCell' = true) ∧ appendK ie.size ie.bytes L ⟨A, n, c⟩ m cs k
            | _ => False
    | none => False
  | _, _ => False

def copyK (P : Program) (t : TypeId) (d s : AV) (L : GHeap) (k : Nat → GHeap → Prop) : Prop :=
  match P.underlying t, d, s with
  | some (.slice e), .v (.slice A n _), .v (.slice B m _) => match P.info? e with
    | some ie => ∃ cs, (readsSl L B (Nat.min m n * ie.size) cs ∧ cs.all Value.oneCell' = true) ∧
      ((Nat.min m n = 0 ∧ k (Nat.min m n) L) ∨ ∃ a, A = some a ∧ L.may a 0 cs.length ∧ k (Nat.min m n) (L.sets a 0 cs))
    | none => False
  | _, _, _ => False

def isFnV (x : AV) (k : FuncId → List Value → List Value → Prop) : Prop := match x with
  | .v (.func (.func f) first caps) => k f first.toList caps.toList
  | _ => False

def isLoad : Op → Bool
  | .load .. => true
  | _ => false
def isStore : Op → Bool
  | .store .. => true
  | _ => false

/-- An operation that touches memory. -/
def memK (P : Program) (hp : Nat → Bool) (ev : Operand → AV) (o : Oper) (S : Sto) (L : GHeap) (k : AV → Sto → GHeap → Prop) : Prop :=
  match o.op with
  | .alloc t => match P.info? t with
    | some i => optK i.zero fun z => newK hp o.dst z.cells.toList S L (fun b => .v (.pointer (some ⟨b, 0, none⟩))) (fun d => .loc d 0) k
    | none => False
  | .box _ x => vK (ev x) fun v => newK hp o.dst v.cells.toList S L (fun b => .v (.pointer (some ⟨b, 0, none⟩))) (fun d => .loc d 0) k
  | .buildSlice t len parts => optK (buildSliceV P t len (parts.toList.map fun p => (p.1, ev p.2))) fun cs =>
      newK hp o.dst cs S L (fun b => .v (.slice (some ⟨b, 0, none⟩) len len)) (fun d => .lsl d len) k
  | .load t p => loadK P t (ev p) S L fun x => k x S L
  | .store t p x => vK (ev x) fun v => storeK P t (ev p) v S L fun S L => k (.v undef) S L
  | .makeSlice t len cap => makeSliceK P t (ev len) (ev cap) L fun s L => k (.v (.slice s.a s.n s.c)) S L
  | .call { callee := .builtin .append, args, argTypes } => match args.toList, argTypes.toList with
    | [s, x], [t, t'] => appK P t t' (ev s) (ev x) S L fun s L => k (.v (.slice s.a s.n s.c)) S L
    | _, _ => False
  | .call { callee := .builtin .copy, args, argTypes } => match args.toList, argTypes.toList with
    | [d, s], [t, _] => copyK P t (ev d) (ev s) L fun n L => k (.v (.int .i64 (n : Nat))) S L
    | _, _ => False
  | .call { callee := .value f, args, argTypes := _ } => isFnV (ev f) fun g first caps => optK (valsV (args.toList.map ev)) fun xs =>
      ACalls P g (first ++ xs ++ caps) L fun v L' => exRes P o.type fun u => v = u ∧ k (.v u) S L'
  | _ => False

end Go.Proofs.Ytkpncpcgkpadgaa.GH
