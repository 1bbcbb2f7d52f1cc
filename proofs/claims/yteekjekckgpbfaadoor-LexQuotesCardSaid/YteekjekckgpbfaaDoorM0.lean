/- A part of the proof: the abstract machine, the printed functions, what they compute. -/
import Derived.Calls
import Derived.Defers
import Derived.Recover
import Derived.WalkKit
import Derived.Below
import Derived.Maps.AppendAt
import Derived.Deep.MidRow
import Derived.Great.BuildSlice
import Derived.Lib.ConvBytes
import Derived.Laws.BytesArg
import Derived.LoopN
import Derived.Tactics
import Derived.Orders
import Derived.KernelRfl
import Derived.ChangeSame
set_option linter.unusedVariables false
set_option linter.unusedSimpArgs false
set_option linter.defProp false
set_option linter.unnecessarySimpa false
section
namespace Go.Proofs.YteekjekckgpbfaaDoor.Abs
/-! ### A map from numbers -/
inductive Tr (α : Type) where
 | nil
 | node (l : Tr α) (v : Option α) (r : Tr α)
def Tr.get {α : Type} : Tr α → Nat → Option α
 | .nil, _ => none
 | .node l v r, k => bif k == 0 then v else bif k % 2 == 1 then l.get (k / 2) else r.get (k / 2 - 1)
def Tr.putAux {α : Type} : Nat → Tr α → Nat → Option α → Tr α
 | 0, t, _, _ => t
 | f + 1, .nil, k, x => bif k == 0 then .node .nil x .nil else bif k % 2 == 1 then .node (Tr.putAux f .nil (k / 2) x) none .nil else .node .nil none (Tr.putAux f .nil (k / 2 - 1) x)
 | f + 1, .node l v r, k, x => bif k == 0 then .node l x r else bif k % 2 == 1 then .node (Tr.putAux f l (k / 2) x) v r else .node l v (Tr.putAux f r (k / 2 - 1) x)
def Tr.put {α : Type} (t : Tr α) (k : Nat) (x : Option α) : Tr α := Tr.putAux (k + 1) t k x
/-! ### The heap -/
structure Blk where
 elem : TypeId
 cells : List Value
 own : Bool
inductive AObj where
 | cells (b : Blk)
 | map (es : List (Value × Value))
structure Heap where
 m : Tr AObj
 next : Nat
def Heap.get (h : Heap) (b : Nat) : Option AObj := h.m.get b
def Heap.set (h : Heap) (b : Nat) (o : AObj) : Heap := ⟨h.m.put b (some o), h.next⟩
def Heap.kill (h : Heap) (b : Nat) : Heap := ⟨h.m.put b none, h.next⟩
def Heap.alloc (h : Heap) (o : AObj) : Heap := ⟨h.m.put h.next (some o), h.next + 1⟩
def Heap.blk (h : Heap) (b : Nat) : Option Blk := match h.get b with | some (.cells k) => bif Nat.blt b h.next then some k else none | _ => none
/-! ### The surroundings -/
structure TI where
 desc : TypeDesc
 size : Nat
 bytes : Nat
 zero : List Value
inductive Res where
 | ret (v : Value)
 | panic (v : Value)
structure Env where
 ty : Nat → Option TI
 fn : Nat → Option Func
 prim : Nat → List Value → Heap → Option (Value × Heap)
 ext : Nat → List Value → Heap → Option (Res × Heap)
abbrev Tmps := Nat → Value
def ev (T : Tmps) : Operand → Value
 | .tmp t => T t
 | .const v => v
 | .global g => .pointer (some ⟨g, 0, none⟩)
 | .func f => .func (.func f) #[] #[]
def ptr (b : Nat) : Value := .pointer (some ⟨b, 0, none⟩)
def oneC : Value → Bool
 | .agg _ | .tuple _ => false
 | _ => true
def vcells : Value → List Value
 | .agg cs => cs.toList
 | v => [v]
def isAggD : TypeDesc → Bool
 | .struct _ | .array _ _ => true
 | _ => false
def two63 : Int := 9223372036854775808
def two64 : Int := 18446744073709551616
def wrapA (k : IntKind) (n : Int) : Int :=
 match k with
 | .i64 => bif decide (0 ≤ n + two63) && decide (n + two63 < two64) then n else IntKind.wrap .i64 n
 | k => IntKind.wrap k n
def most : Nat := 140737488355328
/-! ### Strings -/
def sl (s : ByteArray) : List UInt8 := s.data.toList
def mkS (l : List UInt8) : ByteArray := ⟨⟨l⟩⟩
def slen (s : ByteArray) : Nat := (sl s).length
/-! ### Parts of values -/
def putL (cs : List Value) (off : Nat) (vs : List Value) : List Value := cs.take off ++ vs ++ cs.drop (off + vs.length)
def fillL (place : Nat → Option (Nat × Nat)) (cells : List Value) : List (Nat × Value) → Option (List Value)
 | [] => some cells
 | (i, v) :: rest =>
  match place i with
  | none => none
  | some (off, size) =>
   bif !((vcells v).length == size) || decide (off + (vcells v).length > cells.length) then none
   else fillL place (putL cells off (vcells v)) rest
def repL (z : List Value) : Nat → List Value
 | 0 => []
 | n + 1 => z ++ repL z n
def partA (agg : Bool) (cs : List Value) (off size : Nat) : Option Value :=
 bif agg then (bif decide (off + size ≤ cs.length) then some (.agg ⟨(cs.drop off).take size⟩) else none) else cs[off]?
/-! ### Comparing -/
def tyIs (E : Env) (t : TypeId) (p : TypeDesc → Bool) : Bool := match E.ty t with | some i => p i.desc | none => false
def isBoolD : TypeDesc → Bool | .bool => true | _ => false
def isIfaceD : TypeDesc → Bool | .interface _ => true | _ => false
def isPtrD : TypeDesc → Bool | .pointer _ => true | _ => false
def isSliceD : TypeDesc → Bool | .slice _ => true | _ => false
def isFuncD : TypeDesc → Bool | .func _ _ _ => true | _ => false
def whenB (b : Bool) (v : Bool) : Option Bool := bif b then some v else none
def eqA (E : Env) (t : TypeId) : Value → Value → Option Bool
 | .bool a, .bool b => whenB (tyIs E t isBoolD) (a == b)
 | .nilIface, .nilIface => whenB (tyIs E t isIfaceD) true
 | .nilIface, .iface _ _ => whenB (tyIs E t isIfaceD) false
 | .iface _ _, .nilIface => whenB (tyIs E t isIfaceD) false
 | .pointer none, .pointer b => whenB (tyIs E t isPtrD) b.isNone
 | .pointer (some _), .pointer none => whenB (tyIs E t isPtrD) false
 | .slice none _ _, .slice b _ _ => whenB (tyIs E t isSliceD) b.isNone
 | .slice (some _) _ _, .slice none _ _ => whenB (tyIs E t isSliceD) false
 | .nilFunc, .nilFunc => whenB (tyIs E t isFuncD) true
 | .nilFunc, .func _ _ _ => whenB (tyIs E t isFuncD) false
 | .func _ _ _, .nilFunc => whenB (tyIs E t isFuncD) false
 | _, _ => none
def ltS : List UInt8 → List UInt8 → Bool := Op.bytesLess
def cmpI (op : BinOp) (a b : Int) : Option Bool :=
 match op with
 | .eql => some (a == b)
 | .neq => some (a != b)
 | .lss => some (decide (a < b))
 | .leq => some (decide (a ≤ b))
 | .gtr => some (decide (a > b))
 | .geq => some (decide (a ≥ b))
 | _ => none
def binA (E : Env) (t : TypeId) (op : BinOp) (x y : Value) : Option Value :=
 match x, y with
 | .int k a, .int k' b =>
  bif !(k == k') then none else
  match op with
  | .add => some (.int k (wrapA k (a + b)))
  | .sub => some (.int k (wrapA k (a - b)))
  | .mul => some (.int k (wrapA k (a * b)))
  | .quo | .rem | .and | .or | .xor | .andNot | .shl | .shr => none
  | op => (cmpI op a b).map .bool
 | .string a, .string b =>
  match op with
  | .add => bif decide (slen a + slen b ≤ most) then some (.string (mkS (sl a ++ sl b))) else none
  | .eql => some (.bool (sl a == sl b))
  | .neq => some (.bool (!(sl a == sl b)))
  | .lss => some (.bool (ltS (sl a) (sl b)))
  | .leq => some (.bool (ltS (sl a) (sl b) || (sl a == sl b)))
  | .gtr => some (.bool (!(ltS (sl a) (sl b) || (sl a == sl b))))
  | .geq => some (.bool (!(ltS (sl a) (sl b))))
  | _ => none
 | x, y =>
  match op with
  | .eql => (eqA E t x y).map .bool
  | .neq => (eqA E t x y).map fun b => .bool (!b)
  | _ => none
def bothNil : Value → Value → Bool
 | .nilIface, .nilIface => true
 | _, _ => false
def binB (E : Env) (t : TypeId) (op : BinOp) (x y : Value) : Option Value := bif bothNil x y then none else binA E t op x y
def isConstO : Operand → Bool
 | .const _ => true
 | _ => false
def unA (op : UnOp) (x : Value) : Option Value :=
 match op, x with
 | .neg, .int k n => some (.int k (wrapA k (0 - n)))
 | .not, .bool b => some (.bool (!b))
 | _, _ => none
/-! ### One operation -/
def natOf : Value → Option Nat
 | .int _ n => bif decide (0 ≤ n) then some n.toNat else none
 | _ => none
def boundA (x : Option Value) (dflt top : Nat) : Option Nat :=
 match x with
 | none => some dflt
 | some v => match natOf v with | some n => bif decide (n ≤ top) then some n else none | none => none
def sliceA (E : Env) (t : TypeId) (x : Value) (lo hi : Option Value) (hp : Heap) : Option Value :=
 match x with
 | .string s => match E.ty t with
  | some { desc := .string, .. } => match boundA hi (slen s) (slen s) with
   | none => none
   | some h => match boundA lo 0 h with
    | none => none
    | some l => some (.string (mkS (((sl s).drop l).take (h - l))))
  | _ => none
 | .slice a n c =>
  match E.ty t with
  | some { desc := .slice e, .. } => match E.ty e with
   | none => none
   | some ie => match boundA hi n n with
    | none => none
    | some h => match boundA lo 0 h with
     | none => none
     | some l => match a with
      | none => some (.slice none 0 0)
      | some a => bif decide (c < h) then none else bif h == l then some (.slice (some ⟨0, 0, some 0⟩) 0 0) else
        match hp.blk a.block with
        | none => none
        | some k => bif k.elem == e && a.spot.isNone then some (.slice (some ⟨a.block, a.off + l * ie.size, none⟩) (h - l) (c - l)) else none
  | _ => none
 | _ => none
def readRow (h : Heap) (v : Value) (size : Nat) : Option (List Value) :=
 match v with
 | .slice none _ _ => some []
 | .slice (some a) n _ =>
  bif n == 0 then some [] else bif a.spot.isSome then none else
  match h.blk a.block with
  | none => none
  | some k => bif decide (a.off + n * size ≤ k.cells.length) then some ((k.cells.drop a.off).take (n * size)) else none
 | _ => none
def lenV : Value → Option Nat
 | .slice _ n _ => some n
 | .string s => some (slen s)
 | _ => none
def byteV (b : UInt8) : Value := .int .u8 b.toNat
def toByte : Value → Option UInt8
 | .int .u8 n => some (UInt8.ofNat n.toNat)
 | _ => none
def toBytes : List Value → Option (List UInt8)
 | [] => some []
 | v :: r => match toByte v with | none => none | some b => match toBytes r with | none => none | some l => some (b :: l)
def appendA (E : Env) (t : TypeId) (s x : Value) (h : Heap) : Option (Value × Heap) :=
 match E.ty t with
 | some { desc := .slice e, .. } => match E.ty e with
  | none => none
  | some ie =>
   bif ie.size == 0 || ie.bytes == 0 then none else
   match lenV x with
   | none => none
   | some m => match readRow h x ie.size with
    | none => none
    | some news =>
     bif !(news.length == m * ie.size) || !(news.all oneC) then none else
     match s with
     | .slice none n c => bif !(n == 0) || !(c == 0) then none else bif m == 0 then some (.slice none 0 0, h) else
       bif decide (m * ie.bytes ≤ most) then some (.slice (some ⟨h.next, 0, none⟩) m m, h.alloc (.cells ⟨e, news, true⟩)) else none
     | .slice (some a) n c =>
      bif m == 0 then some (.slice (some a) n c, h) else
      bif a.spot.isSome || !(a.off == 0) then none else
      match h.blk a.block with
      | none => none
      | some k => bif k.own && k.elem == e && k.cells.length == n * ie.size && decide ((n + m) * ie.bytes ≤ most) then
        some (.slice (some ⟨h.next, 0, none⟩) (n + m) (n + m), (h.kill a.block).alloc (.cells ⟨e, k.cells ++ news, true⟩)) else none
     | _ => none
 | _ => none
def isU8 (E : Env) (e : TypeId) : Bool := match E.ty e with | some { desc := .int .u8, size := 1, .. } => true | _ => false
def convA (E : Env) (src dst : TypeId) (x : Value) (h : Heap) : Option (Value × Heap) :=
 match E.ty src, E.ty dst with
 | some s, some d => match d.desc, x with
  | .int k, .int _ n => some (.int k (wrapA k n), h)
  | .string, .string s => some (.string s, h)
  | .string, .slice a n c => match s.desc with
   | .slice e => bif isU8 E e then (match readRow h (.slice a n c) 1 with
    | none => none
    | some row => match toBytes row with | none => none | some l => some (.string (mkS l), h)) else none
   | _ => none
  | .slice e, .string s => bif isU8 E e && decide (slen s ≤ most) then some (.slice (some ⟨h.next, 0, none⟩) (slen s) (slen s), h.alloc (.cells ⟨e, (sl s).map byteV, false⟩)) else none
  | _, _ => none
 | _, _ => none
def evs (ρ : Operand → Value) (l : List Operand) : List Value := l.map ρ
def evp (ρ : Operand → Value) (l : List (Nat × Operand)) : List (Nat × Value) := l.map fun p => (p.1, ρ p.2)
def minI : Value → List Value → Option Value
 | v, [] => some v
 | .int k x, .int k' y :: r => bif k == k' then minI (.int k (bif decide (y < x) then y else x)) r else none
 | _, _ => none
def maxI : Value → List Value → Option Value
 | v, [] => some v
 | .int k x, .int k' y :: r => bif k == k' then maxI (.int k (bif decide (x < y) then y else x)) r else none
 | _, _ => none
def lenA (E : Env) (t : TypeId) (x : Value) : Option Value :=
 match E.ty t with
 | some { desc := .string, .. } => match x with | .string s => some (.int .i64 (slen s)) | _ => none
 | some { desc := .slice _, .. } => match x with | .slice _ n _ => some (.int .i64 n) | _ => none
 | _ => none
def minL : List Value → Option Value
 | [] => none
 | x :: r => minI x r
def maxL : List Value → Option Value
 | [] => none
 | x :: r => maxI x r
def valR (r : Option (Value × Heap)) : Option (Res × Heap) := match r with | none => none | some (v, h) => some (.ret v, h)
def skipR (r : Option Heap) : Option (Res × Heap) := match r with | none => none | some h => some (.ret undef, h)
def callA (E : Env) (cf : Nat → List Value → Heap → Option (Res × Heap)) (fv : Value) (args : List Value) (h : Heap) : Option (Res × Heap) :=
 match fv with
 | .func (.func g) first captured =>
  match E.prim g (first.toList ++ args ++ captured.toList) h with
  | some (v, h') => some (.ret v, h')
  | none => cf g (first.toList ++ args ++ captured.toList) h
 | _ => none
def structOf (E : Env) (t : TypeId) : Option (List Field) :=
 match E.ty t with
 | some { desc := .struct fs, .. } => some fs.toList
 | _ => none
def sliceOf (E : Env) (t : TypeId) : Option (TypeId × TI) :=
 match E.ty t with
 | some { desc := .slice e, .. } => match E.ty e with | none => none | some i => some (e, i)
 | _ => none
def fieldOf (E : Env) (t : TypeId) (f : Nat) : Option (Nat × TI) :=
 match structOf E t with
 | none => none
 | some fs => match fs[f]? with
  | none => none
  | some fd => match E.ty fd.type with | none => none | some fi => some (fd.offset, fi)
def pickA (c a b : Value) : Option Value :=
 match c with | .bool t => some (bif t then a else b) | _ => none
def allocA (E : Env) (t : TypeId) (h : Heap) : Option (Value × Heap) :=
 match E.ty t with
 | none => none
 | some i => some (ptr h.next, h.alloc (.cells ⟨t, i.zero, true⟩))
def boxA (t : TypeId) (x : Value) (h : Heap) : Value × Heap :=
 (ptr h.next, h.alloc (.cells ⟨t, vcells x, true⟩))
def placeS (E : Env) (fs : List Field) (i : Nat) : Option (Nat × Nat) :=
 match fs[i]? with
 | none => none
 | some f => match E.ty f.type with | none => none | some fi => some (f.offset, fi.size)
def buildA (E : Env) (t : TypeId) (parts : List (Nat × Value)) : Option Value :=
 match E.ty t with
 | some { desc := .struct fs, zero := z, .. } =>
  match fillL (placeS E fs.toList) z parts with
  | none => none
  | some cs => some (.agg ⟨cs⟩)
 | some { desc := .array _ e, zero := z, .. } => match E.ty e with
  | none => none
  | some ie => match fillL (fun i => some (i * ie.size, ie.size)) z parts with
   | none => none
   | some cs => some (.agg ⟨cs⟩)
 | _ => none
def buildSliceA (E : Env) (t : TypeId) (n : Nat) (parts : List (Nat × Value)) (h : Heap) : Option (Value × Heap) :=
 match sliceOf E t with
 | none => none
 | some (e, ie) => bif decide (n * ie.size > 1000) || decide (n > 1000) then none else
  match fillL (fun i => some (i * ie.size, ie.size)) (repL ie.zero n) parts with
  | none => none
  | some cs => some (.slice (some ⟨h.next, 0, none⟩) n n, h.alloc (.cells ⟨e, cs, true⟩))
def loadA (E : Env) (t : TypeId) (a : Value) (h : Heap) : Option Value :=
 match a with
 | .pointer (some ⟨b, off, none⟩) => match h.blk b with
  | none => none
  | some k => match E.ty t with
   | none => none
   | some i => partA (isAggD i.desc) k.cells off i.size
 | _ => none
def storeA (E : Env) (t : TypeId) (a x : Value) (h : Heap) : Option Heap :=
 match a with
 | .pointer (some ⟨b, off, none⟩) => match h.blk b with
  | none => none
  | some k => match E.ty t with
   | none => none
   | some i =>
    bif k.own && (vcells x).length == i.size && (vcells x).all oneC && decide (off + (vcells x).length ≤ k.cells.length) then
     some (h.set b (.cells ⟨k.elem, putL k.cells off (vcells x), true⟩)) else none
 | _ => none
def nilA : Value → Option Value
 | .pointer (some a) => some (.pointer (some a))
 | .func (.func g) f c => some (.func (.func g) f c)
 | _ => none
def ifaceA (E : Env) (t : TypeId) (x : Value) : Option Value :=
 match E.ty t with
 | none => none
 | some i => match i.desc with | .interface _ => none | _ => some (.iface t x)
def makeSliceA (E : Env) (t : TypeId) (n c : Value) (h : Heap) : Option (Value × Heap) :=
 match sliceOf E t with
 | none => none
 | some (e, ie) => match natOf n, natOf c with
  | some n, some c => bif decide (n ≤ c) && decide (c * ie.bytes ≤ most) && decide (c ≤ most) then some (.slice (some ⟨h.next, 0, none⟩) n n, h.alloc (.cells ⟨e, repL ie.zero n, true⟩)) else none
  | _, _ => none
def fieldAddrA (E : Env) (s : TypeId) (x : Value) (f : Nat) : Option Value :=
 match x with
 | .pointer (some ⟨b, off, none⟩) => match fieldOf E s f with
  | none => none
  | some (o, fi) => bif fi.size == 0 then none else some (.pointer (some ⟨b, off + o, none⟩))
 | _ => none
def fieldA (E : Env) (t : TypeId) (x : Value) (f : Nat) : Option Value :=
 match x with
 | .agg cs => match fieldOf E t f with
  | none => none
  | some (o, fi) => partA (isAggD fi.desc) cs.toList o fi.size
 | _ => none
def indexAddrA (E : Env) (t : TypeId) (x ix : Value) : Option Value :=
 match E.ty t with
 | some { desc := .slice e, .. } => match E.ty e with
  | none => none
  | some ie => match x, natOf ix with
   | .slice (some ⟨b, off, none⟩) n _, some i => bif decide (i < n) then some (.pointer (some ⟨b, off + i * ie.size, none⟩)) else none
   | _, _ => none
 | some { desc := .array n e, .. } => match E.ty e with
  | none => none
  | some ie => match x, natOf ix with
   | .pointer (some ⟨b, off, none⟩), some i => bif decide (i < n) then some (.pointer (some ⟨b, off + i * ie.size, none⟩)) else none
   | _, _ => none
 | _ => none
def indexA (E : Env) (t : TypeId) (x ix : Value) : Option Value :=
 match x, natOf ix with
 | .string s, some i => match E.ty t with
  | some { desc := .string, .. } => match (sl s)[i]? with | none => none | some b => some (byteV b)
  | _ => none
 | .agg cs, some i => match E.ty t with
  | some { desc := .array n e, .. } => match E.ty e with
   | none => none
   | some ie => bif decide (i < n) then partA (isAggD ie.desc) cs.toList (i * ie.size) ie.size else none
  | _ => none
 | _, _ => none
def zeroV (i : TI) : Value := bif isAggD i.desc then .agg ⟨i.zero⟩ else (i.zero.head?).getD undef
def assertA (E : Env) (x : Value) (t : TypeId) (ok : Bool) : Option Value :=
 match E.ty t with
 | none => none
 | some i => match i.desc with
  | .interface _ => none
  | _ => match x with
   | .iface u v => bif u == t then some (bif ok then .tuple ⟨[v, .bool true]⟩ else v) else
     bif ok then some (.tuple ⟨[zeroV i, .bool false]⟩) else none
   | .nilIface => bif ok then some (.tuple ⟨[zeroV i, .bool false]⟩) else none
   | _ => none
def extractA (x : Value) (ix : Nat) : Option Value :=
 match x with | .tuple vs => vs.toList[ix]? | _ => none
def panicA (x : Value) (h : Heap) : Option (Res × Heap) :=
 match x with
 | .iface t v => some (.panic (.iface t v), h)
 | _ => none
def isPure : Op → Bool
 | .move _ | .assign _ | .pick .. | .build .. | .load .. | .nilCheck _ | .binOp .. | .unOp .. | .makeInterface .. | .makeFunc .. | .slice .. | .fieldAddr .. | .field .. | .indexAddr .. | .index .. | .typeAssert .. | .extract .. => true
 | .call { callee := .builtin .len, .. } | .call { callee := .builtin .min, .. } | .call { callee := .builtin .max, .. } => true
 | _ => false
def purA (E : Env) (ρ : Operand → Value) (h : Heap) : Op → Option Value
 | .move x => some (ρ x)
 | .assign x => some (ρ x)
 | .pick c a b => pickA (ρ c) (ρ a) (ρ b)
 | .build t parts => buildA E t (evp ρ parts.toList)
 | .load t a => loadA E t (ρ a) h
 | .nilCheck x => nilA (ρ x)
 | .binOp op t x y _ => bif isConstO x || isConstO y then binA E t op (ρ x) (ρ y) else binB E t op (ρ x) (ρ y)
 | .unOp op _ x => unA op (ρ x)
 | .makeInterface t x => ifaceA E t (ρ x)
 | .makeFunc fn first captured => some (.func fn ⟨evs ρ first.toList⟩ ⟨evs ρ captured.toList⟩)
 | .slice t x lo hi none => sliceA E t (ρ x) (lo.map ρ) (hi.map ρ) h
 | .fieldAddr s x f => fieldAddrA E s (ρ x) f
 | .field t x f => fieldA E t (ρ x) f
 | .indexAddr t x ix => indexAddrA E t (ρ x) (ρ ix)
 | .index t x ix => indexA E t (ρ x) (ρ ix)
 | .typeAssert x _ t ok => assertA E (ρ x) t ok
 | .extract t ix => extractA (ρ t) ix
 | .call { callee := .builtin .len, args := ⟨[x]⟩, argTypes := ⟨[t]⟩ } => lenA E t (ρ x)
 | .call { callee := .builtin .min, args := xs, .. } => minL (evs ρ xs.toList)
 | .call { callee := .builtin .max, args := xs, .. } => maxL (evs ρ xs.toList)
 | _ => none
def effA (E : Env) (cf : Nat → List Value → Heap → Option (Res × Heap)) (ρ : Operand → Value) (h : Heap) : Op → Option (Res × Heap)
 | .alloc t => valR (allocA E t h)
 | .box t x => valR (some (boxA t (ρ x) h))
 | .buildSlice t n parts => valR (buildSliceA E t n (evp ρ parts.toList) h)
 | .store t a x => skipR (storeA E t (ρ a) (ρ x) h)
 | .convert src dst x => valR (convA E src dst (ρ x) h)
 | .makeSlice t n c => valR (makeSliceA E t (ρ n) (ρ c) h)
 | .call { callee := .builtin .append, args := ⟨[s, x]⟩, argTypes := ⟨[t, u]⟩ } => bif t == u then valR (appendA E t (ρ s) (ρ x) h) else none
 | .call { callee := .value f, args := xs, .. } => callA E cf (ρ f) (evs ρ xs.toList) h
 | .panic x => panicA (ρ x) h
 | _ => none
/-! ### Code, by continuations -/
inductive AX where
 | normal
 | ret
 | exit (id : Nat)
 | panic (v : Value)
abbrev CallF := FuncId → List Value → Heap → Option (Res × Heap)
abbrev Ans := Option (Res × Heap)
abbrev Kont := AX → Tmps → Heap → Ans
def putT (nt : Nat) (T : Tmps) (d : Option Nat) (v : Value) : Tmps :=
 match d with
 | none => T
 | some d => fun k => bif k == d && decide (d < nt) then v else T k
def boolIs (want : Bool) : Value → Bool
 | .bool b => b == want
 | _ => false
def yieldD (ops : List Oper) (j : Nat) : Option Nat :=
 match ops[j]? with
 | none => none
 | some o => o.dst
def wantA (ops : List Oper) (T : Tmps) (o : Oper) : Bool :=
 match o.guard with
 | none => true
 | some (j, want) => match yieldD ops j with | none => false | some d => boolIs want (T d)
def bindO (x : Option Value) (F : Value → Ans) : Ans := match x with | none => none | some v => F v
def bindR (x : Option (Res × Heap)) (G F : Value → Heap → Ans) : Ans :=
 match x with
 | none => none
 | some (.ret v, h) => F v h
 | some (.panic v, h) => G v h
def gO (w : Bool) (x : Option Value) : Option Value := bif w then x else some undef
def gR (w : Bool) (x : Option (Res × Heap)) (h : Heap) : Option (Res × Heap) := bif w then x else some (.ret undef, h)
def opsK (E : Env) (cf : CallF) (nt : Nat) (ops : List Oper) : List Oper → Tmps → Heap → Kont → Ans
 | [], T, h, K => K .normal T h
 | o :: rest, T, h, K =>
  bif isPure o.op then bindO (gO (wantA ops T o) (purA E (ev T) h o.op)) fun v => opsK E cf nt ops rest (putT nt T o.dst v) h K
  else bindR (gR (wantA ops T o) (effA E cf (ev T) h o.op) h) (fun v h' => K (.panic v) T h') (fun v h' => opsK E cf nt ops rest (putT nt T o.dst v) h' K)
def splitI : List Oper → Nat → List Nat → List Nat → List Nat → List Nat
 | [], _, _, early, late => early.reverse ++ late.reverse
 | o :: os, i, D, early, late =>
  bif isPure o.op && o.after.toList.all (fun e => !Region.binds .any e || !D.contains e.on) then splitI os (i + 1) D (i :: early) late
  else splitI os (i + 1) (i :: D) early (i :: late)
def canonIx (ops : List Oper) : List Nat := splitI ops 0 [] [] []
def maskOf (acc : List Nat) (o : Oper) : Nat := o.after.toList.foldl (fun s e => bif Region.binds .any e then s ||| (2 ^ e.on ||| (acc[e.on]?).getD 0) else s) 0
def masksL : List Oper → List Nat → List Nat
 | [], acc => acc
 | o :: os, acc => masksL os (acc ++ [maskOf acc o])
def unord (ms : List Nat) (i j : Nat) : Bool := !((ms[j]?).getD 0).testBit i && !((ms[i]?).getD 0).testBit j
def allocs : Op → Bool
 | .alloc _ | .box .. | .buildSlice .. | .makeSlice .. => true
 | _ => false
def strict : Op → Bool
 | .call { callee := .value _, .. } | .panic _ => true
 | _ => false
def reads : Op → Bool
 | .load .. | .slice .. => true
 | _ => false
def mustR (ms : List Nat) (n j : Nat) (op : Op) : Bool := strict op && (List.range n).any fun k => !(k == j) && unord ms j k
def chkIx (ops : List Oper) (ms : List Nat) (j : Nat) (op : Op) : List Nat :=
 bif isPure op || allocs op then [] else (List.range ops.length).filter fun k => match ops[k]? with | some q => reads q.op && unord ms j k | none => false
def plan (ops : List Oper) : List (Oper × Bool × List Oper × Nat) :=
 (canonIx ops).filterMap fun i => match ops[i]? with
  | none => none
  | some o => some (o, mustR (masksL ops []) ops.length i o.op, (chkIx ops (masksL ops []) i o.op).filterMap fun k => ops[k]?, i)
def allocIx : List Oper → Nat → List Nat
 | [], _ => []
 | o :: os, i => bif allocs o.op then i :: allocIx os (i + 1) else allocIx os (i + 1)
def anyUn (ms : List Nat) (i : Nat) : List Nat → Bool
 | [] => false
 | j :: l => unord ms i j || anyUn ms i l
def pairUn (ms : List Nat) : List Nat → Bool
 | [] => false
 | i :: l => anyUn ms i l || pairUn ms l
def needRes (ops : List Oper) : Bool :=
 match allocIx ops 0 with
 | [] => false
 | [_] => false
 | l => pairUn (masksL ops []) l
def atR (n : Nat) (x : Option (Res × Heap)) : Option (Res × Heap) := match x with | none => none | some (r, h) => some (r, ⟨h.m, n⟩)
def atN (n : Nat) (h : Heap) : Heap := ⟨h.m, n⟩
def reserveK (n : Nat) (h : Heap) (F : Nat → Heap → Option (Res × Heap)) : Option (Res × Heap) := F h.next ⟨h.m, h.next + n⟩
def effI (E : Env) (cf : Nat → List Value → Heap → Option (Res × Heap)) (rs : Option Nat) (i : Nat) (ρ : Operand → Value) (h : Heap) (op : Op) : Option (Res × Heap) :=
 match rs with
 | none => effA E cf ρ h op
 | some b => bif allocs op then atR h.next (effA E cf ρ ⟨h.m, b + i⟩ op) else effA E cf ρ h op
def eqV1 : Value → Value → Bool
 | .bool a, .bool b => a == b
 | .int k a, .int j b => decide (k = j) && decide (a = b)
 | .string a, .string b => sl a == sl b
 | .pointer none, .pointer none => true
 | .pointer (some ⟨b, o, none⟩), .pointer (some ⟨b', o', none⟩) => b == b' && o == o'
 | .slice none n c, .slice none n' c' => n == n' && c == c'
 | .slice (some ⟨b, o, none⟩) n c, .slice (some ⟨b', o', none⟩) n' c' => b == b' && o == o' && n == n' && c == c'
 | .slice (some ⟨b, o, some s⟩) n c, .slice (some ⟨b', o', some s'⟩) n' c' => b == b' && o == o' && s == s' && n == n' && c == c'
 | .map none, .map none => true
 | .map (some a), .map (some b) => a == b
 | .nilFunc, .nilFunc => true
 | .nilIface, .nilIface => true
 | _, _ => false
def eqVL : List Value → List Value → Bool
 | [], [] => true
 | a :: l, b :: m => eqV1 a b && eqVL l m
 | _, _ => false
def eqV : Value → Value → Bool
 | .agg a, .agg b => eqVL a.toList b.toList
 | .iface t a, .iface u b => t == u && eqV1 a b
 | a, b => eqV1 a b
def eqOV (x : Option Value) (v : Value) : Bool := match x with | some u => eqV u v | none => false
def chkOne (E : Env) (nt : Nat) (ops : List Oper) (T : Tmps) (h : Heap) (q : Oper) : Bool :=
 !(wantA ops T q) || (match q.dst with | none => false | some d => decide (d < nt) && eqOV (purA E (ev T) h q.op) (T d))
def chkL (E : Env) (nt : Nat) (ops : List Oper) (T : Tmps) (h : Heap) : List Oper → Bool
 | [] => true
 | q :: r => chkOne E nt ops T h q && chkL E nt ops T h r
def drawK (E : Env) (cf : CallF) (nt : Nat) (rs : Option Nat) (ops : List Oper) : List (Oper × Bool × List Oper × Nat) → Tmps → Heap → Kont → Ans
 | [], T, h, K => K .normal T h
 | (o, must, cs, i) :: rest, T, h, K =>
  bif isPure o.op then bindO (gO (wantA ops T o) (purA E (ev T) h o.op)) fun v => drawK E cf nt rs ops rest (putT nt T o.dst v) h K
  else bindR (gR (wantA ops T o) (effI E cf rs i (ev T) h o.op) h) (fun v h' => bif must then none else K (.panic v) T h') (fun v h' => bif chkL E nt ops T h' cs then drawK E cf nt rs ops rest (putT nt T o.dst v) h' K else none)
def drawB (E : Env) (cf : CallF) (nt : Nat) (ops : List Oper) (T : Tmps) (h : Heap) (K : Kont) : Bool → Ans
 | true => drawK E cf nt (some h.next) ops (plan ops) T ⟨h.m, h.next + ops.length⟩ K
 | false => drawK E cf nt none ops (plan ops) T h K
def drawR (E : Env) (cf : CallF) (nt : Nat) (ops : List Oper) (T : Tmps) (h : Heap) (K : Kont) : Ans := drawB E cf nt ops T h K (needRes ops)
def seqK (next : Tmps → Heap → Ans) (K : Kont) : Kont := fun x T h => match x with
 | .normal => next T h
 | x => K x T h
def blockK (id : Nat) (K : Kont) : Kont := fun x T h => match x with
 | .exit id' => bif id' == id then K .normal T h else K (.exit id') T h
 | x => K x T h
def condV (v : Value) (a b : Ans) : Ans := match v with
 | .bool t => bif t then a else b
 | _ => none
def iterK (f : Tmps → Heap → Kont → Ans) (K : Kont) : Nat → Tmps → Heap → Ans
 | 0, _, _ => none
 | n + 1, T, h => f T h (seqK (iterK f K n) K)
def execK (E : Env) (cf : CallF) (lf nt : Nat) : Code → Tmps → Heap → Kont → Ans
 | .skip, T, h, K => K .normal T h
 | .label _, T, h, K => K .normal T h
 | .region _ ops draw, T, h, K => bif draw then drawR E cf nt ops.toList T h K else opsK E cf nt ops.toList ops.toList T h K
 | .seq a b, T, h, K => execK E cf lf nt a T h (seqK (fun T h => execK E cf lf nt b T h K) K)
 | .cond c a b, T, h, K => condV (ev T c) (execK E cf lf nt a T h K) (execK E cf lf nt b T h K)
 | .block id c, T, h, K => execK E cf lf nt c T h (blockK id K)
 | .loop c, T, h, K => iterK (fun T h K => execK E cf lf nt c T h K) K lf T h
 | .exit id, T, h, K => K (.exit id) T h
 | .ret, T, h, K => K .ret T h
 | _, _, _, _ => none
/-! ### Calls -/
def T0 (args : List Value) : Tmps := fun k => (args[k]?).getD undef
def oneOf : List Value → Value
 | [v] => v
 | l => .tuple ⟨l⟩
def resK (E : Env) (T : Tmps) (h : Heap) : List ResultVar → List Value → (Value → Ans) → Ans
 | [], acc, F => F (oneOf acc.reverse)
 | .tmp t :: r, acc, F => resK E T h r (T t :: acc) F
 | .cell a ty :: r, acc, F => bindO (loadA E ty (T a) h) fun v => resK E T h r (v :: acc) F
def finK (E : Env) (rs : List ResultVar) : Kont := fun x T h => match x with
 | .normal => resK E T h rs [] fun v => some (.ret v, h)
 | .ret => resK E T h rs [] fun v => some (.ret v, h)
 | .panic v => some (.panic v, h)
 | .exit _ => none
def isRecover (o : Oper) : Bool :=
 match o.op with
 | .call { callee := .builtin .recover, .. } => o.guard.isNone
 | _ => false
def endK (K : Heap → Ans) : Kont := fun x _ h => match x with
 | .normal => K h
 | .ret => K h
 | _ => none
def deferredK (E : Env) (cf : CallF) (lf : Nat) (fn : Func) (args : List Value) (asked : Value) (h : Heap) (K : Heap → Ans) : Ans :=
 match fn.body with
 | some (.seq (.region _ ops false) rest) => match ops.toList with
  | o :: os => bif isRecover o && decide (args.length ≤ fn.ntmps) && fn.results.isEmpty then
    opsK E cf fn.ntmps ops.toList os (putT fn.ntmps (T0 args) o.dst asked) h (seqK (fun T h => execK E cf lf fn.ntmps rest T h (endK K)) (endK K))
   else none
  | [] => none
 | _ => none
def finD (E : Env) (cf : CallF) (lf : Nat) (rs : List ResultVar) (g : Func) (args : List Value) : Kont := fun x T h => match x with
 | .normal => deferredK E cf lf g args .nilIface h fun h => resK E T h rs [] fun v => some (.ret v, h)
 | .ret => deferredK E cf lf g args .nilIface h fun h => resK E T h rs [] fun v => some (.ret v, h)
 | .panic v => deferredK E cf lf g args v h fun h => resK E T h rs [] fun v => some (.ret v, h)
 | .exit _ => none
def deferRegion : Code → Option (FuncId × List Operand)
 | .region _ ops false => match ops.toList with
  | [{ dst := some d, op := .makeFunc (.func g) first captured, guard := none, .. }, { dst := none, op := .defer { callee := .value (.tmp d'), args := as, .. }, guard := none, .. }] =>
   bif d == d' && as.isEmpty && first.isEmpty then some (g, captured.toList) else none
  | _ => none
 | _ => none
def spineK (E : Env) (cf : CallF) (lf nt : Nat) (rs : List ResultVar) : Code → Tmps → Heap → Ans
 | .seq a b, T, h => match deferRegion a with
  | some (g, cap) => match E.fn g with
   | none => none
   | some gf => execK E cf lf nt b (putT nt T (yieldD (match a with | .region _ ops _ => ops.toList | _ => []) 0) (.func (.func g) ⟨[]⟩ ⟨evs (ev T) cap⟩)) h (finD E cf lf rs gf (evs (ev T) cap))
  | none => execK E cf lf nt a T h (seqK (fun T h => spineK E cf lf nt rs b T h) (finK E rs))
 | c, T, h => execK E cf lf nt c T h (finK E rs)
def stepN (E : Env) (cf : CallF) (lf : Nat) (f : FuncId) (args : List Value) (h : Heap) : Ans :=
 match E.fn f with
 | none => E.ext f args h
 | some fn => match fn.body with
  | none => none
  | some c => bif decide (args.length ≤ fn.ntmps) then spineK E cf lf fn.ntmps fn.results.toList c (T0 args) h else none
def callN (E : Env) : Nat → CallF
 | 0, _, _, _ => none
 | n + 1, f, args, h => stepN E (callN E n) n f args h
abbrev Step := CallF → Nat → List Value → Heap → Ans
def shG (E : Env) (S : Tr Step) : Nat → CallF
 | 0, _, _, _ => none
 | n + 1, f, args, h => match S.get f with
  | none => E.ext f args h
  | some s => s (shG E S n) n args h
/-! ### Places in code; what each construct is -/
def codeOf (f : Func) : Code := f.body.getD .skip
def opsOf : Code → List Oper
 | .region _ ops _ => ops.toList
 | _ => []
def cp : Code → List Nat → Code
 | c, [] => c
 | .seq a _, 0 :: r => cp a r
 | .seq _ b, 1 :: r => cp b r
 | .cond _ a _, 0 :: r => cp a r
 | .cond _ _ b, 1 :: r => cp b r
 | .block _ c, 0 :: r => cp c r
 | .loop c, 0 :: r => cp c r
 | c, _ => c
section
variable (E : Env) (cf : CallF) (lf nt : Nat) (T : Tmps) (h : Heap) (K : Kont)
theorem execK_seq (a b : Code) : execK E cf lf nt (.seq a b) T h K = execK E cf lf nt a T h (seqK (fun T h => execK E cf lf nt b T h K) K) := rfl
theorem execK_cond (c : Operand) (a b : Code) : execK E cf lf nt (.cond c a b) T h K = condV (ev T c) (execK E cf lf nt a T h K) (execK E cf lf nt b T h K) := rfl
theorem execK_block (id : Nat) (c : Code) : execK E cf lf nt (.block id c) T h K = execK E cf lf nt c T h (blockK id K) := rfl
theorem execK_loop (c : Code) : execK E cf lf nt (.loop c) T h K = iterK (fun T h K => execK E cf lf nt c T h K) K lf T h := rfl
theorem iterK_succ (f : Tmps → Heap → Kont → Ans) (n : Nat) : iterK f K (n + 1) T h = f T h (seqK (iterK f K n) K) := rfl
end
end Go.Proofs.YteekjekckgpbfaaDoor.Abs
end
section
namespace Go.Proofs.YteekjekckgpbfaaDoor.Abs
open Go.RowKit (Below)
/-! ### The relations -/
structure Loc where
 b : Nat
 e : TypeId
 n : Nat
 s : Nat
abbrev Sg := Nat → Option Loc
def Sg.le (σ σ' : Sg) : Prop := ∀ b l, σ b = some l → σ' b = some l
theorem Sg.le.refl (σ : Sg) : σ.le σ := fun _ _ h => h
theorem Sg.le.trans {a b c : Sg} (h : a.le b) (k : b.le c) : a.le c := fun x l e => k x l (h x l e)
section
variable (P : Program) (σ : Sg)
mutual
inductive VR : Value → Value → Prop
 | bool (b : Bool) : VR (.bool b) (.bool b)
 | int (k : IntKind) (n : Int) : VR (.int k n) (.int k n)
 | float (k : FloatKind) (n : Nat) : VR (.float k n) (.float k n)
 | string (s : ByteArray) : VR (.string s) (.string s)
 | nilPtr : VR (.pointer none) (.pointer none)
 | ptr (b o : Nat) (l : Loc) : σ b = some l → VR (.pointer (some ⟨b, o, none⟩)) (.pointer (some ⟨l.b, l.s + o, none⟩))
 | nilSlice : VR (.slice none 0 0) (.slice none 0 0)
 | slice (b o n c c' : Nat) (l : Loc) : σ b = some l → n ≤ c → c ≤ c' → o + c' * P.cellsOf l.e = l.n → c' ≤ maxLen →
   VR (.slice (some ⟨b, o, none⟩) n c) (.slice (some ⟨l.b, l.s + o, none⟩) n c')
 | weak (a : Addr) (c' : Nat) : VR (.slice (some ⟨0, 0, some 0⟩) 0 0) (.slice (some a) 0 c')
 | nilMap : VR (.map none) (.map none)
 | map (b : Nat) (l : Loc) : σ b = some l → VR (.map (some b)) (.map (some l.b))
 | func (fn : Fn) (f f' c c' : List Value) : VRL f f' → VRL c c' → VR (.func fn ⟨f⟩ ⟨c⟩) (.func fn ⟨f'⟩ ⟨c'⟩)
 | nilFunc : VR .nilFunc .nilFunc
 | nilIface : VR .nilIface .nilIface
 | iface (t : TypeId) (v v' : Value) : VR v v' → VR (.iface t v) (.iface t v')
 | agg (l l' : List Value) : VRL l l' → VR (.agg ⟨l⟩) (.agg ⟨l'⟩)
 | tuple (l l' : List Value) : VRL l l' → VR (.tuple ⟨l⟩) (.tuple ⟨l'⟩)
inductive VRL : List Value → List Value → Prop
 | nil : VRL [] []
 | cons (v v' : Value) (l l' : List Value) : VR v v' → VRL l l' → VRL (v :: l) (v' :: l')
end
end
section
variable {P : Program} {σ σ' : Sg}
mutual
theorem VR.mono (hs : σ.le σ') : ∀ {v v' : Value}, VR P σ v v' → VR P σ' v v'
 | _, _, .bool b => .bool b
 | _, _, .int k n => .int k n
 | _, _, .float k n => .float k n
 | _, _, .string s => .string s
 | _, _, .nilPtr => .nilPtr
 | _, _, .ptr b o l h => .ptr b o l (hs _ _ h)
 | _, _, .nilSlice => .nilSlice
 | _, _, .slice b o n c c' l h h1 h2 h3 h4 => .slice b o n c c' l (hs _ _ h) h1 h2 h3 h4
 | _, _, .weak a c' => .weak a c'
 | _, _, .nilMap => .nilMap
 | _, _, .map b l h => .map b l (hs _ _ h)
 | _, _, .func fn f f' c c' h h' => .func fn f f' c c' (VRL.mono hs h) (VRL.mono hs h')
 | _, _, .nilFunc => .nilFunc
 | _, _, .nilIface => .nilIface
 | _, _, .iface t v v' h => .iface t v v' (VR.mono hs h)
 | _, _, .agg l l' h => .agg l l' (VRL.mono hs h)
 | _, _, .tuple l l' h => .tuple l l' (VRL.mono hs h)
theorem VRL.mono (hs : σ.le σ') : ∀ {l l' : List Value}, VRL P σ l l' → VRL P σ' l l'
 | _, _, .nil => .nil
 | _, _, .cons v v' l l' h h' => .cons v v' l l' (VR.mono hs h) (VRL.mono hs h')
end
theorem VRL.length {l l' : List Value} (h : VRL P σ l l') : l.length = l'.length := by
 induction l generalizing l' with
 | nil => cases h; rfl
 | cons v l ih => cases h with | cons _ v' _ l' h h' => simp [ih h']
theorem VRL.get {l l' : List Value} (h : VRL P σ l l') {i : Nat} {v : Value} (hv : l[i]? = some v) : ∃ v', l'[i]? = some v' ∧ VR P σ v v' := by
 induction l generalizing l' i with
 | nil => simp at hv
 | cons x l ih =>
  cases h with
  | cons _ x' _ l' h h' =>
   cases i with
   | zero => simp at hv; subst hv; exact ⟨x', by simp, h⟩
   | succ i => simp at hv; obtain ⟨v', h1, h2⟩ := ih h' hv; exact ⟨v', by simpa using h1, h2⟩
theorem VRL.append {a a' b b' : List Value} (h : VRL P σ a a') (k : VRL P σ b b') : VRL P σ (a ++ b) (a' ++ b') := by
 induction a generalizing a' with
 | nil => cases h; simpa using k
 | cons x a ih => cases h with | cons _ x' _ a' h h' => exact .cons _ _ _ _ h (ih h')
theorem VRL.take {a a' : List Value} (n : Nat) (h : VRL P σ a a') : VRL P σ (a.take n) (a'.take n) := by
 induction a generalizing a' n with
 | nil => cases h; simp; exact .nil
 | cons x a ih =>
  cases h with
  | cons _ x' _ a' h h' =>
   cases n with
   | zero => simp; exact .nil
   | succ n => simp; exact .cons _ _ _ _ h (ih n h')
theorem VRL.drop {a a' : List Value} (n : Nat) (h : VRL P σ a a') : VRL P σ (a.drop n) (a'.drop n) := by
 induction a generalizing a' n with
 | nil => cases h; simp; exact .nil
 | cons x a ih =>
  cases h with
  | cons _ x' _ a' h h' =>
   cases n with
   | zero => simp; exact .cons _ _ _ _ h h'
   | succ n => simp; exact ih n h'
theorem VRL.putL {a a' b b' : List Value} (off : Nat) (h : VRL P σ a a') (k : VRL P σ b b') : VRL P σ (putL a off b) (putL a' off b') := by
 unfold Abs.putL
 rw [k.length]
 exact ((h.take off).append k).append (h.drop _)
theorem VRL.map {l : List Operand} {f f' : Operand → Value} (h : ∀ x, x ∈ l → VR P σ (f x) (f' x)) : VRL P σ (List.map f l) (List.map f' l) := by
 induction l with
 | nil => exact .nil
 | cons x l ih => exact .cons _ _ _ _ (h x (by simp)) (ih fun y hy => h y (by simp [hy]))
theorem VRL.reverse {a a' : List Value} (h : VRL P σ a a') : VRL P σ a.reverse a'.reverse := by
 induction a generalizing a' with
 | nil => cases h; exact .nil
 | cons x a ih =>
  cases h with
  | cons _ x' _ a' h h' => simp only [List.reverse_cons]; exact (ih h').append (.cons _ _ _ _ h .nil)
theorem VR.cells {v v' : Value} (h : VR P σ v v') : VRL P σ (vcells v) v'.cells.toList := by
 cases h with
 | agg l l' h => exact h
 | _ => exact .cons _ _ _ _ (by constructor <;> assumption) .nil
theorem vcells_eq (v : Value) : vcells v = v.cells.toList := by cases v <;> rfl
theorem oneC_eq (v : Value) : oneC v = v.oneCell' := by cases v <;> rfl
theorem VR.oneC {v v' : Value} (h : VR P σ v v') : Abs.oneC v' = Abs.oneC v := by cases h <;> rfl
theorem VRL.all_oneC {l l' : List Value} (h : VRL P σ l l') : l'.all Abs.oneC = l.all Abs.oneC := by
 induction l generalizing l' with
 | nil => cases h; rfl
 | cons x l ih => cases h with | cons _ x' _ l' h h' => simp [h.oneC, ih h']
end
/-! ### Values without addresses -/
def plain1 : Value → Bool
 | .bool _ | .int _ _ | .float _ _ | .string _ | .pointer none | .map none | .nilFunc | .nilIface => true
 | .slice none n c => n == 0 && c == 0
 | _ => false
def plainV : Value → Bool
 | .agg cs => cs.toList.all plain1
 | .tuple cs => cs.toList.all plain1
 | .iface _ v => plain1 v
 | v => plain1 v
theorem VR.of_plain1 {P : Program} {σ : Sg} {v : Value} (h : plain1 v = true) : VR P σ v v := by
 cases v with
 | pointer a => cases a with | none => exact .nilPtr | some a => simp [plain1] at h
 | slice a n c => cases a with | none => simp [plain1] at h; obtain ⟨rfl, rfl⟩ := h; exact .nilSlice | some a => simp [plain1] at h
 | map r => cases r with | none => exact .nilMap | some a => simp [plain1] at h
 | _ => first | (simp [plain1] at h; done) | constructor
theorem VRL.of_plain1 {P : Program} {σ : Sg} {l : List Value} (h : l.all plain1 = true) : VRL P σ l l := by
 induction l with
 | nil => exact .nil
 | cons v l ih => simp at h; exact .cons _ _ _ _ (VR.of_plain1 h.1) (ih (by simpa using h.2))
theorem VR.of_plain {P : Program} {σ : Sg} {v : Value} (h : plainV v = true) : VR P σ v v := by
 cases v with
 | agg cs => exact .agg _ _ (VRL.of_plain1 h)
 | tuple cs => exact .tuple _ _ (VRL.of_plain1 h)
 | iface t v => exact .iface _ _ _ (VR.of_plain1 h)
 | _ => exact VR.of_plain1 (by simpa [plainV] using h)
/-! ### The heap -/
def ownO : AObj → Bool
 | .cells k => k.own
 | .map _ => true
def OR (P : Program) (B : Nat) (σ : Sg) (w : World) (l : Loc) : AObj → Prop
 | .cells k => l.e = k.elem ∧ ∃ cs fr, w.heap[l.b]? = some (.cells cs k.elem fr) ∧ (k.own = true → l.n = cs.size) ∧ VRL P σ k.cells ((cs.toList.drop l.s).take k.cells.length) ∧ (k.own = true → fr = (0, 0) ∧ B ≤ l.b ∧ l.s = 0)
 | .map _ => False
structure HR (P : Program) (B : Nat) (w0 : World) (σ : Sg) (h : Heap) (w : World) : Prop where
 below : Below B w0 w
 base : B ≤ w.heap.size
 fresh : ∀ b, h.next ≤ b → σ b = none
 obj : ∀ b o, h.get b = some o → ∃ l, σ b = some l ∧ OR P B σ w l o
 inj : ∀ b b' o o' l l', h.get b = some o → ownO o = true → h.get b' = some o' → σ b = some l → σ b' = some l' → l.b = l'.b → b = b'
 lt : ∀ b l, σ b = some l → l.b < w.heap.size
 glob : ∀ g, g < P.globals.size → ∃ l, σ g = some l ∧ l.b = g ∧ l.s = 0
/-! ### The map of numbers -/
theorem Tr.get_putAux {α : Type} (f : Nat) : ∀ (t : Tr α) (k : Nat) (x : Option α) (j : Nat), k < f → (Tr.putAux f t k x).get j = if j = k then x else t.get j := by
 induction f with
 | zero => intro t k x j h; omega
 | succ f ih =>
  intro t k x j h
  have two : k % 2 = 1 ∨ k % 2 = 0 := by omega
  have key : ∀ (l r : Tr α) (v : Option α), (∀ j, (Tr.node l v r).get j = t.get j) →
    ((bif k == 0 then Tr.node l x r else bif k % 2 == 1 then Tr.node (Tr.putAux f l (k / 2) x) v r else Tr.node l v (Tr.putAux f r (k / 2 - 1) x)) : Tr α).get j = if j = k then x else t.get j := by
   intro l r v ht
   have htj := ht j
   by_cases hk : k = 0
   ·subst hk
    simp only [beq_self_eq_true, cond_true]
    by_cases hj : j = 0
    ·subst hj; simp [Tr.get]
    ·rw [if_neg hj, ← htj]
     have hj' : (j == 0) = false := by simpa using hj
     simp only [Tr.get, hj', cond_false]
   ·have hk' : (k == 0) = false := by simpa using hk
    simp only [hk', cond_false]
    rcases two with h1 | h0
    ·simp only [h1, beq_self_eq_true, cond_true]
     by_cases hj : j = 0
     ·subst hj; rw [if_neg (by omega), ← htj]; simp [Tr.get]
     ·have hj' : (j == 0) = false := by simpa using hj
      rcases (by omega : j % 2 = 1 ∨ j % 2 = 0) with j1 | j0
      ·simp only [Tr.get, hj', cond_false, j1, beq_self_eq_true, cond_true] at htj ⊢
       rw [ih _ _ _ _ (by omega), htj]
       by_cases e : j = k
       ·subst e; simp
       ·rw [if_neg e, if_neg (by omega)]
      ·simp only [Tr.get, hj', cond_false, j0] at htj ⊢
       rw [if_neg (by intro e; subst e; omega)]
       simpa using htj
    ·simp only [h0]
     by_cases hj : j = 0
     ·subst hj; rw [if_neg (by omega), ← htj]; simp [Tr.get]
     ·have hj' : (j == 0) = false := by simpa using hj
      rcases (by omega : j % 2 = 1 ∨ j % 2 = 0) with j1 | j0
      ·simp only [Tr.get, hj', cond_false, j1, beq_self_eq_true, cond_true] at htj ⊢
       rw [if_neg (by intro e; subst e; omega)]
       simpa [Tr.get, hj', j1] using htj
      ·have e1 : ((0 : Nat) == 1) = false := rfl
       simp only [Tr.get, hj', cond_false, j0, e1] at htj ⊢
       rw [ih _ _ _ _ (by omega), htj]
       by_cases e : j = k
       ·subst e; simp
       ·rw [if_neg e, if_neg (by omega)]
  cases t with
  | nil =>
   have := key .nil .nil none (fun j => by simp [Tr.get])
   simpa [Tr.putAux] using this
  | node l v r => exact key l r v (fun _ => rfl)
theorem Tr.get_put {α : Type} (t : Tr α) (k : Nat) (x : Option α) (j : Nat) : (t.put k x).get j = if j = k then x else t.get j := Tr.get_putAux _ t k x j (by omega)
theorem Heap.get_set (h : Heap) (b : Nat) (o : AObj) (j : Nat) : (h.set b o).get j = if j = b then some o else h.get j := Tr.get_put ..
theorem Heap.get_kill (h : Heap) (b : Nat) (j : Nat) : (h.kill b).get j = if j = b then none else h.get j := Tr.get_put ..
theorem Heap.get_alloc (h : Heap) (o : AObj) (j : Nat) : (h.alloc o).get j = if j = h.next then some o else h.get j := Tr.get_put ..
theorem Heap.blk_some {h : Heap} {b : Nat} {k : Blk} (e : h.blk b = some k) : h.get b = some (.cells k) := by
 unfold Heap.blk at e
 split at e
 ·rename_i k' hk
  cases hlt : Nat.blt b h.next with
  | true => simp only [hlt, cond_true] at e; injection e with e; subst e; exact hk
  | false => simp [hlt] at e
 ·cases e
theorem Heap.blk_lt {h : Heap} {b : Nat} {k : Blk} (e : h.blk b = some k) : b < h.next := by
 unfold Heap.blk at e
 split at e
 ·cases hlt : Nat.blt b h.next with
  | true => simpa [Nat.blt_eq] using hlt
  | false => simp [hlt] at e
 ·cases e
theorem Heap.blk_of {h : Heap} {b : Nat} {k : Blk} (e : h.get b = some (.cells k)) (hlt : b < h.next) : h.blk b = some k := by
 have : Nat.blt b h.next = true := by simpa [Nat.blt_eq] using hlt
 simp [Heap.blk, e, this]
theorem Heap.blk_alloc {h : Heap} {b : Nat} {k : Blk} (e : h.blk b = some k) (o : AObj) : (h.alloc o).blk b = some k := by
 have hlt := Heap.blk_lt e
 refine Heap.blk_of ?_ (by show b < h.next + 1; omega)
 rw [Heap.get_alloc, if_neg (by omega)]
 exact Heap.blk_some e
end Go.Proofs.YteekjekckgpbfaaDoor.Abs
end
section
namespace Go.Proofs.YteekjekckgpbfaaDoor.Abs
open Go.RowKit (Below)
/-! ### What the table of types must be -/
def fieldsOk (P : Program) : TypeDesc → Bool
 | .struct fs => fs.toList.all fun f => (P.info? f.type).isSome
 | _ => true
structure TyOk (P : Program) (t : TypeId) (i : TI) : Prop where
 und : P.underlying t = some i.desc
 info : (P.info? t).map (fun j => (j.size, j.bytes, j.zero)) = some (i.size, i.bytes, some (zeroV i))
 cells : vcells (zeroV i) = i.zero
 zlen : i.zero.length = i.size
 plain : i.zero.all plain1 = true
 flds : fieldsOk P i.desc = true
theorem TyOk.get {P : Program} {t : TypeId} {i : TI} (h : TyOk P t i) : ∃ j, P.info? t = some j ∧ j.size = i.size ∧ j.bytes = i.bytes ∧ j.zero = some (zeroV i) := by
 obtain ⟨j, hj, e⟩ := Option.map_eq_some_iff.1 h.info
 simp only [Prod.mk.injEq] at e
 exact ⟨j, hj, e.1, e.2.1, e.2.2⟩
theorem TyOk.cellsOf {P : Program} {t : TypeId} {i : TI} (h : TyOk P t i) : P.cellsOf t = i.size := by
 obtain ⟨j, hj, hs, _⟩ := h.get
 simp [Program.cellsOf, hj, hs]
def okOpnd (G : Nat) : Operand → Bool
 | .const v => plainV v
 | .global g => decide (g < G)
 | _ => true
section
variable {P : Program} {w : World} {σ : Sg} {h : Heap} {B : Nat} {w0 : World}
theorem run_und {t : TypeId} {i : TI} (ok : TyOk P t i) : (underlying t).run P w = .ok i.desc w := run_underlying ok.und w
theorem run_isAgg {t : TypeId} {i : TI} (ok : TyOk P t i) : (isAgg t).run P w = .ok (isAggD i.desc) w := by
 unfold isAgg
 rw [Sem.run_bind, run_und ok, Result.andThen_ok]
 cases i.desc <;> rfl
theorem run_size {t : TypeId} {i : TI} (ok : TyOk P t i) : (sizeOf t).run P w = .ok i.size w := by
 obtain ⟨j, hj, hs, _⟩ := ok.get
 simp [sizeOf, typeInfo, hj, hs]
theorem run_zero {t : TypeId} {i : TI} (ok : TyOk P t i) : (zeroValue t).run P w = .ok (zeroV i) w := by
 obtain ⟨j, hj, _, _, hz⟩ := ok.get
 simp [zeroValue, typeInfo, hj, hz]
theorem addr_add (b o n : Nat) : (⟨b, o, none⟩ : Addr).add n = ⟨b, o + n, none⟩ := by
 unfold Addr.add
 split
 ·rename_i e; subst e; rfl
 ·rfl
/-! ### Parts -/
theorem part_sound {t : TypeId} {i : TI} (ok : TyOk P t i) {cs : List Value} {cs' : Array Value} (hl : cs.length ≤ cs'.size) (hc : VRL P σ cs (cs'.toList.take cs.length)) {off : Nat} {v : Value}
  (e : partA (isAggD i.desc) cs off i.size = some v) : ∃ v', (part t cs' off).run P w = .ok v' w ∧ VR P σ v v' := by
 unfold partA at e
 cases ha : isAggD i.desc with
 | true =>
  simp only [ha, cond_true] at e
  by_cases hle : off + i.size ≤ cs.length
  ·simp only [hle, decide_true, cond_true, Option.some.injEq] at e
   subst e
   refine ⟨.agg (cs'.extract off (off + i.size)), ?_, ?_⟩
   ·simp [part, run_isAgg ok, run_size ok, ha]
   ·have h1 : cs'.extract off (off + i.size) = ⟨((cs'.toList.take cs.length).drop off).take i.size⟩ := by
     apply Array.ext'
     simp only [Array.toList_extract]
     rw [List.drop_take, List.take_take, List.extract_eq_take_drop]
     congr 1
     omega
    rw [h1]
    exact .agg _ _ ((hc.drop off).take _)
  ·simp [hle] at e
 | false =>
  simp only [ha, cond_false] at e
  obtain ⟨v', h1, h2⟩ := hc.get e
  have h3 : cs'[off]? = some v' := by
   rw [List.getElem?_take] at h1
   split at h1
   ·simpa using h1
   ·cases h1
  exact ⟨v', by simp [part, run_isAgg ok, ha, h3], h2⟩
theorem load_sound {E : Env} (ty : ∀ t i, E.ty t = some i → TyOk P t i) (H : HR P B w0 σ h w) {t : TypeId} {a a' v : Value} (ha : VR P σ a a') (e : loadA E t a h = some v) :
  ∃ v', (Instr.loadAt t a').run P w = .ok v' w ∧ VR P σ v v' := by
 unfold loadA at e
 split at e
 ·rename_i b off
  cases ha with
  | ptr _ _ l hl =>
   split at e
   ·cases e
   ·rename_i k hk
    split at e
    ·cases e
    ·rename_i i hi
     have ok := ty _ _ hi
     obtain ⟨l', hl', he, cs, fr, hw, hn, hv, _⟩ := H.obj _ _ (Heap.blk_some hk)
     rw [hl] at hl'
     injection hl' with hl'
     subst hl'
     have hlen : k.cells.length ≤ cs.size - l.s := by have := hv.length; simp at this; omega
     have hcell : ∀ j v, (cs.toList.drop l.s)[j]? = some v → w.cell? ⟨l.b, l.s + j, none⟩ = some v := by
      intro j v hj
      rw [List.getElem?_drop] at hj
      simp [World.cell?, hw]
      simpa using hj
     unfold partA at e
     cases hagg : isAggD i.desc with
     | true =>
      simp only [hagg, cond_true] at e
      by_cases hle : off + i.size ≤ k.cells.length
      ·simp only [hle, decide_true, cond_true, Option.some.injEq] at e
       subst e
       have hsz : ((((cs.toList.drop l.s).take k.cells.length).drop off).take i.size).length = i.size := by simp; omega
       have hr := run_loadCells_list (P := P) w ⟨l.b, l.s + off, none⟩ ((((cs.toList.drop l.s).take k.cells.length).drop off).take i.size) (fun j v hj => by
        rw [addr_add, Nat.add_assoc]
        apply hcell
        rw [List.getElem?_take] at hj
        split at hj
        ·rw [List.getElem?_drop, List.getElem?_take] at hj
         split at hj
         ·exact hj
         ·cases hj
        ·cases hj)
       rw [hsz] at hr
       refine ⟨.agg ⟨(((cs.toList.drop l.s).take k.cells.length).drop off).take i.size⟩, ?_, .agg _ _ ((hv.drop off).take _)⟩
       simp [Instr.loadAt, Instr.sureAddr, loadVar, run_isAgg ok, run_size ok, hagg, hr]
      ·simp [hle] at e
     | false =>
      simp only [hagg, cond_false] at e
      obtain ⟨v', h1, h2⟩ := hv.get e
      have h3 : (cs.toList.drop l.s)[off]? = some v' := by
       rw [List.getElem?_take] at h1
       split at h1
       ·exact h1
       ·cases h1
      refine ⟨v', ?_, h2⟩
      simp [Instr.loadAt, Instr.sureAddr, loadVar, run_isAgg ok, hagg, hcell _ _ h3]
 ·cases e
/-! ### Structs and arrays put together -/
theorem putL_get (cs : List Value) (off : Nat) (vs : List Value) (hle : off + vs.length ≤ cs.length) (j : Nat) : (putL cs off vs)[j]? = if j < off then cs[j]? else if j < off + vs.length then vs[j - off]? else cs[j]? := by
 unfold putL
 have hm : min off cs.length = off := by omega
 by_cases h1 : j < off
 ·rw [if_pos h1, List.append_assoc, List.getElem?_append_left (by simp; omega), List.getElem?_take, if_pos h1]
 ·rw [if_neg h1, List.append_assoc, List.getElem?_append_right (by simp; omega)]
  simp only [List.length_take, hm]
  by_cases h2 : j < off + vs.length
  ·rw [if_pos h2, List.getElem?_append_left (by omega)]
  ·rw [if_neg h2, List.getElem?_append_right (by omega), List.getElem?_drop]
   congr 1
   omega
theorem putL_length (cs : List Value) (off : Nat) (vs : List Value) (hle : off + vs.length ≤ cs.length) : (putL cs off vs).length = cs.length := by
 simp [putL]; omega
theorem foldl_put (vs : List Value) : ∀ (off k : Nat) (cs : Array Value), off + k + vs.length ≤ cs.size →
  ((vs.zipIdx k).foldl (fun cs (x : Value × Nat) => cs.setIfInBounds (off + x.2) x.1) cs).toList = putL cs.toList (off + k) vs := by
 induction vs with
 | nil => intro off k cs hle; simp [putL]
 | cons v vs ih =>
  intro off k cs hle
  simp only [List.length_cons] at hle
  have hcs : cs.toList.length = cs.size := Array.length_toList
  rw [List.zipIdx_cons, List.foldl_cons, ih off (k + 1) _ (by simp; omega)]
  apply List.ext_getElem?
  intro j
  rw [putL_get _ _ _ (by simp; omega), putL_get _ _ _ (by simp; omega)]
  simp only [Array.toList_setIfInBounds, List.length_cons, List.getElem?_set]
  by_cases h1 : j < off + k
  ·rw [if_pos (by omega), if_pos h1, if_neg (by omega)]
  ·rw [if_neg h1]
   by_cases h2 : j = off + k
   ·subst h2
    rw [if_pos (by omega), if_pos rfl, if_pos (by omega), if_pos (by omega)]
    simp
   ·rw [if_neg (by omega)]
    by_cases h3 : j < off + k + (vs.length + 1)
    ·rw [if_pos (by omega), if_pos h3]
     obtain ⟨d, rfl⟩ : ∃ d, j = off + k + 1 + d := ⟨j - (off + k + 1), by omega⟩
     rw [show off + k + 1 + d - (off + (k + 1)) = d by omega, show off + k + 1 + d - (off + k) = d + 1 by omega]
     simp
    ·rw [if_neg (by omega), if_neg (by omega), if_neg h3]
theorem fill_sound {place : Nat → Option (Nat × Nat)} : ∀ {parts parts' : List (Nat × Value)} {cs cs' out : List Value}, VRL P σ cs cs' →
  (parts.map (·.1) = parts'.map (·.1)) → VRL P σ (parts.map (·.2)) (parts'.map (·.2)) → fillL place cs parts = some out →
  ∃ out', Instr.fill place ⟨cs'⟩ parts' = some ⟨out'⟩ ∧ VRL P σ out out' := by
 intro parts
 induction parts with
 | nil =>
  intro parts' cs cs' out hc h1 h2 e
  cases parts' with
  | nil => simp only [fillL, Option.some.injEq] at e; subst e; exact ⟨cs', rfl, hc⟩
  | cons p r => simp at h1
 | cons p parts ih =>
  intro parts' cs cs' out hc h1 h2 e
  obtain ⟨i, v⟩ := p
  cases parts' with
  | nil => simp at h1
  | cons p' parts' =>
   obtain ⟨i', v'⟩ := p'
   simp only [List.map_cons, List.cons.injEq] at h1
   obtain ⟨rfl, h1⟩ := h1
   cases h2 with
   | cons _ _ _ _ hv h2 =>
    simp only [fillL] at e
    cases hp : place i with
    | none => simp [hp] at e
    | some q =>
     obtain ⟨off, size⟩ := q
     simp only [hp] at e
     have hcl := hc.length
     have hvl := hv.cells.length
     by_cases hbad : (vcells v).length ≠ size ∨ off + (vcells v).length > cs.length
     ·have : (!((vcells v).length == size) || decide (off + (vcells v).length > cs.length)) = true := by
       rcases hbad with hb | hb
       ·simp [hb]
       ·simp [hb]
      simp [this] at e
     ·have hb1 : (vcells v).length = size := by omega
      have hb2 : off + (vcells v).length ≤ cs.length := by omega
      have : (!((vcells v).length == size) || decide (off + (vcells v).length > cs.length)) = false := by
       simp [hb1]; omega
      simp only [this, cond_false] at e
      have hput : VRL P σ (putL cs off (vcells v)) (putL cs' off v'.cells.toList) := hc.putL off hv.cells
      obtain ⟨out', ho, hr⟩ := ih hput h1 h2 e
      refine ⟨out', ?_, hr⟩
      have hsz : v'.cells.size = size := by simp at hvl; omega
      simp only [Instr.fill, hp]
      rw [if_neg (by simp; omega)]
      rw [← ho]
      congr 1
      apply Array.ext'
      have hf := foldl_put v'.cells.toList off 0 ⟨cs'⟩ (by simp at hvl ⊢; omega)
      simp only [Nat.add_zero] at hf
      rw [← hf]
      simp only [← Array.foldl_toList, Array.toList_zipIdx]
theorem VRL.repL {z z' : List Value} (n : Nat) (h : VRL P σ z z') : VRL P σ (repL z n) (repL z' n) := by
 induction n with
 | zero => exact .nil
 | succ n ih => exact h.append ih
theorem zeroV_cells {t : TypeId} {i : TI} (ok : TyOk P t i) : (zeroV i).cells.toList = i.zero := by rw [← vcells_eq]; exact ok.cells
theorem TyOk.self {t : TypeId} {i : TI} (ok : TyOk P t i) : VRL P σ i.zero i.zero := VRL.of_plain1 ok.plain
theorem TyOk.zeroVR {t : TypeId} {i : TI} (ok : TyOk P t i) : VR P σ (zeroV i) (zeroV i) := by
 have hc := ok.cells
 have hp := ok.plain
 unfold zeroV at hc ⊢
 cases hagg : isAggD i.desc with
 | true => simp only [hagg, cond_true] at hc ⊢; exact .agg _ _ (VRL.of_plain1 hp)
 | false =>
  simp only [hagg, cond_false] at hc ⊢
  cases hz : i.zero with
  | nil => simp only [hz, List.head?_nil, Option.getD_none]; exact .tuple _ _ .nil
  | cons v r =>
   simp only [hz, List.all_cons, Bool.and_eq_true] at hp
   simp only [List.head?_cons, Option.getD_some]
   exact VR.of_plain1 hp.1
theorem fillL_mono {place place' : Nat → Option (Nat × Nat)} (hp : ∀ i q, place i = some q → place' i = some q) : ∀ {parts : List (Nat × Value)} {cs out : List Value}, fillL place cs parts = some out → fillL place' cs parts = some out := by
 intro parts
 induction parts with
 | nil => intro cs out e; exact e
 | cons p parts ih =>
  intro cs out e
  obtain ⟨i, v⟩ := p
  simp only [fillL] at e ⊢
  cases hq : place i with
  | none => simp [hq] at e
  | some q =>
   rw [hp _ _ hq]
   simp only [hq] at e ⊢
   cases hb : (!((vcells v).length == q.2) || decide (q.1 + (vcells v).length > cs.length)) with
   | true => simp [hb] at e
   | false => simp only [hb, cond_false] at e ⊢; exact ih e
theorem run_places {P : Program} (l : List Field) (W : World) (hl : ∀ f ∈ l, (P.info? f.type).isSome = true) :
  (l.mapM (fun f => (do pure (f.offset, ← sizeOf f.type) : Sem (Nat × Nat)))).run P W = .ok (l.map fun f => (f.offset, P.cellsOf f.type)) W := by
 induction l with
 | nil => rfl
 | cons f l ih =>
  obtain ⟨fi, hfi⟩ := Option.isSome_iff_exists.1 (hl f (by simp))
  have hs : (sizeOf f.type).run P W = .ok fi.size W := by simp [sizeOf, typeInfo, hfi]
  rw [List.mapM_cons]
  simp only [Sem.run_bind, hs, Result.andThen_ok, Sem.run_pure, ih (fun g hg => hl g (by simp [hg])), List.map_cons, Program.cellsOf, hfi, Option.map_some, Option.getD_some]
theorem build_sound {E : Env} (ty : ∀ t i, E.ty t = some i → TyOk P t i) {t : TypeId} {parts parts' : Array (Nat × Value)} {v : Value}
  (h1 : parts.toList.map (·.1) = parts'.toList.map (·.1)) (h2 : VRL P σ (parts.toList.map (·.2)) (parts'.toList.map (·.2))) (e : buildA E t parts.toList = some v) :
  ∃ v', (Instr.build t parts').run P w = .ok v' w ∧ VR P σ v v' := by
 unfold buildA at e
 split at e
 ·rename_i fs sz bt z hi
  have ok := ty _ _ hi
  split at e
  ·cases e
  ·rename_i cs hf
   injection e with e
   subst e
   have hz : (zeroV ⟨.struct fs, sz, bt, z⟩).cells = ⟨z⟩ := Array.ext' (zeroV_cells ok)
   have hfl : ∀ f ∈ fs.toList, (P.info? f.type).isSome = true := by
    have := ok.flds
    simp only [fieldsOk] at this
    exact List.all_eq_true.1 this
   have hpl : ∀ W : World, (fs.mapM (fun f => (do pure (f.offset, ← sizeOf f.type) : Sem (Nat × Nat)))).run P W = .ok (fs.toList.map fun f => (f.offset, P.cellsOf f.type)).toArray W := by
    intro W
    rw [Array.mapM_eq_mapM_toList, Sem.run_map, run_places _ _ hfl]
    rfl
   have hf' := fillL_mono (place' := fun i => (fs.toList.map fun f => (f.offset, P.cellsOf f.type))[i]?) (by
    intro i q hq
    unfold placeS at hq
    cases hfi : fs.toList[i]? with
    | none => simp [hfi] at hq
    | some f =>
     simp only [hfi] at hq
     cases hty : E.ty f.type with
     | none => simp [hty] at hq
     | some fi =>
      simp only [hty, Option.some.injEq] at hq
      subst hq
      rw [List.getElem?_map, hfi]
      simp [(ty _ _ hty).cellsOf]) hf
   obtain ⟨out', ho, hr⟩ := fill_sound (σ := σ) (P := P) ok.self h1 h2 hf'
   refine ⟨.agg ⟨out'⟩, ?_, .agg _ _ hr⟩
   simp only [Instr.build, Sem.run_bind, run_zero ok, Result.andThen_ok, run_und ok, hpl, hz]
   have : (fun i : Nat => (fs.toList.map fun f => (f.offset, P.cellsOf f.type)).toArray[i]?) = fun i : Nat => (fs.toList.map fun f => (f.offset, P.cellsOf f.type))[i]? := by
    funext i; simp
   rw [this, ho]
   rfl
 ·rename_i n e' sz bt z hi
  have ok := ty _ _ hi
  split at e
  ·cases e
  ·rename_i ie hie
   split at e
   ·cases e
   ·rename_i cs hf
    injection e with e
    subst e
    have hz : (zeroV ⟨.array n e', sz, bt, z⟩).cells = ⟨z⟩ := Array.ext' (zeroV_cells ok)
    obtain ⟨out', ho, hr⟩ := fill_sound (σ := σ) (P := P) ok.self h1 h2 hf
    refine ⟨.agg ⟨out'⟩, ?_, .agg _ _ hr⟩
    simp only [Instr.build, Sem.run_bind, run_zero ok, Result.andThen_ok, run_und ok, run_size (ty _ _ hie), hz, ho]
    rfl
 ·cases e
end
end Go.Proofs.YteekjekckgpbfaaDoor.Abs
end
section
namespace Go.Proofs.YteekjekckgpbfaaDoor.Abs
open Go.RowKit (Below)
section
variable {P : Program} {w : World} {σ : Sg} {h : Heap} {B : Nat} {w0 : World}
theorem natOf_some {v : Value} {n : Nat} (e : natOf v = some n) : ∃ k, v = .int k (n : Int) := by
 unfold natOf at e
 split at e
 ·rename_i k m
  by_cases hm : 0 ≤ m
  ·simp only [hm, decide_true, cond_true, Option.some.injEq] at e
   subst e
   exact ⟨k, by rw [Int.toNat_of_nonneg hm]⟩
  ·simp [hm] at e
 ·cases e
theorem VR.natOf {v v' : Value} {n : Nat} (hv : VR P σ v v') (e : natOf v = some n) : ∃ k, v' = .int k (n : Int) := by
 obtain ⟨k, rfl⟩ := natOf_some e
 cases hv
 exact ⟨k, rfl⟩
theorem fieldOf_sound {E : Env} (ty : ∀ t i, E.ty t = some i → TyOk P t i) {s : TypeId} {f o : Nat} {fi : TI} (e : fieldOf E s f = some (o, fi)) :
  ∃ fs fd si, TyOk P s si ∧ si.desc = .struct fs ∧ fs[f]? = some fd ∧ fd.offset = o ∧ TyOk P fd.type fi := by
 unfold fieldOf structOf at e
 split at e
 ·cases e
 ·rename_i fl hfl
  split at hfl
  ·rename_i fs sz bt z hi
   injection hfl with hfl
   subst hfl
   split at e
   ·cases e
   ·rename_i fd hfd
    split at e
    ·cases e
    ·rename_i fi' hfi
     injection e with e
     simp only [Prod.mk.injEq] at e
     obtain ⟨rfl, rfl⟩ := e
     exact ⟨fs, fd, _, ty _ _ hi, rfl, by simpa using hfd, rfl, ty _ _ hfi⟩
  ·cases hfl
theorem fieldAddr_sound {E : Env} (ty : ∀ t i, E.ty t = some i → TyOk P t i) {s : TypeId} {x x' v : Value} {f : Nat} (hx : VR P σ x x') (e : fieldAddrA E s x f = some v) :
  ∃ v', (Instr.fieldAt s x' f).run P w = .ok v' w ∧ VR P σ v v' := by
 unfold fieldAddrA at e
 split at e
 ·rename_i b off
  cases hx with
  | ptr _ _ l hl =>
   split at e
   ·cases e
   ·rename_i o fi hf
    obtain ⟨fs, fd, si, ok, hd, hfd, ho, okf⟩ := fieldOf_sound ty hf
    have hu := ok.und
    rw [hd] at hu
    cases hz : (fi.size == 0) with
    | true => simp [hz] at e
    | false =>
     simp only [hz, cond_false, Option.some.injEq] at e
     subst e
     have hz' : ¬ fi.size = 0 := by simpa using hz
     refine ⟨.pointer (some ⟨l.b, l.s + (off + o), none⟩), ?_, .ptr _ _ l hl⟩
     simp only [Instr.fieldAt, Sem.run_bind, run_underlying hu, Result.andThen_ok, hfd, Instr.sureAddr, Sem.run_pure, fieldPlace, run_size okf, Sem.run_ite, if_neg hz', addr_add, ho, Nat.add_assoc]
 ·cases e
theorem field_sound {E : Env} (ty : ∀ t i, E.ty t = some i → TyOk P t i) {s : TypeId} {x x' v : Value} {f : Nat} (hx : VR P σ x x') (e : fieldA E s x f = some v) :
  ∃ v', (Instr.field s x' f).run P w = .ok v' w ∧ VR P σ v v' := by
 unfold fieldA at e
 split at e
 ·rename_i cs
  cases hx with
  | agg l l' hl =>
   split at e
   ·cases e
   ·rename_i o fi hf
    obtain ⟨fs, fd, si, ok, hd, hfd, ho, okf⟩ := fieldOf_sound ty hf
    have hu := ok.und
    rw [hd] at hu
    subst ho
    have hlen := hl.length
    obtain ⟨v', hr, hv⟩ := part_sound (w := w) (cs' := ⟨l'⟩) okf (by simp; omega) (by rw [hlen]; simpa using hl) e
    refine ⟨v', ?_, hv⟩
    simp only [Instr.field, Sem.run_bind, run_underlying hu, Result.andThen_ok, hfd, asAgg, Sem.run_pure, hr]
 ·cases e
theorem indexAddr_sound {E : Env} (ty : ∀ t i, E.ty t = some i → TyOk P t i) {t : TypeId} {x x' i i' v : Value} (hx : VR P σ x x') (hi : VR P σ i i') (e : indexAddrA E t x i = some v) :
  ∃ v', (Instr.indexAt t x' i').run P w = .ok v' w ∧ VR P σ v v' := by
 unfold indexAddrA at e
 split at e
 ·rename_i el sz bt z ht
  have ok := ty _ _ ht
  split at e
  ·cases e
  ·rename_i ie hie
   have oke := ty _ _ hie
   split at e
   ·rename_i b off n c j hj
    obtain ⟨kk, rfl⟩ := hi.natOf hj
    cases hx with
    | slice _ _ _ _ c' l hl h1 h2 h3 h4 =>
     by_cases hjn : j < n
     ·simp only [hjn, decide_true, cond_true, Option.some.injEq] at e
      subst e
      refine ⟨.pointer (some ⟨l.b, l.s + (off + j * ie.size), none⟩), ?_, .ptr _ _ l hl⟩
      simp [Instr.indexAt, asIntOf, run_underlying ok.und, run_size oke, hjn, addr_add, Nat.add_assoc]
     ·simp [hjn] at e
   ·cases e
 ·rename_i n el sz bt z ht
  have ok := ty _ _ ht
  split at e
  ·cases e
  ·rename_i ie hie
   have oke := ty _ _ hie
   split at e
   ·rename_i b off j hj
    obtain ⟨kk, rfl⟩ := hi.natOf hj
    cases hx with
    | ptr _ _ l hl =>
     by_cases hjn : j < n
     ·simp only [hjn, decide_true, cond_true, Option.some.injEq] at e
      subst e
      refine ⟨.pointer (some ⟨l.b, l.s + (off + j * ie.size), none⟩), ?_, .ptr _ _ l hl⟩
      simp [Instr.indexAt, asIntOf, run_underlying ok.und, run_size oke, hjn, addr_add, Instr.sureAddr, Nat.add_assoc]
     ·simp [hjn] at e
   ·cases e
 ·cases e
theorem ba_get {s : ByteArray} {j : Nat} {b : UInt8} (h : (sl s)[j]? = some b) : s[j]? = some b := by
 have h' : s.data[j]? = some b := by simpa [sl] using h
 obtain ⟨hj, hb⟩ := Array.getElem?_eq_some_iff.1 h'
 have : j < s.size := hj
 rw [getElem?_pos s j this]
 exact congrArg some hb
theorem index_sound {E : Env} (ty : ∀ t i, E.ty t = some i → TyOk P t i) {t : TypeId} {x x' i i' v : Value} (hx : VR P σ x x') (hi : VR P σ i i') (e : indexA E t x i = some v) :
  ∃ v', (Instr.index t x' i').run P w = .ok v' w ∧ VR P σ v v' := by
 unfold indexA at e
 split at e
 ·rename_i s j hj
  obtain ⟨kk, rfl⟩ := hi.natOf hj
  cases hx
  split at e
  ·rename_i sz bt z ht
   split at e
   ·cases e
   ·rename_i b hb
    injection e with e
    subst e
    refine ⟨byteV b, ?_, .int _ _⟩
    simp [Instr.index, asIntOf, run_underlying (ty _ _ ht).und, ba_get hb, byteV]
  ·cases e
 ·rename_i cs j hj
  obtain ⟨kk, rfl⟩ := hi.natOf hj
  cases hx with
  | agg l l' hl =>
   split at e
   ·rename_i n el sz bt z ht
    have ok := ty _ _ ht
    split at e
    ·cases e
    ·rename_i ie hie
     have oke := ty _ _ hie
     by_cases hjn : j < n
     ·simp only [hjn, decide_true, cond_true] at e
      have hlen := hl.length
      obtain ⟨v', hr, hv⟩ := part_sound (w := w) (cs' := ⟨l'⟩) oke (by simp; omega) (by rw [hlen]; simpa using hl) e
      refine ⟨v', ?_, hv⟩
      simp only [Instr.index, asIntOf, Sem.run_bind, Sem.run_pure, Result.andThen_ok, run_underlying ok.und, run_size oke, Int.toNat_natCast, Sem.run_ite]
      rw [if_pos ⟨by omega, by omega⟩]
      exact hr
     ·simp [hjn] at e
   ·cases e
 ·cases e
/-! ### Slices of strings and slices -/
theorem bound_sound {x x' : Option Value} {d top n : Nat} (hx : (x = none ∧ x' = none) ∨ ∃ a a', x = some a ∧ x' = some a' ∧ VR P σ a a') (e : boundA x d top = some n) (hd : d ≤ top) (c : BoundsCode) :
  n ≤ top ∧ ((x' = none ∧ n = d) ∨ ∃ a', x' = some a' ∧ (Instr.sliceBound a' top c).run P w = .ok n w ∧ ∀ y, n ≤ y → (Instr.sliceBound a' y c).run P w = .ok n w) := by
 rcases hx with ⟨rfl, rfl⟩ | ⟨a, a', rfl, rfl, ha⟩
 ·simp only [boundA, Option.some.injEq] at e
  subst e
  exact ⟨hd, .inl ⟨rfl, rfl⟩⟩
 ·unfold boundA at e
  split at e
  ·rename_i h; cases h
  ·rename_i v h
   injection h with h
   subst h
   split at e
   ·rename_i m hm
    obtain ⟨k, rfl⟩ := ha.natOf hm
    by_cases hle : m ≤ top
    ·simp only [hle, decide_true, cond_true, Option.some.injEq] at e
     subst e
     have key : ∀ y, m ≤ y → (Instr.sliceBound (.int k (m : Int)) y c).run P w = .ok m w := by
      intro y hy
      simp only [Instr.sliceBound, asIntOf, Sem.run_bind, Sem.run_pure, Result.andThen_ok, Sem.run_ite]
      rw [if_pos ⟨by omega, by omega⟩]
      simp
     exact ⟨hle, .inr ⟨_, rfl, key _ hle, key⟩⟩
    ·simp [hle] at e
   ·cases e
def optVR (P : Program) (σ : Sg) (x x' : Option Value) : Prop := (x = none ∧ x' = none) ∨ ∃ a a', x = some a ∧ x' = some a' ∧ VR P σ a a'
theorem extract_eq (s : ByteArray) (l n : Nat) (hl : l ≤ n) (hn : n ≤ slen s) : s.extract l n = mkS (((sl s).drop l).take (n - l)) := by
 apply ByteArray.ext
 apply Array.ext'
 simp only [mkS, sl, ByteArray.data_extract, Array.toList_extract, List.extract_eq_take_drop]
theorem slen_eq (s : ByteArray) : slen s = s.size := Array.length_toList
theorem slice_sound {E : Env} (ty : ∀ t i, E.ty t = some i → TyOk P t i) (H : HR P B w0 σ h w) {t : TypeId} {x x' v : Value} {lo lo' hi hi' : Option Value} (hx : VR P σ x x') (hlo : optVR P σ lo lo') (hhi : optVR P σ hi hi')
  (e : sliceA E t x lo hi h = some v) : ∃ v', (Instr.sliceAt t x' lo' hi' none).run P w = .ok v' w ∧ VR P σ v v' := by
 unfold sliceA at e
 split at e
 ·rename_i s
  cases hx
  split at e
  ·rename_i sz bt z ht
   have hu := (ty _ _ ht).und
   split at e
   ·cases e
   ·rename_i n hn
    split at e
    ·cases e
    ·rename_i l hl
     injection e with e
     subst e
     obtain ⟨hn1, hn2⟩ := bound_sound (w := w) hhi hn (Nat.le_refl _) .sliceAlen
     obtain ⟨hl1, hl2⟩ := bound_sound (w := w) hlo hl (Nat.zero_le _) .sliceB
     refine ⟨.string (s.extract l n), ?_, by rw [extract_eq s l n hl1 hn1]; exact .string _⟩
     rw [slen_eq] at hn2 hn1
     rcases hn2 with ⟨rfl, hn2⟩ | ⟨a, rfl, hn2, _⟩ <;> rcases hl2 with ⟨rfl, hl2⟩ | ⟨b, rfl, hl2, hl3⟩
     ·subst hn2; subst hl2; simp [Instr.sliceAt, Instr.slice, Instr.sliceBounds, run_underlying hu]
     ·subst hn2; simp [Instr.sliceAt, Instr.slice, Instr.sliceBounds, run_underlying hu, hl2]
     ·subst hl2; simp [Instr.sliceAt, Instr.slice, Instr.sliceBounds, run_underlying hu, hn2]
     ·simp [Instr.sliceAt, Instr.slice, Instr.sliceBounds, run_underlying hu, hn2, hl2]
  ·cases e
 ·rename_i a n c
  split at e
  ·rename_i el sz bt z ht
   have hu := (ty _ _ ht).und
   split at e
   ·cases e
   ·rename_i ie hie
    have oke := ty _ _ hie
    split at e
    ·cases e
    ·rename_i m hm
     split at e
     ·cases e
     ·rename_i l hl
      obtain ⟨hm1, hm2⟩ := bound_sound (w := w) hhi hm (Nat.le_refl _) .sliceAcap
      obtain ⟨hl1, hl2⟩ := bound_sound (w := w) hlo hl (Nat.zero_le _) .sliceB
      have bounds : ∀ c', n ≤ c' → (Instr.sliceBounds true n c' lo' hi' none).run P w = .ok (l, m, c') w := by
       intro c' hc'
       rcases hm2 with ⟨rfl, hm2⟩ | ⟨a', rfl, _, hm3⟩ <;> rcases hl2 with ⟨rfl, hl2⟩ | ⟨b', rfl, hl2, hl3⟩
       ·subst hm2; subst hl2; simp [Instr.sliceBounds]
       ·subst hm2; simp [Instr.sliceBounds, hl2]
       ·subst hl2; simp [Instr.sliceBounds, hm3 c' (by omega)]
       ·simp [Instr.sliceBounds, hm3 c' (by omega), hl2]
      split at e
      ·injection e with e
       subst e
       cases hx
       refine ⟨.slice none 0 0, ?_, .nilSlice⟩
       have : m = 0 := by omega
       subst this
       have : l = 0 := by omega
       subst this
       simp [Instr.sliceAt, run_underlying hu, Instr.slice, bounds 0 (Nat.le_refl _), run_size oke]
      ·rename_i ad
       by_cases hcm : c < m
       ·simp [hcm] at e
       ·simp only [hcm, decide_false, cond_false] at e
        cases hx with
        | weak a' c' =>
         have : m = 0 := by omega
         subst this
         have : l = 0 := by omega
         subst this
         simp only [beq_self_eq_true, cond_true, Option.some.injEq] at e
         subst e
         refine ⟨.slice (some (if c' = 0 then a' else a'.add (0 * ie.size))) (0 - 0) (c' - 0), ?_, .weak _ _⟩
         simp only [Instr.sliceAt, Sem.run_bind, run_underlying hu, Result.andThen_ok, Instr.slice, bounds c' (Nat.zero_le _), run_size oke, Sem.run_pure]
         split <;> simp
        | slice b o _ _ c' lc hlc h1 h2 h3 h4 =>
         by_cases heq : m = l
         ·subst heq
          simp only [beq_self_eq_true, cond_true, Option.some.injEq] at e
          subst e
          refine ⟨.slice (some (if c' = m then ⟨lc.b, lc.s + o, none⟩ else (⟨lc.b, lc.s + o, none⟩ : Addr).add (m * ie.size))) (m - m) (c' - m), ?_, by rw [Nat.sub_self]; exact .weak _ _⟩
          simp only [Instr.sliceAt, Sem.run_bind, run_underlying hu, Result.andThen_ok, Instr.slice, bounds c' (by omega), run_size oke, Sem.run_pure]
          split <;> simp
         ·have hbeq : (m == l) = false := by simpa using heq
          simp only [hbeq, cond_false] at e
          split at e
          ·cases e
          ·rename_i k hk
           obtain ⟨l', hl', he, cs, fr, hw, hn, hv, _⟩ := H.obj _ _ (Heap.blk_some hk)
           rw [hlc] at hl'
           injection hl' with hl'
           subst hl'
           by_cases hke : k.elem = el
           ·simp only [hke, beq_self_eq_true, Option.isNone_none, Bool.and_self, cond_true, Option.some.injEq] at e
            subst e
            have hsz : P.cellsOf lc.e = ie.size := by rw [he, hke]; exact oke.cellsOf
            refine ⟨.slice (some ⟨lc.b, lc.s + (o + l * ie.size), none⟩) (m - l) (c' - l), ?_, .slice _ _ _ _ _ lc hlc (by omega) (by omega) ?_ (by omega)⟩
            ·simp only [Instr.sliceAt, Sem.run_bind, run_underlying hu, Result.andThen_ok, Instr.slice, bounds c' (by omega), run_size oke, Sem.run_pure]
             rw [if_neg (by omega)]
             simp [addr_add, Nat.add_assoc]
            ·rw [hsz] at h3 ⊢
             rw [Nat.sub_mul, ← h3]
             have : l * ie.size ≤ c' * ie.size := Nat.mul_le_mul_right _ (by omega)
             omega
           ·have : (k.elem == el) = false := by simpa using hke
            simp [this] at e
  ·cases e
 ·cases e
end
end Go.Proofs.YteekjekckgpbfaaDoor.Abs
end
section
namespace Go.Proofs.YteekjekckgpbfaaDoor.Abs
open Go.RowKit (Below)
section
variable {P : Program} {w : World} {σ : Sg} {h : Heap} {B : Nat} {w0 : World}
theorem wrapA_eq (k : IntKind) (n : Int) : wrapA k n = k.wrap n := by
 unfold wrapA
 cases k with
 | i64 =>
  simp only [two63, two64]
  by_cases h1 : 0 ≤ n + 9223372036854775808
  ·by_cases h2 : n + 9223372036854775808 < 18446744073709551616
   ·simp only [h1, h2, decide_true, Bool.and_self, cond_true]
    simp only [IntKind.wrap, IntKind.bits, IntKind.signed]
    simp only [show (2 : Int) ^ 64 = 18446744073709551616 from rfl, show (2 : Int) ^ (64 - 1) = 9223372036854775808 from rfl, Bool.true_and, decide_eq_true_eq]
    split <;> omega
   ·simp [h2]
  ·simp [h1]
 | _ => rfl
theorem run_arith (t : TypeId) (op : BinOp) (k : IntKind) (a b c : Int) (h : op = .add ∧ c = wrapA k (a + b) ∨ op = .sub ∧ c = wrapA k (a - b) ∨ op = .mul ∧ c = wrapA k (a * b)) :
  (binOp op t (.int k a) (.int k b)).run P w = .ok (.int k c) w := by
 rcases h with ⟨rfl, rfl⟩ | ⟨rfl, rfl⟩ | ⟨rfl, rfl⟩ <;> simp [binOp, Op.intArith, wrapA_eq]
theorem ba_toList (s : ByteArray) : s.toList = sl s := ByteArray.toList_eq s
theorem tyIs_some {E : Env} (ty : ∀ t i, E.ty t = some i → TyOk P t i) {t : TypeId} {p : TypeDesc → Bool} (h : tyIs E t p = true) : ∃ d, P.underlying t = some d ∧ p d = true := by
 unfold tyIs at h
 split at h
 ·rename_i i hi; exact ⟨_, (ty _ _ hi).und, h⟩
 ·cases h
theorem whenB_some {b v r : Bool} (h : whenB b v = some r) : b = true ∧ v = r := by
 unfold whenB at h
 cases b with
 | true => simpa using h
 | false => simp at h
theorem eq_core {E : Env} (ty : ∀ t i, E.ty t = some i → TyOk P t i) {t : TypeId} {a a' b b' : Value} {r : Bool} (ha : VR P σ a a') (hb : VR P σ b b') (e : eqA E t a b = some r) :
  (Op.equal t a' b').run P w = .ok r w := by
 have unf : Op.equal t a' b' = Op.equalIn (9999 + 1) t a' b' := rfl
 rw [unf, Op.equalIn, Sem.run_bind]
 unfold eqA at e
 split at e <;> (try (cases e; done)) <;> obtain ⟨ht, rfl⟩ := whenB_some e <;> obtain ⟨d, hd, hp⟩ := tyIs_some ty ht <;> rw [run_underlying hd w, Result.andThen_ok]
 ·cases ha; cases hb; cases d <;> simp [isBoolD] at hp; simp
 ·cases ha; cases hb; cases d <;> simp [isIfaceD] at hp; simp
 ·cases ha; cases hb; cases d <;> simp [isIfaceD] at hp; simp
 ·cases ha; cases hb; cases d <;> simp [isIfaceD] at hp; simp
 ·cases ha
  cases d <;> simp [isPtrD] at hp
  cases hb <;> simp
 ·cases ha; cases hb; cases d <;> simp [isPtrD] at hp; simp
 ·cases ha
  cases d <;> simp [isSliceD] at hp
  cases hb <;> simp
 ·cases hb
  cases d <;> simp [isSliceD] at hp
  cases ha <;> simp
 ·cases ha; cases hb; cases d <;> simp [isFuncD] at hp; simp
 ·cases ha; cases hb; cases d <;> simp [isFuncD] at hp; simp
 ·cases ha; cases hb; cases d <;> simp [isFuncD] at hp; simp
theorem eq_run {E : Env} (ty : ∀ t i, E.ty t = some i → TyOk P t i) {t : TypeId} {a a' b b' : Value} {r : Bool} (ha : VR P σ a a') (hb : VR P σ b b') (e : eqA E t a b = some r) :
  (binOp .eql t a' b').run P w = .ok (.bool r) w ∧ (binOp .neq t a' b').run P w = .ok (.bool (!r)) w := by
 have hc := eq_core (w := w) ty ha hb e
 unfold eqA at e
 split at e <;> (try (cases e; done)) <;> cases ha <;> cases hb <;> simp [binOp, hc]
theorem bin_core {E : Env} (ty : ∀ t i, E.ty t = some i → TyOk P t i) {t : TypeId} {op : BinOp} {a a' b b' v : Value} (ha : VR P σ a a') (hb : VR P σ b b') (e : binA E t op a b = some v) :
  (binOp op t a' b').run P w = .ok v w ∧ VR P σ v v := by
 unfold binA at e
 split at e
 ·rename_i k x k' y
  cases ha; cases hb
  by_cases hk : k = k'
  ·subst hk
   simp only [beq_self_eq_true, Bool.not_true, cond_false] at e
   cases op <;> simp only [cmpI, Option.map_some, Option.some.injEq, Option.map_none, reduceCtorEq] at e <;> (try (cases e; done)) <;> subst e <;>
    first
     | exact ⟨run_arith _ _ _ _ _ _ (by simp), .int _ _⟩
     | exact ⟨by simp [binOp, Op.intCmp], .bool _⟩
  ·have : (k == k') = false := by simpa using hk
   simp [this] at e
 ·rename_i x y
  cases ha; cases hb
  have hx := ba_toList x
  have hy := ba_toList y
  cases op <;> simp only [reduceCtorEq] at e <;> (try (cases e; done))
  case add =>
   by_cases hle : slen x + slen y ≤ most
   ·simp only [hle, decide_true, cond_true, Option.some.injEq] at e
    subst e
    rw [slen_eq, slen_eq] at hle
    unfold most at hle
    refine ⟨?_, .string _⟩
    have hne : ¬ (((x.size + y.size : Nat) : Int) > IntKind.i64.max) := by
     have : IntKind.i64.max = 9223372036854775807 := rfl
     rw [this]; omega
    have hs : x ++ y = mkS (sl x ++ sl y) := by
     apply ByteArray.ext
     apply Array.ext'
     simp [mkS, sl]
    simp only [binOp, Op.stringOp, Sem.run_ite, if_neg hne, Sem.run_pure, hs]
   ·simp [hle] at e
  all_goals
   injection e with e
   subst e
   exact ⟨by simp [binOp, Op.stringOp, hx, hy, ltS], .bool _⟩
 ·split at e
  ·cases hq : eqA E t a b with
   | none => simp [hq] at e
   | some r =>
    simp only [hq, Option.map_some, Option.some.injEq] at e
    subst e
    refine ⟨?_, .bool _⟩
    exact (eq_run ty ha hb hq).1
  ·cases hq : eqA E t a b with
   | none => simp [hq] at e
   | some r =>
    simp only [hq, Option.map_some, Option.some.injEq] at e
    subst e
    refine ⟨?_, .bool _⟩
    exact (eq_run ty ha hb hq).2
  ·cases e
end
end Go.Proofs.YteekjekckgpbfaaDoor.Abs
end
section
namespace Go.Proofs.YteekjekckgpbfaaDoor.Abs
open Go.RowKit (Below)
section
variable {P : Program} {w : World} {σ : Sg} {h : Heap} {B : Nat} {w0 : World}
theorem guard_run {E : Env} {t : TypeId} {op : BinOp} {x y : Operand} {a a' b b' v : Value} (ha : VR P σ a a') (hb : VR P σ b b') (e : binA E t op a b = some v)
  (hg : isConstO x = true ∨ isConstO y = true ∨ bothNil a b = false) : (eqGuard op t x y a' b').run P w = .ok () w := by
 have key : op = .eql ∨ op = .neq → (eqGuard op t x y a' b').run P w = .ok () w := by
  intro hop
  have : ∃ r, a = a ∧ ((∃ k m k' n, a = .int k m ∧ b = .int k' n) ∨ (∃ s s', a = .string s ∧ b = .string s') ∨ eqA E t a b = some r) := by
   unfold binA at e
   split at e
   ·exact ⟨true, rfl, .inl ⟨_, _, _, _, rfl, rfl⟩⟩
   ·exact ⟨true, rfl, .inr (.inl ⟨_, _, rfl, rfl⟩)⟩
   ·rcases hop with rfl | rfl
    ·cases hq : eqA E t a b with
     | none => simp [hq] at e
     | some r => exact ⟨r, rfl, .inr (.inr rfl)⟩
    ·cases hq : eqA E t a b with
     | none => simp [hq] at e
     | some r => exact ⟨r, rfl, .inr (.inr rfl)⟩
  obtain ⟨r, _, ⟨k, m, k', n, rfl, rfl⟩ | ⟨s, s', rfl, rfl⟩ | hr⟩ := this
  ·cases ha; cases hb; rcases hop with rfl | rfl <;> simp [eqGuard]
  ·cases ha; cases hb; rcases hop with rfl | rfl <;> simp [eqGuard]
  ·unfold eqA at hr
   split at hr <;> (try (cases hr; done)) <;> cases ha <;> cases hb <;> (try (rcases hop with rfl | rfl <;> simp [eqGuard] <;> done))
   have hg' : isConstO x = true ∨ isConstO y = true := by simpa [bothNil] using hg
   clear hg
   rcases hg' with hg | hg
   ·cases x <;> simp [isConstO] at hg
    rcases hop with rfl | rfl <;> simp [eqGuard]
   ·cases y <;> simp [isConstO] at hg
    rcases hop with rfl | rfl <;> simp [eqGuard]
 cases op <;> first | exact key (.inl rfl) | exact key (.inr rfl) | simp [eqGuard]
theorem un_sound {op : UnOp} {x x' v : Value} (hx : VR P σ x x') (e : unA op x = some v) : (Op.unary op x').run P w = .ok v w ∧ VR P σ v v := by
 unfold unA at e
 split at e
 ·cases hx
  injection e with e
  subst e
  exact ⟨by simp [Op.unary, Op.intArith, wrapA_eq], .int _ _⟩
 ·cases hx
  injection e with e
  subst e
  exact ⟨rfl, .bool _⟩
 ·cases e
theorem iface_sound {E : Env} (ty : ∀ t i, E.ty t = some i → TyOk P t i) {t : TypeId} {x x' v : Value} (hx : VR P σ x x') (e : ifaceA E t x = some v) :
  ∃ v', (Instr.makeInterface t x').run P w = .ok v' w ∧ VR P σ v v' := by
 unfold ifaceA at e
 split at e
 ·cases e
 ·rename_i i hi
  have hu := (ty _ _ hi).und
  refine ⟨.iface t x', ?_, ?_⟩
  ·unfold Instr.makeInterface
   rw [Sem.run_bind, run_underlying hu w, Result.andThen_ok]
   cases hd : i.desc <;> simp [hd] at e ⊢
  ·split at e
   ·cases e
   ·injection e with e
    subst e
    exact .iface _ _ _ hx
theorem assert_sound {E : Env} (ty : ∀ t i, E.ty t = some i → TyOk P t i) {t xt : TypeId} {ok : Bool} {x x' v : Value} (hx : VR P σ x x') (e : assertA E x t ok = some v) :
  ∃ v', (Instr.typeAssert x' xt t ok).run P w = .ok v' w ∧ VR P σ v v' := by
 unfold assertA at e
 split at e
 ·cases e
 ·rename_i i hi
  have tok := ty _ _ hi
  have hu := tok.und
  have hz := run_zero (w := w) tok
  split at e
  ·cases e
  ·rename_i hni
   unfold Instr.typeAssert
   rw [Sem.run_bind, run_underlying hu w, Result.andThen_ok]
   split at e
   ·rename_i u y
    cases hx with
    | iface _ _ y' hy =>
     by_cases hut : u = t
     ·simp only [hut, beq_self_eq_true, cond_true, Option.some.injEq] at e
      subst e
      cases ok
      ·refine ⟨y', ?_, hy⟩
       cases hd : i.desc <;> first | (exact absurd hd (hni _)) | simp [hut]
      ·refine ⟨.tuple #[y', .bool true], ?_, .tuple _ _ (.cons _ _ _ _ hy (.cons _ _ _ _ (.bool _) .nil))⟩
       cases hd : i.desc <;> first | (exact absurd hd (hni _)) | simp [hut]
     ·have : (u == t) = false := by simpa using hut
      simp only [this, cond_false] at e
      cases ok
      ·simp at e
      ·simp only [cond_true, Option.some.injEq] at e
       subst e
       refine ⟨.tuple #[zeroV i, .bool false], ?_, .tuple _ _ (.cons _ _ _ _ tok.zeroVR (.cons _ _ _ _ (.bool _) .nil))⟩
       cases hd : i.desc <;> first | (exact absurd hd (hni _)) | simp [hut, hz]
   ·cases hx
    cases ok
    ·simp at e
    ·simp only [cond_true, Option.some.injEq] at e
     subst e
     refine ⟨.tuple #[zeroV i, .bool false], ?_, .tuple _ _ (.cons _ _ _ _ tok.zeroVR (.cons _ _ _ _ (.bool _) .nil))⟩
     cases hd : i.desc <;> first | (exact absurd hd (hni _)) | simp [hz]
   ·cases e
theorem extract_sound {x x' v : Value} {ix : Nat} (hx : VR P σ x x') (e : extractA x ix = some v) : ∃ v', (Instr.extract x' ix).run P w = .ok v' w ∧ VR P σ v v' := by
 unfold extractA at e
 split at e
 ·cases hx with
  | tuple l l' hl =>
   obtain ⟨v', h1, h2⟩ := hl.get e
   refine ⟨v', ?_, h2⟩
   have : (⟨l'⟩ : Array Value)[ix]? = some v' := by simpa using h1
   simp [Instr.extract, this]
 ·cases e
theorem len_sound {E : Env} (ty : ∀ t i, E.ty t = some i → TyOk P t i) {t u : TypeId} {x x' v : Value} (hx : VR P σ x x') (e : lenA E t x = some v) :
  (Builtin.len_ #[t] u #[x']).run P w = .ok v w ∧ VR P σ v v := by
 unfold lenA at e
 split at e
 ·rename_i sz bt z hi
  split at e
  ·cases hx
   injection e with e
   subst e
   refine ⟨?_, .int _ _⟩
   simp [Builtin.len_, run_underlying (ty _ _ hi).und, goInt, slen_eq]
  ·cases e
 ·rename_i el sz bt z hi
  split at e
  ·injection e with e
   subst e
   refine ⟨?_, .int _ _⟩
   cases hx <;> simp [Builtin.len_, run_underlying (ty _ _ hi).und, goInt]
  ·cases e
 ·cases e
theorem minI_sound : ∀ (r r' : List Value) (x x' v : Value), VR P σ x x' → VRL P σ r r' → minI x r = some v → ∃ v', (r'.foldlM Builtin.min2 x').run P w = .ok v' w ∧ VR P σ v v' := by
 intro r
 induction r with
 | nil =>
  intro r' x x' v hx hr e
  cases hr
  have : v = x := by cases x <;> simpa [minI] using e.symm
  subst this
  exact ⟨x', by simp, hx⟩
 | cons y r ih =>
  intro r' x x' v hx hr e
  cases hr with
  | cons _ y' _ r' hy hr =>
   cases x with
   | int k a =>
    cases y with
    | int k' b =>
     cases hx; cases hy
     by_cases hk : k = k'
     ·subst hk
      simp only [minI, beq_self_eq_true, cond_true] at e
      obtain ⟨v', h1, h2⟩ := ih r' _ _ v (.int k _) hr e
      refine ⟨v', ?_, h2⟩
      rw [List.foldlM_cons, Sem.run_bind]
      have : (Builtin.min2 (.int k a) (.int k b)).run P w = .ok (.int k (bif decide (b < a) then b else a)) w := by
       by_cases hba : b < a <;> simp [Builtin.min2, hba]
      rw [this, Result.andThen_ok]
      exact h1
     ·have : (k == k') = false := by simpa using hk
      simp [minI, this] at e
    | _ => simp [minI] at e
   | _ => simp [minI] at e
theorem maxI_sound : ∀ (r r' : List Value) (x x' v : Value), VR P σ x x' → VRL P σ r r' → maxI x r = some v → ∃ v', (r'.foldlM Builtin.max2 x').run P w = .ok v' w ∧ VR P σ v v' := by
 intro r
 induction r with
 | nil =>
  intro r' x x' v hx hr e
  cases hr
  have : v = x := by cases x <;> simpa [maxI] using e.symm
  subst this
  exact ⟨x', by simp, hx⟩
 | cons y r ih =>
  intro r' x x' v hx hr e
  cases hr with
  | cons _ y' _ r' hy hr =>
   cases x with
   | int k a =>
    cases y with
    | int k' b =>
     cases hx; cases hy
     by_cases hk : k = k'
     ·subst hk
      simp only [maxI, beq_self_eq_true, cond_true] at e
      obtain ⟨v', h1, h2⟩ := ih r' _ _ v (.int k _) hr e
      refine ⟨v', ?_, h2⟩
      rw [List.foldlM_cons, Sem.run_bind]
      have : (Builtin.max2 (.int k a) (.int k b)).run P w = .ok (.int k (bif decide (a < b) then b else a)) w := by
       by_cases hba : a < b <;> simp [Builtin.max2, hba]
      rw [this, Result.andThen_ok]
      exact h1
     ·have : (k == k') = false := by simpa using hk
      simp [maxI, this] at e
    | _ => simp [maxI] at e
   | _ => simp [maxI] at e
end
end Go.Proofs.YteekjekckgpbfaaDoor.Abs
end
section
namespace Go.Proofs.YteekjekckgpbfaaDoor.Abs
open Go.RowKit (Below)
section
variable {P : Program} {w : World} {σ : Sg} {h : Heap} {B : Nat} {w0 : World}
def okOp (G : Nat) (op : Op) : Bool := op.operands.toList.all (okOpnd G)
theorem okOp_mem {G : Nat} {op : Op} (h : okOp G op = true) : ∀ x ∈ op.operands.toList, okOpnd G x = true := fun x hx => List.all_eq_true.1 h x hx
theorem evs_sound {ρ ρ' : Operand → Value} {G : Nat} (hρ : ∀ x, okOpnd G x = true → VR P σ (ρ x) (ρ' x)) {l : List Operand} (hl : ∀ x ∈ l, okOpnd G x = true) : VRL P σ (evs ρ l) (l.map ρ') :=
 VRL.map fun x hx => hρ x (hl x hx)
theorem nil_sound {x x' v : Value} (hx : VR P σ x x') (e : nilA x = some v) : VR P σ v x' ∧ ((∃ a, x' = .pointer (some a)) ∨ ∃ g f c, x' = .func (.func g) f c) := by
 unfold nilA at e
 split at e
 ·injection e with e; subst e
  exact ⟨hx, by cases hx; exact .inl ⟨_, rfl⟩⟩
 ·injection e with e; subst e
  exact ⟨hx, by cases hx; exact .inr ⟨_, _, _, rfl⟩⟩
 ·cases e
theorem run_builtin (b : Builtin) (args : List Operand) (ats : List TypeId) (type : TypeId) (ρ' : Operand → Value) (r : Result Next) (hr : ∀ cs, (builtin b ⟨ats⟩ type cs ⟨args.map ρ'⟩).run P w = r) :
  (do let d ← resolve ρ' ⟨.builtin b, ⟨args⟩, ⟨ats⟩⟩ type; invoke d.target d.args : Sem Next).run P w = r := by
 have e2 : (⟨args⟩ : Array Operand).map ρ' = ⟨args.map ρ'⟩ := by apply Array.ext'; simp
 simp only [resolve, Sem.run_bind, Sem.run_pure, Result.andThen_ok, invoke, e2]
 exact hr _
theorem pur_sound {E : Env} (ty : ∀ t i, E.ty t = some i → TyOk P t i) (H : HR P B w0 σ h w) {ρ ρ' : Operand → Value} {G : Nat} (hρ : ∀ x, okOpnd G x = true → VR P σ (ρ x) (ρ' x))
  (o : Oper) (hop : okOp G o.op = true) {v : Value} (e : purA E ρ h o.op = some v) : ∃ v', (execOp ρ' o).run P w = .ok (.value v') w ∧ VR P σ v v' := by
 have hm := okOp_mem hop
 cases hq : o.op <;> rw [hq] at e hm <;> simp only [Op.operands, Call.operands] at hm <;> simp only [execOp, hq]
 case move x =>
  simp only [purA, Option.some.injEq] at e; subst e
  exact ⟨ρ' x, rfl, hρ x (hm x (by simp))⟩
 case assign x =>
  simp only [purA, Option.some.injEq] at e; subst e
  exact ⟨ρ' x, rfl, hρ x (hm x (by simp))⟩
 case pick c a b =>
  have hc := hρ c (hm c (by simp)); have ha := hρ a (hm a (by simp)); have hb := hρ b (hm b (by simp))
  simp only [purA, pickA] at e
  split at e
  ·rename_i t ht
   rw [ht] at hc
   injection e with e; subst e
   cases hc' : ρ' c <;> rw [hc'] at hc <;> cases hc
   cases t
   ·exact ⟨ρ' b, by simp [asBool], hb⟩
   ·exact ⟨ρ' a, by simp [asBool], ha⟩
  ·cases e
 case build t parts =>
  simp only [purA] at e
  have hparts : ∀ p ∈ parts.toList, okOpnd G p.2 = true := fun p hp => hm p.2 (by simp; exact ⟨p.1, by simpa using hp⟩)
  obtain ⟨v', h1, h2⟩ := build_sound (P := P) (w := w) (σ := σ) ty (t := t) (parts := ⟨evp ρ parts.toList⟩) (parts' := parts.map fun (i, x) => (i, ρ' x)) (v := v) (by
   simp [evp, List.map_map]) (by
   simp only [evp, List.map_map, Array.toList_map]
   generalize hpl : parts.toList = l at hparts
   clear hpl
   induction l with
   | nil => exact .nil
   | cons p l ih => exact .cons _ _ _ _ (hρ _ (hparts p (by simp))) (ih fun q hq => hparts q (by simp [hq]))) e
  exact ⟨v', by simp [h1], h2⟩
 case load t a =>
  simp only [purA] at e
  obtain ⟨v', h1, h2⟩ := load_sound ty H (hρ a (hm a (by simp))) e
  exact ⟨v', by simp [h1], h2⟩
 case nilCheck x =>
  simp only [purA] at e
  obtain ⟨h1, h2⟩ := nil_sound (hρ x (hm x (by simp))) e
  refine ⟨ρ' x, ?_, h1⟩
  rcases h2 with ⟨a, h2⟩ | ⟨g, f, c, h2⟩ <;> rw [h2] <;> rfl
 case binOp op t x y yt =>
  have hx := hρ x (hm x (by simp)); have hy := hρ y (hm y (by simp))
  simp only [purA] at e
  have e' : binA E t op (ρ x) (ρ y) = some v ∧ (isConstO x = true ∨ isConstO y = true ∨ bothNil (ρ x) (ρ y) = false) := by
   cases hc : (isConstO x || isConstO y) with
   | true =>
    simp only [hc, cond_true] at e
    exact ⟨e, by simp at hc; rcases hc with hc | hc <;> simp [hc]⟩
   | false =>
    simp only [hc, cond_false, binB] at e
    cases hn : bothNil (ρ x) (ρ y) with
    | true => simp [hn] at e
    | false => simp only [hn, cond_false] at e; exact ⟨e, by simp⟩
  have hg := guard_run (w := w) hx hy e'.1 e'.2
  obtain ⟨h1, h2⟩ := bin_core (w := w) ty hx hy e'.1
  exact ⟨v, by simp [hg, h1], h2⟩
 case unOp op t x =>
  simp only [purA] at e
  obtain ⟨h1, h2⟩ := un_sound (w := w) (hρ x (hm x (by simp))) e
  exact ⟨v, by simp [h1], h2⟩
 case makeInterface t x =>
  simp only [purA] at e
  obtain ⟨v', h1, h2⟩ := iface_sound (w := w) ty (hρ x (hm x (by simp))) e
  exact ⟨v', by simp [h1], h2⟩
 case makeFunc fn first captured =>
  simp only [purA, Option.some.injEq] at e; subst e
  refine ⟨.func fn (first.map ρ') (captured.map ρ'), by simp [Instr.makeFunc], ?_⟩
  have e1 : first.map ρ' = ⟨first.toList.map ρ'⟩ := by apply Array.ext'; simp
  have e2 : captured.map ρ' = ⟨captured.toList.map ρ'⟩ := by apply Array.ext'; simp
  rw [e1, e2]
  exact .func _ _ _ _ _ (evs_sound hρ fun x hx => hm x (by simp; simp at hx; exact .inl hx)) (evs_sound hρ fun x hx => hm x (by simp; simp at hx; exact .inr hx))
 case slice t x lo hi mx =>
  cases mx with
  | some m => simp [purA] at e
  | none =>
   simp only [purA] at e
   have opt : ∀ y : Option Operand, (∀ z ∈ y.toList, okOpnd G z = true) → optVR P σ (y.map ρ) (y.map ρ') := by
    intro y hy
    cases y with
    | none => exact .inl ⟨rfl, rfl⟩
    | some y => exact .inr ⟨_, _, rfl, rfl, hρ y (hy y (by simp))⟩
   obtain ⟨v', h1, h2⟩ := slice_sound ty H (hρ x (hm x (by simp))) (opt lo fun z hz => hm z (by simp; cases lo <;> simp_all)) (opt hi fun z hz => hm z (by simp; cases hi <;> simp_all)) e
   exact ⟨v', by simp [h1], h2⟩
 case fieldAddr s x f =>
  simp only [purA] at e
  obtain ⟨v', h1, h2⟩ := fieldAddr_sound (w := w) ty (hρ x (hm x (by simp))) e
  exact ⟨v', by simp [h1], h2⟩
 case field s x f =>
  simp only [purA] at e
  obtain ⟨v', h1, h2⟩ := field_sound (w := w) ty (hρ x (hm x (by simp))) e
  exact ⟨v', by simp [h1], h2⟩
 case indexAddr t x i =>
  simp only [purA] at e
  obtain ⟨v', h1, h2⟩ := indexAddr_sound (w := w) ty (hρ x (hm x (by simp))) (hρ i (hm i (by simp))) e
  exact ⟨v', by simp [h1], h2⟩
 case index t x i =>
  simp only [purA] at e
  obtain ⟨v', h1, h2⟩ := index_sound (w := w) ty (hρ x (hm x (by simp))) (hρ i (hm i (by simp))) e
  exact ⟨v', by simp [h1], h2⟩
 case typeAssert x xt t ok =>
  simp only [purA] at e
  obtain ⟨v', h1, h2⟩ := assert_sound (w := w) (xt := xt) ty (hρ x (hm x (by simp))) e
  exact ⟨v', by simp [h1], h2⟩
 case extract x i =>
  simp only [purA] at e
  obtain ⟨v', h1, h2⟩ := extract_sound (w := w) (hρ x (hm x (by simp))) e
  exact ⟨v', by simp [h1], h2⟩
 case call c =>
  obtain ⟨callee, ⟨args⟩, ⟨ats⟩⟩ := c
  simp only [purA] at e
  have hargs : ∀ x ∈ args, okOpnd G x = true := fun x hx => hm x (by simp; exact .inr hx)
  cases callee with
  | value f => simp at e
  | invoke r m => simp at e
  | builtin b =>
   cases b <;> (try (cases e; done))
   case len =>
    match args, ats, e with
    | [x], [t], e =>
     obtain ⟨h1, h2⟩ := len_sound (w := w) (u := o.type) ty (hρ x (hargs x (by simp))) e
     exact ⟨v, run_builtin _ _ _ _ _ _ fun cs => by simp only [builtin, Sem.run_bind]; rw [show (⟨List.map ρ' [x]⟩ : Array Value) = #[ρ' x] from rfl, show (⟨[t]⟩ : Array TypeId) = #[t] from rfl, h1]; rfl, h2⟩
   case min =>
    match args, e with
    | x :: r, e =>
     obtain ⟨v', h1, h2⟩ := minI_sound (w := w) _ _ _ _ _ (hρ x (hargs x (by simp))) (evs_sound hρ fun y hy => hargs y (by simp [hy])) e
     exact ⟨v', run_builtin _ _ _ _ _ _ fun cs => by simp only [builtin, Sem.run_bind, Builtin.min_, List.map_cons]; rw [h1]; rfl, h2⟩
   case max =>
    match args, e with
    | x :: r, e =>
     obtain ⟨v', h1, h2⟩ := maxI_sound (w := w) _ _ _ _ _ (hρ x (hargs x (by simp))) (evs_sound hρ fun y hy => hargs y (by simp [hy])) e
     exact ⟨v', run_builtin _ _ _ _ _ _ fun cs => by simp only [builtin, Sem.run_bind, Builtin.max_, List.map_cons]; rw [h1]; rfl, h2⟩
 all_goals (simp [purA] at e)
end
end Go.Proofs.YteekjekckgpbfaaDoor.Abs
end
section
namespace Go.Proofs.YteekjekckgpbfaaDoor.Abs
open Go.RowKit (Below)
def Sg.put (σ : Sg) (b : Nat) (l : Loc) : Sg := fun x => if x = b then some l else σ x
theorem Sg.le_put {σ : Sg} {b : Nat} (h : σ b = none) (l : Loc) : σ.le (σ.put b l) := by
 intro x m e
 unfold Sg.put
 split
 ·rename_i hx; subst hx; rw [h] at e; cases e
 ·exact e
section
variable {P : Program} {w : World} {σ : Sg} {h : Heap} {B : Nat} {w0 : World}
theorem OR.keep {w' : World} {σ' : Sg} (hs : σ.le σ') {l : Loc} {o : AObj} (hw : w'.heap[l.b]? = w.heap[l.b]?) (k : OR P B σ w l o) : OR P B σ' w' l o := by
 cases o with
 | cells c =>
  obtain ⟨h1, cs, fr, h2, h3, h4, h5⟩ := k
  exact ⟨h1, cs, fr, by rw [hw]; exact h2, h3, h4.mono hs, h5⟩
 | map es => exact k
structure HRX (P : Program) (B : Nat) (w0 : World) (σ : Sg) (h : Heap) (w : World) : Prop where
 below : Below B w0 w
 base : B ≤ w.heap.size
 obj : ∀ b o, h.get b = some o → ∃ l, σ b = some l ∧ OR P B σ w l o
 inj : ∀ b b' o o' l l', h.get b = some o → ownO o = true → h.get b' = some o' → σ b = some l → σ b' = some l' → l.b = l'.b → b = b'
 lt : ∀ b l, σ b = some l → l.b < w.heap.size
 glob : ∀ g, g < P.globals.size → ∃ l, σ g = some l ∧ l.b = g ∧ l.s = 0
theorem HR.x (H : HR P B w0 σ h w) : HRX P B w0 σ h w := ⟨H.below, H.base, H.obj, H.inj, H.lt, H.glob⟩
theorem HRX.hr (H : HRX P B w0 σ h w) (hf : ∀ b, h.next ≤ b → σ b = none) : HR P B w0 σ h w := ⟨H.below, H.base, hf, H.obj, H.inj, H.lt, H.glob⟩
theorem HRX.at' (H : HRX P B w0 σ h w) (n : Nat) : HRX P B w0 σ ⟨h.m, n⟩ w := ⟨H.below, H.base, H.obj, H.inj, H.lt, H.glob⟩
theorem HRX.fresh_put {w' : World} (H : HR P B w0 σ h w) {l : Loc} {h' : Heap} (hn : h'.next = h.next + 1) (Hx : HRX P B w0 (σ.put h.next l) h' w') : σ.le (σ.put h.next l) ∧ HR P B w0 (σ.put h.next l) h' w' := by
 refine ⟨Sg.le_put (H.fresh h.next (Nat.le_refl _)) l, Hx.hr fun b hb => ?_⟩
 have : b ≠ h.next := by omega
 simp only [Sg.put, if_neg this]
 exact H.fresh b (by omega)
theorem HRX.new (H : HRX P B w0 σ h w) (hfr : σ h.next = none) {w' : World} (hb : Below w.heap.size w w') {nb : Nat} {cs : Array Value} {fr : Nat × Nat} (k : Blk) (hnb : w.heap.size ≤ nb) (hnew : w'.heap[nb]? = some (.cells cs k.elem fr))
  (hv : VRL P σ k.cells (cs.toList.take k.cells.length)) (hf : k.own = true → fr = (0, 0)) :
  HRX P B w0 (σ.put h.next ⟨nb, k.elem, cs.size, 0⟩) (h.alloc (.cells k)) w' := by
 have hle := Sg.le_put hfr ⟨nb, k.elem, cs.size, 0⟩
 have hnlt : nb < w'.heap.size := (Array.getElem?_eq_some_iff.1 hnew).1
 refine ⟨H.below.trans (hb.mono H.base), Nat.le_trans H.base hb.size, ?_, ?_, ?_, ?_⟩
 ·intro b o hg
  rw [Heap.get_alloc] at hg
  by_cases hbn : b = h.next
  ·rw [if_pos hbn] at hg
   injection hg with hg
   subst hg
   refine ⟨⟨nb, k.elem, cs.size, 0⟩, by simp [Sg.put, hbn], rfl, cs, fr, hnew, fun _ => rfl, hv.mono hle, fun ho => ⟨hf ho, Nat.le_trans H.base hnb, rfl⟩⟩
  ·rw [if_neg hbn] at hg
   obtain ⟨l, hl, ho⟩ := H.obj b o hg
   exact ⟨l, hle _ _ hl, ho.keep hle (hb.block _ (H.lt _ _ hl))⟩
 ·intro b b' o o' l l' hg hown hg' hl hl' he
  rw [Heap.get_alloc] at hg hg'
  simp only [Sg.put] at hl hl'
  by_cases h1 : b = h.next <;> by_cases h2 : b' = h.next
  ·rw [h1, h2]
  ·exfalso
   rw [if_pos h1] at hl
   rw [if_neg h2] at hl'
   injection hl with hl
   subst hl
   have := H.lt _ _ hl'
   simp at he
   omega
  ·exfalso
   rw [if_neg h1] at hl
   rw [if_pos h2] at hl'
   injection hl' with hl'
   subst hl'
   have := H.lt _ _ hl
   simp at he
   omega
  ·rw [if_neg h1] at hg hl
   rw [if_neg h2] at hg' hl'
   exact H.inj b b' o o' l l' hg hown hg' hl hl' he
 ·intro b l hl
  simp only [Sg.put] at hl
  by_cases h1 : b = h.next
  ·rw [if_pos h1] at hl
   injection hl with hl
   subst hl
   exact hnlt
  ·rw [if_neg h1] at hl
   exact Nat.lt_of_lt_of_le (H.lt _ _ hl) hb.size
 ·intro g hg
  obtain ⟨l, hl, he⟩ := H.glob g hg
  exact ⟨l, hle _ _ hl, he⟩
theorem HR.new (H : HR P B w0 σ h w) {w' : World} (hb : Below w.heap.size w w') {nb : Nat} {cs : Array Value} {fr : Nat × Nat} (k : Blk) (hnb : w.heap.size ≤ nb) (hnew : w'.heap[nb]? = some (.cells cs k.elem fr))
  (hv : VRL P σ k.cells (cs.toList.take k.cells.length)) (hf : k.own = true → fr = (0, 0)) :
  σ.le (σ.put h.next ⟨nb, k.elem, cs.size, 0⟩) ∧ HR P B w0 (σ.put h.next ⟨nb, k.elem, cs.size, 0⟩) (h.alloc (.cells k)) w' :=
 HRX.fresh_put H rfl (H.x.new (H.fresh _ (Nat.le_refl _)) hb k hnb hnew hv hf)
theorem HR.kill (H : HR P B w0 σ h w) (b : Nat) : HR P B w0 σ (h.kill b) w := by
 have key : ∀ x o, (h.kill b).get x = some o → h.get x = some o := by
  intro x o hx
  rw [Heap.get_kill] at hx
  split at hx
  ·cases hx
  ·exact hx
 exact ⟨H.below, H.base, H.fresh, fun x o hx => H.obj x o (key x o hx), fun x x' o o' l l' hg ho hg' hl hl' he => H.inj x x' o o' l l' (key _ _ hg) ho (key _ _ hg') hl hl' he, H.lt, H.glob⟩
theorem HR.write (H : HR P B w0 σ h w) {b : Nat} {k k' : Blk} {l : Loc} (hg : h.get b = some (.cells k)) (hown : k.own = true) (hl : σ b = some l) {w' : World} (hother : ∀ x, x ≠ l.b → w'.heap[x]? = w.heap[x]?)
  (hos : w'.os = w.os) (htape : w'.tape = w.tape) (hout : w'.output = w.output) (hsize : w'.heap.size = w.heap.size) {cs : Array Value} (hnew : w'.heap[l.b]? = some (.cells cs k.elem (0, 0))) (hn : l.n = cs.size)
  (he : k'.elem = k.elem) (ho : k'.own = true) (hv : VRL P σ k'.cells (cs.toList.take k'.cells.length)) : HR P B w0 σ (h.set b (.cells k')) w' := by
 have hB : B ≤ l.b := by
  obtain ⟨l', hl', _, _, _, _, _, _, hb⟩ := H.obj _ _ hg
  rw [hl] at hl'
  injection hl' with hl'
  subst hl'
  exact (hb hown).2.1
 have hls : l.s = 0 := by
  obtain ⟨l', hl', _, _, _, _, _, _, hb⟩ := H.obj _ _ hg
  rw [hl] at hl'
  injection hl' with hl'
  subst hl'
  exact (hb hown).2.2
 have hle : l.e = k.elem := by
  obtain ⟨l', hl', h1, _⟩ := H.obj _ _ hg
  rw [hl] at hl'
  injection hl' with hl'
  subst hl'
  exact h1
 refine ⟨H.below.trans ⟨hos, htape, hout, Nat.le_of_eq hsize.symm, fun x hx => hother x (by omega)⟩, by rw [hsize]; exact H.base, H.fresh, ?_, ?_, fun x l hx => by rw [hsize]; exact H.lt x l hx, H.glob⟩
 ·intro x o hx
  rw [Heap.get_set] at hx
  by_cases hxb : x = b
  ·rw [if_pos hxb] at hx
   injection hx with hx
   subst hx
   subst hxb
   exact ⟨l, hl, by rw [he]; exact hle, cs, (0, 0), by rw [he]; exact hnew, fun _ => hn, by rw [hls, List.drop_zero]; exact hv, fun _ => ⟨rfl, hB, hls⟩⟩
  ·rw [if_neg hxb] at hx
   obtain ⟨l', hl', ho'⟩ := H.obj x o hx
   refine ⟨l', hl', ho'.keep (Sg.le.refl σ) (hother _ ?_)⟩
   intro e
   exact hxb (H.inj b x _ o l l' hg hown hx hl hl' e.symm).symm
 ·intro x x' o o' m m' hx hox hx' hm hm' e
  rw [Heap.get_set] at hx hx'
  have get : ∀ y q, (if y = b then some (AObj.cells k') else h.get y) = some q → ∃ q', h.get y = some q' ∧ (ownO q = true → ownO q' = true) := by
   intro y q hy
   split at hy
   ·rename_i hyb
    subst hyb
    exact ⟨_, hg, fun _ => hown⟩
   ·exact ⟨q, hy, id⟩
  obtain ⟨q, hq, hoq⟩ := get _ _ hx
  obtain ⟨q', hq', _⟩ := get _ _ hx'
  exact H.inj x x' q q' m m' hq (hoq hox) hq' hm hm' e
theorem HR.regrow (H : HR P B w0 σ h w) {b : Nat} {k : Blk} {l : Loc} (hg : h.get b = some (.cells k)) (hown : k.own = true) (hl : σ b = some l) {w' : World} (hgrow : w.grownBy w' (some l.b)) {g : Nat} (hgg : g = l.b ∨ w.heap.size ≤ g)
  {cs : Array Value} {k' : Blk} (hB : B ≤ g) (hnew : w'.heap[g]? = some (.cells cs k'.elem (0, 0))) (hv : VRL P σ k'.cells (cs.toList.take k'.cells.length)) :
  σ.le (σ.put h.next ⟨g, k'.elem, cs.size, 0⟩) ∧ HR P B w0 (σ.put h.next ⟨g, k'.elem, cs.size, 0⟩) ((h.kill b).alloc (.cells k')) w' := by
 have hfr := H.fresh h.next (Nat.le_refl _)
 have hle := Sg.le_put hfr ⟨g, k'.elem, cs.size, 0⟩
 have hgl : g < w'.heap.size := (Array.getElem?_eq_some_iff.1 hnew).1
 obtain ⟨l0, hl0, _, _, _, _, _, _, hb0⟩ := H.obj _ _ hg
 rw [hl] at hl0
 injection hl0 with hl0
 subst hl0
 have hBl : B ≤ l.b := (hb0 hown).2.1
 have hnx : (h.kill b).next = h.next := rfl
 have other : ∀ x o l', x ≠ b → h.get x = some o → σ x = some l' → l'.b ≠ l.b := by
  intro x o l' hx ho hl' he
  exact hx (H.inj b x _ o l l' hg hown ho hl hl' he.symm).symm
 have getk : ∀ x o, ((h.kill b).alloc (.cells k')).get x = some o → (x = h.next ∧ o = .cells k') ∨ (x ≠ h.next ∧ x ≠ b ∧ h.get x = some o) := by
  intro x o hx
  rw [Heap.get_alloc, hnx] at hx
  by_cases hxn : x = h.next
  ·rw [if_pos hxn] at hx; injection hx with hx; exact .inl ⟨hxn, hx.symm⟩
  ·rw [if_neg hxn, Heap.get_kill] at hx
   by_cases hxb : x = b
   ·rw [if_pos hxb] at hx; cases hx
   ·rw [if_neg hxb] at hx; exact .inr ⟨hxn, hxb, hx⟩
 have ng : ∀ x o l', x ≠ b → h.get x = some o → σ x = some l' → l'.b ≠ g := by
  intro x o l' hx ho hl' he
  rcases hgg with e | e
  ·exact other x o l' hx ho hl' (he.trans e)
  ·have := H.lt _ _ hl'; omega
 refine ⟨hle, ⟨?_, Nat.le_trans H.base hgrow.size, ?_, ?_, ?_, ?_, ?_⟩⟩
 ·exact H.below.trans ⟨hgrow.os, hgrow.tape, hgrow.output, hgrow.size, fun x hx => hgrow.block x (Nat.lt_of_lt_of_le hx H.base) (by intro e; injection e with e; omega)⟩
 ·intro x hx
  have hx' : h.next + 1 ≤ x := hx
  simp only [Sg.put, if_neg (show x ≠ h.next by omega)]
  exact H.fresh x (by omega)
 ·intro x o hx
  rcases getk x o hx with ⟨rfl, rfl⟩ | ⟨h1, h2, h3⟩
  ·exact ⟨⟨g, k'.elem, cs.size, 0⟩, by simp [Sg.put], rfl, cs, (0, 0), hnew, fun _ => rfl, hv.mono hle, fun _ => ⟨rfl, hB, rfl⟩⟩
  ·obtain ⟨l', hl', ho⟩ := H.obj x o h3
   exact ⟨l', hle _ _ hl', ho.keep hle (hgrow.block _ (H.lt _ _ hl') (by intro e; injection e with e; exact other x o l' h2 h3 hl' e))⟩
 ·intro x x' o o' m m' hx ho hx' hm hm' he
  simp only [Sg.put] at hm hm'
  rcases getk x o hx with ⟨rfl, rfl⟩ | ⟨h1, h2, h3⟩ <;> rcases getk x' o' hx' with ⟨rfl, rfl⟩ | ⟨h1', h2', h3'⟩
  ·rfl
  ·exfalso
   rw [if_pos rfl] at hm
   rw [if_neg h1'] at hm'
   injection hm with hm
   subst hm
   exact ng x' o' m' h2' h3' hm' he.symm
  ·exfalso
   rw [if_neg h1] at hm
   rw [if_pos rfl] at hm'
   injection hm' with hm'
   subst hm'
   exact ng x o m h2 h3 hm he
  ·rw [if_neg h1] at hm
   rw [if_neg h1'] at hm'
   exact H.inj x x' o o' m m' h3 ho h3' hm hm' he
 ·intro x m hm
  simp only [Sg.put] at hm
  by_cases h1 : x = h.next
  ·rw [if_pos h1] at hm; injection hm with hm; subst hm; exact hgl
  ·rw [if_neg h1] at hm; exact Nat.lt_of_lt_of_le (H.lt _ _ hm) hgrow.size
 ·intro x hx
  obtain ⟨m, hm, he⟩ := H.glob x hx
  exact ⟨m, hle _ _ hm, he⟩
end
end Go.Proofs.YteekjekckgpbfaaDoor.Abs
end
section
namespace Go.Proofs.YteekjekckgpbfaaDoor.Abs
open Go.RowKit (Below)
section
variable {P : Program} {w : World} {σ : Sg} {h : Heap} {B : Nat} {w0 : World}
theorem below_alloc (w : World) (o : Obj) : Below w.heap.size w (w.alloc o) := (Below.refl _ _).alloc (Nat.le_refl _) o
def Made (P : Program) (B : Nat) (w0 : World) (σ : Sg) (v : Value) (h' : Heap) (r : Result Value) : Prop :=
 ∃ σ' w' v', r = .ok v' w' ∧ σ.le σ' ∧ HR P B w0 σ' h' w' ∧ VR P σ' v v'
def MadeX (P : Program) (B : Nat) (w0 : World) (σ : Sg) (b : Nat) (v : Value) (h' : Heap) (r : Result Value) : Prop :=
 h'.next = b + 1 ∧ ∃ l w' v', r = .ok v' w' ∧ HRX P B w0 (σ.put b l) h' w' ∧ VR P (σ.put b l) v v'
theorem MadeX.made (H : HR P B w0 σ h w) {v : Value} {h' : Heap} {r : Result Value} (m : MadeX P B w0 σ h.next v h' r) : Made P B w0 σ v h' r := by
 obtain ⟨hn, l, w', v', e, Hx, hv⟩ := m
 obtain ⟨a, b⟩ := HRX.fresh_put H hn Hx
 exact ⟨_, w', v', e, a, b, hv⟩
theorem new_rowX (H : HRX P B w0 σ h w) (hfr : σ h.next = none) {t : TypeId} {cs cs' : List Value} (hc : VRL P σ cs cs') :
  HRX P B w0 (σ.put h.next ⟨w.heap.size, t, cs'.length, 0⟩) (h.alloc (.cells ⟨t, cs, true⟩)) (w.alloc (.cells ⟨cs'⟩ t)) :=
 H.new hfr (w' := w.alloc (.cells ⟨cs'⟩ t)) (cs := ⟨cs'⟩) (fr := (0, 0)) (below_alloc w _) ⟨t, cs, true⟩ (Nat.le_refl _) (heap_alloc_new w _) (by rw [hc.length]; simpa using hc) (fun _ => rfl)
theorem new_row (H : HR P B w0 σ h w) {t : TypeId} {cs cs' : List Value} (hc : VRL P σ cs cs') :
  σ.le (σ.put h.next ⟨w.heap.size, t, cs'.length, 0⟩) ∧ HR P B w0 (σ.put h.next ⟨w.heap.size, t, cs'.length, 0⟩) (h.alloc (.cells ⟨t, cs, true⟩)) (w.alloc (.cells ⟨cs'⟩ t)) := by
 have := H.new (w' := w.alloc (.cells ⟨cs'⟩ t)) (cs := ⟨cs'⟩) (fr := (0, 0)) (below_alloc w _) ⟨t, cs, true⟩ (Nat.le_refl _) (heap_alloc_new w _) (by rw [hc.length]; simpa using hc) (fun _ => rfl)
 exact this
theorem put_self (σ : Sg) (b : Nat) (l : Loc) : (σ.put b l) b = some l := by simp [Sg.put]
theorem run_newRow (t : TypeId) (cs : Array Value) : (newRow t cs).run P w = .ok ⟨w.heap.size, 0, none⟩ (w.alloc (.cells cs t)) := rfl
theorem ptr_new (t : TypeId) (n : Nat) : VR P (σ.put h.next ⟨w.heap.size, t, n, 0⟩) (ptr h.next) (.pointer (some ⟨w.heap.size, 0, none⟩)) :=
 VR.ptr h.next 0 ⟨w.heap.size, t, n, 0⟩ (put_self ..)
theorem alloc_soundX {E : Env} (ty : ∀ t i, E.ty t = some i → TyOk P t i) (H : HRX P B w0 σ h w) (hfr : σ h.next = none) {t : TypeId} {v : Value} {h' : Heap} (e : allocA E t h = some (v, h')) :
  MadeX P B w0 σ h.next v h' ((Instr.alloc t true (.tuple #[])).run P w) := by
 unfold allocA at e
 split at e
 ·cases e
 ·rename_i i hi
  simp only [Option.some.injEq, Prod.mk.injEq] at e
  obtain ⟨rfl, rfl⟩ := e
  have ok := ty _ _ hi
  have h2 := new_rowX (t := t) H hfr (ok.self (σ := σ))
  refine ⟨rfl, _, w.alloc (.cells ⟨i.zero⟩ t), .pointer (some ⟨w.heap.size, 0, none⟩), ?_, h2, ptr_new t _⟩
  have : (zeroV i).cells = ⟨i.zero⟩ := Array.ext' (zeroV_cells ok)
  simp only [Instr.alloc, Sem.run_bind, run_zero ok, Result.andThen_ok, newVar, run_newRow, this]
  rfl
theorem alloc_sound {E : Env} (ty : ∀ t i, E.ty t = some i → TyOk P t i) (H : HR P B w0 σ h w) {t : TypeId} {v : Value} {h' : Heap} (e : allocA E t h = some (v, h')) :
  Made P B w0 σ v h' ((Instr.alloc t true (.tuple #[])).run P w) := (alloc_soundX ty H.x (H.fresh _ (Nat.le_refl _)) e).made H
theorem box_soundX (H : HRX P B w0 σ h w) (hfr : σ h.next = none) {t : TypeId} {x x' : Value} (hx : VR P σ x x') :
  MadeX P B w0 σ h.next (boxA t x h).1 (boxA t x h).2 ((Instr.box t x').run P w) := by
 have h2 := new_rowX (t := t) H hfr hx.cells
 refine ⟨rfl, _, w.alloc (.cells ⟨x'.cells.toList⟩ t), .pointer (some ⟨w.heap.size, 0, none⟩), ?_, h2, ptr_new t _⟩
 simp only [Instr.box, Sem.run_bind, newVar, run_newRow, Result.andThen_ok]
 rfl
theorem box_sound (H : HR P B w0 σ h w) {t : TypeId} {x x' : Value} (hx : VR P σ x x') :
  Made P B w0 σ (boxA t x h).1 (boxA t x h).2 ((Instr.box t x').run P w) := (box_soundX H.x (H.fresh _ (Nat.le_refl _)) hx).made H
theorem repL_length (z : List Value) (n : Nat) : (repL z n).length = n * z.length := by
 induction n with
 | zero => simp [repL]
 | succ n ih => simp [repL, ih, Nat.succ_mul]; omega
theorem repL_get (z : List Value) (hz : 0 < z.length) : ∀ (n i : Nat), i < n * z.length → (repL z n)[i]? = z[i % z.length]? := by
 intro n
 induction n with
 | zero => intro i hi; simp at hi
 | succ n ih =>
  intro i hi
  rw [Nat.succ_mul] at hi
  simp only [repL]
  by_cases h1 : i < z.length
  ·rw [List.getElem?_append_left h1, Nat.mod_eq_of_lt h1]
  ·rw [List.getElem?_append_right (by omega), ih _ (by omega)]
   congr 1
   conv => rhs; rw [show i = i - z.length + z.length by omega, Nat.add_mod_right]
theorem rep_eq (z : List Value) (n : Nat) : ((Array.range (n * z.length)).map fun i => (⟨z⟩ : Array Value)[i % z.length]!) = ⟨repL z n⟩ := by
 rcases Nat.eq_zero_or_pos z.length with hz | hz
 ·have : z = [] := List.eq_nil_of_length_eq_zero hz
  subst this
  have : repL [] n = [] := List.eq_nil_of_length_eq_zero (by rw [repL_length]; simp)
  rw [this]
  simp
 ·apply Array.ext'
  apply List.ext_getElem?
  intro i
  simp only [Array.toList_map, Array.toList_range, List.getElem?_map]
  by_cases hi : i < n * z.length
  ·rw [List.getElem?_range hi, repL_get z hz n i hi]
   have hm : i % z.length < z.length := Nat.mod_lt _ hz
   simp [List.getElem?_eq_getElem hm, hm]
  ·rw [List.getElem?_eq_none (by simp; omega), List.getElem?_eq_none (by rw [repL_length]; omega)]
   rfl
theorem sliceOf_some {E : Env} (ty : ∀ t i, E.ty t = some i → TyOk P t i) {t e' : TypeId} {ie : TI} (h : sliceOf E t = some (e', ie)) : P.underlying t = some (.slice e') ∧ TyOk P e' ie := by
 unfold sliceOf at h
 split at h
 ·rename_i el sz bt z hi
  split at h
  ·cases h
  ·rename_i i hie
   simp only [Option.some.injEq, Prod.mk.injEq] at h
   obtain ⟨rfl, rfl⟩ := h
   exact ⟨(ty _ _ hi).und, ty _ _ hie⟩
 ·cases h
theorem slice_new {t : TypeId} {ie : TI} (ok : TyOk P t ie) (n : Nat) (hn : n ≤ maxLen) {m : Nat} (hm : m = n * ie.size) : VR P (σ.put h.next ⟨w.heap.size, t, m, 0⟩) (.slice (some ⟨h.next, 0, none⟩) n n) (.slice (some ⟨w.heap.size, 0, none⟩) n n) := by
 refine VR.slice h.next 0 n n n ⟨w.heap.size, t, m, 0⟩ (put_self ..) (Nat.le_refl _) (Nat.le_refl _) ?_ hn
 simp [ok.cellsOf, hm]
theorem buildSlice_soundX {E : Env} (ty : ∀ t i, E.ty t = some i → TyOk P t i) (H : HRX P B w0 σ h w) (hfr : σ h.next = none) {t : TypeId} {n : Nat} {parts parts' : Array (Nat × Value)}
  (h1 : parts.toList.map (·.1) = parts'.toList.map (·.1)) (h2 : VRL P σ (parts.toList.map (·.2)) (parts'.toList.map (·.2))) {v : Value} {h' : Heap} (e : buildSliceA E t n parts.toList h = some (v, h')) :
  MadeX P B w0 σ h.next v h' ((Instr.buildSlice t n parts').run P w) := by
 unfold buildSliceA at e
 split at e
 ·cases e
 ·rename_i el ie hs
  obtain ⟨hu, ok⟩ := sliceOf_some ty hs
  by_cases hbig' : n * ie.size > 1000 ∨ n > 1000
  ·have : (decide (n * ie.size > 1000) || decide (n > 1000)) = true := by simpa using hbig'
   simp [this] at e
  ·have hb0 : (decide (n * ie.size > 1000) || decide (n > 1000)) = false := by simp; omega
   have hbig : ¬ n * ie.size > 1000 := by omega
   simp only [hb0, cond_false] at e
   split at e
   ·cases e
   ·rename_i cs hf
    simp only [Option.some.injEq, Prod.mk.injEq] at e
    obtain ⟨rfl, rfl⟩ := e
    obtain ⟨out', ho, hr⟩ := fill_sound (σ := σ) (P := P) (VRL.repL n ok.self) h1 h2 hf
    have hlen : out'.length = n * ie.size := by
     rw [← hr.length]
     have : ∀ (ps : List (Nat × Value)) (c o : List Value), fillL (fun i => some (i * ie.size, ie.size)) c ps = some o → o.length = c.length := by
      intro ps
      induction ps with
      | nil => intro c o he; simp only [fillL, Option.some.injEq] at he; rw [he]
      | cons p ps ih =>
       intro c o he
       obtain ⟨i, x⟩ := p
       simp only [fillL] at he
       cases hb : (!((vcells x).length == ie.size) || decide (i * ie.size + (vcells x).length > c.length)) with
       | true => simp [hb] at he
       | false =>
        simp only [hb, cond_false] at he
        rw [ih _ _ he, putL_length _ _ _ (by simp at hb; omega)]
     rw [this _ _ _ hf, repL_length, ok.zlen]
    have g2 := new_rowX (t := el) H hfr hr
    refine ⟨rfl, _, w.alloc (.cells ⟨out'⟩ el), .slice (some ⟨w.heap.size, 0, none⟩) n n, ?_, g2, slice_new ok n ?_ hlen⟩
    ·have hsmall : ¬ n * ie.size > 2 ^ 24 := by omega
     have hz : (zeroV ie).cells = ⟨ie.zero⟩ := Array.ext' (zeroV_cells ok)
     have hrep := rep_eq ie.zero n
     rw [ok.zlen] at hrep
     simp only [Instr.buildSlice, Sem.run_bind, run_underlying hu, Result.andThen_ok, run_size ok, Sem.run_ite, if_neg hsmall, Sem.run_pure]
     by_cases h0 : n * ie.size = 0
     ·rw [if_pos h0]
      have hnil : repL ie.zero n = [] := List.eq_nil_of_length_eq_zero (by rw [repL_length, ok.zlen]; exact h0)
      rw [hnil] at ho
      simp only [Result.andThen_ok, h0]
      rw [show ((Array.range 0).map fun x => (#[] : Array Value)[x % (#[] : Array Value).size]!) = ⟨[]⟩ from by simp, ho]
      rfl
     ·rw [if_neg h0]
      have hsz : (⟨ie.zero⟩ : Array Value).size = ie.size := ok.zlen
      simp only [run_zero ok, Result.andThen_ok, hz, hsz, hrep, ho]
      rfl
    ·simp only [maxLen]; omega
theorem buildSlice_sound {E : Env} (ty : ∀ t i, E.ty t = some i → TyOk P t i) (H : HR P B w0 σ h w) {t : TypeId} {n : Nat} {parts parts' : Array (Nat × Value)}
  (h1 : parts.toList.map (·.1) = parts'.toList.map (·.1)) (h2 : VRL P σ (parts.toList.map (·.2)) (parts'.toList.map (·.2))) {v : Value} {h' : Heap} (e : buildSliceA E t n parts.toList h = some (v, h')) :
  Made P B w0 σ v h' ((Instr.buildSlice t n parts').run P w) := (buildSlice_soundX ty H.x (H.fresh _ (Nat.le_refl _)) h1 h2 e).made H
end
end Go.Proofs.YteekjekckgpbfaaDoor.Abs
end
section
namespace Go.Proofs.YteekjekckgpbfaaDoor.Abs
open Go.RowKit (Below)
section
variable {P : Program} {w : World} {σ : Sg} {h : Heap} {B : Nat} {w0 : World}
theorem store_sound {E : Env} (ty : ∀ t i, E.ty t = some i → TyOk P t i) (H : HR P B w0 σ h w) {t : TypeId} {a a' x x' : Value} (ha : VR P σ a a') (hx : VR P σ x x') {h' : Heap} (e : storeA E t a x h = some h') :
  ∃ w', (Instr.storeAt t a' x').run P w = .ok () w' ∧ HR P B w0 σ h' w' := by
 unfold storeA at e
 split at e
 ·rename_i b off
  cases ha with
  | ptr _ _ l hl =>
   split at e
   ·cases e
   ·rename_i k hk
    split at e
    ·cases e
    ·rename_i i hi
     have ok := ty _ _ hi
     cases hc : (k.own && (vcells x).length == i.size && (vcells x).all oneC && decide (off + (vcells x).length ≤ k.cells.length)) with
     | false => simp [hc] at e
     | true =>
      simp only [hc, cond_true, Option.some.injEq] at e
      subst e
      simp only [Bool.and_eq_true, beq_iff_eq, decide_eq_true_eq] at hc
      obtain ⟨⟨⟨hown, hsz⟩, hone⟩, hle⟩ := hc
      have hg := Heap.blk_some hk
      obtain ⟨l', hl', he, cs, fr, hw, hn, hv, hf⟩ := H.obj _ _ hg
      rw [hl] at hl'
      injection hl' with hl'
      subst hl'
      obtain ⟨rfl, hB, hls⟩ := hf hown
      have hn := hn hown
      rw [hls, List.drop_zero] at hv
      have hxc := hx.cells
      have hxl := hxc.length
      have hlen : k.cells.length ≤ cs.size := by have := hv.length; simp at this; omega
      have hone' : ∀ v ∈ x'.cells.toList, v.oneCell' = true := by
       have := hxc.all_oneC
       rw [hone] at this
       intro v hv
       rw [← oneC_eq]
       exact List.all_eq_true.1 this v hv
      have hst := run_storeCells_at (P := P) l.b off k.elem x'.cells.toList 0 cs w hw (by omega) hone'
      simp only [Nat.add_zero] at hst
      refine ⟨w.setRow l.b (cs.toList.take off ++ x'.cells.toList ++ cs.toList.drop (off + x'.cells.toList.length)).toArray, ?_, H.write (k' := ⟨k.elem, putL k.cells off (vcells x), true⟩) hg hown hl (fun y hy => setRow_other w l.b y _ hy) rfl rfl rfl (by simp [World.setRow]) (setRow_heap w l.b cs _ _ _ hw) ?_ rfl rfl ?_⟩
      ·have : x'.cells.size = i.size := by simp at hxl; omega
       simp only [Instr.storeAt, Instr.sureAddr, Sem.run_bind, Sem.run_pure, Result.andThen_ok, storeVar, run_size ok, Sem.run_ite]
       rw [if_neg (by simp [this]), hls, Nat.zero_add]
       simp only [Result.andThen_ok, hst]
      ·rw [hn]; simp at hxl ⊢; omega
      ·have hput := hv.putL off hxc
       have hpl : (putL k.cells off (vcells x)).length = k.cells.length := putL_length _ _ _ hle
       simp only [hpl]
       have : (cs.toList.take off ++ x'.cells.toList ++ cs.toList.drop (off + x'.cells.toList.length)).take k.cells.length = putL (cs.toList.take k.cells.length) off x'.cells.toList := by
        apply List.ext_getElem?
        intro j
        have hcl : cs.toList.length = cs.size := Array.length_toList
        have h1 : off + x'.cells.toList.length ≤ cs.toList.length := by omega
        have h2 : off + x'.cells.toList.length ≤ (cs.toList.take k.cells.length).length := by rw [List.length_take]; omega
        have := putL_get cs.toList off x'.cells.toList h1 j
        unfold putL at this
        rw [List.getElem?_take, this, putL_get _ _ _ h2, List.getElem?_take]
        by_cases j1 : j < k.cells.length
        ·simp [j1]
        ·rw [if_neg j1, if_neg (by omega), if_neg (by omega), if_neg j1]
       rw [this]
       exact hput
 ·cases e
theorem makeSlice_soundX {E : Env} (ty : ∀ t i, E.ty t = some i → TyOk P t i) (H : HRX P B w0 σ h w) (hfr : σ h.next = none) {t : TypeId} {n n' c c' : Value} (hn : VR P σ n n') (hc : VR P σ c c') {v : Value} {h' : Heap} (e : makeSliceA E t n c h = some (v, h')) :
  MadeX P B w0 σ h.next v h' ((Instr.makeSlice t n' c').run P w) := by
 unfold makeSliceA at e
 split at e
 ·cases e
 ·rename_i el ie hs
  obtain ⟨hu, ok⟩ := sliceOf_some ty hs
  split at e
  ·rename_i a b ha hb
   obtain ⟨k1, rfl⟩ := hn.natOf ha
   obtain ⟨k2, rfl⟩ := hc.natOf hb
   cases hcond : (decide (a ≤ b) && decide (b * ie.bytes ≤ most) && decide (b ≤ most)) with
   | false => simp [hcond] at e
   | true =>
    simp only [hcond, cond_true, Option.some.injEq, Prod.mk.injEq] at e
    obtain ⟨rfl, rfl⟩ := e
    simp only [Bool.and_eq_true, decide_eq_true_eq] at hcond
    obtain ⟨⟨hab, hb1⟩, hb2⟩ := hcond
    unfold most at hb1 hb2
    obtain ⟨j, hj, hs1, hs2, hs3⟩ := ok.get
    have hz : (zeroV ie).cells = ⟨ie.zero⟩ := Array.ext' (zeroV_cells ok)
    have hby : (j.bytes : Int) * (b : Int) ≤ 281474976710656 := by
     rw [hs2]
     have : ((ie.bytes * b : Nat) : Int) ≤ (140737488355328 : Nat) := Int.ofNat_le.2 (by rw [Nat.mul_comm]; exact hb1)
     rw [Int.natCast_mul] at this
     omega
    have hr := run_make (P := P) w t el j (zeroV ie) hu hj hs3 k1 k2 a b (by omega) (by omega) hby (by omega)
    simp only [Int.toNat_natCast] at hr
    have hrep := rep_eq ie.zero b
    rw [ok.zlen] at hrep
    have hszA : (⟨ie.zero⟩ : Array Value).size = ie.size := ok.zlen
    have hmade : madeCells (zeroV ie).cells (b * j.size) = ⟨repL ie.zero b⟩ := by
     rw [hz, hs1]
     unfold madeCells
     rw [hszA]
     exact hrep
    rw [hmade] at hr
    have hlen : (repL ie.zero b).length = b * ie.size := by rw [repL_length, ok.zlen]
    have htake : (repL ie.zero b).take (repL ie.zero a).length = repL ie.zero a := by
     obtain ⟨d, rfl⟩ : ∃ d, b = a + d := ⟨b - a, by omega⟩
     have : ∀ (z : List Value) (a d : Nat), repL z (a + d) = repL z a ++ repL z d := by
      intro z a d
      induction a with
      | zero => simp [repL]
      | succ a ih => rw [Nat.succ_add]; simp only [repL, ih, List.append_assoc]
     rw [this]
     simp
    have hnew := H.new hfr (w' := w.alloc (.cells ⟨repL ie.zero b⟩ el)) (cs := ⟨repL ie.zero b⟩) (fr := (0, 0)) (below_alloc w _) ⟨el, repL ie.zero a, true⟩ (Nat.le_refl _) (heap_alloc_new w _) (by
     show VRL P σ (repL ie.zero a) ((repL ie.zero b).take (repL ie.zero a).length)
     rw [htake]
     exact VRL.repL a ok.self) (fun _ => rfl)
    refine ⟨rfl, _, _, _, hr, hnew, ?_⟩
    refine VR.slice h.next 0 a a b ⟨w.heap.size, el, (⟨repL ie.zero b⟩ : Array Value).size, 0⟩ (put_self ..) (Nat.le_refl _) hab ?_ (by simp only [maxLen]; omega)
    simp [ok.cellsOf, hlen]
  ·cases e
theorem makeSlice_sound {E : Env} (ty : ∀ t i, E.ty t = some i → TyOk P t i) (H : HR P B w0 σ h w) {t : TypeId} {n n' c c' : Value} (hn : VR P σ n n') (hc : VR P σ c c') {v : Value} {h' : Heap} (e : makeSliceA E t n c h = some (v, h')) :
  Made P B w0 σ v h' ((Instr.makeSlice t n' c').run P w) := (makeSlice_soundX ty H.x (H.fresh _ (Nat.le_refl _)) hn hc e).made H
end
end Go.Proofs.YteekjekckgpbfaaDoor.Abs
end
section
namespace Go.Proofs.YteekjekckgpbfaaDoor.Abs
open Go.RowKit (Below)
section
variable {P : Program} {w : World} {σ : Sg} {h : Heap} {B : Nat} {w0 : World}
theorem readRow_sound (H : HR P B w0 σ h w) {v v' : Value} {size : Nat} {l : List Value} (hv : VR P σ v v') (e : readRow h v size = some l) :
  (v' = .slice none 0 0 ∧ l = [] ∧ v = .slice none 0 0) ∨ (∃ a n c, v' = .slice (some a) n c ∧ lenV v = some n ∧ l.length = n * size ∧ ∃ l', VRL P σ l l' ∧ ∀ j u, l'[j]? = some u → w.cell? (a.add j) = some u) := by
 unfold readRow at e
 split at e
 ·cases hv
  injection e with e
  exact .inl ⟨rfl, e.symm, rfl⟩
 ·rename_i a n c
  by_cases hn : n = 0
  ·subst hn
   simp only [beq_self_eq_true, cond_true, Option.some.injEq] at e
   subst e
   cases hv with
   | slice b o _ _ c' lc _ _ _ _ _ => exact .inr ⟨_, _, _, rfl, rfl, by simp, [], .nil, fun j u hj => by simp at hj⟩
   | weak a c' => exact .inr ⟨_, _, _, rfl, rfl, by simp, [], .nil, fun j u hj => by simp at hj⟩
  ·have hn' : (n == 0) = false := by simpa using hn
   simp only [hn', cond_false] at e
   cases hv with
   | weak a c' => simp at hn
   | slice b o _ _ c' lc hlc h1 h2 h3 h4 =>
    simp only [Option.isSome_none, cond_false] at e
    split at e
    ·cases e
    ·rename_i k hk
     by_cases hle : o + n * size ≤ k.cells.length
     ·simp only [hle, decide_true, cond_true, Option.some.injEq] at e
      subst e
      obtain ⟨l', hl', he, cs, fr, hw, hnn, hvv, _⟩ := H.obj _ _ (Heap.blk_some hk)
      rw [hlc] at hl'
      injection hl' with hl'
      subst hl'
      refine .inr ⟨_, _, _, rfl, rfl, by simp; omega, (((cs.toList.drop lc.s).take k.cells.length).drop o).take (n * size), (hvv.drop o).take _, ?_⟩
      intro j u hj
      rw [addr_add]
      rw [List.getElem?_take] at hj
      split at hj
      ·rw [List.getElem?_drop, List.getElem?_take] at hj
       split at hj
       ·simp [World.cell?, hw]
        simpa [Nat.add_assoc] using hj
       ·cases hj
      ·cases hj
     ·simp [hle] at e
 ·cases e
theorem all_one {l l' : List Value} (hl : VRL P σ l l') (h : l.all oneC = true) : ∀ u ∈ l', u.oneCell' = true := by
 intro u hu
 rw [← oneC_eq]
 have := hl.all_oneC
 rw [h] at this
 exact List.all_eq_true.1 this u hu
theorem append_sound {E : Env} (ty : ∀ t i, E.ty t = some i → TyOk P t i) (H : HR P B w0 σ h w) {t u : TypeId} {s s' x x' : Value} (hs : VR P σ s s') (hx : VR P σ x x') {v : Value} {h' : Heap} (e : appendA E t s x h = some (v, h')) :
  Made P B w0 σ v h' ((Builtin.append_ #[t, t] u #[s', x']).run P w) := by
 unfold appendA at e
 split at e
 ·rename_i el sz bt z hi
  have hu := (ty _ _ hi).und
  split at e
  ·cases e
  ·rename_i ie hie
   have ok := ty _ _ hie
   obtain ⟨j, hj, hs1, hs2, hs3⟩ := ok.get
   cases hb0 : (ie.size == 0 || ie.bytes == 0) with
   | true => simp [hb0] at e
   | false =>
    simp only [hb0, cond_false] at e
    simp only [Bool.or_eq_false_iff, beq_eq_false_iff_ne] at hb0
    split at e
    ·cases e
    ·rename_i m hm
     split at e
     ·cases e
     ·rename_i news hnews
      cases hb1 : (!(news.length == m * ie.size) || !(news.all oneC)) with
      | true => simp [hb1] at e
      | false =>
       simp only [hb1, cond_false] at e
       simp only [Bool.or_eq_false_iff, Bool.not_eq_false', beq_iff_eq] at hb1
       obtain ⟨hnl, hone⟩ := hb1
       have hzc : (zeroV ie).cells.size = ie.size := by
        have := zeroV_cells ok
        have h2 : (zeroV ie).cells.toList.length = ie.zero.length := by rw [this]
        rw [ok.zlen] at h2
        simpa using h2
       have hzpos : 0 < ie.size := by omega
       have hsz : (sizeOf el).run P w = .ok ie.size w := run_size ok
       rcases readRow_sound H hx hnews with ⟨rfl, hn0, rfl⟩ | ⟨a, mm, c, rfl, hmm, hnl', news', hnv, hcells⟩
       ·
        have hm0 : m = 0 := by simp [lenV] at hm; omega
        subst hm0
        have res : v = s ∧ h' = h ∧ ((∃ a n c, s = .slice (some a) n c) ∨ s = .slice none 0 0) := by
         split at e
         ·rename_i n c
          cases hc : (!(n == 0) || !(c == 0)) with
          | true => simp [hc] at e
          | false =>
           simp only [hc, cond_false, beq_self_eq_true, cond_true, Option.some.injEq, Prod.mk.injEq] at e
           simp at hc
           obtain ⟨rfl, rfl⟩ := hc
           exact ⟨e.1.symm, e.2.symm, .inr rfl⟩
         ·simp only [beq_self_eq_true, cond_true, Option.some.injEq, Prod.mk.injEq] at e
          exact ⟨e.1.symm, e.2.symm, .inl ⟨_, _, _, rfl⟩⟩
         ·cases e
        obtain ⟨rfl, rfl, hsh⟩ := res
        refine ⟨σ, w, s', ?_, Sg.le.refl σ, H, hs⟩
        rcases hsh with ⟨a, n, c, rfl⟩ | rfl <;> cases hs
        ·rename_i b o c' l h1 h2 h3 h4 h5
         simp [Builtin.append_, run_underlying hu, hsz, Builtin.lenOf, Builtin.firstCells, storeCells, show n ≤ c' by omega]
        ·simp [Builtin.append_, run_underlying hu, hsz, Builtin.lenOf, Builtin.firstCells, storeCells]
        ·simp [Builtin.append_, run_underlying hu, hsz, Builtin.lenOf, Builtin.firstCells, storeCells]
       ·have hmeq : m = mm := by rw [hm] at hmm; injection hmm
        subst hmeq
        have hnl2 : news'.length = m * ie.size := by rw [← hnv.length]; exact hnl
        have hone' := all_one hnv hone
        have main : ∀ (n : Nat) (xs xs' : List Value), s'.ownBlock = s'.ownBlock → w.ownsRow B el ie.size s' n xs' → VRL P σ xs xs' → (n + m) * ie.bytes ≤ most → 0 < m →
          ∃ g cap cur w1, (Builtin.append_ #[t, t] u #[s', .slice (some a) m c]).run P w = .ok (.slice (some ⟨g, 0, none⟩) (n + m) cap) w1 ∧ B ≤ g ∧ w1.heap[g]? = some (.cells cur el (0, 0)) ∧ n + m ≤ cap ∧ cap ≤ maxLen ∧ cur.size = cap * ie.size ∧
           VRL P σ (xs ++ news) (cur.toList.take ((n + m) * ie.size)) ∧ w.grownBy w1 s'.ownBlock ∧ (some g = s'.ownBlock ∨ g = w.heap.size) := by
         intro n xs xs' _ hown hxs hbyt hmpos
         unfold most at hbyt
         have hb1' : 0 < ie.bytes := by omega
         have hlen63 : n + m ≤ maxLen := by
          have : n + m ≤ (n + m) * ie.bytes := Nat.le_mul_of_pos_right _ hb1'
          simp only [maxLen]; omega
         obtain ⟨v1, w1, hr, ho, hgr, hnil, hat⟩ := run_append_own_at (P := P) w B t u el j (zeroV ie) ie.size ie.bytes hu hj hs3 hs1 hs2 hzc hzpos s' n xs' hown a m c news' hnl2 hcells hone' hlen63 hbyt H.base
         obtain ⟨hol, hoo⟩ := ho
         rcases hoo with ⟨rfl, h0⟩ | ⟨g, cap, cur, rfl, hBg, hgh, hncap, hcm, hcs, htk⟩
         ·omega
         ·refine ⟨g, cap, cur, w1, hr, hBg, hgh, hncap, hcm, hcs, by rw [htk]; exact hxs.append hnv, hgr, ?_⟩
          rcases hat with h1 | h1
          ·exact .inl h1
          ·right
           simpa [Value.ownBlock] using h1
        split at e
        ·
         rename_i n c0
         cases hc : (!(n == 0) || !(c0 == 0)) with
         | true => simp [hc] at e
         | false =>
          simp only [hc, cond_false] at e
          simp at hc
          obtain ⟨rfl, rfl⟩ := hc
          cases hs
          by_cases hm0 : m = 0
          ·subst hm0
           simp only [beq_self_eq_true, cond_true, Option.some.injEq, Prod.mk.injEq] at e
           obtain ⟨rfl, rfl⟩ := e
           refine ⟨σ, w, .slice none 0 0, ?_, Sg.le.refl σ, H, .nilSlice⟩
           have hf := run_firstCells_some (P := P) w ie.size 0 a 0 c news' hnl2 hcells
           simp [Builtin.append_, run_underlying hu, hsz, Builtin.lenOf, hf, storeCells]
          ·have hm0' : (m == 0) = false := by simpa using hm0
           simp only [hm0', cond_false] at e
           by_cases hbyt : m * ie.bytes ≤ most
           ·simp only [hbyt, decide_true, cond_true, Option.some.injEq, Prod.mk.injEq] at e
            obtain ⟨rfl, rfl⟩ := e
            obtain ⟨g, cap, cur, w1, hr, hBg, hgh, hncap, hcm, hcs, hvv, hgr, hat⟩ := main 0 [] [] rfl (World.ownsRow_nil w B el ie.size) .nil (by simpa using hbyt) (by omega)
            have hgw : g = w.heap.size := by
             rcases hat with h1 | h1
             ·simp [Value.ownBlock] at h1
             ·exact h1
            subst hgw
            simp only [Nat.zero_add, List.nil_append] at hr hvv hncap
            have hbel : Below w.heap.size w w1 := ⟨hgr.os, hgr.tape, hgr.output, hgr.size, fun x hx => hgr.block x hx (by simp [Value.ownBlock])⟩
            obtain ⟨g1, g2⟩ := H.new hbel (cs := cur) (fr := (0, 0)) ⟨el, news, true⟩ (Nat.le_refl _) hgh (by rw [hnl]; exact hvv) (fun _ => rfl)
            refine ⟨_, w1, _, hr, g1, g2, ?_⟩
            refine VR.slice h.next 0 m m cap ⟨w.heap.size, el, cur.size, 0⟩ (put_self ..) (Nat.le_refl _) (by omega) ?_ hcm
            simp [ok.cellsOf, hcs]
           ·simp [hbyt] at e
        ·rename_i ad n c0
         by_cases hm0 : m = 0
         ·subst hm0
          simp only [beq_self_eq_true, cond_true, Option.some.injEq, Prod.mk.injEq] at e
          obtain ⟨rfl, rfl⟩ := e
          refine ⟨σ, w, s', ?_, Sg.le.refl σ, H, hs⟩
          have hf := run_firstCells_some (P := P) w ie.size 0 a 0 c news' hnl2 hcells
          have hnil : news' = [] := List.eq_nil_of_length_eq_zero (by simpa using hnl2)
          subst hnil
          cases hs
          ·rename_i b o c' l h1 h2 h3 h4 h5
           simp [Builtin.append_, run_underlying hu, hsz, Builtin.lenOf, hf, storeCells, show n ≤ c' by omega]
          ·simp [Builtin.append_, run_underlying hu, hsz, Builtin.lenOf, hf, storeCells]
         ·have hm0' : (m == 0) = false := by simpa using hm0
          simp only [hm0', cond_false] at e
          cases hsp : (ad.spot.isSome || !(ad.off == 0)) with
          | true => simp [hsp] at e
          | false =>
           simp only [hsp, cond_false] at e
           split at e
           ·cases e
           ·rename_i k hk
            cases hcond : (k.own && k.elem == el && k.cells.length == n * ie.size && decide ((n + m) * ie.bytes ≤ most)) with
            | false => simp [hcond] at e
            | true =>
             simp only [hcond, cond_true, Option.some.injEq, Prod.mk.injEq] at e
             obtain ⟨rfl, rfl⟩ := e
             simp only [Bool.and_eq_true, beq_iff_eq, decide_eq_true_eq] at hcond
             obtain ⟨⟨⟨hown, hel⟩, hkl⟩, hbyt⟩ := hcond
             cases hs with
             | weak a' c' => simp at hsp
             | slice b o _ _ c' l hl h2 h3 h4 h5 =>
              simp at hsp
              subst hsp
              have hg := Heap.blk_some hk
              obtain ⟨l', hl', he, cs, fr, hw, hn, hv, hf⟩ := H.obj _ _ hg
              rw [hl] at hl'
              injection hl' with hl'
              subst hl'
              obtain ⟨rfl, hBl, hls⟩ := hf hown
              have hcsz : cs.size = c' * ie.size := by rw [← hn hown, ← h4, he, hel, ok.cellsOf]; omega
              rw [hls, List.drop_zero] at hv
              rw [hls] at main ⊢
              have hrow : w.ownsRow B el ie.size (.slice (some ⟨l.b, 0, none⟩) n c') n (cs.toList.take (n * ie.size)) := by
               refine ⟨?_, .inr ⟨l.b, c', cs, rfl, hBl, by rw [← hel]; exact hw, by omega, h5, hcsz, rfl⟩⟩
               have : n * ie.size ≤ c' * ie.size := Nat.mul_le_mul_right _ (by omega)
               simp
               omega
              obtain ⟨g, cap, cur, w1, hr, hBg, hgh, hncap, hcm, hcs, hvv, hgr, hat⟩ := main n k.cells _ rfl hrow (by rw [← hkl]; exact hv) hbyt (by omega)
              have hgg : g = l.b ∨ w.heap.size ≤ g := by
               rcases hat with h1 | h1
               ·left; simpa [Value.ownBlock] using h1
               ·right; omega
              obtain ⟨g1, g2⟩ := H.regrow (w' := w1) hg hown hl (by simpa [Value.ownBlock] using hgr) hgg (k' := ⟨el, k.cells ++ news, true⟩) hBg hgh (by
               show VRL P σ (k.cells ++ news) (cur.toList.take (k.cells ++ news).length)
               rw [List.length_append, hkl, hnl, ← Nat.add_mul]
               exact hvv)
              refine ⟨_, w1, _, hr, g1, g2, ?_⟩
              refine VR.slice h.next 0 (n + m) (n + m) cap ⟨g, el, cur.size, 0⟩ (put_self ..) (Nat.le_refl _) (by omega) ?_ hcm
              simp [ok.cellsOf, hcs]
        ·cases e
 ·cases e
/-! ### Conversions -/
theorem toBytes_sound : ∀ {l l' : List Value} {bs : List UInt8}, VRL P σ l l' → toBytes l = some bs → ∃ xs : List Int, l' = xs.map (Value.int .u8) ∧ bs = xs.map fun n => UInt8.ofNat n.toNat := by
 intro l
 induction l with
 | nil =>
  intro l' bs hl e
  cases hl
  simp only [toBytes, Option.some.injEq] at e
  subst e
  exact ⟨[], rfl, rfl⟩
 | cons v l ih =>
  intro l' bs hl e
  cases hl with
  | cons _ v' _ l' hv hl =>
   simp only [toBytes] at e
   cases hb : toByte v with
   | none => simp [hb] at e
   | some b =>
    simp only [hb] at e
    cases hr : toBytes l with
    | none => simp [hr] at e
    | some bs' =>
     simp only [hr, Option.some.injEq] at e
     subst e
     obtain ⟨xs, rfl, rfl⟩ := ih hl hr
     unfold toByte at hb
     split at hb
     ·rename_i n
      injection hb with hb
      subst hb
      cases hv
      exact ⟨n :: xs, rfl, rfl⟩
     ·cases hb
theorem isU8_ok {E : Env} (ty : ∀ t i, E.ty t = some i → TyOk P t i) {e : TypeId} (h : isU8 E e = true) : P.underlying e = some (.int .u8) ∧ P.cellsOf e = 1 := by
 unfold isU8 at h
 split at h
 ·rename_i bt z hi
  exact ⟨(ty _ _ hi).und, (ty _ _ hi).cellsOf⟩
 ·cases h
theorem conv_sound {E : Env} (ty : ∀ t i, E.ty t = some i → TyOk P t i) (H : HR P B w0 σ h w) {src dst : TypeId} {x x' : Value} (hx : VR P σ x x') {v : Value} {h' : Heap} (e : convA E src dst x h = some (v, h')) :
  Made P B w0 σ v h' ((convert src dst x').run P w) := by
 unfold convA at e
 split at e
 ·rename_i s d hs hd
  have us := (ty _ _ hs).und
  have ud := (ty _ _ hd).und
  split at e
  ·rename_i k _ n hdd
   rw [hdd] at ud
   simp only [Option.some.injEq, Prod.mk.injEq] at e
   obtain ⟨rfl, rfl⟩ := e
   cases hx
   exact ⟨σ, w, _, by simp [convert, run_underlying us, run_underlying ud, Conv.intToInt, wrapA_eq], Sg.le.refl σ, H, .int _ _⟩
  ·rename_i st hdd
   rw [hdd] at ud
   simp only [Option.some.injEq, Prod.mk.injEq] at e
   obtain ⟨rfl, rfl⟩ := e
   cases hx
   exact ⟨σ, w, _, by simp [convert, run_underlying us, run_underlying ud], Sg.le.refl σ, H, .string _⟩
  ·rename_i a n c hdd
   rw [hdd] at ud
   split at e
   ·rename_i el hsd
    rw [hsd] at us
    cases hu : isU8 E el with
    | false => simp [hu] at e
    | true =>
     simp only [hu, cond_true] at e
     obtain ⟨ue, _⟩ := isU8_ok ty hu
     split at e
     ·cases e
     ·rename_i row hrow
      split at e
      ·cases e
      ·rename_i bs hbs
       simp only [Option.some.injEq, Prod.mk.injEq] at e
       obtain ⟨rfl, rfl⟩ := e
       rcases readRow_sound H hx hrow with ⟨rfl, rfl, _⟩ | ⟨ad, m, cc, rfl, hm, hl, l', hv, hc⟩
       ·simp only [toBytes, Option.some.injEq] at hbs
        subst hbs
        exact ⟨σ, w, .string ByteArray.empty, run_convert_bytes_nil w src el us ue 0 0 dst ud, Sg.le.refl σ, H, .string _⟩
       ·obtain ⟨xs, rfl, rfl⟩ := toBytes_sound hv hbs
        have hlen : xs.length = m := by have := hv.length; simp at this; omega
        have hld : (loadCells ad m).run P w = .ok (xs.map (Value.int .u8)).toArray w := by
         have := run_loadCells_list (P := P) w ad (xs.map (Value.int .u8)) hc
         simpa [hlen] using this
        have hr : (convert src dst (.slice (some ad) m cc)).run P w = .ok (.string (mkS (xs.map fun n => UInt8.ofNat n.toNat))) w := by
         rw [run_convert_bytes_string w src dst el _ m cc us ue ud, run_bytesToString w _ m cc xs hld, foldl_push_bytes]
         congr 2
         apply ByteArray.ext
         apply Array.ext'
         simp [mkS, ByteArray.empty, ByteArray.emptyWithCapacity]
         rfl
        exact ⟨σ, w, _, hr, Sg.le.refl σ, H, .string _⟩
   ·cases e
  ·rename_i el st hdd
   rw [hdd] at ud
   cases hc : (isU8 E el && decide (slen st ≤ most)) with
   | false => simp [hc] at e
   | true =>
    simp only [hc, cond_true, Option.some.injEq, Prod.mk.injEq] at e
    obtain ⟨rfl, rfl⟩ := e
    simp only [Bool.and_eq_true, decide_eq_true_eq] at hc
    obtain ⟨hu, hle⟩ := hc
    obtain ⟨ue, uc⟩ := isU8_ok ty hu
    cases hx
    rw [slen_eq] at hle ⊢
    unfold most at hle
    have hcap := grownCap_ge w st.size 0 el
    have hcm := grownCap_le_maxLen w st.size 0 el (by simp only [maxLen]; omega)
    have hbel : Below w.heap.size w (Lib.bytesWorld w el st) := ⟨rfl, rfl, rfl, by rw [Lib.bytesWorld_size]; omega, fun x hx => Lib.bytesWorld_at_old w el st x hx⟩
    have hsz : (Lib.bytesCells w el st).size = grownCap w st.size 0 el := by
     simp only [Lib.bytesCells, Array.size_append, Array.size_map, Array.size_replicate]
     have : st.data.size = st.size := rfl
     omega
    obtain ⟨g1, g2⟩ := H.new hbel (cs := Lib.bytesCells w el st) ⟨el, (sl st).map byteV, false⟩ (Nat.le_refl _) (Lib.bytesWorld_at_new w el st) (by
     have : (Lib.bytesCells w el st).toList.take ((sl st).map byteV).length = (sl st).map byteV := by
      simp [Lib.bytesCells, sl, byteV]
     show VRL P σ ((sl st).map byteV) _
     rw [this]
     generalize sl st = l
     induction l with
     | nil => exact .nil
     | cons b l ih => exact .cons _ _ _ _ (.int _ _) ih) (fun hf => by cases hf)
    refine ⟨_, _, _, Lib.run_convert_string_bytes w src dst el st us ud ue, g1, g2, ?_⟩
    refine VR.slice h.next 0 st.size st.size (grownCap w st.size 0 el) ⟨w.heap.size, el, (Lib.bytesCells w el st).size, 0⟩ (put_self ..) (Nat.le_refl _) hcap ?_ hcm
    simp [uc, hsz]
  ·cases e
 ·cases e
end
end Go.Proofs.YteekjekckgpbfaaDoor.Abs
end
section
namespace Go.Proofs.YteekjekckgpbfaaDoor.Abs
open Go.RowKit (Below)
/-! ### What a call leaves -/
def Post (P : Program) (B : Nat) (w0 : World) (σ : Sg) (h' : Heap) (r : Res) : Ending → World → Prop
 | .returned v', w' => ∃ v σ', r = .ret v ∧ σ.le σ' ∧ HR P B w0 σ' h' w' ∧ VR P σ' v v'
 | .panicked chain, w' => ∃ v v' σ', r = .panic v ∧ σ.le σ' ∧ HR P B w0 σ' h' w' ∧ VR P σ' v v' ∧ chain = [{ v := v', recovered := false }]
 | .outgrown, _ => False
def CallOk (P : Program) (B : Nat) (w0 : World) (σ : Sg) (f : FuncId) (args' : List Value) (w : World) (h' : Heap) (r : Res) : Prop :=
 (callFunc f ⟨args'⟩).run P w = .ok (.enter f ⟨args'⟩) w ∧ Calls P f ⟨args'⟩ w (Post P B w0 σ h' r)
def CFOk (P : Program) (B : Nat) (w0 : World) (cf : CallF) : Prop :=
 ∀ f args h r h', cf f args h = some (r, h') → ∀ σ w args', VRL P σ args args' → HR P B w0 σ h w → CallOk P B w0 σ f args' w h' r
/-! ### What must be so of a function's text -/
def codeOk (G : Nat) (okDraw : List Oper → Bool) : Code → Bool
 | .region _ ops draw => ops.toList.all (fun o => okOp G o.op) && (!draw || okDraw ops.toList)
 | .seq a b => codeOk G okDraw a && codeOk G okDraw b
 | .cond c a b => okOpnd G c && codeOk G okDraw a && codeOk G okDraw b
 | .block _ c => codeOk G okDraw c
 | .loop c => codeOk G okDraw c
 | _ => true
structure EnvOk (P : Program) (B : Nat) (w0 : World) (G : Nat) (okDraw : List Oper → Bool) (E : Env) : Prop where
 ty : ∀ t i, E.ty t = some i → TyOk P t i
 fn : ∀ f fn, E.fn f = some fn → P.funcs[f]? = some fn ∧ (fn.name == "runtime.NumGoroutine") = false ∧ ∃ c, fn.body = some c ∧ codeOk G okDraw c = true
 prim : ∀ g args h v h', E.prim g args h = some (v, h') → ∀ σ w args', VRL P σ args args' → HR P B w0 σ h w → ∃ σ' w' v', (callFunc g ⟨args'⟩).run P w = .ok (.value v') w' ∧ σ.le σ' ∧ HR P B w0 σ' h' w' ∧ VR P σ' v v'
 ext : ∀ f args h r h', E.fn f = none → E.ext f args h = some (r, h') → ∀ σ w args', VRL P σ args args' → HR P B w0 σ h w → CallOk P B w0 σ f args' w h' r
section
variable {P : Program} {w : World} {σ : Sg} {h : Heap} {B : Nat} {w0 : World} {G : Nat} {okDraw : List Oper → Bool}
/-! ### Temporaries -/
structure TR (P : Program) (σ : Sg) (nt : Nat) (D : List Deferred) (T : Tmps) (a : Act) : Prop where
 size : a.tmps.size = nt
 defers : a.defers = D
 val : ∀ t, VR P σ (T t) (a.tmps.getD t undef)
theorem TR.mono {σ' : Sg} {nt : Nat} {D : List Deferred} {T : Tmps} {a : Act} (hs : σ.le σ') (h : TR P σ nt D T a) : TR P σ' nt D T a := ⟨h.size, h.defers, fun t => (h.val t).mono hs⟩
theorem undef_VR : VR P σ undef undef := .tuple _ _ .nil
theorem TR.put {nt : Nat} {D : List Deferred} {T : Tmps} {a : Act} (h : TR P σ nt D T a) {v v' : Value} (hv : VR P σ v v') (d : Option Nat) : TR P σ nt D (putT nt T d v) (a.put d v') := by
 cases d with
 | none => exact h
 | some d =>
  refine ⟨by simp [Act.put, h.size], h.defers, fun t => ?_⟩
  simp only [putT, Act.put, Array.getD_eq_getD_getElem?, Array.getElem?_setIfInBounds]
  have ht := h.val t
  rw [Array.getD_eq_getD_getElem?] at ht
  by_cases hd : d = t
  ·subst hd
   by_cases hlt : d < nt
   ·simpa [hlt, h.size] using hv
   ·simpa [hlt, h.size] using ht
  ·have : (t == d) = false := by simp; omega
   simpa [this, hd] using ht
theorem TR.ev {nt : Nat} {D : List Deferred} {T : Tmps} {a : Act} (h : TR P σ nt D T a) {hp : Heap} (H : HR P B w0 σ hp w) (hG : G ≤ P.globals.size) (x : Operand) (hx : okOpnd G x = true) : VR P σ (ev T x) (a.eval x) := by
 cases x with
 | tmp t => exact h.val t
 | const v => exact VR.of_plain hx
 | global g =>
  simp only [okOpnd, decide_eq_true_eq] at hx
  obtain ⟨l, hl, he⟩ := H.glob g (by omega)
  have := VR.ptr (P := P) g 0 l hl
  rw [he.1, he.2] at this
  exact this
 | func f => exact .func _ _ _ _ _ .nil .nil
theorem want_eq {nt : Nat} {D : List Deferred} {T : Tmps} {a : Act} (h : TR P σ nt D T a) (ops : Array Oper) (o : Oper) : Region.wanted o (yielded ops a.tmps) = wantA ops.toList T o := by
 unfold Region.wanted wantA
 cases hg : o.guard with
 | none => rfl
 | some p =>
  obtain ⟨j, want⟩ := p
  simp only [yielded, yieldD]
  have hops : ops[j]? = ops.toList[j]? := by simp
  rw [hops]
  cases ho : ops.toList[j]? with
  | none => simp
  | some q =>
   simp only [Option.bind_some]
   cases hd : q.dst with
   | none => simp
   | some d =>
    simp only [Option.bind_some]
    have hv := h.val d
    rw [Array.getD_eq_getD_getElem?] at hv
    cases ht : a.tmps[d]? with
    | none =>
     rw [ht] at hv
     simp only [Option.getD_none] at hv
     have : boolIs want (T d) = false := by
      generalize T d = x at hv
      cases hv; rfl
     rw [this]; rfl
    | some y =>
     rw [ht] at hv
     simp only [Option.getD_some] at hv
     generalize T d = x at hv
     cases hv <;> simp [boolIs]
/-! ### One operation that makes, writes or calls -/
theorem wp_of_run {o : Oper} {a : Act} {next : Act → World → Prop} {Q : Exit → Act → World → Prop} {r : Result Next} (hr : (execOp a.eval o).run P w = r) (h : o.upon P a next Q r) : o.wp P a w next Q := by
 unfold Oper.wp
 rw [hr]
 exact h
theorem evs_map {ρ ρ' : Operand → Value} (hρ : ∀ x, okOpnd G x = true → VR P σ (ρ x) (ρ' x)) {l : List Operand} (hl : ∀ x ∈ l, okOpnd G x = true) : VRL P σ (evs ρ l) (l.map ρ') := evs_sound hρ hl
theorem call_args {first args captured : List Value} : (⟨first⟩ : Array Value) ++ ⟨args⟩ ++ ⟨captured⟩ = ⟨first ++ args ++ captured⟩ := by apply Array.ext'; simp
theorem eff_sound {E : Env} (EO : EnvOk P B w0 G okDraw E) {cf : CallF} (CF : CFOk P B w0 cf) (H : HR P B w0 σ h w) {ρ : Operand → Value} {a : Act} (hρ : ∀ x, okOpnd G x = true → VR P σ (ρ x) (a.eval x))
  (o : Oper) (hop : okOp G o.op = true) {r : Res} {h' : Heap} (e : effA E cf ρ h o.op = some (r, h')) {next : Act → World → Prop} {Q : Exit → Act → World → Prop}
  (hret : ∀ σ' v v' w', r = .ret v → σ.le σ' → HR P B w0 σ' h' w' → VR P σ' v v' → next (a.put o.dst v') w')
  (hpan : ∀ σ' v v' w', r = .panic v → σ.le σ' → HR P B w0 σ' h' w' → VR P σ' v v' → Q (.panic [{ v := v', recovered := false }]) a w') : o.wp P a w next Q := by
 have hm := okOp_mem hop
 have made : ∀ (x : Option (Value × Heap)) (s : Sem Value), (∀ v h', x = some (v, h') → Made P B w0 σ v h' (s.run P w)) → valR x = some (r, h') → (execOp a.eval o).run P w = (s.run P w).andThen (fun v w' => .ok (.value v) w') → o.wp P a w next Q := by
  intro x s hmade hx hrun
  unfold valR at hx
  split at hx
  ·cases hx
  ·rename_i v hh
   simp only [Option.some.injEq, Prod.mk.injEq] at hx
   obtain ⟨rfl, rfl⟩ := hx
   obtain ⟨σ', w', v', hr, hle, H', hv⟩ := hmade v hh rfl
   rw [hr, Result.andThen_ok] at hrun
   exact wp_of_run hrun (hret σ' v v' w' rfl hle H' hv)
 cases hq : o.op <;> rw [hq] at e hm <;> simp only [Op.operands, Call.operands] at hm
 case alloc t =>
  simp only [effA] at e
  exact made _ (Instr.alloc t true (.tuple #[])) (fun v h' hx => alloc_sound EO.ty H hx) e (by simp only [execOp, hq, Sem.run_bind]; rfl)
 case box t x =>
  simp only [effA] at e
  refine made _ (Instr.box t (a.eval x)) (fun v h' hx => ?_) e (by simp only [execOp, hq, Sem.run_bind]; rfl)
  simp only [Option.some.injEq] at hx
  have := box_sound (t := t) H (hρ x (hm x (by simp)))
  rw [hx] at this
  exact this
 case buildSlice t n parts =>
  simp only [effA] at e
  have hparts : ∀ p ∈ parts.toList, okOpnd G p.2 = true := fun p hp => hm p.2 (by simp; exact ⟨p.1, by simpa using hp⟩)
  refine made _ (Instr.buildSlice t n (parts.map fun (i, x) => (i, a.eval x))) (fun v h' hx => ?_) e (by simp only [execOp, hq, Sem.run_bind]; rfl)
  refine buildSlice_sound EO.ty H (parts := ⟨evp ρ parts.toList⟩) (by simp [evp, List.map_map]) ?_ hx
  simp only [evp, List.map_map, Array.toList_map]
  generalize hpl : parts.toList = l at hparts
  clear hpl
  induction l with
  | nil => exact .nil
  | cons p l ih => exact .cons _ _ _ _ (hρ _ (hparts p (by simp))) (ih fun q hq => hparts q (by simp [hq]))
 case store t x y =>
  simp only [effA, skipR] at e
  split at e
  ·cases e
  ·rename_i hh hst
   simp only [Option.some.injEq, Prod.mk.injEq] at e
   obtain ⟨rfl, rfl⟩ := e
   obtain ⟨w', hr, H'⟩ := store_sound EO.ty H (hρ x (hm x (by simp))) (hρ y (hm y (by simp))) hst
   exact wp_of_run (r := .ok .skip w') (by simp only [execOp, hq, Sem.run_bind, hr]; rfl) (hret σ undef undef w' rfl (Sg.le.refl σ) H' undef_VR)
 case convert s d x =>
  simp only [effA] at e
  exact made _ (convert s d (a.eval x)) (fun v h' hx => conv_sound EO.ty H (hρ x (hm x (by simp))) hx) e (by simp only [execOp, hq, Sem.run_bind]; rfl)
 case makeSlice t n c =>
  simp only [effA] at e
  exact made _ (Instr.makeSlice t (a.eval n) (a.eval c)) (fun v h' hx => makeSlice_sound EO.ty H (hρ n (hm n (by simp))) (hρ c (hm c (by simp))) hx) e (by simp only [execOp, hq, Sem.run_bind]; rfl)
 case panic x =>
  have hx := hρ x (hm x (by simp))
  simp only [effA, panicA] at e
  split at e
  ·rename_i t v hxv
   rw [hxv] at hx
   simp only [Option.some.injEq, Prod.mk.injEq] at e
   obtain ⟨rfl, rfl⟩ := e
   cases hev : a.eval x <;> rw [hev] at hx <;> cases hx
   rename_i t' v' hv
   refine wp_of_run (r := .halt (.panic (.iface t v')) w) (by simp [execOp, hq, Instr.panic, hev]) ?_
   exact hpan σ _ _ w rfl (Sg.le.refl σ) H (.iface _ _ _ hv)
  ·cases e
 case call c =>
  obtain ⟨callee, ⟨args⟩, ⟨ats⟩⟩ := c
  have hargs : ∀ x ∈ args, okOpnd G x = true := fun x hx => hm x (by simp; exact .inr hx)
  cases callee with
  | invoke rc m => simp [effA] at e
  | builtin b =>
   cases b <;> (try (simp [effA] at e; done))
   match args, ats, e with
   | [s, x], [t, u], e =>
    simp only [effA] at e
    by_cases htu : t = u
    ·subst htu
     simp only [beq_self_eq_true, cond_true] at e
     refine made _ (Builtin.append_ #[t, t] o.type #[a.eval s, a.eval x]) (fun v h' hx => append_sound EO.ty H (hρ s (hargs s (by simp))) (hρ x (hargs x (by simp))) hx) e ?_
     simp only [execOp, hq]
     refine run_builtin _ _ _ _ _ _ fun cs => ?_
     simp only [builtin, Sem.run_bind]
     rfl
    ·have : (t == u) = false := by simpa using htu
     simp [this] at e
  | value f =>
   simp only [effA, callA] at e
   have hf := hρ f (hm f (by simp))
   split at e
   ·rename_i g first captured hfv
    rw [hfv] at hf
    cases hev : a.eval f <;> rw [hev] at hf <;> cases hf
    rename_i f1 f1' c1 c1' hf1 hc1
    have hall := (hf1.append (evs_map hρ hargs)).append hc1
    have e2 : (⟨args⟩ : Array Operand).map a.eval = ⟨args.map a.eval⟩ := by apply Array.ext'; simp
    have hrun : (execOp a.eval o).run P w = (callFunc g ⟨f1' ++ args.map a.eval ++ c1'⟩).run P w := by
     simp only [execOp, hq, resolve, hev, Deferred.ofValue, Sem.run_bind, Sem.run_pure, Result.andThen_ok, invoke, e2, call_args]
    split at e
    ·rename_i v hh hp
     simp only [Option.some.injEq, Prod.mk.injEq] at e
     obtain ⟨rfl, rfl⟩ := e
     obtain ⟨σ', w', v', hr, hle, H', hv⟩ := EO.prim _ _ _ _ _ hp σ w _ hall H
     exact wp_of_run (hrun.trans hr) (hret σ' v v' w' rfl hle H' hv)
    ·rename_i hp
     obtain ⟨hr, hc⟩ := CF _ _ _ _ _ e σ w _ hall H
     refine wp_of_run (hrun.trans hr) ?_
     rw [Oper.upon_enter]
     refine hc.mono fun en w' hpost => ?_
     cases en with
     | returned v' =>
      obtain ⟨v, σ', hr1, hle, H', hv⟩ := hpost
      exact hret σ' v v' w' hr1 hle H' hv
     | panicked chain =>
      obtain ⟨v, v', σ', hr1, hle, H', hv, rfl⟩ := hpost
      exact hpan σ' v v' w' hr1 hle H' hv
     | outgrown => exact hpost.elim
   ·cases e
 all_goals (simp [effA] at e)
theorem effX_sound {E : Env} (EO : EnvOk P B w0 G okDraw E) {cf : CallF} (H : HRX P B w0 σ h w) (hfr : σ h.next = none) {ρ : Operand → Value} {a : Act} (hρ : ∀ x, okOpnd G x = true → VR P σ (ρ x) (a.eval x))
  (o : Oper) (hop : okOp G o.op = true) (hal : allocs o.op = true) {r : Res} {h' : Heap} (e : effA E cf ρ h o.op = some (r, h')) {next : Act → World → Prop} {Q : Exit → Act → World → Prop}
  (hret : ∀ l v v' w', r = .ret v → HRX P B w0 (σ.put h.next l) h' w' → VR P (σ.put h.next l) v v' → next (a.put o.dst v') w') : o.wp P a w next Q := by
 have hm := okOp_mem hop
 have made : ∀ (x : Option (Value × Heap)) (s : Sem Value), (∀ v h', x = some (v, h') → MadeX P B w0 σ h.next v h' (s.run P w)) → valR x = some (r, h') → (execOp a.eval o).run P w = (s.run P w).andThen (fun v w' => .ok (.value v) w') → o.wp P a w next Q := by
  intro x s hmade hx hrun
  unfold valR at hx
  split at hx
  ·cases hx
  ·rename_i v hh
   simp only [Option.some.injEq, Prod.mk.injEq] at hx
   obtain ⟨rfl, rfl⟩ := hx
   obtain ⟨_, l, w', v', hr, H', hv⟩ := hmade v hh rfl
   rw [hr, Result.andThen_ok] at hrun
   exact wp_of_run hrun (hret l v v' w' rfl H' hv)
 cases hq : o.op <;> rw [hq] at e hm hal <;> simp only [Op.operands, Call.operands] at hm <;> try (simp [allocs] at hal; done)
 case alloc t =>
  simp only [effA] at e
  exact made _ (Instr.alloc t true (.tuple #[])) (fun v h' hx => alloc_soundX EO.ty H hfr hx) e (by simp only [execOp, hq, Sem.run_bind]; rfl)
 case box t x =>
  simp only [effA] at e
  refine made _ (Instr.box t (a.eval x)) (fun v h' hx => ?_) e (by simp only [execOp, hq, Sem.run_bind]; rfl)
  simp only [Option.some.injEq] at hx
  have := box_soundX (t := t) H hfr (hρ x (hm x (by simp)))
  rw [hx] at this
  exact this
 case buildSlice t n parts =>
  simp only [effA] at e
  have hparts : ∀ p ∈ parts.toList, okOpnd G p.2 = true := fun p hp => hm p.2 (by simp; exact ⟨p.1, by simpa using hp⟩)
  refine made _ (Instr.buildSlice t n (parts.map fun (i, x) => (i, a.eval x))) (fun v h' hx => ?_) e (by simp only [execOp, hq, Sem.run_bind]; rfl)
  refine buildSlice_soundX EO.ty H hfr (parts := ⟨evp ρ parts.toList⟩) (by simp [evp, List.map_map]) ?_ hx
  simp only [evp, List.map_map, Array.toList_map]
  generalize hpl : parts.toList = l at hparts
  clear hpl
  induction l with
  | nil => exact .nil
  | cons p l ih => exact .cons _ _ _ _ (hρ _ (hparts p (by simp))) (ih fun q hq => hparts q (by simp [hq]))
 case makeSlice t n c =>
  simp only [effA] at e
  exact made _ (Instr.makeSlice t (a.eval n) (a.eval c)) (fun v h' hx => makeSlice_soundX EO.ty H hfr (hρ n (hm n (by simp))) (hρ c (hm c (by simp))) hx) e (by simp only [execOp, hq, Sem.run_bind]; rfl)
end
end Go.Proofs.YteekjekckgpbfaaDoor.Abs
end
section
namespace Go.Proofs.YteekjekckgpbfaaDoor.Abs
open Go.RowKit (Below)
inductive XR (P : Program) (σ : Sg) : AX → Exit → Prop
 | normal : XR P σ .normal .normal
 | ret : XR P σ .ret .ret
 | exit (id : Nat) : XR P σ (.exit id) (.exit id)
 | panic (v v' : Value) : VR P σ v v' → XR P σ (.panic v) (.panic [{ v := v', recovered := false }])
section
variable {P : Program} {B : Nat} {w0 : World} {G : Nat} {okDraw : List Oper → Bool}
def KOk (P : Program) (B : Nat) (w0 : World) (nt : Nat) (D : List Deferred) (σ : Sg) (K : Kont) (r : Res × Heap) (Q : Exit → Act → World → Prop) : Prop :=
 ∀ x T h σ' a w ex, XR P σ' x ex → σ.le σ' → TR P σ' nt D T a → HR P B w0 σ' h w → K x T h = some r → Q ex a w
theorem KOk.mono {nt : Nat} {D : List Deferred} {σ σ' : Sg} {K : Kont} {r : Res × Heap} {Q : Exit → Act → World → Prop} (hs : σ.le σ') (h : KOk P B w0 nt D σ K r Q) : KOk P B w0 nt D σ' K r Q :=
 fun x T hp σ'' a w ex hx hle ht H e => h x T hp σ'' a w ex hx (hs.trans hle) ht H e
theorem ops_sound {E : Env} (EO : EnvOk P B w0 G okDraw E) (hG : G ≤ P.globals.size) {cf : CallF} (CF : CFOk P B w0 cf) {nt : Nat} {D : List Deferred} (ops : Array Oper) (hall : ops.toList.all (fun o => okOp G o.op) = true)
  {K : Kont} {r : Res × Heap} {Q : Exit → Act → World → Prop} : ∀ (rest : List Oper) (k : Nat) (σ : Sg) (T : Tmps) (h : Heap) (a : Act) (w : World), ops.toList.drop k = rest → opsK E cf nt ops.toList rest T h K = some r →
  TR P σ nt D T a → HR P B w0 σ h w → KOk P B w0 nt D σ K r Q → wpOps P ops Q (List.range' k rest.length) a w := by
 intro rest
 induction rest with
 | nil =>
  intro k σ T h a w hd e ht H hK
  exact hK .normal T h σ a w .normal .normal (Sg.le.refl σ) ht H e
 | cons o rest ih =>
  intro k σ T h a w hd e ht H hK
  have hk : ops.toList[k]? = some o := by
   have := congrArg (fun l => l[0]?) hd
   simpa using this
  have hk' : ops[k]? = some o := by simpa using hk
  have hd' : ops.toList.drop (k + 1) = rest := by
   rw [← List.drop_drop, hd]
   rfl
  have hok : okOp G o.op = true := List.all_eq_true.1 hall o (List.mem_of_getElem? hk)
  have hρ : ∀ x, okOpnd G x = true → VR P σ (ev T x) (a.eval x) := fun x hx => ht.ev H hG x hx
  simp only [List.length_cons, List.range'_succ, wpOps, hk']
  rw [want_eq ht]
  simp only [opsK] at e
  cases hw : wantA ops.toList T o with
  | false =>
   simp only [hw, gO, gR, cond_false] at e
   simp only [Bool.false_eq_true, if_false]
   have e' : opsK E cf nt ops.toList rest (putT nt T o.dst undef) h K = some r := by
    cases hp : isPure o.op with
    | true => simpa [hp, bindO] using e
    | false => simpa [hp, bindR] using e
   exact ih (k + 1) σ _ h _ w hd' e' (ht.put undef_VR o.dst) H hK
  | true =>
   simp only [hw, gO, gR, cond_true] at e
   simp only [if_true]
   refine .inl ?_
   cases hp : isPure o.op with
   | true =>
    simp only [hp, cond_true, bindO] at e
    split at e
    ·cases e
    ·rename_i v hv
     obtain ⟨v', hr, hvv⟩ := pur_sound EO.ty H hρ o hok hv
     exact wp_of_run hr (ih (k + 1) σ _ h _ w hd' e (ht.put hvv o.dst) H hK)
   | false =>
    simp only [hp, cond_false, bindR] at e
    split at e
    ·cases e
    ·rename_i v h' hv
     refine eff_sound EO CF H hρ o hok hv ?_ ?_
     ·intro σ' v1 v' w' hr hle H' hvv
      injection hr with hr
      subst hr
      exact ih (k + 1) σ' _ h' _ w' hd' e ((ht.mono hle).put hvv o.dst) H' (hK.mono hle)
     ·intro σ' v1 v' w' hr; cases hr
    ·rename_i v h' hv
     refine eff_sound EO CF H hρ o hok hv ?_ ?_
     ·intro σ' v1 v' w' hr; cases hr
     ·intro σ' v1 v' w' hr hle H' hvv
      injection hr with hr
      subst hr
      exact hK _ T h' σ' a w' _ (.panic _ _ hvv) hle (ht.mono hle) H' e
def DrawOk (P : Program) (B : Nat) (w0 : World) (E : Env) (cf : CallF) (okDraw : List Oper → Bool) (G : Nat) : Prop :=
 ∀ (nt : Nat) (D : List Deferred) (id : Nat) (ops : Array Oper) (K : Kont) (r : Res × Heap) (Q : Exit → Act → World → Prop) (σ : Sg) (T : Tmps) (h : Heap) (a : Act) (w : World),
  okDraw ops.toList = true → ops.toList.all (fun o => okOp G o.op) = true → drawR E cf nt ops.toList T h K = some r → TR P σ nt D T a → HR P B w0 σ h w → KOk P B w0 nt D σ K r Q → (Code.region id ops true).wp P Q a w
theorem seqK_ok {nt : Nat} {D : List Deferred} {σ : Sg} {next : Tmps → Heap → Ans} {K : Kont} {r : Res × Heap} {N : Act → World → Prop} {Q : Exit → Act → World → Prop} (hK : KOk P B w0 nt D σ K r Q)
  (hn : ∀ T h σ' a w, σ.le σ' → TR P σ' nt D T a → HR P B w0 σ' h w → next T h = some r → N a w) : KOk P B w0 nt D σ (seqK next K) r (Exit.then N Q) := by
 intro x T h σ' a w ex hx hle ht H e
 cases hx with
 | normal => exact hn T h σ' a w hle ht H e
 | ret => exact hK .ret T h σ' a w .ret .ret hle ht H e
 | exit id => exact hK (.exit id) T h σ' a w _ (.exit id) hle ht H e
 | panic v v' hv => exact hK (.panic v) T h σ' a w _ (.panic v v' hv) hle ht H e
theorem blockK_ok {nt : Nat} {D : List Deferred} {σ : Sg} {id : Nat} {K : Kont} {r : Res × Heap} {Q : Exit → Act → World → Prop} (hK : KOk P B w0 nt D σ K r Q) : KOk P B w0 nt D σ (blockK id K) r (Exit.inBlock id Q) := by
 intro x T h σ' a w ex hx hle ht H e
 cases hx with
 | normal => exact hK .normal T h σ' a w .normal .normal hle ht H e
 | ret => exact hK .ret T h σ' a w .ret .ret hle ht H e
 | exit id' =>
  simp only [blockK] at e
  by_cases hid : id' = id
  ·simp only [hid, beq_self_eq_true, cond_true] at e
   simp only [Exit.inBlock, hid, if_true]
   exact hK .normal T h σ' a w .normal .normal hle ht H e
  ·have : (id' == id) = false := by simpa using hid
   simp only [this, cond_false] at e
   simp only [Exit.inBlock, hid, if_false]
   exact hK (.exit id') T h σ' a w _ (.exit id') hle ht H e
 | panic v v' hv => exact hK (.panic v) T h σ' a w _ (.panic v v' hv) hle ht H e
theorem code_sound {E : Env} (EO : EnvOk P B w0 G okDraw E) (hG : G ≤ P.globals.size) {cf : CallF} (CF : CFOk P B w0 cf) (DO : DrawOk P B w0 E cf okDraw G) {lf nt : Nat} {D : List Deferred} {r : Res × Heap} : ∀ (c : Code) (K : Kont) (Q : Exit → Act → World → Prop) (σ : Sg) (T : Tmps) (h : Heap) (a : Act) (w : World),
  codeOk G okDraw c = true → execK E cf lf nt c T h K = some r → TR P σ nt D T a → HR P B w0 σ h w → KOk P B w0 nt D σ K r Q → c.wp P Q a w := by
 intro c
 induction c with
 | skip => intro K Q σ T h a w hc e ht H hK; exact wp_skip (hK .normal T h σ a w .normal .normal (Sg.le.refl σ) ht H e)
 | label l => intro K Q σ T h a w hc e ht H hK; exact wp_label (hK .normal T h σ a w .normal .normal (Sg.le.refl σ) ht H e)
 | exit id => intro K Q σ T h a w hc e ht H hK; exact wp_exit (hK (.exit id) T h σ a w _ (.exit id) (Sg.le.refl σ) ht H e)
 | ret => intro K Q σ T h a w hc e ht H hK; exact wp_ret (hK .ret T h σ a w .ret .ret (Sg.le.refl σ) ht H e)
 | region id ops draw =>
  intro K Q σ T h a w hc e ht H hK
  simp only [codeOk, Bool.and_eq_true] at hc
  cases draw with
  | true =>
   have hd : okDraw ops.toList = true := by simpa using hc.2
   exact DO nt D id ops K r Q σ T h a w hd hc.1 e ht H hK
  | false =>
   refine wp_region ?_
   have := ops_sound EO hG CF ops hc.1 ops.toList 0 σ T h a w rfl e ht H hK
   rw [List.range_eq_range']
   simpa using this
 | seq x y ihx ihy =>
  intro K Q σ T h a w hc e ht H hK
  simp only [codeOk, Bool.and_eq_true] at hc
  refine wp_seq (ihx _ _ σ T h a w hc.1 e ht H (seqK_ok hK ?_))
  intro T' h' σ' a' w' hle ht' H' e'
  exact ihy K Q σ' T' h' a' w' hc.2 e' ht' H' (hK.mono hle)
 | cond c x y ihx ihy =>
  intro K Q σ T h a w hc e ht H hK
  simp only [codeOk, Bool.and_eq_true] at hc
  have hv := ht.ev H hG c hc.1.1
  simp only [execK, condV] at e
  split at e
  ·rename_i t htv
   rw [htv] at hv
   cases hev : a.eval c <;> rw [hev] at hv <;> cases hv
   refine wp_cond hev ?_
   cases t with
   | true => exact ihx K Q σ T h a w hc.1.2 e ht H hK
   | false => exact ihy K Q σ T h a w hc.2 e ht H hK
  ·cases e
 | block id c ih =>
  intro K Q σ T h a w hc e ht H hK
  exact wp_block (ih _ _ σ T h a w hc e ht H (blockK_ok hK))
 | loop c ih =>
  intro K Q σ T h a w hc e ht H hK
  have key : ∀ (n : Nat) (σ' : Sg) (T : Tmps) (h : Heap) (a : Act) (w : World), σ.le σ' → iterK (fun T h K => execK E cf lf nt c T h K) K n T h = some r → TR P σ' nt D T a → HR P B w0 σ' h w → Code.rounds P c Q n a w := by
   intro n
   induction n with
   | zero => intro σ' T h a w _ e; cases e
   | succ n ihn =>
    intro σ' T h a w hle e ht H
    rw [iterK_succ] at e
    rw [rounds_succ]
    refine ih _ _ σ' T h a w hc e ht H (seqK_ok (hK.mono hle) ?_)
    intro T' h' σ'' a' w' hle' ht' H' e'
    exact ihn σ'' T' h' a' w' (hle.trans hle') e' ht' H'
  exact wp_loop_rounds lf (key lf σ T h a w (Sg.le.refl σ) e ht H)
 | rangeFunc f ps x y _ _ => intro K Q σ T h a w hc e; simp [execK] at e
 | scope c _ => intro K Q σ T h a w hc e; simp [execK] at e
 | goto l => intro K Q σ T h a w hc e; simp [execK] at e
 | refuse s => intro K Q σ T h a w hc e; simp [execK] at e
end
end Go.Proofs.YteekjekckgpbfaaDoor.Abs
end
section
namespace Go.Proofs.YteekjekckgpbfaaDoor.Abs
open Go.RowKit (Below)
section
variable {P : Program} {B : Nat} {w0 : World} {G : Nat} {okDraw : List Oper → Bool}
theorem run_callFunc_body {f : FuncId} {fn : Func} {c : Code} (hf : P.funcs[f]? = some fn) (hn : (fn.name == "runtime.NumGoroutine") = false) (hb : fn.body = some c) (args : Array Value) (w : World) :
  (callFunc f args).run P w = .ok (.enter f args) w := by
 have h1 : fn.name ≠ "runtime.NumGoroutine" := by simpa using hn
 simp [callFunc, hf, h1, hb]
def resF (tmps : Array Value) : ResultVar → Sem Value
 | .tmp t => pure (tmps.getD t undef)
 | .cell a t => do loadVar t (← asAddr (tmps.getD a undef))
theorem results_eq (fn : Func) (tmps : Array Value) : results fn tmps = (do
  let vs ← fn.results.mapM (resF tmps)
  pure (if h : vs.size = 1 then vs[0] else .tuple vs)) := rfl
theorem oneOf_VR {σ : Sg} {l : List Value} {vs : Array Value} (h : VRL P σ l vs.toList) : VR P σ (oneOf l) (if h : vs.size = 1 then vs[0] else .tuple vs) := by
 obtain ⟨vs⟩ := vs
 simp only at h
 cases h with
 | nil => exact .tuple _ _ .nil
 | cons v v' l l' hv hl =>
  cases hl with
  | nil => exact hv
  | cons u u' m m' hu hm =>
   simp [oneOf]
   exact .tuple _ _ (.cons _ _ _ _ hv (.cons _ _ _ _ hu hm))
theorem resL_sound {E : Env} (EO : EnvOk P B w0 G okDraw E) {nt : Nat} {D : List Deferred} {σ : Sg} {T : Tmps} {h : Heap} {a : Act} {w : World} (ht : TR P σ nt D T a) (H : HR P B w0 σ h w) {F : Value → Ans} {r : Res × Heap} :
  ∀ (rs : List ResultVar) (acc : List Value), resK E T h rs acc F = some r → ∃ vs vs', (rs.mapM (resF a.tmps)).run P w = .ok vs' w ∧ VRL P σ vs vs' ∧ F (oneOf (acc.reverse ++ vs)) = some r := by
 intro rs
 induction rs with
 | nil =>
  intro acc e
  exact ⟨[], [], rfl, .nil, by simpa [resK] using e⟩
 | cons x rs ih =>
  intro acc e
  cases x with
  | tmp t =>
   simp only [resK] at e
   obtain ⟨vs, vs', hr, hv, hF⟩ := ih _ e
   refine ⟨T t :: vs, a.tmps.getD t undef :: vs', ?_, .cons _ _ _ _ (ht.val t) hv, by simpa using hF⟩
   rw [List.mapM_cons]
   simp only [resF, Sem.run_bind, Sem.run_pure, Result.andThen_ok, hr]
  | cell p t =>
   simp only [resK, bindO] at e
   split at e
   ·cases e
   ·rename_i v hv
    obtain ⟨vs, vs', hr, hvv, hF⟩ := ih _ e
    obtain ⟨v', hl, hv'⟩ := load_sound EO.ty H (ht.val p) hv
    refine ⟨v :: vs, v' :: vs', ?_, .cons _ _ _ _ hv' hvv, by simpa using hF⟩
    have hload : (resF a.tmps (.cell p t)).run P w = .ok v' w := by
     have hp := ht.val p
     unfold loadA at hv
     split at hv
     ·rename_i b off hT
      rw [hT] at hp
      cases hev : a.tmps.getD p undef <;> rw [hev] at hp hl <;> cases hp
      simpa [resF, hev, Instr.loadAt, Instr.sureAddr, asAddr] using hl
     ·cases hv
    rw [List.mapM_cons]
    simp only [Sem.run_bind, hload, Sem.run_pure, Result.andThen_ok, hr]
theorem res_sound {E : Env} (EO : EnvOk P B w0 G okDraw E) {nt : Nat} {D : List Deferred} {σ : Sg} {T : Tmps} {h : Heap} {a : Act} {w : World} (ht : TR P σ nt D T a) (H : HR P B w0 σ h w) {F : Value → Ans} {r : Res × Heap} {fn : Func}
  (e : resK E T h fn.results.toList [] F = some r) : ∃ v v', (results fn a.tmps).run P w = .ok v' w ∧ VR P σ v v' ∧ F v = some r := by
 obtain ⟨vs, vs', hr, hv, hF⟩ := resL_sound EO ht H _ _ e
 refine ⟨_, _, ?_, oneOf_VR (vs := ⟨vs'⟩) hv, by simpa using hF⟩
 rw [results_eq, Array.mapM_eq_mapM_toList]
 simp only [Sem.run_bind, Sem.run_map, hr, Sem.run_pure, Result.andThen_ok]
theorem fin_ok {E : Env} (EO : EnvOk P B w0 G okDraw E) {nt : Nat} {σ0 σ : Sg} (hle0 : σ0.le σ) {fn : Func} {r : Res × Heap} : KOk P B w0 nt [] σ (finK E fn.results.toList) r (bodyPostD P fn (Post P B w0 σ0 r.2 r.1)) := by
 have fin : ∀ T h σ' a w, σ.le σ' → TR P σ' nt [] T a → HR P B w0 σ' h w → resK E T h fn.results.toList [] (fun v => some (.ret v, h)) = some r → Leaves P fn a.tmps (Post P B w0 σ0 r.2 r.1) a.defers .returning w := by
  intro T h σ' a w hle ht H e
  obtain ⟨v, v', hr, hv, hF⟩ := res_sound EO ht H e
  injection hF with hF
  subst hF
  rw [ht.defers]
  exact ⟨v', hr, v, σ', rfl, hle0.trans hle, H, hv⟩
 intro x T h σ' a w ex hx hle ht H e
 cases hx with
 | normal => exact fin T h σ' a w hle ht H e
 | ret => exact fin T h σ' a w hle ht H e
 | exit id => cases e
 | panic v v' hv =>
  injection e with e
  subst e
  show Leaves P fn a.tmps _ a.defers _ w
  rw [ht.defers]
  exact ⟨v, v', σ', rfl, hle0.trans hle, H, hv, rfl⟩
theorem T0_ok {σ : Sg} {args args' : List Value} (h : VRL P σ args args') {nt : Nat} (hn : args.length ≤ nt) : TR P σ nt [] (T0 args) { tmps := (⟨args'⟩ : Array Value) ++ Array.replicate (nt - (⟨args'⟩ : Array Value).size) undef, defers := [] } := by
 have hlen := h.length
 refine ⟨by simp; omega, rfl, fun t => ?_⟩
 simp only [T0, Array.getD_eq_getD_getElem?, Array.getElem?_append, List.size_toArray, List.getElem?_toArray, Array.getElem?_replicate]
 by_cases ht : t < args'.length
 ·simp only [ht, if_true]
  cases hg : args[t]? with
  | none => rw [List.getElem?_eq_none_iff] at hg; omega
  | some v =>
   obtain ⟨v', h1, h2⟩ := h.get hg
   rw [h1]
   exact h2
 ·simp only [ht, if_false]
  have : args[t]? = none := List.getElem?_eq_none_iff.2 (by omega)
  rw [this]
  split <;> exact undef_VR
/-! ### A deferred call -/
theorem wpOpsS_of_wpOps {ops : Array Oper} {Q : Exit → Act → List Frame → World → Prop} {cs : List Frame} (hQ : ∀ a w, ¬ Q .outgrown a cs w) : ∀ (l : List Nat) (a : Act) (w : World),
  wpOps P ops (fun e a w => Q e a cs w) l a w → wpOpsS P ops Q l a cs w := by
 intro l
 induction l with
 | nil => intro a w h; exact h
 | cons i l ih =>
  intro a w h
  simp only [wpOps] at h
  simp only [wpOpsS]
  cases ho : ops[i]? with
  | none => simp only [ho] at h ⊢; exact ih a w h
  | some o =>
   simp only [ho] at h ⊢
   by_cases hw : Region.wanted o (yielded ops a.tmps) = true
   ·simp only [hw, if_true] at h ⊢
    rcases h with h | ⟨_, a1, w1, h⟩
    ·unfold Oper.wp at h
     generalize (execOp a.eval o).run P w = res at h
     cases res with
     | ok n w' =>
      cases n <;> simp only [Oper.upon] at h ⊢ <;>
       first
        | exact ih _ _ h
        | exact h.elim
        | exact Calls.mono h (fun e w'' he => by cases e <;> first | exact ih _ _ he | exact he)
        | exact Rows.mono h (fun _ _ he => ih _ _ he)
     | halt x w' => cases x <;> simp only [Oper.upon] at h ⊢ <;> exact h
    ·exact (hQ _ _ h).elim
   ·simp only [hw, if_false, Bool.false_eq_true] at h ⊢
    exact ih _ _ h
theorem isRecover_run {o : Oper} (h : isRecover o = true) (a : Act) (w : World) : o.guard = none ∧ (execOp a.eval o).run P w = .ok .recover w := by
 obtain ⟨dst, op, type, pos, after, guard⟩ := o
 unfold isRecover at h
 simp only at h
 split at h
 ·rename_i args ats
  obtain ⟨args⟩ := args
  obtain ⟨ats⟩ := ats
  refine ⟨by simpa using h, ?_⟩
  refine run_builtin (P := P) .recover args ats type a.eval _ fun cs => ?_
  simp [builtin]
 ·cases h
def modeAsk (P : Program) (σ : Sg) : FrameMode → Value → Prop
 | .returning, v => v = .nilIface
 | .panicking chain, v => ∃ v', VR P σ v v' ∧ chain = [{ v := v', recovered := false }]
 | .run, _ => False
theorem deferred_ok {E : Env} (EO : EnvOk P B w0 G okDraw E) (hG : G ≤ P.globals.size) {cf : CallF} (CF : CFOk P B w0 cf) (DO : DrawOk P B w0 E cf okDraw G) {lf : Nat} {g : FuncId} {gf : Func} (hg : E.fn g = some gf) {σ : Sg} {args args' : List Value}
  (ha : VRL P σ args args') {h : Heap} {w : World} (H : HR P B w0 σ h w) {u : FrameMode} {asked : Value} (hu : modeAsk P σ u asked) {K : Heap → Ans} {r : Res × Heap} (e : deferredK E cf lf gf args asked h K = some r) :
  CallsD P g ⟨args'⟩ u w fun en u' w' => ∃ v, en = .returned v ∧ settle u' = .returning ∧ ∃ σ' h', σ.le σ' ∧ HR P B w0 σ' h' w' ∧ K h' = some r := by
 obtain ⟨hf, hn, c, hb, hc⟩ := EO.fn g gf hg
 unfold deferredK at e
 rw [hb] at e
 split at e
 ·rename_i id ops rest hbody
  injection hbody with hbody
  subst hbody
  split at e
  ·rename_i o os hops
   cases hcond : (isRecover o && decide (args.length ≤ gf.ntmps) && gf.results.isEmpty) with
   | false => rw [hcond] at e; cases e
   | true =>
    rw [hcond] at e
    simp only [cond_true] at e
    simp only [Bool.and_eq_true, decide_eq_true_eq] at hcond
    obtain ⟨⟨hrec, hlen⟩, hres⟩ := hcond
    have hres' : gf.results = #[] := by simpa using hres
    simp only [codeOk, Bool.and_eq_true] at hc
    refine callsD_of_wpS hf hb ?_
    intro c0 cs hmode
    refine wpS_seq (wpS_region ?_)
    have hsz : ops.size = os.length + 1 := by
     have := congrArg List.length hops
     simpa using this
    rw [List.range_eq_range', hsz, List.range'_succ]
    have h0 : ops[0]? = some o := by
     have : ops.toList[0]? = some o := by rw [hops]; rfl
     simpa using this
    obtain ⟨hguard, hrun⟩ := isRecover_run (P := P) hrec { tmps := (⟨args'⟩ : Array Value) ++ Array.replicate (gf.ntmps - (⟨args'⟩ : Array Value).size) undef, defers := [] } w
    simp only [wpOpsS, h0, Region.wanted, hguard, if_true, hrun]
    have key : ∀ (u1 : FrameMode) (v' : Value), VR P σ asked v' → settle u1 = .returning →
      wpOpsS P ops (Exit.thenS (rest.wpS P (bodyPostS P gf c0 cs fun en u' w' => ∃ v, en = .returned v ∧ settle u' = .returning ∧ ∃ σ' h', σ.le σ' ∧ HR P B w0 σ' h' w' ∧ K h' = some r))
       (bodyPostS P gf c0 cs fun en u' w' => ∃ v, en = .returned v ∧ settle u' = .returning ∧ ∃ σ' h', σ.le σ' ∧ HR P B w0 σ' h' w' ∧ K h' = some r)) (List.range' 1 os.length)
       (Act.put { tmps := (⟨args'⟩ : Array Value) ++ Array.replicate (gf.ntmps - (⟨args'⟩ : Array Value).size) undef, defers := [] } o.dst v') ({ c0 with mode := u1 } :: cs) w := by
     intro u1 v' hv' hset
     have KE : ∀ σ1, σ.le σ1 → KOk P B w0 gf.ntmps [] σ1 (endK K) r (fun ex a w => bodyPostS P gf c0 cs (fun en u' w' => ∃ v, en = .returned v ∧ settle u' = .returning ∧ ∃ σ' h', σ.le σ' ∧ HR P B w0 σ' h' w' ∧ K h' = some r) ex a ({ c0 with mode := u1 } :: cs) w) := by
      intro σ1 hle1 x T h2 σ2 a2 w2 ex hx hle2 ht2 H2 e2
      cases hx with
      | normal => exact ⟨ht2.defers, u1, rfl, _, results_none hres' _ _ _, _, rfl, hset, σ2, h2, hle1.trans hle2, H2, e2⟩
      | ret => exact ⟨ht2.defers, u1, rfl, _, results_none hres' _ _ _, _, rfl, hset, σ2, h2, hle1.trans hle2, H2, e2⟩
      | exit id => cases e2
      | panic v v' hv => cases e2
     refine wpOpsS_of_wpOps ?_ _ _ _ ?_
     ·rintro a1 w1 ⟨u', v, hv, _⟩
      cases hv
     ·refine ops_sound EO hG CF (D := []) ops hc.1.1 os 1 σ _ h _ w (by rw [hops]; rfl) e ((T0_ok ha hlen).put hv' o.dst) H ?_
      have := seqK_ok (nt := gf.ntmps) (D := []) (σ := σ) (next := fun T h => execK E cf lf gf.ntmps rest T h (endK K)) (N := fun a w => rest.wpS P (bodyPostS P gf c0 cs fun en u' w' => ∃ v, en = .returned v ∧ settle u' = .returning ∧ ∃ σ' h', σ.le σ' ∧ HR P B w0 σ' h' w' ∧ K h' = some r) a ({ c0 with mode := u1 } :: cs) w) (KE σ (Sg.le.refl σ)) (by
       intro T2 h2 σ2 a2 w2 hle2 ht2 H2 e2
       exact wpS_of_wp (code_sound EO hG CF DO rest (endK K) _ σ2 T2 h2 a2 w2 hc.2 e2 ht2 H2 (KE σ2 hle2)))
      intro x T2 h2 σ2 a2 w2 ex hx hle2 ht2 H2 e2
      have hq := this x T2 h2 σ2 a2 w2 ex hx hle2 ht2 H2 e2
      cases ex <;> exact hq
    cases u with
    | run => exact hu.elim
    | returning =>
     have hr0 : recoverD (c0 :: cs) = none := by simp [recoverD, hmode]
     simp only [hr0]
     have hc0 : ({ c0 with mode := .returning } : Frame) = c0 := by rw [← hmode]
     have := key .returning .nilIface (by rw [show asked = .nilIface from hu]; exact .nilIface) rfl
     rw [hc0] at this
     exact this
    | panicking chain =>
     obtain ⟨v', hv', rfl⟩ := hu
     have hr0 : recoverD (c0 :: cs) = some (v', { c0 with mode := .panicking [{ v := v', recovered := true }] } :: cs) := by simp [recoverD, hmode]
     simp only [hr0]
     exact key _ v' hv' rfl
  ·cases e
 ·cases e
theorem finD_ok {E : Env} (EO : EnvOk P B w0 G okDraw E) (hG : G ≤ P.globals.size) {cf : CallF} (CF : CFOk P B w0 cf) (DO : DrawOk P B w0 E cf okDraw G) {lf : Nat} {g : FuncId} {gf : Func} (hg : E.fn g = some gf) {σ0 σ : Sg} {args args' : List Value}
  (ha : VRL P σ args args') {nt : Nat} (hle0 : σ0.le σ) {fn : Func} {r : Res × Heap} :
  KOk P B w0 nt [{ target := .fn (.func g) ⟨args'⟩, args := #[] }] σ (finD E cf lf fn.results.toList gf args) r (bodyPostD P fn (Post P B w0 σ0 r.2 r.1)) := by
 obtain ⟨hf, hn, c, hb, hc⟩ := EO.fn g gf hg
 have fin : ∀ T h σ' a w u asked, u ≠ .run → σ.le σ' → TR P σ' nt [{ target := .fn (.func g) ⟨args'⟩, args := #[] }] T a → HR P B w0 σ' h w → modeAsk P σ' u asked →
   deferredK E cf lf gf args asked h (fun h => resK E T h fn.results.toList [] (fun v => some (.ret v, h))) = some r → Leaves P fn a.tmps (Post P B w0 σ0 r.2 r.1) a.defers u w := by
  intro T h σ' a w u asked hu hle ht H hm e
  rw [ht.defers]
  refine leaves_cons hu (f := g) (args := ⟨args'⟩) ?_ ?_
  ·simp only [Go.invoke]
   have : (#[] : Array Value) ++ (⟨args'⟩ : Array Value) = ⟨args'⟩ := by simp
   rw [this]
   exact run_callFunc_body hf hn hb _ _
  ·refine (deferred_ok EO hG CF DO hg (ha.mono hle) H hm e).mono ?_
   rintro en u' w' ⟨v, rfl, hset, σ2, h2, hle2, H2, e2⟩
   obtain ⟨v1, v1', hr, hv, hF⟩ := res_sound EO (ht.mono hle2) H2 e2
   injection hF with hF
   subst hF
   show Leaves P fn a.tmps _ [] (settle u') w'
   rw [hset]
   exact ⟨v1', hr, v1, σ2, rfl, (hle0.trans hle).trans hle2, H2, hv⟩
 intro x T h σ' a w ex hx hle ht H e
 cases hx with
 | normal => exact fin T h σ' a w .returning .nilIface (by simp) hle ht H rfl e
 | ret => exact fin T h σ' a w .returning .nilIface (by simp) hle ht H rfl e
 | exit id => cases e
 | panic v v' hv => exact fin T h σ' a w (.panicking [{ v := v', recovered := false }]) v (by simp) hle ht H ⟨v', hv, rfl⟩ e
def deferOk (nt : Nat) : Code → Bool
 | .seq a b => (match deferRegion a with
  | some _ => (match yieldD (opsOf a) 0 with | some d => decide (d < nt) | none => false)
  | none => true) && deferOk nt b
 | _ => true
theorem spine_ok {E : Env} (EO : EnvOk P B w0 G okDraw E) (hG : G ≤ P.globals.size) {cf : CallF} (CF : CFOk P B w0 cf) (DO : DrawOk P B w0 E cf okDraw G) {lf nt : Nat} {fn : Func} {σ0 : Sg} {r : Res × Heap} : ∀ (c : Code) (σ : Sg) (T : Tmps) (h : Heap) (a : Act) (w : World),
  codeOk G okDraw c = true → deferOk nt c = true → σ0.le σ → spineK E cf lf nt fn.results.toList c T h = some r → TR P σ nt [] T a → HR P B w0 σ h w → c.wp P (bodyPostD P fn (Post P B w0 σ0 r.2 r.1)) a w := by
 intro c
 have plain : ∀ (c : Code) (σ : Sg) (T : Tmps) (h : Heap) (a : Act) (w : World), codeOk G okDraw c = true → σ0.le σ → execK E cf lf nt c T h (finK E fn.results.toList) = some r → TR P σ nt [] T a → HR P B w0 σ h w → c.wp P (bodyPostD P fn (Post P B w0 σ0 r.2 r.1)) a w :=
  fun c σ T h a w hc hle e ht H => code_sound EO hG CF DO c _ _ σ T h a w hc e ht H (fin_ok EO hle)
 induction c with
 | seq x y _ ihy =>
  intro σ T h a w hc hd hle e ht H
  simp only [codeOk, Bool.and_eq_true] at hc
  simp only [deferOk, Bool.and_eq_true] at hd
  simp only [spineK] at e
  split at e
  ·rename_i g cap hreg
   simp only [hreg] at hd
   split at e
   ·cases e
   ·rename_i gf hgf
    unfold deferRegion at hreg
    split at hreg
    ·rename_i id ops _
     split at hreg
     ·rename_i d g' first captured ty1 pos1 after1 d' as ats ty2 pos2 after2 hops
      cases hcond : (d == d' && as.isEmpty && first.isEmpty) with
      | false => rw [hcond] at hreg; cases hreg
      | true =>
       rw [hcond] at hreg
       simp only [cond_true, Option.some.injEq, Prod.mk.injEq] at hreg
       obtain ⟨rfl, rfl⟩ := hreg
       simp only [Bool.and_eq_true, beq_iff_eq] at hcond
       obtain ⟨⟨rfl, has⟩, hfirst⟩ := hcond
       have has' : as = #[] := by simpa using has
       have hfirst' : first = #[] := by simpa using hfirst
       subst has' hfirst'
       simp only [opsOf, hops, yieldD, List.getElem?_cons_zero, decide_eq_true_eq] at hd
       simp only [hops, yieldD, List.getElem?_cons_zero] at e
       have hok := hc.1
       simp only [codeOk, hops, List.all_cons, Bool.and_eq_true] at hok
       have hcap : ∀ x ∈ captured.toList, okOpnd G x = true := by
        intro x hx
        exact okOp_mem hok.1.1 x (by simp [Op.operands]; simpa using hx)
       have hρ : ∀ x, okOpnd G x = true → VR P σ (ev T x) (a.eval x) := fun x hx => ht.ev H hG x hx
       have hcv : VRL P σ (evs (ev T) captured.toList) (captured.toList.map a.eval) := evs_map hρ hcap
       have ecap : captured.map a.eval = ⟨captured.toList.map a.eval⟩ := by apply Array.ext'; simp
       refine wp_seq (wp_region ?_)
       have hsz : ops.size = 2 := by
        have := congrArg List.length hops
        simpa using this
       have hops' : ops = ⟨[_, _]⟩ := Array.ext' hops
       rw [hops']
       refine .inl ?_
       refine wp_of_run (r := .ok (.value (.func (.func g') #[] ⟨captured.toList.map a.eval⟩)) w) ?_ ?_
       ·simp [execOp, ecap, Instr.makeFunc]
       refine .inl ?_
       have heval : (a.put (some d) (.func (.func g') #[] ⟨captured.toList.map a.eval⟩)).eval (.tmp d) = .func (.func g') #[] ⟨captured.toList.map a.eval⟩ := by
        simp [Act.eval, Act.put, Array.getD_eq_getD_getElem?, Array.getElem?_setIfInBounds, ht.size, hd.1]
       refine wp_of_run (r := .ok (.defer { target := .fn (.func g') ⟨captured.toList.map a.eval⟩, args := #[] }) w) ?_ ?_
       ·simp [execOp, resolve, heval, Deferred.ofValue]
       ·have hT := ht.put (d := some d) (v := .func (.func g') ⟨[]⟩ ⟨evs (ev T) captured.toList⟩) (v' := .func (.func g') #[] ⟨captured.toList.map a.eval⟩) (.func _ _ _ _ _ .nil hcv)
        have ht2 : TR P σ nt [{ target := .fn (.func g') ⟨captured.toList.map a.eval⟩, args := #[] }] (putT nt T (some d) (.func (.func g') ⟨[]⟩ ⟨evs (ev T) captured.toList⟩))
          ({ (a.put (some d) (.func (.func g') #[] ⟨captured.toList.map a.eval⟩)) with defers := { target := .fn (.func g') ⟨captured.toList.map a.eval⟩, args := #[] } :: (a.put (some d) (.func (.func g') #[] ⟨captured.toList.map a.eval⟩)).defers }) :=
         ⟨hT.size, by rw [show (a.put (some d) (.func (.func g') #[] ⟨captured.toList.map a.eval⟩)).defers = [] from ht.defers], hT.val⟩
        exact code_sound EO hG CF DO y _ _ σ _ h _ w hc.2 e ht2 H (finD_ok EO hG CF DO hgf hcv hle)
     ·cases hreg
    ·cases hreg
  ·rename_i hreg
   simp only [hreg] at hd
   refine wp_seq (code_sound EO hG CF DO x _ _ σ T h a w hc.1 e ht H (seqK_ok (fin_ok EO hle) ?_))
   intro T2 h2 σ2 a2 w2 hle2 ht2 H2 e2
   exact ihy σ2 T2 h2 a2 w2 hc.2 hd.2 (hle.trans hle2) e2 ht2 H2
 | _ => intro σ T h a w hc hd hle e ht H; exact plain _ σ T h a w hc hle e ht H
theorem step_ok {E : Env} (EO : EnvOk P B w0 G okDraw E) (hG : G ≤ P.globals.size) (hdef : ∀ f fn c, E.fn f = some fn → fn.body = some c → deferOk fn.ntmps c = true) {cf : CallF} (CF : CFOk P B w0 cf) (DO : DrawOk P B w0 E cf okDraw G) (lf : Nat) : CFOk P B w0 (stepN E cf lf) := by
 intro f args h r h' e σ w args' ha H
 unfold stepN at e
 split at e
 ·rename_i hf
  exact EO.ext f args h r h' hf e σ w args' ha H
 ·rename_i fn hfn
  obtain ⟨hf, hn, c, hb, hc⟩ := EO.fn f fn hfn
  rw [hb] at e
  simp only at e
  by_cases hlen : args.length ≤ fn.ntmps
  ·simp only [hlen, decide_true, cond_true] at e
   exact ⟨run_callFunc_body hf hn hb _ _, calls_of_wp_defers hf hb (spine_ok EO hG CF DO c σ _ h _ w hc (hdef f fn c hfn hb) (Sg.le.refl σ) e (T0_ok ha hlen) H)⟩
  ·simp [hlen] at e
theorem callN_ok {E : Env} (EO : EnvOk P B w0 G okDraw E) (hG : G ≤ P.globals.size) (hdef : ∀ f fn c, E.fn f = some fn → fn.body = some c → deferOk fn.ntmps c = true) (DO : ∀ cf, CFOk P B w0 cf → DrawOk P B w0 E cf okDraw G) : ∀ n, CFOk P B w0 (callN E n) := by
 intro n
 induction n with
 | zero => intro f args h r h' e; cases e
 | succ n ih => exact step_ok EO hG hdef ih (DO _ ih) n
end
end Go.Proofs.YteekjekckgpbfaaDoor.Abs
end
section
namespace Go.Proofs.YteekjekckgpbfaaDoor.Abs
open Go.RowKit (Below)
/-! ### Operations that may change places -/
def heapFree : Op → Bool
 | .load .. | .slice .. => false
 | op => isPure op
def commB (ops : Array Oper) (ms : List Nat) (rs : Bool) (i j : Nat) (x y : Oper) : Bool :=
 x.apart ops y && ((rs && allocs x.op && allocs y.op) || heapFree x.op || heapFree y.op || (isPure x.op && isPure y.op) || (isPure x.op && allocs y.op) || (reads x.op && (chkIx ops.toList ms j y.op).contains i && (match x.dst with | some d => !(x.looksAt ops).contains d | none => false)))
def stableB (ops : Array Oper) (ms : List Nat) (k : Nat) (q : Oper) : Bool :=
 (List.range ops.size).all fun i => (i == k) || (match ops.toList[i]? with
  | none => true
  | some o => ((ms[k]?).getD 0).testBit i || (match o.dst with | none => true | some d => !(q.looksAt ops).contains d && q.dst != some d))
def resOk (ops : Array Oper) (ms : List Nat) : Bool :=
 (List.range ops.size).all fun i => match ops.toList[i]? with
  | none => true
  | some o => isPure o.op || allocs o.op || (List.range ops.size).all fun j => match ops.toList[j]? with
   | none => true
   | some q => !allocs q.op || ((ms[i]?).getD 0).testBit j
def checkI (ops : Array Oper) (ms : List Nat) (rs : Bool) : List Nat → Nat → Bool
 | [], _ => true
 | i :: l, L => (match ops.toList[i]? with
  | none => false
  | some o => !L.testBit i && o.after.toList.all (fun e => !Region.binds .any e || L.testBit e.on) && (chkIx ops.toList ms i o.op).all (fun k => match ops.toList[k]? with | some q => stableB ops ms k q | none => false) &&
   l.all fun j => (j == i) || ((ms[j]?).getD 0).testBit i || (match ops.toList[j]? with | some oj => commB ops ms rs i j o oj | none => false)) && checkI ops ms rs l (L ||| 2 ^ i)
def okDraw (l : List Oper) : Bool :=
 (List.range l.length).all (fun i => (canonIx l).contains i) && decide ((canonIx l).length = l.length) && checkI ⟨l⟩ (masksL l []) (needRes l) (canonIx l) 0 && (!needRes l || resOk ⟨l⟩ (masksL l []))
/-! ### What an operation looks at -/
section
variable {E : Env} {cf : CallF}
theorem evs_congr {ρ ρ' : Operand → Value} {l : List Operand} (h : ∀ x ∈ l, ρ x = ρ' x) : evs ρ l = evs ρ' l := List.map_congr_left h
theorem evp_congr {ρ ρ' : Operand → Value} {l : List (Nat × Operand)} (h : ∀ p ∈ l, ρ p.2 = ρ' p.2) : evp ρ l = evp ρ' l := List.map_congr_left fun p hp => by rw [h p hp]
theorem pur_congr {ρ ρ' : Operand → Value} {h : Heap} (op : Op) (hx : ∀ x ∈ op.operands, ρ x = ρ' x) : purA E ρ h op = purA E ρ' h op := by
 cases op
 case call c =>
  obtain ⟨callee, ⟨args⟩, ⟨ats⟩⟩ := c
  simp only [Op.operands, Call.operands] at hx
  have hargs : ∀ x ∈ args, ρ x = ρ' x := fun x hm => hx x (by simp; exact .inr hm)
  cases callee with
  | value f => rfl
  | invoke r m => rfl
  | builtin b =>
   cases b <;> try rfl
   case len =>
    match args, ats with
    | [x], [t] => simp only [purA]; rw [hargs x (by simp)]
    | [], _ => rfl
    | _ :: _ :: _, _ => rfl
    | [_], [] => rfl
    | [_], _ :: _ :: _ => rfl
   case min => simp only [purA]; rw [evs_congr hargs]
   case max => simp only [purA]; rw [evs_congr hargs]
 case build t parts =>
  simp only [purA]
  rw [evp_congr (fun p hp => hx p.2 (by simp [Op.operands]; exact ⟨p.1, by simpa using hp⟩))]
 case makeFunc fn first captured =>
  simp only [purA]
  rw [evs_congr (l := first.toList) (fun x hm => hx x (by simp [Op.operands]; exact .inl (by simpa using hm))), evs_congr (l := captured.toList) (fun x hm => hx x (by simp [Op.operands]; exact .inr (by simpa using hm)))]
 case slice t x lo hi mx =>
  cases mx with
  | some m => rfl
  | none =>
   simp only [purA]
   have e1 : lo.map ρ = lo.map ρ' := by cases lo with | none => rfl | some y => simp; exact hx y (by simp [Op.operands])
   have e2 : hi.map ρ = hi.map ρ' := by cases hi with | none => rfl | some y => simp; exact hx y (by simp [Op.operands])
   rw [e1, e2, hx x (by simp [Op.operands])]
 case binOp b t x y yt => simp only [purA]; rw [hx x (by simp [Op.operands]), hx y (by simp [Op.operands])]
 case pick c x y => simp only [purA]; rw [hx c (by simp [Op.operands]), hx x (by simp [Op.operands]), hx y (by simp [Op.operands])]
 case indexAddr t x i => simp only [purA]; rw [hx x (by simp [Op.operands]), hx i (by simp [Op.operands])]
 case index t x i => simp only [purA]; rw [hx x (by simp [Op.operands]), hx i (by simp [Op.operands])]
 case move x => simp only [purA]; rw [hx x (by simp [Op.operands])]
 case assign x => simp only [purA]; rw [hx x (by simp [Op.operands])]
 case load t x => simp only [purA]; rw [hx x (by simp [Op.operands])]
 case nilCheck x => simp only [purA]; rw [hx x (by simp [Op.operands])]
 case unOp o t x => simp only [purA]; rw [hx x (by simp [Op.operands])]
 case makeInterface t x => simp only [purA]; rw [hx x (by simp [Op.operands])]
 case fieldAddr s x f => simp only [purA]; rw [hx x (by simp [Op.operands])]
 case field s x f => simp only [purA]; rw [hx x (by simp [Op.operands])]
 case typeAssert x a t ok => simp only [purA]; rw [hx x (by simp [Op.operands])]
 case extract x i => simp only [purA]; rw [hx x (by simp [Op.operands])]
 all_goals rfl
theorem eff_congr {ρ ρ' : Operand → Value} {h : Heap} (op : Op) (hx : ∀ x ∈ op.operands, ρ x = ρ' x) : effA E cf ρ h op = effA E cf ρ' h op := by
 cases op
 case call c =>
  obtain ⟨callee, ⟨args⟩, ⟨ats⟩⟩ := c
  simp only [Op.operands, Call.operands] at hx
  have hargs : ∀ x ∈ args, ρ x = ρ' x := fun x hm => hx x (by simp; exact .inr hm)
  cases callee with
  | value f => simp only [effA]; rw [evs_congr hargs, hx f (by simp)]
  | invoke r m => rfl
  | builtin b =>
   cases b <;> try rfl
   case append =>
    match args, ats with
    | [x, y], [t, u] => simp only [effA]; rw [hargs x (by simp), hargs y (by simp)]
    | [], _ => rfl
    | [_], _ => rfl
    | _ :: _ :: _ :: _, _ => rfl
    | [_, _], [] => rfl
    | [_, _], [_] => rfl
    | [_, _], _ :: _ :: _ :: _ => rfl
 case buildSlice t n parts =>
  simp only [effA]
  rw [evp_congr (fun p hp => hx p.2 (by simp [Op.operands]; exact ⟨p.1, by simpa using hp⟩))]
 case box t x => simp only [effA]; rw [hx x (by simp [Op.operands])]
 case store t x y => simp only [effA]; rw [hx x (by simp [Op.operands]), hx y (by simp [Op.operands])]
 case convert s d x => simp only [effA]; rw [hx x (by simp [Op.operands])]
 case makeSlice t n c => simp only [effA]; rw [hx n (by simp [Op.operands]), hx c (by simp [Op.operands])]
 case panic x => simp only [effA]; rw [hx x (by simp [Op.operands])]
 all_goals rfl
theorem pur_call {ρ : Operand → Value} {h h' : Heap} (c : Call) : purA E ρ h (.call c) = purA E ρ h' (.call c) := by
 obtain ⟨callee, ⟨args⟩, ⟨ats⟩⟩ := c
 cases callee with
 | value f => rfl
 | invoke r m => rfl
 | builtin b =>
  cases b <;> try rfl
  match args, ats with
  | [x], [t] => rfl
  | [], _ => rfl
  | _ :: _ :: _, _ => rfl
  | [_], [] => rfl
  | [_], _ :: _ :: _ => rfl
theorem pur_free {ρ : Operand → Value} {h h' : Heap} {op : Op} (hf : heapFree op = true) : purA E ρ h op = purA E ρ h' op := by
 cases op <;> first | exact pur_call _ | rfl | (simp [heapFree] at hf; done)
theorem pur_alloc {ρ : Operand → Value} {h : Heap} {o : AObj} {op : Op} {v : Value} (e : purA E ρ h op = some v) : purA E ρ (h.alloc o) op = some v := by
 cases op
 case load t x =>
  simp only [purA, loadA] at e ⊢
  split at e
  ·split at e
   ·cases e
   ·rename_i k hk
    rw [Heap.blk_alloc hk]
    exact e
  ·cases e
 case slice t x lo hi mx =>
  cases mx with
  | some m => cases e
  | none =>
   simp only [purA] at e ⊢
   unfold sliceA at e ⊢
   split at e
   ·exact e
   ·rename_i a n c _
    split at e
    ·split at e
     ·cases e
     ·split at e
      ·cases e
      ·rename_i hb hh hbb
       try rw [hbb]
       try simp only
       split at e
       ·cases e
       ·rename_i l hl
        try rw [hl]
        try simp only
        cases a with
        | none => exact e
        | some a =>
         simp only at e ⊢
         by_cases h1 : decide (c < hh) = true
         ·simp [h1] at e
         ·have h1' : decide (c < hh) = false := by simpa using h1
          rw [h1'] at e ⊢
          simp only [cond_false] at e ⊢
          by_cases h2 : (hh == l) = true
          ·rw [h2] at e ⊢; exact e
          ·have h2' : (hh == l) = false := by simpa using h2
           rw [h2'] at e ⊢
           simp only [cond_false] at e ⊢
           split at e
           ·cases e
           ·rename_i k hk
            rw [Heap.blk_alloc hk]
            exact e
    ·cases e
   ·cases e
 case call c => rw [pur_call (h' := h)]; exact e
 all_goals exact e
theorem allocs_alloc {ρ : Operand → Value} {h h' : Heap} {op : Op} {r : Res} (hp : allocs op = true) (e : effA E cf ρ h op = some (r, h')) : ∃ v o, r = .ret v ∧ h' = h.alloc o := by
 cases op <;> try (simp [allocs] at hp; done)
 case alloc t =>
  simp only [effA, valR, allocA] at e
  cases hi : E.ty t with
  | none => simp [hi] at e
  | some i => simp only [hi, Option.some.injEq, Prod.mk.injEq] at e; exact ⟨_, _, e.1.symm, e.2.symm⟩
 case box t x =>
  simp only [effA, valR, boxA, Option.some.injEq, Prod.mk.injEq] at e
  exact ⟨_, _, e.1.symm, e.2.symm⟩
 case buildSlice t n parts =>
  simp only [effA, valR, buildSliceA] at e
  cases hi : sliceOf E t with
  | none => simp [hi] at e
  | some p =>
   obtain ⟨el, ie⟩ := p
   simp only [hi] at e
   cases hc : (decide (n * ie.size > 1000) || decide (n > 1000)) with
   | true => simp [hc] at e
   | false =>
    simp only [hc, cond_false] at e
    split at e
    ·cases e
    ·rename_i v hh heq
     split at heq
     ·cases heq
     ·simp only [Option.some.injEq, Prod.mk.injEq] at heq e
      obtain ⟨rfl, rfl⟩ := heq
      exact ⟨_, _, e.1.symm, e.2.symm⟩
 case makeSlice t n c =>
  simp only [effA, valR, makeSliceA] at e
  cases hi : sliceOf E t with
  | none => simp [hi] at e
  | some p =>
   obtain ⟨el, ie⟩ := p
   simp only [hi] at e
   split at e
   ·cases e
   ·rename_i v hh heq
    split at heq
    ·rename_i n1 c1 _ _
     cases hc : (decide (n1 ≤ c1) && decide (c1 * ie.bytes ≤ most) && decide (c1 ≤ most)) with
     | false => simp [hc] at heq
     | true =>
      simp only [hc, cond_true, Option.some.injEq, Prod.mk.injEq] at heq e
      obtain ⟨rfl, rfl⟩ := heq
      exact ⟨_, _, e.1.symm, e.2.symm⟩
    ·cases heq
theorem eqV1_eq {a b : Value} (h : eqV1 a b = true) : a = b := by
 unfold eqV1 at h
 split at h
 case h_3 x y =>
  have : sl x = sl y := by simpa using h
  obtain ⟨⟨x⟩⟩ := x
  obtain ⟨⟨y⟩⟩ := y
  simp only [sl] at this
  rw [this]
 all_goals first | rfl | (cases h; done) | (simp at h; simp [h])
theorem eqVL_eq : ∀ {a b : List Value}, eqVL a b = true → a = b := by
 intro a
 induction a with
 | nil => intro b h; cases b with | nil => rfl | cons _ _ => cases h
 | cons x l ih =>
  intro b h
  cases b with
  | nil => cases h
  | cons y m =>
   simp only [eqVL, Bool.and_eq_true] at h
   rw [eqV1_eq h.1, ih h.2]
theorem eqV_eq {a b : Value} (h : eqV a b = true) : a = b := by
 unfold eqV at h
 split at h
 ·rename_i x y
  rw [Array.ext' (eqVL_eq h)]
 ·simp only [Bool.and_eq_true, beq_iff_eq] at h
  rw [h.1, eqV1_eq h.2]
 ·exact eqV1_eq h
theorem eqOV_eq {x : Option Value} {v : Value} (h : eqOV x v = true) : x = some v := by
 unfold eqOV at h
 split at h
 ·rw [eqV_eq h]
 ·cases h
theorem nonstrict_ret {ρ : Operand → Value} {h h' : Heap} {op : Op} {r : Res} (hs : strict op = false) (e : effA E cf ρ h op = some (r, h')) : ∃ v, r = .ret v := by
 have vr : ∀ {x : Option (Value × Heap)}, valR x = some (r, h') → ∃ v, r = .ret v := by
  intro x e
  unfold valR at e
  split at e
  ·cases e
  ·simp only [Option.some.injEq, Prod.mk.injEq] at e; exact ⟨_, e.1.symm⟩
 cases op <;> try (simp [effA] at e; done)
 case alloc => exact vr e
 case box => simp only [effA] at e; exact vr e
 case buildSlice => exact vr e
 case convert => exact vr e
 case makeSlice => exact vr e
 case panic => simp [strict] at hs
 case store =>
  simp only [effA, skipR] at e
  split at e
  ·cases e
  ·simp only [Option.some.injEq, Prod.mk.injEq] at e; exact ⟨_, e.1.symm⟩
 case call c =>
  obtain ⟨callee, ⟨args⟩, ⟨ats⟩⟩ := c
  cases callee with
  | value f => simp [strict] at hs
  | invoke rc m => simp [effA] at e
  | builtin b =>
   cases b <;> try (simp [effA] at e; done)
   match args, ats, e with
   | [x, y], [t, u], e =>
    simp only [effA] at e
    cases htu : (t == u) with
    | true => rw [htu] at e; exact vr e
    | false => rw [htu] at e; cases e
theorem pur_put {ρ : Operand → Value} {h : Heap} {b : Nat} {ob : AObj} {op : Op} {v : Value} (hb : h.get b = none) (e : purA E ρ h op = some v) : purA E ρ ⟨h.m.put b (some ob), h.next⟩ op = some v := by
 have blk : ∀ {x : Nat} {k : Blk}, h.blk x = some k → (⟨h.m.put b (some ob), h.next⟩ : Heap).blk x = some k := by
  intro x k hk
  have hx : x ≠ b := by
   intro hx
   subst hx
   unfold Heap.blk at hk
   rw [hb] at hk
   cases hk
  have hg : (⟨h.m.put b (some ob), h.next⟩ : Heap).get x = h.get x := by
   show (h.m.put b (some ob)).get x = h.m.get x
   rw [Tr.get_put, if_neg hx]
  unfold Heap.blk at hk ⊢
  rw [hg]
  exact hk
 cases op
 case load t x =>
  simp only [purA, loadA] at e ⊢
  split at e
  ·split at e
   ·cases e
   ·rename_i k hk
    rw [blk hk]
    exact e
  ·cases e
 case slice t x lo hi mx =>
  cases mx with
  | some m => cases e
  | none =>
   simp only [purA] at e ⊢
   unfold sliceA at e ⊢
   split at e
   ·exact e
   ·rename_i a n c _
    split at e
    ·split at e
     ·cases e
     ·split at e
      ·cases e
      ·rename_i hb hh hbb
       try rw [hbb]
       try simp only
       split at e
       ·cases e
       ·rename_i l hl
        try rw [hl]
        try simp only
        cases a with
        | none => exact e
        | some a =>
         simp only at e ⊢
         by_cases h1 : decide (c < hh) = true
         ·simp [h1] at e
         ·have h1' : decide (c < hh) = false := by simpa using h1
          rw [h1'] at e ⊢
          simp only [cond_false] at e ⊢
          by_cases h2 : (hh == l) = true
          ·rw [h2] at e ⊢; exact e
          ·have h2' : (hh == l) = false := by simpa using h2
           rw [h2'] at e ⊢
           simp only [cond_false] at e ⊢
           split at e
           ·cases e
           ·rename_i k hk
            rw [blk hk]
            exact e
    ·cases e
   ·cases e
 case call c => rw [pur_call (h' := h)]; exact e
 all_goals exact e
theorem allocs_any {ρ : Operand → Value} {h : Heap} {op : Op} {r : Res} {h' : Heap} (hp : allocs op = true) (e : effA E cf ρ h op = some (r, h')) : ∃ ob, h' = h.alloc ob ∧ ∀ m, effA E cf ρ ⟨m, h.next⟩ op = some (r, ⟨m.put h.next (some ob), h.next + 1⟩) := by
 cases op <;> try (simp [allocs] at hp; done)
 case alloc t =>
  simp only [effA, valR, allocA] at e ⊢
  cases hi : E.ty t with
  | none => simp [hi] at e
  | some i =>
   simp only [hi, Option.some.injEq, Prod.mk.injEq] at e ⊢
   exact ⟨_, e.2.symm, fun m => ⟨e.1, rfl⟩⟩
 case box t x =>
  simp only [effA, valR, boxA, Option.some.injEq, Prod.mk.injEq] at e ⊢
  exact ⟨_, e.2.symm, fun m => ⟨e.1, rfl⟩⟩
 case buildSlice t n parts =>
  simp only [effA, valR, buildSliceA] at e ⊢
  cases hi : sliceOf E t with
  | none => simp [hi] at e
  | some p =>
   obtain ⟨el, ie⟩ := p
   simp only [hi] at e ⊢
   cases hc : (decide (n * ie.size > 1000) || decide (n > 1000)) with
   | true => simp [hc] at e
   | false =>
    simp only [hc, cond_false] at e ⊢
    cases hf : fillL (fun i => some (i * ie.size, ie.size)) (repL ie.zero n) (evp ρ parts.toList) with
    | none => simp [hf] at e
    | some cs =>
     simp only [hf, Option.some.injEq, Prod.mk.injEq] at e ⊢
     exact ⟨_, e.2.symm, fun m => ⟨e.1, rfl⟩⟩
 case makeSlice t n c =>
  simp only [effA, valR, makeSliceA] at e ⊢
  cases hi : sliceOf E t with
  | none => simp [hi] at e
  | some p =>
   obtain ⟨el, ie⟩ := p
   simp only [hi] at e ⊢
   cases hn : natOf (ρ n) with
   | none => simp [hn] at e
   | some n1 =>
    cases hcc : natOf (ρ c) with
    | none => simp [hn, hcc] at e
    | some c1 =>
     simp only [hn, hcc] at e ⊢
     cases hc : (decide (n1 ≤ c1) && decide (c1 * ie.bytes ≤ most) && decide (c1 ≤ most)) with
     | false => simp [hc] at e
     | true =>
      simp only [hc, cond_true, Option.some.injEq, Prod.mk.injEq] at e ⊢
      exact ⟨_, e.2.symm, fun m => ⟨e.1, rfl⟩⟩
theorem putAux_nil {α : Type} (f k : Nat) (x : Option α) : Tr.putAux (f + 1) .nil k x = Tr.putAux (f + 1) (.node .nil none .nil) k x := by
 simp only [Tr.putAux]
theorem putAux_comm {α : Type} : ∀ (f g : Nat) (t : Tr α) (k j : Nat) (x y : Option α), k ≠ j → k < f → j < g → Tr.putAux f (Tr.putAux g t j y) k x = Tr.putAux g (Tr.putAux f t k x) j y := by
 intro f
 induction f with
 | zero => intro g t k j x y _ h; omega
 | succ f ih =>
  intro g t k j x y hne hk hj
  obtain ⟨g, rfl⟩ : ∃ g', g = g' + 1 := ⟨g - 1, by omega⟩
  have key : ∀ (l r : Tr α) (v : Option α), Tr.putAux (f + 1) (Tr.putAux (g + 1) (.node l v r) j y) k x = Tr.putAux (g + 1) (Tr.putAux (f + 1) (.node l v r) k x) j y := by
   intro l r v
   have ek : (k == 0) = true ∨ (k == 0) = false := by cases (k == 0) <;> simp
   have ej : (j == 0) = true ∨ (j == 0) = false := by cases (j == 0) <;> simp
   have ok : (k % 2 == 1) = true ∨ (k % 2 == 1) = false := by cases (k % 2 == 1) <;> simp
   have oj : (j % 2 == 1) = true ∨ (j % 2 == 1) = false := by cases (j % 2 == 1) <;> simp
   rcases ek with ek | ek <;> rcases ej with ej | ej
   ·have h1 : k = 0 := by simpa using ek
    have h2 : j = 0 := by simpa using ej
    omega
   ·rcases oj with oj | oj <;> simp only [Tr.putAux, ek, ej, oj, cond_true, cond_false]
   ·rcases ok with ok | ok <;> simp only [Tr.putAux, ek, ej, ok, cond_true, cond_false]
   ·have h1 : k ≠ 0 := by simpa using ek
    have h2 : j ≠ 0 := by simpa using ej
    rcases ok with ok | ok <;> rcases oj with oj | oj <;> simp only [Tr.putAux, ek, ej, ok, oj, cond_true, cond_false]
    ·have h3 : k % 2 = 1 := by simpa using ok
     have h4 : j % 2 = 1 := by simpa using oj
     rw [ih g l (k / 2) (j / 2) x y (by omega) (by omega) (by omega)]
    ·have h3 : k % 2 ≠ 1 := by simpa using ok
     have h4 : j % 2 ≠ 1 := by simpa using oj
     rw [ih g r (k / 2 - 1) (j / 2 - 1) x y (by omega) (by omega) (by omega)]
  cases t with
  | node l v r => exact key l r v
  | nil => rw [putAux_nil g j y, putAux_nil f k x]; exact key _ _ _
theorem Tr.put_comm {α : Type} (t : Tr α) {k j : Nat} (x y : Option α) (h : k ≠ j) : (t.put j y).put k x = (t.put k x).put j y := putAux_comm _ _ _ _ _ _ _ h (by omega) (by omega)
end
end Go.Proofs.YteekjekckgpbfaaDoor.Abs
end
section
namespace Go.Proofs.YteekjekckgpbfaaDoor.Abs
open Go.RowKit (Below)
section
variable {P : Program} {B : Nat} {w0 : World} {G : Nat} {okDr : List Oper → Bool} {E : Env} {cf : CallF} {nt : Nat} {ops : Array Oper} {ms : List Nat} {K : Kont} {r : Res × Heap} {rs : Option Nat}
/-! ### One operation -/
def actA (E : Env) (cf : CallF) (rs : Option Nat) (ops : List Oper) (i : Nat) (o : Oper) (T : Tmps) (h : Heap) : Option (Res × Heap) :=
 bif wantA ops T o then (bif isPure o.op then (match purA E (ev T) h o.op with | none => none | some v => some (.ret v, h)) else effI E cf rs i (ev T) h o.op) else some (.ret undef, h)
def ChkP (E : Env) (nt : Nat) (ops : Array Oper) (T : Tmps) (h : Heap) (q : Oper) : Prop :=
 wantA ops.toList T q = false ∨ ∃ d, q.dst = some d ∧ d < nt ∧ purA E (ev T) h q.op = some (T d)
def stpA (E : Env) (cf : CallF) (nt : Nat) (rs : Option Nat) (ops : Array Oper) (ms : List Nat) (K : Kont) (r : Res × Heap) (S : Nat → Prop) (j : Nat) (o : Oper) (N : Tmps → Heap → Prop) (T : Tmps) (h : Heap) : Prop :=
 ∃ res h', actA E cf rs ops.toList j o T h = some (res, h') ∧ (∀ v, res = .ret v → N (putT nt T o.dst v) h') ∧ (∀ v, res = .panic v → mustR ms ops.size j o.op = false ∧ K (.panic v) T h' = some r) ∧
  ∀ v, res = .ret v → ∀ k q, S k → ops[k]? = some q → k ∈ chkIx ops.toList ms j o.op → ChkP E nt ops T h' q
theorem stpA_mono {S : Nat → Prop} {j : Nat} {o : Oper} {N N' : Tmps → Heap → Prop} {T : Tmps} {h : Heap} (hN : ∀ T h, N T h → N' T h) (hs : stpA E cf nt rs ops ms K r S j o N T h) : stpA E cf nt rs ops ms K r S j o N' T h :=
 let ⟨res, h', e, h1, h2⟩ := hs; ⟨res, h', e, fun v hv => hN _ _ (h1 v hv), h2⟩
def drawL (ops : List Oper) (ms : List Nat) (l : List Nat) : List (Oper × Bool × List Oper × Nat) :=
 l.filterMap fun i => match ops[i]? with
  | none => none
  | some o => some (o, mustR ms ops.length i o.op, (chkIx ops ms i o.op).filterMap fun k => ops[k]?, i)
theorem chkL_all {T : Tmps} {h : Heap} : ∀ {cs : List Oper}, chkL E nt ops.toList T h cs = true → ∀ q ∈ cs, ChkP E nt ops T h q := by
 intro cs
 induction cs with
 | nil => intro _ q hq; cases hq
 | cons c cs ih =>
  intro hc q hq
  simp only [chkL, Bool.and_eq_true] at hc
  simp only [List.mem_cons] at hq
  rcases hq with rfl | hq
  ·have h1 := hc.1
   simp only [chkOne, Bool.or_eq_true, Bool.not_eq_true'] at h1
   rcases h1 with h1 | h1
   ·exact .inl h1
   ·split at h1
    ·cases h1
    ·rename_i d hd
     simp only [Bool.and_eq_true, decide_eq_true_eq] at h1
     exact .inr ⟨d, hd, h1.1, eqOV_eq h1.2⟩
  ·exact ih hc.2 q hq
theorem chk_pure {j : Nat} {op : Op} (hp : isPure op = true) : chkIx ops.toList ms j op = [] := by simp [chkIx, hp]
theorem must_pure {n j : Nat} {op : Op} (hp : isPure op = true) : mustR ms n j op = false := by
 have : strict op = false := by
  cases op <;> first | rfl | (simp [isPure] at hp; done) | skip
  rename_i c
  obtain ⟨callee, args, ats⟩ := c
  cases callee <;> first | rfl | (simp [isPure] at hp; done)
 simp [mustR, this]
theorem drawK_step {i : Nat} {l : List Nat} {S : Nat → Prop} {o : Oper} (ho : ops.toList[i]? = some o) {T : Tmps} {h : Heap} (e : drawK E cf nt rs ops.toList (drawL ops.toList ms (i :: l)) T h K = some r) :
  stpA E cf nt rs ops ms K r S i o (fun T h => drawK E cf nt rs ops.toList (drawL ops.toList ms l) T h K = some r) T h := by
 have e0 : drawL ops.toList ms (i :: l) = (o, mustR ms ops.toList.length i o.op, (chkIx ops.toList ms i o.op).filterMap fun k => ops.toList[k]?, i) :: drawL ops.toList ms l := by
  simp only [drawL, List.filterMap_cons, ho]
 rw [e0] at e
 simp only [drawK] at e
 unfold stpA actA
 cases hp : isPure o.op with
 | true =>
  have hchk : ∀ (res : Res) (h' : Heap) (v : Value), res = .ret v → ∀ k q, S k → ops[k]? = some q → k ∈ chkIx ops.toList ms i o.op → ChkP E nt ops T h' q := by
   intro res h' v _ k q _ _ hk
   rw [chk_pure hp] at hk
   cases hk
  simp only [hp, cond_true] at e ⊢
  cases hw : wantA ops.toList T o with
  | false =>
   simp only [hw, gO, cond_false, bindO] at e ⊢
   refine ⟨_, _, rfl, fun v hv => ?_, fun v hv => (by cases hv), hchk _ h⟩
   injection hv with hv
   subst hv
   exact e
  | true =>
   simp only [hw, gO, cond_true, bindO] at e ⊢
   split at e
   ·cases e
   ·rename_i v hv
    try rw [hv]
    refine ⟨_, _, rfl, fun u hu => ?_, fun u hu => (by cases hu), hchk _ h⟩
    injection hu with hu
    subst hu
    exact e
 | false =>
  simp only [hp, cond_false] at e ⊢
  have main : ∀ (x : Option (Res × Heap)), bindR x (fun v h' => bif mustR ms ops.toList.length i o.op then none else K (.panic v) T h') (fun v h' => bif chkL E nt ops.toList T h' ((chkIx ops.toList ms i o.op).filterMap fun k => ops.toList[k]?) then drawK E cf nt rs ops.toList (drawL ops.toList ms l) (putT nt T o.dst v) h' K else none) = some r →
    ∃ res h', x = some (res, h') ∧ (∀ v, res = .ret v → drawK E cf nt rs ops.toList (drawL ops.toList ms l) (putT nt T o.dst v) h' K = some r) ∧ (∀ v, res = .panic v → mustR ms ops.size i o.op = false ∧ K (.panic v) T h' = some r) ∧
     ∀ v, res = .ret v → ∀ k q, S k → ops[k]? = some q → k ∈ chkIx ops.toList ms i o.op → ChkP E nt ops T h' q := by
   intro x hx
   unfold bindR at hx
   split at hx
   ·cases hx
   ·rename_i v h'
    simp only at hx
    cases hc : chkL E nt ops.toList T h' ((chkIx ops.toList ms i o.op).filterMap fun k => ops.toList[k]?) with
    | false => rw [hc] at hx; cases hx
    | true =>
     rw [hc] at hx
     refine ⟨_, h', rfl, fun u hu => ?_, fun u hu => (by cases hu), fun _ _ k q _ hq hk => ?_⟩
     ·injection hu with hu
      subst hu
      exact hx
     ·exact chkL_all hc q (List.mem_filterMap.2 ⟨k, hk, by simpa using hq⟩)
   ·rename_i v h'
    simp only at hx
    cases hm : mustR ms ops.toList.length i o.op with
    | true => rw [hm] at hx; cases hx
    | false =>
     rw [hm] at hx
     refine ⟨_, h', rfl, fun u hu => (by cases hu), fun u hu => ?_, fun u hu => (by cases hu)⟩
     injection hu with hu
     subst hu
     exact ⟨by simpa using hm, hx⟩
  exact main _ e
def anyA (E : Env) (cf : CallF) (nt : Nat) (rs : Option Nat) (ops : Array Oper) (ms : List Nat) (K : Kont) (r : Res × Heap) : Nat → Array Bool → Tmps → Heap → Prop
 | 0, listed, T, h => Region.ready .any ops listed = [] ∧ K .normal T h = some r
 | n + 1, listed, T, h => (Region.ready .any ops listed = [] → K .normal T h = some r) ∧
  ∀ i ∈ Region.ready .any ops listed, ∀ o, ops[i]? = some o → stpA E cf nt rs ops ms K r (fun k => listed.getD k false = true) i o (anyA E cf nt rs ops ms K r n (listed.setIfInBounds i true)) T h
/-! ### Which operations wait -/
inductive Anc (ops : Array Oper) : Nat → Nat → Prop
 | edge (i j : Nat) (o : Oper) (e : Edge) : ops[j]? = some o → e ∈ o.after → Region.binds .any e = true → e.on = i → Anc ops i j
 | step (i j : Nat) (o : Oper) (e : Edge) : ops[j]? = some o → e ∈ o.after → Region.binds .any e = true → Anc ops i e.on → Anc ops i j
def Closed (ops : Array Oper) (listed : Array Bool) : Prop := ∀ j o, ops[j]? = some o → listed.getD j false = true → ∀ e ∈ o.after, Region.binds .any e = true → listed.getD e.on false = true
theorem Closed.anc {listed : Array Bool} (hc : Closed ops listed) {i j : Nat} (h : Anc ops i j) : listed.getD j false = true → listed.getD i false = true := by
 induction h with
 | edge j o e ho he hb hi => intro hj; rw [← hi]; exact hc j o ho hj e he hb
 | step j o e ho he hb _ ih => intro hj; exact ih (hc j o ho hj e he hb)
theorem Closed.ready {listed : Array Bool} (hc : Closed ops listed) {i j : Nat} (hj : j ∈ Region.ready .any ops listed) (h : Anc ops i j) : listed.getD i false = true := by
 obtain ⟨_, o, ho, hall⟩ := mem_ready.1 hj
 cases h with
 | edge _ o' e ho' he hb hi =>
  rw [ho] at ho'; injection ho' with ho'; subst ho'
  rw [← hi]; exact hall e he hb
 | step _ o' e ho' he hb h' =>
  rw [ho] at ho'; injection ho' with ho'; subst ho'
  exact hc.anc h' (hall e he hb)
theorem Closed.add {listed : Array Bool} (hc : Closed ops listed) {i : Nat} (hi : i ∈ Region.ready .any ops listed) : Closed ops (listed.setIfInBounds i true) := by
 obtain ⟨_, o, ho, hall⟩ := mem_ready.1 hi
 intro j oj hoj hj e he hb
 refine getD_set_true ?_
 by_cases hij : i = j
 ·subst hij
  rw [ho] at hoj; injection hoj with hoj; subst hoj
  exact hall e he hb
 ·rw [getD_set_ne false hij] at hj
  exact hc j oj hoj hj e he hb
theorem false_of_true {listed : Array Bool} {i : Nat} (h : listed.getD i true = false) : listed.getD i false = false := by
 rw [Array.getD_eq_getD_getElem?] at h ⊢
 cases hx : listed[i]? with
 | none => rfl
 | some b => rw [hx] at h; exact h
theorem stpA_weak {S S' : Nat → Prop} {j : Nat} {o : Oper} {N : Tmps → Heap → Prop} {T : Tmps} {h : Heap} (hS : ∀ k, S' k → S k) (hs : stpA E cf nt rs ops ms K r S j o N T h) : stpA E cf nt rs ops ms K r S' j o N T h :=
 let ⟨res, h', e, h1, h2, h3⟩ := hs; ⟨res, h', e, h1, h2, fun v hv k q hk => h3 v hv k q (hS k hk)⟩
/-! ### Numbers taken ahead -/
theorem chk_allocs {j : Nat} {op : Op} (hp : allocs op = true) : chkIx ops.toList ms j op = [] := by simp [chkIx, hp]
theorem allocs_eff {ρ : Operand → Value} {i : Nat} {h h' : Heap} {op : Op} {res : Res} {b : Nat} (hp : allocs op = true) (e : effI E cf (some b) i ρ h op = some (res, h')) :
  ∃ h1, effA E cf ρ ⟨h.m, b + i⟩ op = some (res, h1) ∧ h' = ⟨h1.m, h.next⟩ := by
 simp only [effI, hp, cond_true, atR] at e
 split at e
 ·cases e
 ·rename_i r1 h1 h2
  simp only [Option.some.injEq, Prod.mk.injEq] at e
  obtain ⟨rfl, rfl⟩ := e
  exact ⟨h1, h2, rfl⟩
theorem eff_other {ρ : Operand → Value} {i : Nat} {h : Heap} {op : Op} (hp : rs = none ∨ allocs op = false) : effI E cf rs i ρ h op = effA E cf ρ h op := by
 cases rs with
 | none => rfl
 | some b =>
  rcases hp with hp | hp
  ·cases hp
  ·simp [effI, hp]
theorem effI_congr {ρ ρ' : Operand → Value} {i : Nat} {h : Heap} (op : Op) (hx : ∀ x ∈ op.operands, ρ x = ρ' x) : effI E cf rs i ρ h op = effI E cf rs i ρ' h op := by
 cases rs with
 | none => exact eff_congr op hx
 | some b =>
  simp only [effI]
  rw [eff_congr (h := ⟨h.m, b + i⟩) op hx, eff_congr (h := h) op hx]
def RO (ops : Array Oper) : Prop := ∀ i o, ops[i]? = some o → isPure o.op = false → allocs o.op = false → ∀ j q, ops[j]? = some q → allocs q.op = true → Anc ops j i
def Holes (rs : Option Nat) (ops : Array Oper) (listed : Array Bool) (h : Heap) : Prop := ∀ b j q, rs = some b → ops[j]? = some q → allocs q.op = true → listed.getD j false = false → h.get (b + j) = none
def Free (rs : Option Nat) (ops : Array Oper) (listed : Array Bool) (σ : Sg) (h : Heap) : Prop := ∀ b j q, rs = some b → ops[j]? = some q → allocs q.op = true → listed.getD j false = false → σ (b + j) = none ∧ b + j < h.next
/-! ### Two operations change places -/
theorem ev_put {T : Tmps} {d : Option Nat} {v : Value} {x : Operand} (h : ∀ k, d = some k → x ≠ .tmp k) : ev (putT nt T d v) x = ev T x := by
 cases d with
 | none => rfl
 | some k =>
  cases x with
  | tmp t =>
   have : (t == k) = false := by
    have := h k rfl
    simp at this ⊢
    exact this
   simp [ev, putT, this]
  | _ => rfl
theorem putT_comm {T : Tmps} {x y : Option Nat} (v u : Value) (h : ∀ d, x = some d → y ≠ some d) : putT nt (putT nt T x v) y u = putT nt (putT nt T y u) x v := by
 cases x with
 | none => rfl
 | some d =>
  cases y with
  | none => rfl
  | some e =>
   have hne : d ≠ e := fun hh => h d rfl (by rw [hh])
   funext k
   simp only [putT]
   by_cases h1 : k = d
   ·subst h1
    have : (k == e) = false := by simpa using hne
    simp [this]
   ·have : (k == d) = false := by simpa using h1
    simp [this]
theorem look_op {o : Oper} {d : Option Nat} (h : ∀ k, d = some k → k ∉ o.looksAt ops) : ∀ x ∈ o.op.operands, ∀ k, d = some k → x ≠ .tmp k := by
 intro x hx k hk hxk
 refine h k hk ?_
 unfold Oper.looksAt
 refine List.mem_append_left _ (List.mem_filterMap.2 ⟨x, by simpa using hx, by rw [hxk]⟩)
theorem want_put {o : Oper} {T : Tmps} {d : Option Nat} {v : Value} (h : ∀ k, d = some k → k ∉ o.looksAt ops) : wantA ops.toList (putT nt T d v) o = wantA ops.toList T o := by
 unfold wantA
 cases hg : o.guard with
 | none => rfl
 | some p =>
  obtain ⟨j, want⟩ := p
  simp only [yieldD]
  cases ho : ops.toList[j]? with
  | none => rfl
  | some q =>
   simp only
   cases hd : q.dst with
   | none => rfl
   | some t =>
    simp only
    cases d with
    | none => rfl
    | some k =>
     have : t ≠ k := by
      intro htk
      refine h k rfl ?_
      unfold Oper.looksAt
      rw [hg]
      have : ops[j]? = some q := by simpa using ho
      simp [this, hd, htk]
     have : (t == k) = false := by simpa using this
     simp [putT, this]
theorem act_put {o : Oper} {i : Nat} {T : Tmps} {h : Heap} {d : Option Nat} {v : Value} (hl : ∀ k, d = some k → k ∉ o.looksAt ops) : actA E cf rs ops.toList i o (putT nt T d v) h = actA E cf rs ops.toList i o T h := by
 unfold actA
 have hx : ∀ x ∈ o.op.operands, ev (putT nt T d v) x = ev T x := fun x hx => ev_put (look_op hl x hx)
 rw [want_put hl, pur_congr o.op hx, effI_congr o.op hx]
theorem act_pure {o : Oper} {i : Nat} {T : Tmps} {h h' : Heap} {res : Res} (hc : isPure o.op = true) (e : actA E cf rs ops.toList i o T h = some (res, h')) : h' = h ∧ ∃ v, res = .ret v := by
 unfold actA at e
 cases hw : wantA ops.toList T o with
 | false => simp only [hw, cond_false, Option.some.injEq, Prod.mk.injEq] at e; exact ⟨e.2.symm, _, e.1.symm⟩
 | true =>
  simp only [hw, cond_true, hc] at e
  split at e
  ·cases e
  ·simp only [Option.some.injEq, Prod.mk.injEq] at e; exact ⟨e.2.symm, _, e.1.symm⟩
theorem act_nonstrict {o : Oper} {i : Nat} {T : Tmps} {h h' : Heap} {res : Res} (hc : strict o.op = false) (e : actA E cf rs ops.toList i o T h = some (res, h')) : ∃ v, res = .ret v := by
 cases hp : isPure o.op with
 | true => exact (act_pure hp e).2
 | false =>
  unfold actA at e
  cases hw : wantA ops.toList T o with
  | false => simp only [hw, cond_false, Option.some.injEq, Prod.mk.injEq] at e; exact ⟨_, e.1.symm⟩
  | true =>
   simp only [hw, cond_true, hp, cond_false] at e
   by_cases hq : rs = none ∨ allocs o.op = false
   ·rw [eff_other hq] at e; exact nonstrict_ret hc e
   ·cases hrs : rs with
    | none => exact (hq (.inl hrs)).elim
    | some b =>
     subst hrs
     cases ha : allocs o.op with
     | false => exact (hq (.inr ha)).elim
     | true => obtain ⟨g1, e1, _⟩ := allocs_eff ha e; exact nonstrict_ret hc e1
theorem heapFree_pure {op : Op} (h : heapFree op = true) : isPure op = true := by
 cases op <;> first | exact h | (simp [heapFree] at h; done)
theorem act_free {o : Oper} {i : Nat} {T : Tmps} {h h2 : Heap} {res : Res} {h' : Heap} (hf : heapFree o.op = true) (e : actA E cf rs ops.toList i o T h = some (res, h')) : h' = h ∧ actA E cf rs ops.toList i o T h2 = some (res, h2) := by
 unfold actA at e ⊢
 cases hw : wantA ops.toList T o with
 | false => simp only [hw, cond_false, Option.some.injEq, Prod.mk.injEq] at e ⊢; exact ⟨e.2.symm, e.1, trivial⟩
 | true =>
  simp only [hw, cond_true, heapFree_pure hf] at e ⊢
  rw [pur_free (h' := h2) hf] at e
  split at e
  ·cases e
  ·rename_i v hv
   simp only [hv, Option.some.injEq, Prod.mk.injEq] at e ⊢
   exact ⟨e.2.symm, e.1, trivial⟩
theorem act_alloc {o : Oper} {i : Nat} {T : Tmps} {h : Heap} {res : Res} {h' : Heap} {ob : AObj} (hp : isPure o.op = true) (e : actA E cf rs ops.toList i o T h = some (res, h')) : h' = h ∧ actA E cf rs ops.toList i o T (h.alloc ob) = some (res, h.alloc ob) := by
 unfold actA at e ⊢
 cases hw : wantA ops.toList T o with
 | false => simp only [hw, cond_false, Option.some.injEq, Prod.mk.injEq] at e ⊢; exact ⟨e.2.symm, e.1, trivial⟩
 | true =>
  simp only [hw, cond_true, hp] at e ⊢
  split at e
  ·cases e
  ·rename_i v hv
   rw [pur_alloc hv]
   simp only [Option.some.injEq, Prod.mk.injEq] at e ⊢
   exact ⟨e.2.symm, e.1, trivial⟩
theorem allocs_act {o : Oper} {i : Nat} {T : Tmps} {h h' : Heap} {res : Res} (ha : allocs o.op = true) (e : actA E cf none ops.toList i o T h = some (res, h')) : h' = h ∨ ∃ ob, h' = h.alloc ob := by
 unfold actA at e
 cases hw : wantA ops.toList T o with
 | false => simp only [hw, cond_false, Option.some.injEq, Prod.mk.injEq] at e; exact .inl e.2.symm
 | true =>
  simp only [hw, cond_true] at e
  cases hp : isPure o.op with
  | true => cases ho : o.op <;> rw [ho] at ha hp <;> simp [allocs, isPure] at ha hp
  | false =>
   simp only [hp, cond_false] at e
   obtain ⟨v, ob, _, hh⟩ := allocs_alloc ha (show effA E cf (ev T) h o.op = _ from e)
   exact .inr ⟨ob, hh⟩
theorem act_hole {o : Oper} {i b : Nat} {T : Tmps} {h : Heap} {res : Res} {h' : Heap} {ob : AObj} (hp : isPure o.op = true) (hb : h.get b = none) (e : actA E cf rs ops.toList i o T h = some (res, h')) : actA E cf rs ops.toList i o T ⟨h.m.put b (some ob), h.next⟩ = some (res, ⟨h.m.put b (some ob), h.next⟩) := by
 unfold actA at e ⊢
 cases hw : wantA ops.toList T o with
 | false => simp only [hw, cond_false, Option.some.injEq, Prod.mk.injEq] at e ⊢; exact ⟨e.1, trivial⟩
 | true =>
  simp only [hw, cond_true, hp] at e ⊢
  split at e
  ·cases e
  ·rename_i v hv
   rw [pur_put hb hv]
   simp only [Option.some.injEq, Prod.mk.injEq] at e ⊢
   exact ⟨e.1, trivial⟩
theorem reads_pure {op : Op} (h : reads op = true) : isPure op = true := by
 cases op <;> first | rfl | (simp [reads] at h; done)
theorem chk_put {q : Oper} {T : Tmps} {h : Heap} {d : Option Nat} {v : Value} (hl : ∀ k, d = some k → k ∉ q.looksAt ops) (hd : ∀ k, d = some k → q.dst ≠ some k) (hc : ChkP E nt ops (putT nt T d v) h q) : ChkP E nt ops T h q := by
 unfold ChkP at hc ⊢
 rw [want_put hl] at hc
 rcases hc with hc | ⟨k, hk, hlt, hc⟩
 ·exact .inl hc
 ·refine .inr ⟨k, hk, hlt, ?_⟩
  have hx : ∀ x ∈ q.op.operands, ev (putT nt T d v) x = ev T x := fun x hx => ev_put (look_op hl x hx)
  rw [pur_congr q.op hx] at hc
  rw [hc]
  cases d with
  | none => rfl
  | some e =>
   have hne : k ≠ e := fun hke => hd e rfl (by rw [hk, hke])
   have : (k == e) = false := by simpa using hne
   simp [putT, this]
theorem chk_put' {q : Oper} {T : Tmps} {h : Heap} {d : Option Nat} {v : Value} (hl : ∀ k, d = some k → k ∉ q.looksAt ops) (hd : ∀ k, d = some k → q.dst ≠ some k) (hc : ChkP E nt ops T h q) : ChkP E nt ops (putT nt T d v) h q := by
 unfold ChkP at hc ⊢
 rw [want_put hl]
 rcases hc with hc | ⟨k, hk, hlt, hc⟩
 ·exact .inl hc
 ·refine .inr ⟨k, hk, hlt, ?_⟩
  have hx : ∀ x ∈ q.op.operands, ev (putT nt T d v) x = ev T x := fun x hx => ev_put (look_op hl x hx)
  rw [pur_congr q.op hx, hc]
  cases d with
  | none => rfl
  | some e =>
   have hne : k ≠ e := fun hke => hd e rfl (by rw [hk, hke])
   have : (k == e) = false := by simpa using hne
   simp [putT, this]
theorem act_allocR {o : Oper} {i : Nat} {T : Tmps} {h h' : Heap} {res : Res} {b : Nat} (ha : allocs o.op = true) (e : actA E cf (some b) ops.toList i o T h = some (res, h')) :
  (h' = h ∧ ∀ h2, actA E cf (some b) ops.toList i o T h2 = some (res, h2)) ∨ ∃ ob, h' = ⟨h.m.put (b + i) (some ob), h.next⟩ ∧ ∀ h2, actA E cf (some b) ops.toList i o T h2 = some (res, ⟨h2.m.put (b + i) (some ob), h2.next⟩) := by
 have hp : isPure o.op = false := by cases ho : o.op <;> rw [ho] at ha <;> first | rfl | (simp [allocs] at ha; done)
 unfold actA at e ⊢
 cases hw : wantA ops.toList T o with
 | false => simp only [hw, cond_false, Option.some.injEq, Prod.mk.injEq] at e; exact .inl ⟨e.2.symm, fun h2 => by simp [e.1]⟩
 | true =>
  simp only [hw, cond_true, hp, cond_false] at e ⊢
  obtain ⟨h1, e1, rfl⟩ := allocs_eff ha e
  obtain ⟨ob, rfl, hm⟩ := allocs_any ha e1
  refine .inr ⟨ob, rfl, fun h2 => ?_⟩
  simp only [effI, ha, cond_true, hm, atR]
theorem holes_step {i : Nat} {o : Oper} {listed : Array Bool} {T : Tmps} {h h' : Heap} {res : Res} (hRO : rs.isSome = true → RO ops) (hcl : Closed ops listed) (hi : ops[i]? = some o) (hr : i ∈ Region.ready .any ops listed) (hh : Holes rs ops listed h) (e : actA E cf rs ops.toList i o T h = some (res, h')) :
  Holes rs ops (listed.setIfInBounds i true) h' := by
 intro b j q hb hj hq hl
 have hl0 : listed.getD j false = false := by
  cases hx : listed.getD j false with
  | false => rfl
  | true => rw [getD_set_true hx] at hl; cases hl
 cases hp : isPure o.op with
 | true => rw [(act_pure hp e).1]; exact hh b j q hb hj hq hl0
 | false =>
  cases ha : allocs o.op with
  | true =>
   subst hb
   rcases act_allocR ha e with ⟨rfl, _⟩ | ⟨ob, rfl, _⟩
   ·exact hh b j q rfl hj hq hl0
   ·have hij : j ≠ i := by
     intro hij
     subst hij
     have hlt : j < listed.size := by
      have hiun := (mem_ready.1 hr).1
      rcases Nat.lt_or_ge j listed.size with h' | h'
      ·exact h'
      ·simp [Array.getD_eq_getD_getElem?, Array.getElem?_eq_none h'] at hiun
     simp [hlt] at hl
    show (h.m.put (b + i) (some ob)).get (b + j) = none
    rw [Tr.get_put, if_neg (by omega)]
    exact hh b j q rfl hj hq hl0
  | false =>
   have := hcl.ready hr (hRO (by rw [hb]; rfl) i o hi hp ha j q hj hq)
   rw [hl0] at this; cases this
/-! ### Soundness -/
theorem op_sound (EO : EnvOk P B w0 G okDr E) (hG : G ≤ P.globals.size) (CF : CFOk P B w0 cf) {D : List Deferred} {Q : Exit → Act → World → Prop} {i : Nat} {o : Oper} (hi : ops[i]? = some o) (hok : okOp G o.op = true)
  {S : Nat → Prop} {N : Tmps → Heap → Prop} {next : Act → World → Prop} {σ : Sg} {T : Tmps} {h : Heap} {a : Act} {w : World} (e : stpA E cf nt rs ops ms K r S i o N T h) (ht : TR P σ nt D T a) (H : HR P B w0 σ h w) (hK : KOk P B w0 nt D σ K r Q)
  (hfree : ∀ b, rs = some b → allocs o.op = true → σ (b + i) = none ∧ b + i < h.next)
  (hn : ∀ σ' T' h' a' w', σ.le σ' → TR P σ' nt D T' a' → HR P B w0 σ' h' w' → N T' h' → ((isPure o.op = true ∨ allocs o.op = true) → ∀ b, rs = some b → h'.next = h.next ∧ ∀ x, x ≠ b + i → σ' x = σ x) → next a' w') : wpOp P ops Q i next a w := by
 have hρ : ∀ x, okOpnd G x = true → VR P σ (ev T x) (a.eval x) := fun x hx => ht.ev H hG x hx
 unfold wpOp
 simp only [hi]
 rw [want_eq ht]
 obtain ⟨res, h', e, h1, h2, _⟩ := e
 unfold actA at e
 cases hw : wantA ops.toList T o with
 | false =>
  simp only [hw, cond_false, Option.some.injEq, Prod.mk.injEq] at e
  obtain ⟨rfl, rfl⟩ := e
  simp only [Bool.false_eq_true, if_false]
  exact hn σ _ _ _ w (Sg.le.refl σ) (ht.put undef_VR o.dst) H (h1 _ rfl) fun _ b _ => ⟨rfl, fun _ _ => rfl⟩
 | true =>
  simp only [hw, cond_true] at e
  simp only [if_true]
  refine .inl ?_
  cases hp : isPure o.op with
  | true =>
   simp only [hp, cond_true] at e
   split at e
   ·cases e
   ·rename_i v hv
    simp only [Option.some.injEq, Prod.mk.injEq] at e
    obtain ⟨rfl, rfl⟩ := e
    obtain ⟨v', hr, hvv⟩ := pur_sound EO.ty H hρ o hok hv
    exact wp_of_run hr (hn σ _ _ _ w (Sg.le.refl σ) (ht.put hvv o.dst) H (h1 _ rfl) fun _ b _ => ⟨rfl, fun _ _ => rfl⟩)
  | false =>
   simp only [hp, cond_false] at e
   by_cases hq : rs = none ∨ allocs o.op = false
   ·rw [eff_other hq] at e
    refine eff_sound EO CF H hρ o hok e ?_ ?_
    ·intro σ' v v' w' hr hle H' hvv
     refine hn σ' _ _ _ w' hle ((ht.mono hle).put hvv o.dst) H' (h1 v hr) fun ho b hb => ?_
     exfalso
     rcases hq with hq | hq
     ·rw [hq] at hb; cases hb
     ·rcases ho with ho | ho
      ·rw [hp] at ho; cases ho
      ·rw [hq] at ho; cases ho
    ·intro σ' v v' w' hr hle H' hvv
     exact hK (.panic v) T h' σ' a w' _ (.panic _ _ hvv) hle (ht.mono hle) H' (h2 v hr).2
   ·have ha : allocs o.op = true := by
     cases ha : allocs o.op with
     | true => rfl
     | false => exact (hq (.inr ha)).elim
    cases hrs : rs with
    | none => exact (hq (.inl hrs)).elim
    | some b =>
     subst hrs
     obtain ⟨g1, e1, rfl⟩ := allocs_eff ha e
     obtain ⟨f1, f2⟩ := hfree b rfl ha
     refine effX_sound EO (h := ⟨h.m, b + i⟩) (H.x.at' (b + i)) f1 hρ o hok ha e1 ?_
     intro l v v' w' hr Hx hvv
     have hle := Sg.le_put f1 l
     have H' : HR P B w0 (σ.put (b + i) l) ⟨g1.m, h.next⟩ w' := (Hx.at' h.next).hr fun x hx => by
      have hx' : h.next ≤ x := hx
      have : x ≠ b + i := by omega
      simp only [Sg.put, if_neg this]
      exact H.fresh x hx'
     exact hn _ _ _ _ w' hle ((ht.mono hle).put hvv o.dst) H' (h1 v hr) fun _ b' hb' => by
      injection hb' with hb'
      subst hb'
      exact ⟨rfl, fun x hx => by simp only [Sg.put, if_neg hx]⟩
theorem any_sound (EO : EnvOk P B w0 G okDr E) (hG : G ≤ P.globals.size) (CF : CFOk P B w0 cf) (hRO : rs.isSome = true → RO ops) {D : List Deferred} {Q : Exit → Act → World → Prop} (hall : ops.toList.all (fun o => okOp G o.op) = true) : ∀ (n : Nat) (listed : Array Bool) (σ : Sg) (T : Tmps) (h : Heap) (a : Act) (w : World),
  anyA E cf nt rs ops ms K r n listed T h → TR P σ nt D T a → HR P B w0 σ h w → KOk P B w0 nt D σ K r Q → Closed ops listed → Free rs ops listed σ h → wpAny P .any ops Q n listed a w := by
 intro n
 induction n with
 | zero => intro listed σ T h a w e ht H hK _ _; exact ⟨e.1, hK .normal T h σ a w .normal .normal (Sg.le.refl σ) ht H e.2⟩
 | succ n ih =>
  intro listed σ T h a w e ht H hK hcl hf
  refine ⟨fun hr => hK .normal T h σ a w .normal .normal (Sg.le.refl σ) ht H (e.1 hr), fun i hi => ?_⟩
  obtain ⟨hun, o, ho, _⟩ := mem_ready.1 hi
  have hok : okOp G o.op = true := by
   have : o ∈ ops.toList := by
    have h1 : ops.toList[i]? = some o := by simpa using ho
    exact List.mem_of_getElem? h1
   exact List.all_eq_true.1 hall o this
  refine op_sound EO hG CF ho hok (e.2 i hi o ho) ht H hK (fun b hb ha => hf b i o hb ho ha (false_of_true hun)) fun σ' T' h' a' w' hle ht' H' hN hq => ih _ σ' T' h' a' w' hN ht' H' (hK.mono hle) (hcl.add hi) ?_
  intro b j q hb hj hqa hl
  have hl0 : listed.getD j false = false := by
   cases hx : listed.getD j false with
   | false => rfl
   | true => rw [getD_set_true hx] at hl; cases hl
  obtain ⟨f1, f2⟩ := hf b j q hb hj hqa hl0
  have hij : j ≠ i := by
   intro hij
   subst hij
   have hlt : j < listed.size := by
    rcases Nat.lt_or_ge j listed.size with h' | h'
    ·exact h'
    ·simp [Array.getD_eq_getD_getElem?, Array.getElem?_eq_none h'] at hun
   simp [hlt] at hl
  cases hp : isPure o.op with
  | true =>
   obtain ⟨n1, n2⟩ := hq (.inl hp) b hb
   exact ⟨(n2 _ (by omega)).trans f1, by omega⟩
  | false =>
   cases ha : allocs o.op with
   | true =>
    obtain ⟨n1, n2⟩ := hq (.inr ha) b hb
    exact ⟨(n2 _ (by omega)).trans f1, by omega⟩
   | false =>
    have := hcl.ready hi (hRO (by rw [hb]; rfl) i o ho hp ha j q hj hqa)
    rw [hl0] at this; cases this
theorem swap {S : Nat → Prop} {i j : Nat} {oi oj : Oper} (hi : ops[i]? = some oi) (hij : i ≠ j) (hc : commB ops ms rs.isSome i j oi oj = true) (hmust : strict oj.op = true → mustR ms ops.size j oj.op = true)
  (hst : ∀ k q, S k → ops[k]? = some q → k ∈ chkIx ops.toList ms j oj.op → (∀ d, oi.dst = some d → d ∉ q.looksAt ops) ∧ ∀ d, oi.dst = some d → q.dst ≠ some d)
  {T : Tmps} {h h1 : Heap} {v : Value} (hhole : ∀ b, rs = some b → allocs oj.op = true → h.get (b + j) = none) (ei : actA E cf rs ops.toList i oi T h = some (.ret v, h1)) {N : Tmps → Heap → Prop}
  (ej : stpA E cf nt rs ops ms K r (fun k => S k ∨ k = i) j oj N (putT nt T oi.dst v) h1) : stpA E cf nt rs ops ms K r S j oj (fun T' h' => ∃ h1', actA E cf rs ops.toList i oi T' h' = some (.ret v, h1') ∧ N (putT nt T' oi.dst v) h1') T h := by
 unfold commB at hc
 simp only [Bool.and_eq_true] at hc
 obtain ⟨hap, hh⟩ := hc
 obtain ⟨l1, l2, l3⟩ := Oper.apart_spec hap
 obtain ⟨res, h2, e2, hN, hP, hC⟩ := ej
 rw [act_put l1] at e2
 have hret : ∃ u, res = .ret u := by
  cases hs : strict oj.op with
  | false => exact act_nonstrict hs e2
  | true =>
   cases res with
   | ret u => exact ⟨u, rfl⟩
   | panic u => have := (hP u rfl).1; rw [hmust hs] at this; cases this
 obtain ⟨u, rfl⟩ := hret
 have key : ∃ h', actA E cf rs ops.toList j oj T h = some (.ret u, h') ∧ actA E cf rs ops.toList i oi T h' = some (.ret v, h2) ∧ (isPure oj.op = true ∨ allocs oj.op = true ∨ h' = h2) := by
  simp only [Bool.or_eq_true, Bool.and_eq_true] at hh
  rcases hh with ((((⟨⟨hh0, hh1⟩, hh2⟩ | hh) | hh) | ⟨hh1, hh2⟩) | ⟨hh1, hh2⟩) | ⟨⟨hh1, hh2⟩, hh3⟩
  ·cases hrs : rs with
   | none => rw [hrs] at hh0; cases hh0
   | some b =>
    subst hrs
    rcases act_allocR hh1 ei with ⟨rfl, q1⟩ | ⟨oi1, rfl, q1⟩
    ·exact ⟨h2, e2, q1 h2, .inr (.inr rfl)⟩
    ·rcases act_allocR hh2 e2 with ⟨rfl, q2⟩ | ⟨oj1, rfl, q2⟩
     ·exact ⟨h, q2 h, q1 h, .inr (.inl hh2)⟩
     ·refine ⟨_, q2 h, (q1 _).trans ?_, .inr (.inl hh2)⟩
      simp only
      rw [Tr.put_comm h.m (some oi1) (some oj1) (by omega)]
  ·obtain ⟨rfl, e3⟩ := act_free (h2 := h2) hh ei
   exact ⟨h2, e2, e3, .inr (.inr rfl)⟩
  ·obtain ⟨rfl, e3⟩ := act_free (h2 := h) hh e2
   exact ⟨h, e3, ei, .inl (heapFree_pure hh)⟩
  ·have a1 := (act_pure hh1 ei).1
   subst a1
   have a2 := (act_pure hh2 e2).1
   subst a2
   exact ⟨_, e2, ei, .inl hh2⟩
  ·have a1 := (act_pure hh1 ei).1
   subst a1
   cases hrs : rs with
   | none =>
    subst hrs
    rcases allocs_act hh2 e2 with rfl | ⟨ob, rfl⟩
    ·exact ⟨_, e2, ei, .inr (.inr rfl)⟩
    ·exact ⟨_, e2, (act_alloc hh1 ei).2, .inr (.inr rfl)⟩
   | some b =>
    subst hrs
    rcases act_allocR hh2 e2 with ⟨rfl, _⟩ | ⟨ob, rfl, _⟩
    ·exact ⟨_, e2, ei, .inr (.inr rfl)⟩
    ·exact ⟨_, e2, act_hole hh1 (hhole b rfl hh2) ei, .inr (.inr rfl)⟩
  ·have hpi := reads_pure hh1
   have a1 := (act_pure hpi ei).1
   subst a1
   refine ⟨h2, e2, ?_, .inr (.inr rfl)⟩
   have hck := hC u rfl i oi (.inr rfl) hi (by simpa using hh2)
   unfold actA at ei ⊢
   cases hw : wantA ops.toList T oi with
   | false => simp only [hw, cond_false, Option.some.injEq, Prod.mk.injEq] at ei ⊢; exact ⟨ei.1, trivial⟩
   | true =>
    have hself : ∀ d, oi.dst = some d → d ∉ oi.looksAt ops := by
     intro d hd
     rw [hd] at hh3
     simpa using hh3
    unfold ChkP at hck
    rw [want_put hself, hw] at hck
    rcases hck with hck | ⟨d, hd, hlt, hck⟩
    ·cases hck
    ·have hx : ∀ x ∈ oi.op.operands, ev (putT nt T oi.dst v) x = ev T x := fun x hx => ev_put (look_op hself x hx)
     rw [pur_congr oi.op hx] at hck
     have hv : putT nt T oi.dst v d = v := by simp [putT, hd, hlt]
     rw [hv] at hck
     simp only [cond_true, hpi, hck]
 obtain ⟨h', k1, k2, k3⟩ := key
 refine ⟨_, h', k1, fun u' hu => ?_, fun u' hu => (by cases hu), fun u' hu => ?_⟩
 ·injection hu with hu
  subst hu
  refine ⟨h2, by rw [act_put l3]; exact k2, ?_⟩
  rw [← putT_comm v u l2]
  exact hN u rfl
 ·intro k q hk hq hm
  rcases k3 with hp | hp | rfl
  ·rw [chk_pure hp] at hm; cases hm
  ·rw [chk_allocs hp] at hm; cases hm
  ·obtain ⟨a1, a2⟩ := hst k q hk hq hm
   exact chk_put a1 a2 (hC u rfl k q (.inl hk) hq hm)
def Stable (ops : Array Oper) (ms : List Nat) : Prop := ∀ j oj k q, ops[j]? = some oj → ops[k]? = some q → k ∈ chkIx ops.toList ms j oj.op → ∀ i o, i ≠ k → ops[i]? = some o → Anc ops i k ∨ ∀ d, o.dst = some d → d ∉ q.looksAt ops ∧ q.dst ≠ some d
theorem must_of {i j : Nat} {op : Op} (hms : ∀ (k m i : Nat), ms[k]? = some m → m.testBit i = true → Anc ops i k) (hlt : i < ops.size) (hij : i ≠ j) (h1 : ¬ Anc ops i j) (h2 : ¬ Anc ops j i) (hs : strict op = true) : mustR ms ops.size j op = true := by
 have bit : ∀ a b, ¬ Anc ops a b → ((ms[b]?).getD 0).testBit a = false := by
  intro a b hn
  cases hm : ms[b]? with
  | none => simp
  | some m =>
   cases ht : m.testBit a with
   | true => exact absurd (hms b m a hm ht) hn
   | false => simpa using ht
 simp only [mustR, hs, Bool.true_and, List.any_eq_true, List.mem_range]
 refine ⟨i, hlt, ?_⟩
 simp [unord, bit _ _ h1, bit _ _ h2, hij]
theorem any_first (hRO : rs.isSome = true → RO ops) (hms : ∀ (k m i : Nat), ms[k]? = some m → m.testBit i = true → Anc ops i k) (HS : Stable ops ms) {i : Nat} {oi : Oper} (hi : ops[i]? = some oi) : ∀ (n : Nat) (listed : Array Bool) (T : Tmps) (h h1 : Heap) (v : Value), Closed ops listed →
  (∀ j oj, ops[j]? = some oj → j ≠ i → listed.getD j true = false → ¬ Anc ops i j → commB ops ms rs.isSome i j oi oj = true) → Holes rs ops listed h → i ∈ Region.ready .any ops listed → actA E cf rs ops.toList i oi T h = some (.ret v, h1) →
  (∀ k q, listed.getD k false = true → ops[k]? = some q → k ∈ chkIx ops.toList ms i oi.op → ChkP E nt ops T h1 q) →
  anyA E cf nt rs ops ms K r n (listed.setIfInBounds i true) (putT nt T oi.dst v) h1 → anyA E cf nt rs ops ms K r (n + 1) listed T h := by
 intro n
 have hlt : i < ops.size := (Array.getElem?_eq_some_iff.1 hi).1
 induction n with
 | zero =>
  intro listed T h h1 v hcl hfree hho hr hy hC H
  refine ⟨fun h0 => (by rw [h0] at hr; cases hr), fun j hj o ho => ?_⟩
  by_cases hji : j = i
  ·subst hji
   rw [hi] at ho; injection ho with ho; subst ho
   refine ⟨_, _, hy, fun u hu => ?_, fun u hu => (by cases hu), fun _ _ => hC⟩
   injection hu with hu
   subst hu
   exact H
  ·have := ready_mono hj hji
   rw [H.1] at this
   cases this
 | succ n ih =>
  intro listed T h h1 v hcl hfree hho hr hy hC H
  refine ⟨fun h0 => (by rw [h0] at hr; cases hr), fun j hj o ho => ?_⟩
  by_cases hji : j = i
  ·subst hji
   rw [hi] at ho; injection ho with ho; subst ho
   refine ⟨_, _, hy, fun u hu => ?_, fun u hu => (by cases hu), fun _ _ => hC⟩
   injection hu with hu
   subst hu
   exact H
  ·have h0 := H.2 j (ready_mono hj hji) o ho
   have hun := (mem_ready.1 hj).1
   have hiun := (mem_ready.1 hr).1
   have hna : ¬ Anc ops i j := by
    intro ha
    have h2 := hcl.ready hj ha
    have h3 := false_of_true hiun
    rw [h2] at h3; cases h3
   have hnb : ¬ Anc ops j i := by
    intro ha
    have h2 := hcl.ready hr ha
    have h3 := false_of_true hun
    rw [h2] at h3; cases h3
   have hil : i < listed.size := by
    rcases Nat.lt_or_ge i listed.size with h' | h'
    ·exact h'
    ·simp [Array.getD_eq_getD_getElem?, Array.getElem?_eq_none h'] at hiun
   have hcm := hfree j o ho hji hun hna
   have hst : ∀ k q, listed.getD k false = true → ops[k]? = some q → k ∈ chkIx ops.toList ms j o.op → (∀ d, oi.dst = some d → d ∉ q.looksAt ops) ∧ ∀ d, oi.dst = some d → q.dst ≠ some d := by
    intro k q hk hq hm
    have hik : i ≠ k := by
     intro hik
     subst hik
     have h3 := false_of_true hiun
     rw [hk] at h3; cases h3
    rcases HS j o k q ho hq hm i oi hik hi with ha | hd
    ·have h2 := hcl.anc ha hk
     have h3 := false_of_true hiun
     rw [h2] at h3; cases h3
    ·exact ⟨fun d hd' => (hd d hd').1, fun d hd' => (hd d hd').2⟩
   have h0' := stpA_weak (S' := fun k => listed.getD k false = true ∨ k = i) (by
    rintro k (hk | rfl)
    ·exact getD_set_true hk
    ·simp [hil]) h0
   have h2 := swap hi (Ne.symm hji) hcm (fun hs => must_of hms hlt (Ne.symm hji) hna hnb hs) hst (fun b hb ha => hho b j o hb ho ha (false_of_true hun)) hy h0'
   obtain ⟨res, hx, e1, e2, e3, e4⟩ := h2
   refine ⟨res, hx, e1, fun u hu => ?_, e3, e4⟩
   obtain ⟨h1', e5, e6⟩ := e2 u hu
   refine ih (listed.setIfInBounds j true) _ hx h1' v (hcl.add hj) ?_ (holes_step hRO hcl ho hj hho e1) (ready_mono hr (Ne.symm hji)) e5 ?_ ?_
   ·intro k ok hk hki hkun hka
    refine hfree k ok hk hki ?_ hka
    by_cases hjk : j = k
    ·subst hjk; exact hun
    ·rw [getD_set_ne true hjk] at hkun; exact hkun
   ·intro k q hk hq hm
    cases hpi : isPure oi.op with
    | true => rw [chk_pure hpi] at hm; cases hm
    | false =>
     have hali : allocs oi.op = false := by
      cases hali : allocs oi.op with
      | false => rfl
      | true => rw [chk_allocs hali] at hm; cases hm
     have hfo : heapFree o.op = true := by
      have hc2 := hcm
      unfold commB at hc2
      simp only [hpi, hali, Bool.and_false, Bool.false_and, Bool.or_false, Bool.false_or, Bool.and_eq_true, Bool.or_eq_true] at hc2
      rcases hc2.2 with (hh | hh) | hh
      ·rw [heapFree_pure hh] at hpi; cases hpi
      ·exact hh
      ·rw [reads_pure hh.1.1] at hpi; cases hpi
     have hap : oi.apart ops o = true := by
      unfold commB at hcm
      simp only [Bool.and_eq_true] at hcm
      exact hcm.1
     obtain ⟨l1, l2, l3⟩ := Oper.apart_spec hap
     have e7 := (act_pure (heapFree_pure hfo) e1).1
     subst e7
     rw [act_put l3, hy] at e5
     simp only [Option.some.injEq, Prod.mk.injEq, true_and] at e5
     subst e5
     have hkj : k ≠ j := by
      intro hkj
      subst hkj
      rw [ho] at hq; injection hq with hq; subst hq
      unfold chkIx at hm
      cases hc : (isPure oi.op || allocs oi.op) with
      | true => rw [hc] at hm; cases hm
      | false =>
       rw [hc] at hm
       simp only [cond_false, List.mem_filter, List.mem_range] at hm
       have ho2 : ops.toList[k]? = some o := by simpa using ho
       rw [ho2] at hm
       simp only [Bool.and_eq_true] at hm
       have := hm.2.1
       cases hop : o.op <;> rw [hop] at this hfo <;> simp [reads, heapFree] at this hfo
     have hkl : listed.getD k false = true := by rw [getD_set_ne false (Ne.symm hkj)] at hk; exact hk
     have hjk : ¬ Anc ops j k := by
      intro ha
      have h2 := hcl.anc ha hkl
      have h3 := false_of_true hun
      rw [h2] at h3; cases h3
     rcases HS i oi k q hi hq hm j o (Ne.symm hkj) ho with ha | hd
     ·exact absurd ha hjk
     ·exact chk_put' (fun d hd' => (hd d hd').1) (fun d hd' => (hd d hd').2) (hC k q hkl hq hm)
   ·rw [Array.setIfInBounds_comm _ _ hji]
    exact e6
/-! ### The check -/
theorem mask_sound {acc : List Nat} {o : Oper} {j : Nat} (ho : ops[j]? = some o) (hacc : ∀ (k m i : Nat), acc[k]? = some m → m.testBit i = true → Anc ops i k) : ∀ (l : List Edge) (s : Nat), (∀ e ∈ l, e ∈ o.after) → (∀ i, s.testBit i = true → Anc ops i j) →
  ∀ i, (l.foldl (fun s e => bif Region.binds .any e then s ||| (2 ^ e.on ||| (acc[e.on]?).getD 0) else s) s).testBit i = true → Anc ops i j := by
 intro l
 induction l with
 | nil => intro s _ hs i h; exact hs i h
 | cons e l ih =>
  intro s hl hs i h
  refine ih _ (fun e' he' => hl e' (by simp [he'])) ?_ i h
  intro i' h'
  cases hb : Region.binds .any e with
  | false => simp only [hb, cond_false] at h'; exact hs i' h'
  | true =>
   simp only [hb, cond_true, Nat.testBit_or, Bool.or_eq_true] at h'
   rcases h' with h' | h' | h'
   ·exact hs i' h'
   ·have : e.on = i' := by simpa [Nat.testBit_two_pow] using h'
    exact .edge i' j o e ho (hl e (by simp)) hb this
   ·cases hm : acc[e.on]? with
    | none => simp [hm] at h'
    | some m =>
     rw [hm] at h'
     exact .step i' j o e ho (hl e (by simp)) hb (hacc _ m i' hm h')
theorem masks_sound : ∀ (os : List Oper) (acc : List Nat), ops.toList.drop acc.length = os → (∀ (k m i : Nat), acc[k]? = some m → m.testBit i = true → Anc ops i k) → ∀ (k m i : Nat), (masksL os acc)[k]? = some m → m.testBit i = true → Anc ops i k := by
 intro os
 induction os with
 | nil => intro acc _ hacc; exact hacc
 | cons o os ih =>
  intro acc hd hacc
  have ho : ops[acc.length]? = some o := by
   have := congrArg (fun l => l[0]?) hd
   simpa using this
  refine ih (acc ++ [maskOf acc o]) ?_ ?_
  ·rw [List.length_append, List.length_singleton, ← List.drop_drop, hd]
   rfl
  ·intro k m i hk hm
   rw [List.getElem?_append] at hk
   split at hk
   ·exact hacc k m i hk hm
   ·rename_i hlt
    cases hx : k - acc.length with
    | zero =>
     rw [hx] at hk
     simp only [List.getElem?_cons_zero, Option.some.injEq] at hk
     subst hk
     have hka : k = acc.length := by omega
     subst hka
     exact mask_sound ho hacc _ 0 (fun e he => by simpa using he) (fun i h => by simp at h) i hm
    | succ n => rw [hx] at hk; simp at hk
theorem stable_of (hms : ∀ (k m i : Nat), ms[k]? = some m → m.testBit i = true → Anc ops i k) {k : Nat} {q : Oper} (h : stableB ops ms k q = true) : ∀ i o, i ≠ k → ops[i]? = some o → Anc ops i k ∨ ∀ d, o.dst = some d → d ∉ q.looksAt ops ∧ q.dst ≠ some d := by
 intro i o hik ho
 have hlt : i < ops.size := (Array.getElem?_eq_some_iff.1 ho).1
 have h1 := List.all_eq_true.1 h i (by simpa using hlt)
 have ho' : ops.toList[i]? = some o := by simpa using ho
 simp only [ho', Bool.or_eq_true, beq_iff_eq] at h1
 rcases h1 with h1 | h1 | h1
 ·exact absurd h1 hik
 ·cases hm : ms[k]? with
  | none => simp [hm] at h1
  | some m => rw [hm] at h1; exact .inl (hms k m i hm h1)
 ·refine .inr fun d hd => ?_
  rw [hd] at h1
  simp only [Bool.and_eq_true, Bool.not_eq_true', bne_iff_ne] at h1
  exact ⟨by simpa using h1.1, h1.2⟩
theorem check_stable {b : Bool} (hms : ∀ (k m i : Nat), ms[k]? = some m → m.testBit i = true → Anc ops i k) : ∀ (l : List Nat) (L : Nat), checkI ops ms b l L = true → ∀ j ∈ l, ∀ oj k q, ops[j]? = some oj → ops[k]? = some q → k ∈ chkIx ops.toList ms j oj.op → stableB ops ms k q = true := by
 intro l
 induction l with
 | nil => intro L _ j hj; cases hj
 | cons i l ih =>
  intro L hc j hj oj k q hoj hq hm
  simp only [checkI, Bool.and_eq_true] at hc
  simp only [List.mem_cons] at hj
  rcases hj with rfl | hj
  ·have hoj' : ops.toList[j]? = some oj := by simpa using hoj
   have h1 := hc.1
   rw [hoj'] at h1
   simp only [Bool.and_eq_true] at h1
   have := List.all_eq_true.1 h1.1.2 k hm
   have hq' : ops.toList[k]? = some q := by simpa using hq
   rw [hq'] at this
   exact this
  ·exact ih _ hc.2 j hj oj k q hoj hq hm
theorem any_all (hRO : rs.isSome = true → RO ops) (hms : ∀ (k m i : Nat), ms[k]? = some m → m.testBit i = true → Anc ops i k) (HS : Stable ops ms) : ∀ (l : List Nat) (L : Nat) (listed : Array Bool) (T : Tmps) (h : Heap), listed.size = ops.size →
  (∀ j, listed.getD j false = L.testBit j) → (∀ j, j < ops.size → listed.getD j false = false → j ∈ l) → Closed ops listed → Holes rs ops listed h → checkI ops ms rs.isSome l L = true →
  drawK E cf nt rs ops.toList (drawL ops.toList ms l) T h K = some r → anyA E cf nt rs ops ms K r l.length listed T h := by
 intro l
 induction l with
 | nil =>
  intro L listed T h hsz hL hall hcl hho hc e
  refine ⟨?_, e⟩
  rw [List.eq_nil_iff_forall_not_mem]
  intro i hi
  obtain ⟨h0, o, ho, _⟩ := mem_ready.1 hi
  have hlt : i < ops.size := (Array.getElem?_eq_some_iff.1 ho).1
  have := hall i hlt (false_of_true h0)
  cases this
 | cons i l ih =>
  intro L listed T h hsz hL hall hcl hho hc e
  simp only [checkI, Bool.and_eq_true] at hc
  obtain ⟨hc1, hc2⟩ := hc
  cases ho : ops.toList[i]? with
  | none => rw [ho] at hc1; cases hc1
  | some o =>
   rw [ho] at hc1
   simp only [Bool.and_eq_true] at hc1
   obtain ⟨⟨⟨hc1, hc3⟩, _⟩, hc4⟩ := hc1
   have ho' : ops[i]? = some o := by simpa using ho
   have hlt : i < ops.size := (Array.getElem?_eq_some_iff.1 ho').1
   have hun : listed.getD i false = false := by rw [hL i]; simpa using hc1
   have hun' : listed.getD i true = false := by
    rw [Array.getD_eq_getD_getElem?] at hun ⊢
    rw [Array.getElem?_eq_getElem (by omega)] at hun ⊢
    exact hun
   have hready : i ∈ Region.ready .any ops listed := by
    rw [mem_ready]
    refine ⟨hun', o, ho', fun ed hed hb => ?_⟩
    have := List.all_eq_true.1 hc3 ed (by simpa using hed)
    rw [hb] at this
    simp only [Bool.not_true, Bool.false_or] at this
    rw [hL]; exact this
   have hfree : ∀ j oj, ops[j]? = some oj → j ≠ i → listed.getD j true = false → ¬ Anc ops i j → commB ops ms rs.isSome i j o oj = true := by
    intro j oj hoj hji hju hna
    have hjlt : j < ops.size := (Array.getElem?_eq_some_iff.1 hoj).1
    have hjl : j ∈ l := by
     have := hall j hjlt (false_of_true hju)
     simp only [List.mem_cons] at this
     exact this.resolve_left hji
    have hp := List.all_eq_true.1 hc4 j hjl
    have hoj' : ops.toList[j]? = some oj := by simpa using hoj
    simp only [hoj', Bool.or_eq_true, beq_iff_eq] at hp
    rcases hp with (hp | hp) | hp
    ·exact absurd hp hji
    ·cases hm : ms[j]? with
     | none => simp [hm] at hp
     | some m => rw [hm] at hp; exact absurd (hms j m i hm hp) hna
    ·exact hp
   have hst := drawK_step (S := fun k => listed.getD k false = true) ho e
   have hnext : ∀ T' h', Holes rs ops (listed.setIfInBounds i true) h' → drawK E cf nt rs ops.toList (drawL ops.toList ms l) T' h' K = some r → anyA E cf nt rs ops ms K r l.length (listed.setIfInBounds i true) T' h' := by
    intro T' h' hho' e'
    refine ih (L ||| 2 ^ i) _ T' h' (by simp [hsz]) ?_ ?_ (hcl.add hready) hho' hc2 e'
    ·intro j
     rw [Nat.testBit_or, Nat.testBit_two_pow]
     by_cases hij : i = j
     ·subst hij
      have : i < listed.size := by omega
      simp [this]
     ·rw [getD_set_ne false hij, hL j]
      simp [hij]
    ·intro j hj hju
     by_cases hij : i = j
     ·subst hij
      have : i < listed.size := by omega
      simp [this] at hju
     ·rw [getD_set_ne false hij] at hju
      have := hall j hj hju
      simp only [List.mem_cons] at this
      exact this.resolve_left (Ne.symm hij)
   obtain ⟨res, h', ea, h1, h2, h3⟩ := hst
   cases res with
   | ret v => exact any_first hRO hms HS ho' l.length listed T h h' v hcl hfree hho hready ea (h3 v rfl) (hnext _ _ (holes_step hRO hcl ho' hready hho ea) (h1 v rfl))
   | panic v =>
    refine ⟨fun h0 => (by rw [h0] at hready; cases hready), fun j hj oj hoj => ?_⟩
    by_cases hji : j = i
    ·subst hji
     rw [ho'] at hoj; injection hoj with hoj; subst hoj
     exact ⟨_, h', ea, fun u hu => (by cases hu), h2, fun u hu => (by cases hu)⟩
    ·exfalso
     have hju := (mem_ready.1 hj).1
     have hna : ¬ Anc ops i j := by
      intro ha
      have h3 := hcl.ready hj ha
      rw [hun] at h3; cases h3
     have hnb : ¬ Anc ops j i := by
      intro ha
      have h4 := hcl.ready hready ha
      have h5 := false_of_true hju
      rw [h4] at h5; cases h5
     have hstr : strict o.op = true := by
      cases hs : strict o.op with
      | true => rfl
      | false => obtain ⟨u, hu⟩ := act_nonstrict hs ea; cases hu
     have hjlt : j < ops.size := (Array.getElem?_eq_some_iff.1 hoj).1
     have := must_of (i := j) (j := i) hms hjlt hji hnb hna hstr
     rw [(h2 v rfl).1] at this
     cases this
theorem HR_drew {σ : Sg} {h : Heap} {w : World} (H : HR P B w0 σ h w) : HR P B w0 σ h { w with drawn := w.drawn + 1 } :=
 ⟨Below.drew H.below, H.base, H.fresh, H.obj, H.inj, H.lt, H.glob⟩
theorem res_ok {ms : List Nat} (hms : ∀ (k m i : Nat), ms[k]? = some m → m.testBit i = true → Anc ops i k) (h : resOk ops ms = true) : RO ops := by
 intro i o ho hp ha j q hq hqa
 have hlt : i < ops.size := (Array.getElem?_eq_some_iff.1 ho).1
 have hjlt : j < ops.size := (Array.getElem?_eq_some_iff.1 hq).1
 have h1 := List.all_eq_true.1 h i (by simpa using hlt)
 have ho' : ops.toList[i]? = some o := by simpa using ho
 have hq' : ops.toList[j]? = some q := by simpa using hq
 simp only [ho', hp, ha, Bool.false_or] at h1
 have h2 := List.all_eq_true.1 h1 j (by simpa using hjlt)
 simp only [hq', hqa, Bool.not_true, Bool.false_or] at h2
 cases hm : ms[i]? with
 | none => simp [hm] at h2
 | some m => rw [hm] at h2; exact hms i m j hm h2
theorem draw_ok (hm : P.follows .mixedOrders = true) (EO : EnvOk P B w0 G okDraw E) (hG : G ≤ P.globals.size) (CF : CFOk P B w0 cf) : DrawOk P B w0 E cf okDraw G := by
 intro nt D id ops K r Q σ T h a w hd hall e ht H hK
 refine wp_region_any hm ?_
 simp only [okDraw, Bool.and_eq_true, decide_eq_true_eq] at hd
 obtain ⟨⟨⟨h1, h2⟩, h3⟩, h4⟩ := hd
 have hms := masks_sound (ops := ops) ops.toList [] rfl (fun k m i hk => by simp at hk)
 have hin : ∀ j, j < ops.size → j ∈ canonIx ops.toList := by
  intro j hj
  have := List.all_eq_true.1 h1 j (by simpa using hj)
  simpa using this
 have HS : Stable ops (masksL ops.toList []) := by
  intro j oj k q hoj hq hmk
  have hjlt : j < ops.size := (Array.getElem?_eq_some_iff.1 hoj).1
  exact stable_of hms (check_stable hms _ _ h3 j (hin j hjlt) oj k q hoj hq hmk)
 have cl0 : Closed ops (Array.replicate ops.size false) := by intro j o ho hj; simp [Array.getElem?_replicate] at hj; split at hj <;> simp at hj
 have go : ∀ (rs : Option Nat) (h : Heap), rs.isSome = needRes ops.toList → Holes rs ops (Array.replicate ops.size false) h → Free rs ops (Array.replicate ops.size false) σ h → HR P B w0 σ h w → drawK E cf nt rs ops.toList (drawL ops.toList (masksL ops.toList []) (canonIx ops.toList)) T h K = some r → wpAny P .any ops Q ops.size (Array.replicate ops.size false) a { w with drawn := w.drawn + 1 } := by
  intro rs h hrs hho hf H e
  have hRO : rs.isSome = true → RO ops := by
   intro hs
   rw [hrs] at hs
   rw [hs] at h4
   exact res_ok hms (by simpa using h4)
  rw [← hrs] at h3
  have := any_all (r := r) (K := K) (nt := nt) (ops := ops) hRO hms HS (canonIx ops.toList) 0 (Array.replicate ops.size false) T h (by simp) (by intro j; simp [Array.getElem?_replicate]; split <;> rfl) (fun j hj _ => hin j hj) cl0 hho h3 e
  rw [h2] at this
  exact any_sound EO hG CF hRO hall _ _ σ T h a _ (by simpa using this) ht (HR_drew H) hK cl0 hf
 unfold drawR at e
 cases hn : needRes ops.toList with
 | false =>
  rw [hn] at e
  exact go none h (by rw [hn]; rfl) (fun b j q hb => by cases hb) (fun b j q hb => by cases hb) H e
 | true =>
  rw [hn] at e
  refine go (some h.next) ⟨h.m, h.next + ops.toList.length⟩ (by rw [hn]; rfl) ?_ ?_ ?_ e
  ·intro b j q hb hj hq hl
   injection hb with hb
   subst hb
   show h.get (h.next + j) = none
   cases hg : h.get (h.next + j) with
   | none => rfl
   | some o =>
    obtain ⟨l, hl, _⟩ := H.obj _ _ hg
    rw [H.fresh _ (by omega)] at hl
    cases hl
  ·intro b j q hb hj hq hl
   injection hb with hb
   subst hb
   have hjlt : j < ops.size := (Array.getElem?_eq_some_iff.1 hj).1
   exact ⟨H.fresh _ (by omega), by show h.next + j < h.next + ops.toList.length; simp; omega⟩
  ·exact (H.x.at' _).hr fun b hb => H.fresh b (by have hb' : h.next + ops.toList.length ≤ b := hb; omega)
end
end Go.Proofs.YteekjekckgpbfaaDoor.Abs
end
section
namespace Go.Proofs.YteekjekckgpbfaaDoor.Abs
open Go.RowKit (Below)
def Tr.All {α : Type} : (Nat → α → Prop) → Tr α → Prop
 | _, .nil => True
 | Q, .node l v r => (∀ x, v = some x → Q 0 x) ∧ Tr.All (fun k => Q (2 * k + 1)) l ∧ Tr.All (fun k => Q (2 * k + 2)) r
theorem Tr.All.get {α : Type} {Q : Nat → α → Prop} {t : Tr α} (hA : Tr.All Q t) (_ _ : Unit) (k : Nat) (x : α) (h : t.get k = some x) : Q k x := by
 revert Q k x hA h
 suffices H : ∀ (Q : Nat → α → Prop) (k : Nat) (x : α), Tr.All Q t → t.get k = some x → Q k x from fun {Q} hA k x h => H Q k x hA h
 induction t with
 | nil => intro Q k x _ h; cases h
 | node l v r ihl ihr =>
  intro Q k x hA h
  obtain ⟨h0, hl, hr⟩ := hA
  simp only [Tr.get] at h
  by_cases hk : k = 0
  ·subst hk
   exact h0 x (by simpa using h)
  ·have hk' : (k == 0) = false := by simpa using hk
   simp only [hk', cond_false] at h
   by_cases h2 : k % 2 = 1
   ·simp only [h2, beq_self_eq_true, cond_true] at h
    have := ihl _ (k / 2) x hl h
    have e : 2 * (k / 2) + 1 = k := by omega
    rwa [e] at this
   ·have h2' : (k % 2 == 1) = false := by simpa using h2
    simp only [h2', cond_false] at h
    have := ihr _ (k / 2 - 1) x hr h
    have e : 2 * (k / 2 - 1) + 2 = k := by omega
    rwa [e] at this
theorem Tr.all_nil {α : Type} {Q : Nat → α → Prop} : Tr.All Q .nil := trivial
theorem Tr.all_some {α : Type} {Q : Nat → α → Prop} {l r : Tr α} {x0 : α} (h : Q 0 x0) (hl : Tr.All (fun k => Q (2 * k + 1)) l) (hr : Tr.All (fun k => Q (2 * k + 2)) r) : Tr.All Q (.node l (some x0) r) :=
 ⟨fun x e => (by injection e with e; subst e; exact h), hl, hr⟩
theorem Tr.all_none {α : Type} {Q : Nat → α → Prop} {l r : Tr α} (hl : Tr.All (fun k => Q (2 * k + 1)) l) (hr : Tr.All (fun k => Q (2 * k + 2)) r) : Tr.All Q (.node l none r) :=
 ⟨fun x e => (by cases e), hl, hr⟩
structure FnOk (P : Program) (G : Nat) (f : Nat) (fn : Func) : Prop where
 func : P.funcs[f]? = some fn
 name : (fn.name == "runtime.NumGoroutine") = false
 ex : ∃ c, fn.body = some c ∧ codeOk G okDraw c = true ∧ deferOk fn.ntmps c = true
theorem shG_ok {P : Program} {B : Nat} {w0 : World} {G : Nat} {E : Env} {S : Tr Step} (hm : P.follows .mixedOrders = true) (EO : EnvOk P B w0 G okDraw E) (hG : G ≤ P.globals.size) (hdef : ∀ f fn c, E.fn f = some fn → fn.body = some c → deferOk fn.ntmps c = true)
  (hext : ∀ f args h r h', E.ext f args h = some (r, h') → ∀ σ w args', VRL P σ args args' → HR P B w0 σ h w → CallOk P B w0 σ f args' w h' r)
  (hS : Tr.All (fun f s => ∀ cf lf l h r, s cf lf l h = some r → stepN E cf lf f l h = some r) S) : ∀ n, CFOk P B w0 (shG E S n) := by
 intro n
 induction n with
 | zero => intro f args h r h' e; cases e
 | succ n ih =>
  intro f args h r h' e σ w args' ha H
  simp only [shG] at e
  split at e
  ·exact hext f args h r h' e σ w args' ha H
  ·rename_i s hs
   exact step_ok EO hG hdef ih (draw_ok hm EO hG ih) n f args h r h' (hS.get () () _ _ hs _ _ _ _ _ e) σ w args' ha H
theorem env_ok {P : Program} {B : Nat} {w0 : World} {G : Nat} {tT : Tr TI} {fT : Tr Func} {pr : Nat → List Value → Heap → Option (Value × Heap)} {ex : Nat → List Value → Heap → Option (Res × Heap)}
  (ht : Tr.All (fun t i => TyOk P t i) tT) (hf : Tr.All (fun f fn => FnOk P G f fn) fT)
  (hp : ∀ g args h v h', pr g args h = some (v, h') → ∀ σ w args', VRL P σ args args' → HR P B w0 σ h w → ∃ σ' w' v', (callFunc g ⟨args'⟩).run P w = .ok (.value v') w' ∧ σ.le σ' ∧ HR P B w0 σ' h' w' ∧ VR P σ' v v')
  (hx : ∀ f args h r h', ex f args h = some (r, h') → ∀ σ w args', VRL P σ args args' → HR P B w0 σ h w → CallOk P B w0 σ f args' w h' r) :
  EnvOk P B w0 G okDraw ⟨fun t => tT.get t, fun f => fT.get f, pr, ex⟩ :=
 ⟨fun t i h => ht.get () () _ _ h, fun f fn h => let k := hf.get () () _ _ h; let ⟨c, h1, h2, _⟩ := k.ex; ⟨k.func, k.name, c, h1, h2⟩, hp, fun f args h r h' _ => hx f args h r h'⟩
theorem defer_ok {P : Program} {G : Nat} {fT : Tr Func} (hf : Tr.All (fun f fn => FnOk P G f fn) fT) : ∀ f fn c, fT.get f = some fn → fn.body = some c → deferOk fn.ntmps c = true := by
 intro f fn c h hb
 obtain ⟨c', h1, _, h3⟩ := (hf.get () () _ _ h).ex
 rw [hb] at h1
 injection h1 with h1
 subst h1
 exact h3
end Go.Proofs.YteekjekckgpbfaaDoor.Abs
end
section
namespace Go.Proofs.YteekjekckgpbfaaDoor.Abs
open Go.RowKit (Below)
open Go.ChangeShapes Go.WideShapes
def σ0 (P : Program) : Sg := fun b => if b < P.globals.size then some ⟨b, 0, 0, 0⟩ else none
def h0 (n : Nat) : Heap := ⟨.nil, n⟩
theorem HR_start {P : Program} {W : World} (hW : P.globals.size ≤ W.heap.size) : HR P W.heap.size W (σ0 P) (h0 P.globals.size) W := by
 refine ⟨Below.refl _ _, Nat.le_refl _, ?_, ?_, ?_, ?_, ?_⟩
 ·intro b hb
  have : ¬ b < P.globals.size := by simp only [h0] at hb; omega
  simp [σ0, this]
 ·intro b o h
  simp [Heap.get, h0, Tr.get] at h
 ·intro b b' o o' l l' h
  simp [Heap.get, h0, Tr.get] at h
 ·intro b l h
  unfold σ0 at h
  split at h
  ·injection h with h
   subst h
   show b < W.heap.size
   omega
  ·cases h
 ·intro g hg
  exact ⟨⟨g, 0, 0, 0⟩, by simp [σ0, hg], rfl, rfl⟩
theorem call_true {P : Program} {W : World} {cf : CallF} (hW : P.globals.size ≤ W.heap.size) (CF : CFOk P W.heap.size W cf) {f : FuncId} {args : List Value} (hp : VRL P (σ0 P) args args) {h' : Heap}
  (e : cf f args (h0 P.globals.size) = some (.ret (.bool true), h')) : Calls P f ⟨args⟩ W fun e w' => e = .returned (.bool true) ∧ Below W.heap.size W w' := by
 obtain ⟨_, hc⟩ := CF f args _ _ _ e _ W args hp (HR_start hW)
 refine hc.mono fun en w' hpost => ?_
 cases en with
 | returned v' =>
  obtain ⟨v, σ', hr, _, H, hv⟩ := hpost
  injection hr with hr
  subst hr
  cases hv
  exact ⟨rfl, H.below⟩
 | panicked chain =>
  obtain ⟨v, v', σ', hr, _⟩ := hpost
  cases hr
 | outgrown => exact hpost.elim
theorem HR.input {P : Program} {B : Nat} {w0 w : World} {σ : Sg} {h : Heap} (H : HR P B w0 σ h w) {bb s n : Nat} {e : TypeId} {fr : Nat × Nat} {cs : Array Value} {cells : List Value} (hB : bb < B) (hw : w.heap[bb]? = some (.cells cs e fr)) (hv : VRL P σ cells ((cs.toList.drop s).take cells.length)) :
  σ.le (σ.put h.next ⟨bb, e, n, s⟩) ∧ HR P B w0 (σ.put h.next ⟨bb, e, n, s⟩) (h.alloc (.cells ⟨e, cells, false⟩)) w := by
 have hle : σ.le (σ.put h.next ⟨bb, e, n, s⟩) := Sg.le_put (H.fresh h.next (Nat.le_refl _)) _
 have hlt : bb < w.heap.size := (Array.getElem?_eq_some_iff.1 hw).1
 refine ⟨hle, ⟨H.below, H.base, ?_, ?_, ?_, ?_, ?_⟩⟩
 ·intro b hb
  have hb' : h.next + 1 ≤ b := hb
  simp only [Sg.put, if_neg (show b ≠ h.next by omega)]
  exact H.fresh b (by omega)
 ·intro b o hg
  rw [Heap.get_alloc] at hg
  by_cases hbn : b = h.next
  ·rw [if_pos hbn] at hg
   injection hg with hg
   subst hg
   exact ⟨⟨bb, e, n, s⟩, by simp [Sg.put, hbn], rfl, cs, fr, hw, (fun h => by cases h), hv.mono hle, (fun h => by cases h)⟩
  ·rw [if_neg hbn] at hg
   obtain ⟨l, hl, ho⟩ := H.obj b o hg
   exact ⟨l, hle _ _ hl, ho.keep hle rfl⟩
 ·intro b b' o o' l l' hg hown hg' hl hl' he
  rw [Heap.get_alloc] at hg hg'
  simp only [Sg.put] at hl hl'
  by_cases h1 : b = h.next <;> by_cases h2 : b' = h.next
  ·rw [h1, h2]
  ·exfalso
   rw [if_pos h1] at hg
   injection hg with hg
   subst hg
   cases hown
  ·exfalso
   rw [if_neg h1] at hg hl
   rw [if_pos h2] at hl'
   injection hl' with hl'
   subst hl'
   obtain ⟨l2, hl2, ho⟩ := H.obj b o hg
   rw [hl] at hl2
   injection hl2 with hl2
   subst hl2
   cases o with
   | cells k =>
    obtain ⟨_, _, _, _, _, _, hf⟩ := ho
    have := (hf hown).2.1
    simp at he
    omega
   | map es => exact ho
  ·rw [if_neg h1] at hg hl
   rw [if_neg h2] at hg' hl'
   exact H.inj b b' o o' l l' hg hown hg' hl hl' he
 ·intro b l hl
  simp only [Sg.put] at hl
  by_cases h1 : b = h.next
  ·rw [if_pos h1] at hl
   injection hl with hl
   subst hl
   exact hlt
  ·rw [if_neg h1] at hl
   exact H.lt _ _ hl
 ·intro g hg
  obtain ⟨l, hl, he⟩ := H.glob g hg
  exact ⟨l, hle _ _ hl, he⟩
theorem call_true_at {P : Program} {W : World} {cf : CallF} {σ : Sg} {h : Heap} (H : HR P W.heap.size W σ h W) (CF : CFOk P W.heap.size W cf) {f : FuncId} {args args' : List Value} (hp : VRL P σ args args') {h' : Heap}
  (e : cf f args h = some (.ret (.bool true), h')) : Calls P f ⟨args'⟩ W fun e w' => e = .returned (.bool true) ∧ Below W.heap.size W w' := by
 obtain ⟨_, hc⟩ := CF f args _ _ _ e _ W args' hp H
 refine hc.mono fun en w' hpost => ?_
 cases en with
 | returned v' =>
  obtain ⟨v, σ', hr, _, H, hv⟩ := hpost
  injection hr with hr
  subst hr
  cases hv
  exact ⟨rfl, H.below⟩
 | panicked chain =>
  obtain ⟨v, v', σ', hr, _⟩ := hpost
  cases hr
 | outgrown => exact hpost.elim
def isT : Ans → Bool
 | some (.ret (.bool true), _) => true
 | _ => false
theorem isT_some {x : Ans} (h : isT x = true) : ∃ h', x = some (.ret (.bool true), h') := by
 unfold isT at h
 split at h
 ·exact ⟨_, rfl⟩
 ·cases h
theorem post_of_below {H : Type} {enc : TypeId × Value → H} {P : Program} {f : Func} {s : ChangeSpec} {apart fresh handsOn again : Bool} {W W' : World} {args : Array Value} {v : Value} {ds gs : List (DataW H)} {before pa pv : List MemPlace}
  (hW : DataW.Whole enc P f.params.toList s.vars apart W args.toList ds gs before)
  (hres : ∀ (b : Nat) (sp : Nat → Bool) (hd : Bool), DataW.TrodAll enc P W' b sp hd f.resultTypes.toList (v.resultList f.resultTypes.size) (s.fn H (ds ++ gs)).results [])
  (hargs : ∀ sp : Nat → Bool, (∀ p ∈ before, sp p.block = true) → DataW.TrodAll enc P W' 0 sp true f.params.toList args.toList (s.fn H (ds ++ gs)).args pa)
  (hvars : ∀ sp : Nat → Bool, (∀ p ∈ before, sp p.block = true) → DataW.TrodVars enc P W' sp s.vars (s.fn H (ds ++ gs)).vars pv)
  (hps : before = pa ++ pv) (hb : Below W.heap.size W W')
  (hok : ∀ (j : Nat) (t : TypeId) (r : Value), f.resultTypes[j]? = some t → (v.resultList f.resultTypes.size)[j]? = some r → Value.okWide P W' .any 0 t r) :
  s.post enc P f apart fresh handsOn again W args v W' := by
 have hold : ∀ p ∈ before, (fun b => decide (b < W.heap.size)) p.block = true := fun p hp => by simpa using hW.lt p hp
 have hk : W.keptBut W' (· ∈ before) := hb.frame _
 have hlt := hW.lt
 refine ⟨ds, gs, before, [], pa, pv, hW, hres _ _ _, hargs _ hold, hvars _ hold, World.keptBut_mono (fun p hp => ⟨hp, ?_⟩) hk, fun _ => ?_⟩
 ·rw [hps, List.mem_append] at hp
  exact Or.inr hp
 ·obtain ⟨_, _, _, _, _, hz, hn⟩ := hW
  refine ⟨hok, _, _, ([] ++ pa) ++ pv, ⟨[] ++ pa, pv, trodAll_append (hargs _ (fun _ _ => rfl)) (hres _ _ _), hvars _ (fun _ _ => rfl), rfl, ?_, ?_⟩, ?_⟩
  ·intro b off hp
   have hp' : MemPlace.cell b off ∈ before := by rw [hps]; simpa using hp
   rw [hb.frozen (hlt _ hp')]
   exact hz b off hp'
  ·intro ha
   have := hn ha
   rw [hps] at this
   simpa using this
  ·intro p hp _
   rw [hps]
   simpa using hp
end Go.Proofs.YteekjekckgpbfaaDoor.Abs
end
section
namespace Go.Proofs.YteekjekckgpbfaaDoor.Abs
open Go.RowKit (Below)
theorem HR_below {P : Program} {B : Nat} {w0 w w' : World} {σ : Sg} {h : Heap} (H : HR P B w0 σ h w) (hb : Below w.heap.size w w') : HR P B w0 σ h w' := by
 refine ⟨H.below.trans (hb.mono H.base), Nat.le_trans H.base hb.size, H.fresh, ?_, H.inj, ?_, H.glob⟩
 ·intro b o hg
  obtain ⟨l, hl, ho⟩ := H.obj b o hg
  refine ⟨l, hl, ?_⟩
  have hw : w'.heap[l.b]? = w.heap[l.b]? := hb.block _ (H.lt b l hl)
  cases o with
  | cells k =>
   obtain ⟨h1, cs, fr, h2, h3⟩ := ho
   exact ⟨h1, cs, fr, hw.trans h2, h3⟩
  | map es => exact ho
 ·intro b l hl
  exact Nat.lt_of_lt_of_le (H.lt b l hl) hb.size
theorem HR_globals {P : Program} {B : Nat} {w0 w : World} {σ : Sg} {h : Heap} (H : HR P B w0 σ h w) : P.globals.size ≤ w.heap.size := by
 rcases Nat.eq_zero_or_pos P.globals.size with h0 | h0
 ·omega
 ·obtain ⟨l, hl, he⟩ := H.glob (P.globals.size - 1) (by omega)
  have := H.lt _ _ hl
  omega
theorem VR_plain {P : Program} {σ : Sg} {v v' : Value} (hv : plainV v = true) (h : VR P σ v v') : v' = v := by
 have one : ∀ {v v' : Value}, plain1 v = true → VR P σ v v' → v' = v := by
  intro v v' hp h
  cases h <;> first | rfl | (simp [plain1] at hp; done)
 have lst : ∀ {l l' : List Value}, l.all plain1 = true → VRL P σ l l' → l' = l := by
  intro l
  induction l with
  | nil => intro l' _ h; cases h; rfl
  | cons a l ih =>
   intro l' hp h
   simp only [List.all_cons, Bool.and_eq_true] at hp
   cases h with
   | cons _ a' _ l'' ha hl => rw [one hp.1 ha, ih hp.2 hl]
 cases h with
 | agg a b hl => rw [lst (by simpa [plainV] using hv) hl]
 | tuple a b hl => rw [lst (by simpa [plainV] using hv) hl]
 | iface t a b ha => rw [one (by simpa [plainV] using hv) ha]
 | _ => first | rfl | (simp [plainV, plain1] at hv; done)
theorem VRL_plain {P : Program} {σ : Sg} {l l' : List Value} (hp : l.all plainV = true) (h : VRL P σ l l') : l' = l := by
 induction l generalizing l' with
 | nil => cases h; rfl
 | cons a l ih =>
  simp only [List.all_cons, Bool.and_eq_true] at hp
  cases h with
  | cons _ a' _ l'' ha hl => rw [VR_plain hp.1 ha, ih hp.2 hl]
theorem VRL.plain {P : Program} {σ : Sg} {l : List Value} (hp : l.all plainV = true) : VRL P σ l l := by
 induction l with
 | nil => exact .nil
 | cons a l ih =>
  simp only [List.all_cons, Bool.and_eq_true] at hp
  exact .cons _ _ _ _ (VR.of_plain hp.1) (ih hp.2)
theorem fresh_ok {P : Program} {B : Nat} {w0 w : World} {σ : Sg} {h : Heap} {cf : CallF} (CF : CFOk P w.heap.size w cf) (H : HR P B w0 σ h w) {f : FuncId} {args args' : List Value} (hp : args.all plainV = true) (ha : VRL P σ args args')
  {v : Value} {h' : Heap} (hv : plainV v = true) (e : cf f args (h0 P.globals.size) = some (.ret v, h')) : CallOk P B w0 σ f args' w h (.ret v) := by
 have ea := VRL_plain hp ha
 subst ea
 obtain ⟨h1, hc⟩ := CF f args' _ _ _ e _ w args' (VRL.plain hp) (HR_start (HR_globals H))
 refine ⟨h1, hc.mono fun en w' hpost => ?_⟩
 cases en with
 | returned v' =>
  obtain ⟨u, σ', hr, _, H', hu⟩ := hpost
  injection hr with hr
  subst hr
  have ev := VR_plain hv hu
  subst ev
  exact ⟨v', σ, rfl, Sg.le.refl σ, HR_below H H'.below, VR.of_plain hv⟩
 | panicked chain =>
  obtain ⟨u, v', σ', hr, _⟩ := hpost
  cases hr
 | outgrown => exact hpost.elim
end Go.Proofs.YteekjekckgpbfaaDoor.Abs
end
