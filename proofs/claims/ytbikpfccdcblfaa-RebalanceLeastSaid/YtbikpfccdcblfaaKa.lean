/- The engine, part 1: an abstract heap, and what a Go function's code asks of a continuation over it (predicate transformers). Definitions alone. -/
import Derived.Calls
import Derived.Orders
import Derived.Below
import Derived.Deep.AppendSrc
import Derived.Deep.Upon
import Derived.Laws.AppendOwn
import Derived.Laws.MakeOwn
import Derived.ProofKit
import Derived.Laws.StructEq
import Derived.Laws.Pointers
import Derived.Lib.Strings
import Derived.Lib.ConvBytes
import Derived.Laws.BytesArg
import Derived.Laws.Tables
import Derived.Great.BuildSlice
import Derived.DeepKeys3
namespace Go.Proofs.Ytbikpfccdcblfaa.Eng
open Go

/-- A guard that vanishes where its Bool is a literal. -/
def gd (b : Bool) (p : Prop) : Prop := match b with | true => p | false => False
def optP {α : Type} (o : Option α) (f : α → Prop) : Prop := match o with | some x => f x | none => False

inductive AObj where
  | cells (own : Bool) (e : TypeId) (cs : List Value)
  | map (kt : TypeId) (es : List (Value × Value))

structure Hp where
  obj : Nat → Option AObj
  next : Nat

namespace Hp
def cell (H : Hp) (b o : Nat) : Option Value := match H.obj b with | some (.cells _ _ cs) => cs[o]? | _ => none
def put (H : Hp) (b : Nat) (o : Option AObj) : Hp := ⟨fun i => if i = b then o else H.obj i, H.next⟩
def new (H : Hp) (o : AObj) : Hp := ⟨fun i => if i = H.next then some o else H.obj i, H.next + 1⟩
/-- The cells of a block that may be read: whatever block. -/
def row (H : Hp) (b : Nat) : List Value := match H.obj b with | some (.cells _ _ cs) => cs | _ => []
/-- n cells from o on lie in block b. -/
def has (H : Hp) (b o n : Nat) : Prop := n = 0 ∨ ∃ w e cs, H.obj b = some (.cells w e cs) ∧ o + n ≤ cs.length
/-- .. and may be written. -/
def may (H : Hp) (b o n : Nat) : Prop := ∃ e cs, H.obj b = some (.cells true e cs) ∧ o + n ≤ cs.length
/-- block b is a row of elements e of the call's own, with n cells from o on. -/
def own (H : Hp) (b : Nat) (e : TypeId) (o n : Nat) : Prop := ∃ cs, H.obj b = some (.cells true e cs) ∧ o + n ≤ cs.length
def take (H : Hp) (b o n : Nat) : List Value := ((H.row b).drop o).take n
end Hp

def setL (cs : List Value) (o : Nat) : List Value → List Value
  | [] => cs
  | v :: vs => setL (cs.set o v) (o + 1) vs
def Hp.store (H : Hp) (b o : Nat) (vs : List Value) : Hp :=
  match H.obj b with
  | some (.cells w e cs) => H.put b (some (.cells w e (setL cs o vs)))
  | _ => H

/-! environments -/
abbrev Env := List (Nat × Value)
def look (t : Nat) : Env → Option Value
  | [] => none
  | (u, v) :: r => cond (Nat.beq t u) (some v) (look t r)
def forget (live : List Nat) (σ : Env) : Env := live.filterMap fun t => (look t σ).map fun v => (t, v)

def oneCell : Value → Bool
  | .agg _ | .tuple _ => false
  | _ => true
def plainV : Value → Bool
  | .bool _ | .int .. | .float .. | .complex .. | .string _ | .pointer none | .slice none 0 0 | .map none | .nilFunc | .nilIface => true
  | _ => false
/-- A literal that holds no address. -/
def constOK : Value → Bool
  | .agg cs => cs.toList.all plainV
  | v => plainV v
/-- G: how many package-level variables have a place in the heap. -/
def arg (G : Nat) (σ : Env) : Operand → Option Value
  | .tmp t => look t σ
  | .const v => match constOK v with | true => some v | false => none
  | .global g => match Nat.ble (g + 1) G with | true => some (.pointer (some ⟨g, 0, none⟩)) | false => none
  | .func f => some (.func (.func f) #[] #[])
def argsL (E : Operand → Option Value) : List Operand → Option (List Value)
  | [] => some []
  | x :: xs => match E x with
    | none => none
    | some v => match argsL E xs with
      | none => none
      | some vs => some (v :: vs)

def semPure {α : Type} : Sem α → Option α
  | .pure a => some a
  | _ => none

/-! values looked into -/
def ptrOf : Value → Option Addr
  | .pointer p => p
  | _ => none
def isFun : Value → Bool
  | .func (.func _) _ _ => true
  | _ => false

/-! reading -/
/-- One cell, of the kind that the zero value z shows. -/
def getK (H : Hp) (b o : Nat) (z : Value) (K : Value → Prop) : Prop :=
  match z with
  | .int k _ => ∃ n : Int, H.cell b o = some (.int k n) ∧ K (.int k n)
  | .bool _ => ∃ x : Bool, H.cell b o = some (.bool x) ∧ K (.bool x)
  | .string _ => ∃ s : ByteArray, H.cell b o = some (.string s) ∧ K (.string s)
  | .pointer _ => ∃ p : Option Addr, H.cell b o = some (.pointer p) ∧ K (.pointer p)
  | .slice _ _ _ => ∃ (a : Option Addr) (n k : Nat), H.cell b o = some (.slice a n k) ∧ K (.slice a n k)
  | .map _ => ∃ m : Option Nat, H.cell b o = some (.map m) ∧ K (.map m)
  | _ => ∃ v : Value, H.cell b o = some v ∧ oneCell v = true ∧ K v
def getsK (H : Hp) (b : Nat) : Nat → List Value → (List Value → Prop) → Prop
  | _, [], K => K []
  | o, z :: zs, K => getK H b o z fun v => getsK H b (o + 1) zs fun vs => K (v :: vs)
/-- Is a variable of the type one value of several cells? -/
def aggTy (P : Program) (t : TypeId) : Bool :=
  match P.underlying t with
  | some (.struct _) | some (.array _ _) => true
  | _ => false
def zeroOf (P : Program) (t : TypeId) : Option Value :=
  match P.info? t with
  | none => none
  | some i => match i.zero with
    | none => none
    | some z => match constOK z with
      | true => some z
      | false => none
def loadK (P : Program) (H : Hp) (b o : Nat) (t : TypeId) (K : Value → Prop) : Prop :=
  match P.info? t with
  | none => False
  | some i => match P.underlying t, i.zero with
    | none, _ => False
    | _, none => False
    | some _, some z => match aggTy P t with
      | true => match Nat.beq z.cells.size i.size with
        | true => getsK H b o z.cells.toList fun vs => K (.agg ⟨vs⟩)
        | false => False
      | false => getK H b o z K
def allOne : List Value → Prop → Prop
  | [], p => p
  | v :: vs, p => gd (oneCell v) (allOne vs p)
def storeK (P : Program) (H : Hp) (b o : Nat) (t : TypeId) (v : Value) (K : Hp → Prop) : Prop :=
  match P.info? t with
  | none => False
  | some i => gd (Nat.beq v.cells.size i.size) (allOne v.cells.toList (H.may b o v.cells.size ∧ K (H.store b o v.cells.toList)))

/-! comparisons -/
/-- Held against nil. -/
def nilEq {α : Type} (a b : Option α) : Option Bool :=
  match b with
  | none => some a.isNone
  | some _ => match a with
    | none => some false
    | some _ => none
/-- Is an interface value nil? -/
def ifaceNil : Value → Option Bool
  | .nilIface => some true
  | .iface _ _ => some false
  | _ => none
def isConst : Operand → Bool
  | .const .nilIface => true
  | _ => false
/-- The comparison '==' at a type, where it is decided by plain data: 'none' where the engine does not say. -/
def eqV (P : Program) : Nat → TypeId → Value → Value → Option Bool
  | 0, _, _, _ => none
  | d + 1, t, x, y =>
    match P.underlying t, x, y with
    | some .bool, .bool a, .bool b => some (decide (a = b))
    | some (.int _), .int k a, .int k' b => match decide (k = k') with | true => some (decide (a = b)) | false => none
    | some .string, .string a, .string b => some (decide (a = b))
    | some (.pointer _), .pointer a, .pointer b => nilEq a b
    | some (.slice _), .slice a _ _, .slice b _ _ => nilEq a b
    | some (.map _ _), .map a, .map b => nilEq a b
    | some (.func _ _ _), .nilFunc, .nilFunc => some true
    | some (.func _ _ _), .nilFunc, .func _ _ _ => some false
    | some (.func _ _ _), .func _ _ _, .nilFunc => some false
    | some (.struct fs), .agg xs, .agg ys => match P.stoodInHeld t with
      | true => none
      | false => eqFields P d xs.toList ys.toList fs.toList
    | _, _, _ => none
  where
  /-- the fields, one after the other (each of one cell, none blank) -/
  eqFields (P : Program) (d : Nat) (xs ys : List Value) : List Field → Option Bool
    | [] => some true
    | f :: fs => match decide (f.name ≠ "_"), aggTy P f.type, xs[f.offset]?, ys[f.offset]? with
      | true, false, some x, some y => match eqV P d f.type x y, eqFields P d xs ys fs with
        | some r, some q => some (r && q)
        | _, _ => none
      | _, _, _, _ => none

/-- A shift. -/
def shiftI (op : BinOp) (k : IntKind) (m n : Int) : Int :=
  match op with
  | .shl => k.wrap (m * 2 ^ (min n.toNat k.bits))
  | _ => m.fdiv (2 ^ (min n.toNat k.bits))
/-- A comparison or a sum of two values. -/
def binK (P : Program) (op : BinOp) (t : TypeId) (a b : Value) (K : Value → Prop) : Prop :=
  match op, a, b with
  | .shl, .int k m, .int _ n | .shr, .int k m, .int _ n => gd (!decide (n < 0)) (K (.int k (shiftI op k m n)))
  | _, .int k m, .int k' n => match decide (k = k') with
    | false => False
    | true => match op with
      | .add | .sub | .mul => optP (semPure (Op.intArith op k m n)) K
      | .quo => gd (!decide (n = 0)) (K (.int k (k.wrap (m.tdiv n))))
      | .rem => gd (!decide (n = 0)) (K (.int k (m.tmod n)))
      | .and | .or | .xor | .andNot => optP (semPure (Op.intBits op k m n)) K
      | .eql => K (.bool (decide (m = n)))
      | .neq => K (.bool (!decide (m = n)))
      | .lss => K (.bool (decide (m < n)))
      | .leq => K (.bool (decide (m ≤ n)))
      | .gtr => K (.bool (decide (n < m)))
      | .geq => K (.bool (decide (n ≤ m)))
      | _ => False
  | .add, .string m, .string n => gd (decide (m.size + n.size ≤ 9223372036854775807)) (K (.string (m ++ n)))
  | .eql, .string m, .string n => K (.bool (decide (m = n)))
  | .neq, .string m, .string n => K (.bool (!decide (m = n)))
  | .lss, .string m, .string n => K (.bool (Op.bytesLess m.data.toList n.data.toList))
  | .gtr, .string m, .string n => K (.bool (Op.bytesLess n.data.toList m.data.toList))
  | .leq, .string m, .string n => K (.bool (!Op.bytesLess n.data.toList m.data.toList))
  | .geq, .string m, .string n => K (.bool (!Op.bytesLess m.data.toList n.data.toList))
  | .eql, a, b => match eqSafe P a b t with | true => optP (eqV P 5 t a b) fun r => K (.bool r) | false => False
  | .neq, a, b => match eqSafe P a b t with | true => optP (eqV P 5 t a b) fun r => K (.bool (!r)) | false => False
  | _, _, _ => False
  where
  /-- structs: none with an interface inside -/
  eqSafe (P : Program) (a b : Value) (t : TypeId) : Bool := match a, b with
    | .agg _, .agg _ => !P.eqGuardType P.depth t
    | .nilIface, .nilIface => false
    | _, _ => true
/-- An interface value held against the literal nil. -/
def ifaceK (op : BinOp) (x y : Operand) (a b : Value) (K : Value → Prop) : Prop :=
  match op with
  | .eql => match isConst y with
    | true => optP (ifaceNil a) fun r => K (.bool r)
    | false => gd (isConst x) (optP (ifaceNil b) fun r => K (.bool r))
  | .neq => match isConst y with
    | true => optP (ifaceNil a) fun r => K (.bool (!r))
    | false => gd (isConst x) (optP (ifaceNil b) fun r => K (.bool (!r)))
  | _ => False
def isIface (P : Program) (t : TypeId) : Bool := match P.underlying t with | some (.interface _) => true | _ => false
/-- An operation of two operands. -/
def binopK (P : Program) (op : BinOp) (t : TypeId) (x y : Operand) (a b : Value) (K : Value → Prop) : Prop :=
  match isIface P t with
  | true => ifaceK op x y a b K
  | false => binK P op t a b K

/-! maps -/
def scalarTy (P : Program) (t : TypeId) (v : Value) : Bool :=
  match P.underlying t, v with
  | some (.int k), .int k' _ => decide (k = k')
  | some .string, .string _ => true
  | some .bool, .bool _ => true
  | _, _ => false
def fieldsKey (P : Program) : Nat → List Field → List Value → Bool
  | _, [], [] => true
  | i, f :: fs, v :: vs => decide (f.name ≠ "_") && (Nat.beq f.offset i && (!aggTy P f.type && (scalarTy P f.type v && fieldsKey P (i + 1) fs vs)))
  | _, _, _ => false
/-- Is it a key of the type: an integer, a string, a bool, a struct of such? -/
def keyTy (P : Program) (t : TypeId) (v : Value) : Bool :=
  match v with
  | .agg cs => match P.underlying t with
    | some (.struct fs) => !P.stoodInHeld t && fieldsKey P 0 fs.toList cs.toList
    | _ => false
  | v => scalarTy P t v
def keyEq (P : Program) (t : TypeId) (x y : Value) : Bool := (eqV P 5 t x y).getD false
/-- The first place of a key. -/
def midx (P : Program) (t : TypeId) (k : Value) : List (Value × Value) → Option Nat
  | [] => none
  | (k', _) :: es => cond (keyEq P t k k') (some 0) ((midx P t k es).map (· + 1))
def mfind (P : Program) (t : TypeId) (k : Value) (es : List (Value × Value)) : Option Value :=
  match midx P t k es with
  | some i => (es[i]?).map (·.2)
  | none => none
def mset (P : Program) (t : TypeId) (k v : Value) (es : List (Value × Value)) : List (Value × Value) :=
  match midx P t k es with
  | some i => es.set i (k, v)
  | none => es ++ [(k, v)]
def mdel (P : Program) (t : TypeId) (k : Value) (es : List (Value × Value)) : List (Value × Value) :=
  match midx P t k es with
  | some i => es.eraseIdx i
  | none => es
def Hp.isMap (H : Hp) (m : Nat) (kt : TypeId) (es : List (Value × Value)) : Prop := H.obj m = some (.map kt es)
/-- A value that came out of a map, seen as the zero value z shows. -/
def seenK (z v : Value) (K : Value → Prop) : Prop :=
  match z with
  | .int k _ => ∃ n : Int, v = .int k n ∧ K (.int k n)
  | .bool _ => ∃ x : Bool, v = .bool x ∧ K (.bool x)
  | .string _ => ∃ s : ByteArray, v = .string s ∧ K (.string s)
  | .pointer _ => ∃ p : Option Addr, v = .pointer p ∧ K (.pointer p)
  | .slice _ _ _ => ∃ (a : Option Addr) (n k : Nat), v = .slice a n k ∧ K (.slice a n k)
  | .map _ => ∃ m : Option Nat, v = .map m ∧ K (.map m)
  | _ => K v
def lookupK (P : Program) (t : TypeId) (m k : Value) (ok : Bool) (H : Hp) (K : Value → Prop) : Prop :=
  match P.underlying t with
  | some (.map kt et) => gd (keyTy P kt k) <| match zeroOf P et with
    | none => False
    | some z => match m with
      | .map none => K (match ok with | true => .tuple #[z, .bool false] | false => z)
      | .map (some r) => ∃ es, H.isMap r kt es ∧ match mfind P kt k es with
        | some v => seenK z v fun v => K (match ok with | true => .tuple #[v, .bool true] | false => v)
        | none => K (match ok with | true => .tuple #[z, .bool false] | false => z)
      | _ => False
  | _ => False
def updateK (P : Program) (t : TypeId) (m k v : Value) (H : Hp) (K : Hp → Prop) : Prop :=
  match P.underlying t with
  | some (.map kt _) => gd (keyTy P kt k) <| match m with
    | .map m => optP m fun r => ∃ es, H.isMap r kt es ∧ K (H.put r (some (.map kt (mset P kt k v es))))
    | _ => False
  | _ => False
def deleteK (P : Program) (t : TypeId) (m k : Value) (H : Hp) (K : Hp → Prop) : Prop :=
  match P.underlying t with
  | some (.map kt _) => gd (keyTy P kt k) <| match m with
    | .map none => K H
    | .map (some r) => ∃ es, H.isMap r kt es ∧ K (H.put r (some (.map kt (mdel P kt k es))))
    | _ => False
  | _ => False

/-! slices -/
def byteAt (s : ByteArray) (i : Nat) : Int := ((s.data.toList.getD i 0).toNat : Int)
def bytesV (s : ByteArray) : List Value := s.data.toList.map fun b => .int .u8 b.toNat
def byteOfV : Value → UInt8
  | .int _ n => UInt8.ofNat n.toNat
  | _ => 0
def strOf (vs : List Value) : ByteArray := ⟨(vs.map byteOfV).toArray⟩
def isByte : Value → Bool
  | .int .u8 n => decide (0 ≤ n) && decide (n < 256)
  | _ => false
def szOf (P : Program) (t : TypeId) : Nat := match P.info? t with | some i => i.size | none => 0
def bytesOf (P : Program) (t : TypeId) : Nat := match P.info? t with | some i => i.bytes | none => 0
def zerosN (z : Value) (n : Nat) : List Value := (List.replicate n z.cells.toList).flatten
/-- 2^47 -/
def room : Nat := 140737488355328

/-- The cells of n elements (of sz cells) that a slice or a string shows. -/
def srcK (sz : Nat) (x : Value) (H : Hp) (K : Nat → List Value → Prop) : Prop :=
  match x with
  | .slice a n _ => match a with
    | none => K 0 []
    | some a => H.has a.block a.off (n * sz) ∧ K n (H.take a.block a.off (n * sz))
  | .string s => K s.size (bytesV s)
  | _ => False
/-- Does the source fit its type? -/
def srcTy (d : TypeDesc) (sz : Nat) (x : Value) : Bool :=
  match d, x with
  | .slice _, .slice _ _ _ => true
  | .string, .string _ => Nat.beq sz 1
  | _, _ => false
def zeroFits (P : Program) (e : TypeId) : Bool :=
  match P.info? e, zeroOf P e with
  | some i, some z => Nat.beq z.cells.size i.size
  | _, _ => false
def appendK (P : Program) (t t2 : TypeId) (s x : Value) (H : Hp) (K : Value → Hp → Prop) : Prop :=
  match P.underlying t, P.underlying t2 with
  | some (.slice e), some d2 => match P.info? e with
    | none => False
    | some i => gd (srcTy d2 i.size x) <| gd (Nat.ble 1 i.bytes && zeroFits P e) <| match s with
      | .slice a n k => match a with
        | none => srcK i.size x H fun m new => match Nat.beq m 0 with
          | true => K (.slice none 0 0) H
          | false => gd (decide (m * i.bytes ≤ room)) (K (.slice (some ⟨H.next, 0, none⟩) m i.size) (H.new (.cells true e new)))
        | some a => gd (Nat.beq k i.size && Nat.ble 1 k) <| H.own a.block e a.off (n * i.size) ∧ srcK i.size x H fun m new =>
          gd (decide ((n + m) * i.bytes ≤ room)) (K (.slice (some ⟨H.next, 0, none⟩) (n + m) i.size) ((H.put a.block none).new (.cells true e (H.take a.block a.off (n * i.size) ++ new))))
      | _ => False
  | _, _ => False
def copyK (P : Program) (t t2 : TypeId) (d s : Value) (H : Hp) (K : Value → Hp → Prop) : Prop :=
  match P.underlying t with
  | some (.slice e) => match P.info? e, P.underlying t2 with
    | none, _ => False
    | _, none => False
    | some i, some d2 => gd (srcTy d2 i.size s) <| match d with
      | .slice a n _ => match a with
        | some a => srcK i.size s H fun m new => H.may a.block a.off (min m n * i.size) ∧ K (.int .i64 (min m n : Nat)) (H.store a.block a.off (new.take (min m n * i.size)))
        | none => K (.int .i64 0) H
      | _ => False
  | _ => False
def makeSliceK (P : Program) (t : TypeId) (l c : Value) (H : Hp) (K : Value → Hp → Prop) : Prop :=
  match P.underlying t, l, c with
  | some (.slice e), .int .i64 n, .int .i64 m => match P.info? e with
    | none => False
    | some i => match zeroOf P e with
      | none => False
      | some z => gd (decide (0 ≤ n) && decide (n ≤ m) && decide (m * (i.bytes : Int) ≤ room) && decide (m ≤ room)) <| gd (Nat.beq z.cells.size i.size) <|
        K (.slice (some ⟨H.next, 0, none⟩) n.toNat i.size) (H.new (.cells true e (zerosN z n.toNat)))
  | _, _, _ => False
/-- an optional bound -/
def boundK (E : Operand → Option Value) (o : Option Operand) (d : Int) (K : Int → Prop) : Prop :=
  match o with
  | none => K d
  | some x => match E x with
    | some (.int _ n) => K n
    | _ => False
def sliceK (P : Program) (E : Operand → Option Value) (t : TypeId) (x : Value) (lo hi : Option Operand) (K : Value → Prop) : Prop :=
  match P.underlying t, x with
  | some .string, .string s => boundK E lo 0 fun l => boundK E hi (s.size : Int) fun h =>
      gd (decide (0 ≤ l) && decide (l ≤ h) && decide (h ≤ (s.size : Int))) (K (.string (s.extract l.toNat h.toNat)))
  | some (.slice e), .slice a n k => match P.info? e with
    | none => False
    | some i => boundK E lo 0 fun l => boundK E hi (n : Int) fun h =>
      gd (decide (0 ≤ l) && decide (l ≤ h) && decide (h ≤ (n : Int))) (match a with
        | none => K (.slice none 0 0)
        | some ad => K (.slice (some ⟨ad.block, ad.off + l.toNat * i.size, none⟩) (h - l).toNat (cond (Nat.beq k i.size) i.size 0)))
  | some (.array n e), .pointer p => optP p fun ad => match P.info? e with
    | none => False
    | some i => boundK E lo 0 fun l => boundK E hi (n : Int) fun h =>
      gd (decide (0 ≤ l) && decide (l ≤ h) && decide (h ≤ (n : Int))) (K (.slice (some ⟨ad.block, ad.off + l.toNat * i.size, none⟩) (h - l).toNat 0))
  | _, _ => False

/-! places -/
def partK (P : Program) (t : TypeId) (cs : List Value) (off : Nat) (K : Value → Prop) : Prop :=
  match P.info? t, P.underlying t with
  | some i, some _ => match aggTy P t with
    | true => K (.agg ⟨(cs.drop off).take i.size⟩)
    | false => optP cs[off]? K
  | _, _ => False
def fieldOf (P : Program) (t : TypeId) (f : Nat) : Option Field := match P.underlying t with | some (.struct fs) => fs.toList[f]? | _ => none
def fieldAddrK (P : Program) (t : TypeId) (f : Nat) (x : Value) (K : Value → Prop) : Prop :=
  match fieldOf P t f, x with
  | some fd, .pointer p => optP p fun a => gd (!Nat.beq (szOf P fd.type) 0) (K (.pointer (some ⟨a.block, a.off + fd.offset, none⟩)))
  | _, _ => False
def indexAddrK (P : Program) (t : TypeId) (x ix : Value) (K : Value → Prop) : Prop :=
  match ix with
  | .int _ j => match P.underlying t, x with
    | some (.array n e), .pointer p => match P.info? e with
      | none => False
      | some i => optP p fun a => gd (decide (0 ≤ j) && decide (j < (n : Int))) (K (.pointer (some ⟨a.block, a.off + j.toNat * i.size, none⟩)))
    | some (.slice e), .slice a n _ => match P.info? e with
      | none => False
      | some i => optP a fun a => gd (decide (0 ≤ j) && decide (j < (n : Int))) (K (.pointer (some ⟨a.block, a.off + j.toNat * i.size, none⟩)))
    | _, _ => False
  | _ => False
def indexK (P : Program) (t : TypeId) (x ix : Value) (K : Value → Prop) : Prop :=
  match ix with
  | .int _ j => match P.underlying t, x with
    | some (.array n e), .agg cs => match P.info? e with
      | none => False
      | some i => gd (decide (0 ≤ j) && decide (j < (n : Int))) (partK P e cs.toList (j.toNat * i.size) K)
    | some .string, .string s => gd (decide (0 ≤ j) && decide (j < (s.size : Int))) (K (.int .u8 (byteAt s j.toNat)))
    | _, _ => False
  | _ => False

/-- Where a part of a struct or of an array lies. -/
def placesL (P : Program) : List Field → Option (List (Nat × Nat))
  | [] => some []
  | f :: fs => match P.info? f.type, placesL P fs with
    | some i, some r => some ((f.offset, i.size) :: r)
    | _, _ => none
def places (P : Program) (t : TypeId) : Option (Nat → Option (Nat × Nat)) :=
  match P.underlying t with
  | some (.struct fs) => match placesL P fs.toList with
    | some l => some fun i => l[i]?
    | none => none
  | some (.array _ e) => match P.info? e with
    | some i => some fun j => some (j * i.size, i.size)
    | none => none
  | _ => none
def fillL (place : Nat → Option (Nat × Nat)) (cells : List Value) : List (Nat × Value) → Option (List Value)
  | [] => some cells
  | (i, v) :: rest => match place i with
    | none => none
    | some (off, size) => match Nat.beq v.cells.size size && Nat.ble (off + v.cells.size) cells.length with
      | true => fillL place (setL cells off v.cells.toList) rest
      | false => none
def partsL (E : Operand → Option Value) : List (Nat × Operand) → Option (List (Nat × Value))
  | [] => some []
  | (i, x) :: r => match E x with
    | none => none
    | some v => match partsL E r with
      | none => none
      | some vs => some ((i, v) :: vs)

def convertK (P : Program) (src dst : TypeId) (x : Value) (H : Hp) (K : Value → Hp → Prop) : Prop :=
  match P.underlying src, P.underlying dst, x with
  | some _, some (.int k), .int _ n => K (.int k (k.wrap n)) H
  | some _, some .string, .string s => K (.string s) H
  | some _, some (.slice e), .string s => match P.underlying e with
    | some (.int .u8) => gd (Nat.beq (szOf P e) 1 && decide (s.size ≤ room)) (K (.slice (some ⟨H.next, 0, none⟩) s.size 1) (H.new (.cells true e (bytesV s))))
    | _ => False
  | some (.slice e), some .string, .slice a n _ => match P.underlying e with
    | some (.int .u8) => match a with
      | none => K (.string ⟨#[]⟩) H
      | some ad => H.has ad.block ad.off n ∧ (H.take ad.block ad.off n).all isByte = true ∧ K (.string (strOf (H.take ad.block ad.off n))) H
    | _ => False
  | _, _, _ => False
end Go.Proofs.Ytbikpfccdcblfaa.Eng
/- The engine, part 2: operations, regions, code: what they ask of a continuation. Definitions alone. -/
namespace Go.Proofs.Ytbikpfccdcblfaa.Eng
open Go

/-- What is known of a function: what a call asks of its continuation. quiet: it leaves the heap alone. -/
structure Sp where
  quiet : Bool
  run : List Value → Hp → (Value → Hp → Prop) → Prop
  /-- what lies there stays as it is -/
  keep : Bool

inductive Ex where
  | normal
  | exit (id : Nat)
  | ret

abbrev Frag := Env → Hp → (Ex → Env → Hp → Prop) → Prop

structure Cfg where
  P : Program
  G : Nat
  T : FuncId → Option Sp
  loops : Nat → Option Frag
  joins : Nat → Option Frag
  /-- what is kept: at a fragment's first region; at an exit; at a return; at a joined fragment's end -/
  cut : Nat → Option (List Nat)
  cutX : Nat → Option (List Nat)
  cutR : Option (List Nat)
  cutN : Nat → Option (List Nat)
  /-- the order in which a region is walked, where it is not that of the text -/
  perm : Nat → Option (List Nat)

def big : Nat := 18446744073709551616

def lenK (P : Program) (t : TypeId) (x : Value) (H : Hp) (K : Value → Prop) : Prop :=
  match P.underlying t, x with
  | some .string, .string s => K (.int .i64 (s.size : Nat))
  | some (.array n _), _ => K (.int .i64 (n : Nat))
  | some (.slice _), .slice _ n _ => K (.int .i64 (n : Nat))
  | some (.map _ _), .map none => K (.int .i64 0)
  | some (.map _ _), .map (some r) => ∃ kt es, H.isMap r kt es ∧ K (.int .i64 (es.length : Nat))
  | _, _ => False
def maxK (big' : Bool) (K : Value → Prop) : List Value → Prop
  | [.int k x, .int _ y] => K (.int k (match big' with | true => max x y | false => min x y))
  | _ => False

def builtinK (P : Program) (b : Builtin) (ts : List TypeId) (vs : List Value) (H : Hp) (K : Value → Hp → Prop) : Prop :=
  match b, ts, vs with
  | .len, [t], [x] => lenK P t x H fun v => K v H
  | .append, [t, t2], [s, x] => appendK P t t2 s x H K
  | .copy, [t, t2], [d, s] => copyK P t t2 d s H K
  | .max, _, vs => maxK true (fun v => K v H) vs
  | .min, _, vs => maxK false (fun v => K v H) vs
  | .delete, [t, _], [m, k] => deleteK P t m k H (K (.tuple #[]))
  | _, _, _ => False

/-- A call of what is known by its text alone: whatever it does. -/
def callS (o : Option Sp) (vs : List Value) (H : Hp) (K : Value → Hp → Prop) : Prop :=
  match o with
  | some sp => sp.run vs H K
  | none => False
/-- A call. -/
def callK (o : Option Sp) (draw : Bool) (vs : List Value) (H : Hp) (K : Value → Hp → Prop) : Prop :=
  match o with
  | some sp => gd (!draw || sp.quiet) (sp.run vs H K)
  | none => False
/-- One operation. draw: its region draws its order: then only calls that leave the heap alone are let through a value. -/
def opK (c : Cfg) (draw : Bool) (op : Op) (E : Operand → Option Value) (H : Hp) (K : Value → Hp → Prop) : Prop :=
  match op with
  | .move x | .assign x => optP (E x) fun v => K v H
  | .pick t a b => match E t with
    | some (.bool true) => optP (E a) fun v => K v H
    | some (.bool false) => optP (E b) fun v => K v H
    | _ => False
  | .alloc e => optP (zeroOf c.P e) fun z => K (.pointer (some ⟨H.next, 0, none⟩)) (H.new (.cells true e z.cells.toList))
  | .box e x => optP (E x) fun v => allOne v.cells.toList (K (.pointer (some ⟨H.next, 0, none⟩)) (H.new (.cells true e v.cells.toList)))
  | .build t ps => optP (partsL E ps.toList) fun vs => optP (zeroOf c.P t) fun z => optP (places c.P t) fun pl =>
      optP (fillL pl z.cells.toList vs) fun cs => K (.agg ⟨cs⟩) H
  | .buildSlice t n ps => optP (partsL E ps.toList) fun vs => match c.P.underlying t with
    | some (.slice e) => optP (zeroOf c.P e) fun z => gd (Nat.beq z.cells.size (szOf c.P e)) <| gd (Nat.ble (n * szOf c.P e) 16777216) <|
        optP (fillL (fun i => some (i * szOf c.P e, szOf c.P e)) (zerosN z n) vs) fun cs =>
          allOne cs <| K (.slice (some ⟨H.next, 0, none⟩) n (szOf c.P e)) (H.new (.cells true e cs))
    | _ => False
  | .load t a => optP (E a) fun pv => optP (ptrOf pv) fun ad => loadK c.P H ad.block ad.off t fun v => K v H
  | .store t a x => optP (E a) fun pv => optP (ptrOf pv) fun ad => optP (E x) fun v => storeK c.P H ad.block ad.off t v (K undef)
  | .nilCheck x => optP (E x) fun v => match isFun v with
    | true => K v H
    | false => optP (ptrOf v) fun ad => K (.pointer (some ad)) H
  | .binOp op t x y _ => optP (E x) fun a => optP (E y) fun b => binopK c.P op t x y a b fun v => K v H
  | .unOp op _ x => match op, E x with
    | .neg, some (.int k n) => K (.int k (k.wrap (0 - n))) H
    | .xor, some (.int k n) => optP (semPure (Op.intBits .xor k (match k.signed with | true => -1 | false => k.max) n)) fun v => K v H
    | .not, some (.bool b) => K (.bool (!b)) H
    | _, _ => False
  | .convert s d x => optP (E x) fun v => convertK c.P s d v H K
  | .makeInterface t x => optP (E x) fun v => optP (c.P.underlying t) fun _ => gd (!isIface c.P t) (K (.iface t v) H)
  | .makeFunc fn xs ys => optP (argsL E xs.toList) fun a => optP (argsL E ys.toList) fun b => K (.func fn ⟨a⟩ ⟨b⟩) H
  | .makeMap t r => match c.P.underlying t, r with
    | some (.map kt _), none => K (.map (some H.next)) (H.new (.map kt []))
    | some (.map kt _), some x => match E x with
      | some (.int _ _) => K (.map (some H.next)) (H.new (.map kt []))
      | _ => False
    | _, _ => False
  | .makeSlice t l m => optP (E l) fun a => optP (E m) fun b => makeSliceK c.P t a b H K
  | .slice t x lo hi mx => match mx with
    | none => optP (E x) fun v => sliceK c.P E t v lo hi fun v => K v H
    | some _ => False
  | .fieldAddr t x f => optP (E x) fun v => fieldAddrK c.P t f v fun v => K v H
  | .field t x f => match E x, fieldOf c.P t f with
    | some (.agg cs), some fd => partK c.P fd.type cs.toList fd.offset fun v => K v H
    | _, _ => False
  | .indexAddr t x i => optP (E x) fun v => optP (E i) fun j => indexAddrK c.P t v j fun v => K v H
  | .index t x i => optP (E x) fun v => optP (E i) fun j => indexK c.P t v j fun v => K v H
  | .lookup t m k ok => optP (E m) fun m => optP (E k) fun k => lookupK c.P t m k ok H fun v => K v H
  | .mapUpdate t m k v | .insert t m k v => optP (E m) fun m => optP (E k) fun k => optP (E v) fun v => updateK c.P t m k v H (K undef)
  | .extract x i => match E x with
    | some (.tuple vs) => optP (vs.toList[i]?) fun v => K v H
    | _ => False
  | .call ⟨.builtin b, xs, ts⟩ => optP (argsL E xs.toList) fun vs => builtinK c.P b ts.toList vs H K
  | .call ⟨.value f, xs, _⟩ => optP (argsL E xs.toList) fun vs => match f with
    | .func k => callS (c.T k) vs H K
    | f => match E f with
      | some (.func (.func k) a b) => callK (c.T k) draw (a.toList ++ vs ++ b.toList) H K
      | _ => False
  | _ => False

/-- The slot of an operation's guard, and what is wanted there. -/
def gslot (ops : Array Oper) (o : Oper) : Option (Option (Nat × Bool)) :=
  match o.guard with
  | none => some none
  | some (j, want) => match ops[j]? with
    | none => none
    | some g => match g.dst with
      | none => none
      | some d => some (some (d, want))
def putE (n : Nat) (dst : Option Tmp) (v : Value) (σ : Env) (K : Env → Prop) : Prop :=
  match dst with
  | none => K σ
  | some d => gd (Nat.ble (d + 1) n) (K ((d, v) :: σ))
def operK (c : Cfg) (n : Nat) (draw : Bool) (ops : Array Oper) (o : Oper) (σ : Env) (H : Hp) (K : Env → Hp → Prop) : Prop :=
  match gslot ops o with
  | none => False
  | some none => opK c draw o.op (arg c.G σ) H fun v H => putE n o.dst v σ fun σ => K σ H
  | some (some (d, want)) => match look d σ with
    | some (.bool true) => match want with
      | true => opK c draw o.op (arg c.G ((d, .bool true) :: σ)) H fun v H => putE n o.dst v ((d, .bool true) :: σ) fun σ => K σ H
      | false => putE n o.dst undef ((d, .bool true) :: σ) fun σ => K σ H
    | some (.bool false) => match want with
      | true => putE n o.dst undef ((d, .bool false) :: σ) fun σ => K σ H
      | false => opK c draw o.op (arg c.G ((d, .bool false) :: σ)) H fun v H => putE n o.dst v ((d, .bool false) :: σ) fun σ => K σ H
    | some (.tuple _) => putE n o.dst undef σ fun σ => K σ H
    | _ => False
def lineOf (p : Option (List Nat)) (ops : Array Oper) : List Oper := match p with | none => ops.toList | some l => l.filterMap fun i => ops[i]?
def opersK (c : Cfg) (n : Nat) (draw : Bool) (ops : Array Oper) : List Oper → Env → Hp → (Env → Hp → Prop) → Prop
  | [], σ, H, K => K σ H
  | o :: os, σ, H, K => operK c n draw ops o σ H fun σ H => opersK c n draw ops os σ H K

def firstR : Code → Option Nat
  | .region i _ _ => some i
  | .seq a _ => firstR a
  | .block _ b => firstR b
  | .loop b => firstR b
  | .scope b => firstR b
  | _ => none
def cutAt (c : Cfg) (b : Code) (σ : Env) : Env :=
  match firstR b with
  | none => σ
  | some i => match c.cut i with
    | none => σ
    | some l => forget l σ
def tableAt (t : Nat → Option Frag) (b : Code) : Option Frag :=
  match firstR b with
  | none => none
  | some i => t i

def forgetO (l : Option (List Nat)) (σ : Env) : Env := match l with | some l => forget l σ | none => σ
def cutEnd (c : Cfg) (b : Code) (σ : Env) : Env :=
  match firstR b with
  | none => σ
  | some i => forgetO (c.cutN i) σ
/-- A fragment whose end forgets. -/
def endsK (c : Cfg) (b : Code) (K : Ex → Env → Hp → Prop) : Ex → Env → Hp → Prop
  | .normal, σ, H => K .normal (cutEnd c b σ) H
  | .exit i, σ, H => K (.exit i) σ H
  | .ret, σ, H => K .ret σ H

/-- What stands behind one round. -/
def roundK (rec : Env → Hp → Prop) (K : Ex → Env → Hp → Prop) : Ex → Env → Hp → Prop
  | .normal, σ, H => rec σ H
  | .exit i, σ, H => K (.exit i) σ H
  | .ret, σ, H => K .ret σ H
def loopK (cf : Env → Env) (step : Frag) : Nat → Frag
  | 0, _, _, _ => False
  | m + 1, σ, H, K => step σ H (roundK (fun σ H => loopK cf step m (cf σ) H K) K)
theorem loopK_succ (cf : Env → Env) (step : Frag) (m : Nat) (σ : Env) (H : Hp) (K : Ex → Env → Hp → Prop) :
    loopK cf step (m + 1) σ H K = step σ H (roundK (fun σ H => loopK cf step m (cf σ) H K) K) := rfl

def ev (c : Cfg) (n : Nat) (code : Code) : Frag :=
  match code with
  | .skip => fun σ H K => K .normal σ H
  | .region id ops draw => fun σ H K => opersK c n draw ops (lineOf (c.perm id) ops) σ H fun σ H => K .normal σ H
  | .seq a b => fun σ H K => ev c n a σ H fun ex σ H => match ex with
    | .normal => match tableAt c.joins b with
      | some j => j (cutAt c b σ) H K
      | none => ev c n b (cutAt c b σ) H K
    | .exit i => K (.exit i) σ H
    | .ret => K .ret σ H
  | .cond t a b => fun σ H K => match arg c.G σ t with
    | some (.bool true) => ev c n a σ H K
    | some (.bool false) => ev c n b σ H K
    | _ => False
  | .block id b => fun σ H K => ev c n b σ H fun ex σ H => match ex with
    | .normal => K .normal σ H
    | .exit j => match Nat.beq j id with
      | true => K .normal σ H
      | false => K (.exit j) σ H
    | .ret => K .ret σ H
  | .loop b => fun σ H K => match tableAt c.loops b with
    | some l => l (cutAt c b σ) H K
    | none => loopK (cutAt c b) (fun σ H K => ev c n b σ H K) big (cutAt c b σ) H K
  | .label _ => fun σ H K => K .normal σ H
  | .exit id => fun σ H K => K (.exit id) (forgetO (c.cutX id) σ) H
  | .ret => fun σ H K => K .ret (forgetO c.cutR σ) H
  | .scope b => fun σ H K => ev c n b σ H K
  | .rangeFunc .. | .goto _ | .refuse _ => fun _ _ _ => False
  termination_by structural code

/-! fragments that are told by hand -/
def sub : List Nat → Code → Code
  | [], c => c
  | i :: p, .seq a b => sub p (match i with | 0 => a | _ => b)
  | i :: p, .cond _ a b => sub p (match i with | 0 => a | _ => b)
  | _ :: p, .block _ b => sub p b
  | _ :: p, .loop b => sub p b
  | _ :: p, .scope b => sub p b
  | _ :: _, c => c
def bodyOf (fn : Func) : Code := match fn.body with | some b => b | none => .skip
def loopsOf : Code → List Code
  | .seq a b => loopsOf a ++ loopsOf b
  | .cond _ a b => loopsOf a ++ loopsOf b
  | .block _ b | .scope b => loopsOf b
  | .loop b => b :: loopsOf b
  | _ => []
def tailsOf : Code → List Code
  | .seq a b => b :: (tailsOf a ++ tailsOf b)
  | .cond _ a b => tailsOf a ++ tailsOf b
  | .block _ b | .scope b | .loop b => tailsOf b
  | _ => []
def lk {α : Type} (i : Nat) : List (Nat × α) → Option α
  | [] => none
  | (j, x) :: r => cond (Nat.beq i j) (some x) (lk i r)
def slotsB : List Nat → Env → Bool
  | [], [] => true
  | t :: ts, (u, _) :: σ => Nat.beq t u && slotsB ts σ
  | _, _ => false
def fragOf (ts : List Nat) (f : List Value → Hp → (Ex → Env → Hp → Prop) → Prop) : Frag := fun σ H K => gd (slotsB ts σ) (f (σ.map (·.2)) H K)
/-- What a configuration owes: each fragment that is told asks at least what the code asks. -/
def LoopsOK (c : Cfg) (n : Nat) (body : Code) : Prop :=
  ∀ b ∈ loopsOf body, ∀ l, tableAt c.loops b = some l → ∀ σ H K, l σ H K → loopK (cutAt c b) (fun σ H K => ev c n b σ H K) big σ H K
def JoinsOK (c : Cfg) (n : Nat) (body : Code) : Prop :=
  ∀ b ∈ tailsOf body, ∀ j, tableAt c.joins b = some j → ∀ σ H K, j σ H K → ev c n b σ H (endsK c b K)

/-! values taken apart -/
def nextV (vs : List Value) (f : Value → List Value → Prop) : Prop := match vs with | v :: r => f v r | [] => False
def doneV (vs : List Value) (p : Prop) : Prop := match vs with | [] => p | _ :: _ => False
def deInt (k : IntKind) (v : Value) (f : Int → Prop) : Prop := match v with | .int k' n => gd (decide (k' = k)) (f n) | _ => False
def deBool (v : Value) (f : Bool → Prop) : Prop := match v with | .bool b => f b | _ => False
def deStr (v : Value) (f : ByteArray → Prop) : Prop := match v with | .string s => f s | _ => False
def dePtr (v : Value) (f : Option Addr → Prop) : Prop := match v with | .pointer p => f p | _ => False
def deAddr (v : Value) (f : Addr → Prop) : Prop := match v with | .pointer p => optP p f | _ => False
def deSlice (v : Value) (f : Option Addr → Nat → Nat → Prop) : Prop := match v with | .slice a n k => f a n k | _ => False
def deMap (v : Value) (f : Option Nat → Prop) : Prop := match v with | .map m => f m | _ => False
def deAny (v : Value) (f : Value → Prop) : Prop := f v
def deAgg (v : Value) (f : List Value → Prop) : Prop := match v with | .agg cs => f cs.toList | _ => False
def deTuple (v : Value) (f : List Value → Prop) : Prop := match v with | .tuple cs => f cs.toList | _ => False
def deFn (k : FuncId) (v : Value) (p : Prop) : Prop :=
  match v with
  | .func (.func k') a b => gd (Nat.beq k' k && (a.toList.isEmpty && b.toList.isEmpty)) p
  | _ => False
theorem nextV_elim {vs : List Value} {f : Value → List Value → Prop} (h : nextV vs f) : ∃ v r, vs = v :: r ∧ f v r := by
  cases vs with
  | nil => exact h.elim
  | cons v r => exact ⟨v, r, rfl, h⟩
theorem doneV_elim {vs : List Value} {p : Prop} (h : doneV vs p) : vs = [] ∧ p := by
  cases vs with
  | nil => exact ⟨rfl, h⟩
  | cons v r => exact h.elim
theorem deInt_elim {k : IntKind} {v : Value} {f : Int → Prop} (h : deInt k v f) : ∃ n, v = .int k n ∧ f n := by
  unfold deInt at h
  split at h
  · rename_i k' n
    unfold gd at h
    split at h
    · rename_i e; exact ⟨n, by rw [of_decide_eq_true e], h⟩
    · exact h.elim
  · exact h.elim
theorem deBool_elim {v : Value} {f : Bool → Prop} (h : deBool v f) : ∃ b, v = .bool b ∧ f b := by
  cases v <;> first | exact h.elim | exact ⟨_, rfl, h⟩
theorem deStr_elim {v : Value} {f : ByteArray → Prop} (h : deStr v f) : ∃ s, v = .string s ∧ f s := by
  cases v <;> first | exact h.elim | exact ⟨_, rfl, h⟩
theorem dePtr_elim {v : Value} {f : Option Addr → Prop} (h : dePtr v f) : ∃ p, v = .pointer p ∧ f p := by
  cases v <;> first | exact h.elim | exact ⟨_, rfl, h⟩
theorem deAddr_elim {v : Value} {f : Addr → Prop} (h : deAddr v f) : ∃ a, v = .pointer (some a) ∧ f a := by
  cases v with
  | pointer p => cases p with
    | none => exact h.elim
    | some a => exact ⟨a, rfl, h⟩
  | _ => exact h.elim
theorem deSlice_elim {v : Value} {f : Option Addr → Nat → Nat → Prop} (h : deSlice v f) : ∃ a n k, v = .slice a n k ∧ f a n k := by
  cases v <;> first | exact h.elim | exact ⟨_, _, _, rfl, h⟩
theorem deMap_elim {v : Value} {f : Option Nat → Prop} (h : deMap v f) : ∃ m, v = .map m ∧ f m := by
  cases v <;> first | exact h.elim | exact ⟨_, rfl, h⟩
theorem deAny_elim {v : Value} {f : Value → Prop} (h : deAny v f) : ∃ u, v = u ∧ f u := ⟨v, rfl, h⟩
theorem deAgg_elim {v : Value} {f : List Value → Prop} (h : deAgg v f) : ∃ cs, v = .agg ⟨cs⟩ ∧ f cs := by
  cases v <;> first | exact h.elim | exact ⟨_, rfl, h⟩
theorem deTuple_elim {v : Value} {f : List Value → Prop} (h : deTuple v f) : ∃ cs, v = .tuple ⟨cs⟩ ∧ f cs := by
  cases v <;> first | exact h.elim | exact ⟨_, rfl, h⟩
theorem deFn_elim {k : FuncId} {v : Value} {p : Prop} (h : deFn k v p) : v = .func (.func k) ⟨[]⟩ ⟨[]⟩ ∧ p := by
  unfold deFn at h
  split at h
  · rename_i k' a b
    unfold gd at h
    split at h
    · rename_i e
      simp only [Bool.and_eq_true] at e
      have e1 : k' = k := Nat.eq_of_beq_eq_true e.1
      have e2 : a.toList = [] := by simpa using e.2.1
      have e3 : b.toList = [] := by simpa using e.2.2
      refine ⟨?_, h⟩
      rw [e1, show a = ⟨[]⟩ from Array.ext' e2, show b = ⟨[]⟩ from Array.ext' e3]
    · exact h.elim
  · exact h.elim
theorem slots_zip : ∀ {ts : List Nat} {σ : Env}, slotsB ts σ = true → σ = ts.zip (σ.map (·.2))
  | [], [], _ => rfl
  | t :: ts, (u, v) :: σ, h => by
    simp only [slotsB, Bool.and_eq_true] at h
    have e : t = u := Nat.eq_of_beq_eq_true h.1
    subst e
    simp only [List.map_cons, List.zip_cons_cons]
    rw [← slots_zip h.2]
  | [], _ :: _, h => by simp [slotsB] at h
  | _ :: _, [], h => by simp [slotsB] at h
theorem frag_elim {ts : List Nat} {f : List Value → Hp → (Ex → Env → Hp → Prop) → Prop} {σ : Env} {H : Hp} {K : Ex → Env → Hp → Prop} (h : fragOf ts f σ H K) : ∃ vs, σ = ts.zip vs ∧ f vs H K := by
  unfold fragOf at h
  unfold gd at h
  split at h
  · rename_i e; exact ⟨_, slots_zip e, h⟩
  · exact h.elim
theorem lk_mem {α : Type} {i : Nat} {x : α} : ∀ {l : List (Nat × α)}, lk i l = some x → (i, x) ∈ l
  | [], h => by cases h
  | (j, y) :: r, h => by
    unfold lk at h
    cases e : Nat.beq i j with
    | true => rw [e] at h; cases h; rw [Nat.eq_of_beq_eq_true e]; exact List.mem_cons_self
    | false => rw [e] at h; exact List.mem_cons_of_mem _ (lk_mem h)

/-! a function -/
def resK (P : Program) (H : Hp) (σ : Env) : List ResultVar → (List Value → Prop) → Prop
  | [], K => K []
  | .tmp t :: rs, K => optP (look t σ) fun v => resK P H σ rs fun vs => K (v :: vs)
  | .cell a t :: rs, K => match look a σ with
    | some (.pointer p) => optP p fun ad => loadK P H ad.block ad.off t fun v => resK P H σ rs fun vs => K (v :: vs)
    | _ => False
def oneOf : List Value → Value
  | [v] => v
  | vs => .tuple ⟨vs⟩
def env0 : Nat → List Value → Env
  | _, [] => []
  | i, v :: vs => (i, v) :: env0 (i + 1) vs
def endK (P : Program) (fn : Func) (K : Value → Hp → Prop) (ex : Ex) (σ : Env) (H : Hp) : Prop :=
  match ex with
  | .exit _ => False
  | _ => resK P H σ fn.results.toList fun vs => K (oneOf vs) H
def fnK (c : Cfg) (fn : Func) (args : List Value) (H : Hp) (K : Value → Hp → Prop) : Prop :=
  match fn.body with
  | none => False
  | some b => gd (Nat.ble args.length fn.ntmps) (ev c fn.ntmps b (env0 0 args) H (endK c.P fn K))
end Go.Proofs.Ytbikpfccdcblfaa.Eng
/- The engine, part 3: how the abstract heap stands to the model's world; first lemmas. -/
namespace Go.Proofs.Ytbikpfccdcblfaa.Eng
open Go Go.RowKit
set_option linter.unusedVariables false
set_option linter.unusedSimpArgs false

theorem gd_iff {b : Bool} {p : Prop} : gd b p ↔ b = true ∧ p := by cases b <;> simp [gd]
theorem gd_elim {b : Bool} {p : Prop} (h : gd b p) : b = true ∧ p := gd_iff.1 h
theorem optP_elim {α : Type} {o : Option α} {f : α → Prop} (h : optP o f) : ∃ x, o = some x ∧ f x := by
  cases o with
  | none => exact h.elim
  | some x => exact ⟨x, rfl, h⟩

/-- Where an abstract block lies: from cell off of block blk on; lim cells may be used; row: elements of sz cells. -/
structure Loc where
  blk : Nat
  off : Nat
  lim : Nat
  sz : Nat
  row : Bool
abbrev Ren := Nat → Option Loc
def Ren.ext (ρ ρ' : Ren) : Prop := ∀ b l, ρ b = some l → ρ' b = some l
theorem Ren.ext.refl (ρ : Ren) : ρ.ext ρ := fun _ _ h => h
theorem Ren.ext.trans {a b c : Ren} (h : a.ext b) (k : b.ext c) : a.ext c := fun x l hx => k x l (h x l hx)
def Ren.add (ρ : Ren) (b : Nat) (l : Loc) : Ren := fun x => if x = b then some l else ρ x
theorem Ren.add_ext {ρ : Ren} {b : Nat} (l : Loc) (h : ρ b = none) : ρ.ext (ρ.add b l) := fun x l' hx => by
  unfold Ren.add
  split
  · rename_i e; subst e; rw [h] at hx; cases hx
  · exact hx
theorem Ren.add_self (ρ : Ren) (b : Nat) (l : Loc) : (ρ.add b l) b = some l := by simp [Ren.add]

/-- An abstract value and the model's. -/
inductive VR (ρ : Ren) : Value → Value → Prop where
  | bool (b : Bool) : VR ρ (.bool b) (.bool b)
  | int (k : IntKind) (n : Int) : VR ρ (.int k n) (.int k n)
  | float (k : FloatKind) (n : Nat) : VR ρ (.float k n) (.float k n)
  | complex (k : FloatKind) (m n : Nat) : VR ρ (.complex k m n) (.complex k m n)
  | string (s : ByteArray) : VR ρ (.string s) (.string s)
  | pnil : VR ρ (.pointer none) (.pointer none)
  | ptr {b o : Nat} {l : Loc} (h : ρ b = some l) : VR ρ (.pointer (some ⟨b, o, none⟩)) (.pointer (some ⟨l.blk, l.off + o, none⟩))
  | snil : VR ρ (.slice none 0 0) (.slice none 0 0)
  | slice {b o n k o' c : Nat} {l : Loc} (h : ρ b = some l) (ho : o' = l.off + o ∨ c = 0) (hn : n ≤ c)
      (hc : k ≠ 0 → l.row = true ∧ l.sz = k ∧ o' + c * k ≤ l.off + l.lim) : VR ρ (.slice (some ⟨b, o, none⟩) n k) (.slice (some ⟨l.blk, o', none⟩) n c)
  | slice0 (b o : Nat) (a : Addr) (c : Nat) : VR ρ (.slice (some ⟨b, o, none⟩) 0 0) (.slice (some a) 0 c)
  | mnil : VR ρ (.map none) (.map none)
  | map {b : Nat} {l : Loc} (h : ρ b = some l) : VR ρ (.map (some b)) (.map (some l.blk))
  | func {fn : Fn} {xs ys xs' ys' : Array Value} (hx : xs.toList.length = xs'.toList.length) (hx' : ∀ (i : Nat) (v v' : Value), xs.toList[i]? = some v → xs'.toList[i]? = some v' → VR ρ v v')
      (hy : ys.toList.length = ys'.toList.length) (hy' : ∀ (i : Nat) (v v' : Value), ys.toList[i]? = some v → ys'.toList[i]? = some v' → VR ρ v v') : VR ρ (.func fn xs ys) (.func fn xs' ys')
  | nilFunc : VR ρ .nilFunc .nilFunc
  | nilIface : VR ρ .nilIface .nilIface
  | iface {t : TypeId} {v v' : Value} (h : VR ρ v v') : VR ρ (.iface t v) (.iface t v')
  | agg {xs xs' : Array Value} (hx : xs.toList.length = xs'.toList.length) (hx' : ∀ (i : Nat) (v v' : Value), xs.toList[i]? = some v → xs'.toList[i]? = some v' → VR ρ v v') : VR ρ (.agg xs) (.agg xs')
  | tuple {xs xs' : Array Value} (hx : xs.toList.length = xs'.toList.length) (hx' : ∀ (i : Nat) (v v' : Value), xs.toList[i]? = some v → xs'.toList[i]? = some v' → VR ρ v v') : VR ρ (.tuple xs) (.tuple xs')

def VRs (ρ : Ren) (vs vs' : List Value) : Prop := vs.length = vs'.length ∧ ∀ (i : Nat) (v v' : Value), vs[i]? = some v → vs'[i]? = some v' → VR ρ v v'

theorem VR.mono {ρ ρ' : Ren} (hρ : ρ.ext ρ') {v v' : Value} (h : VR ρ v v') : VR ρ' v v' := by
  induction h with
  | bool b => exact .bool b
  | int k n => exact .int k n
  | float k n => exact .float k n
  | complex k m n => exact .complex k m n
  | string s => exact .string s
  | pnil => exact .pnil
  | ptr h => exact .ptr (hρ _ _ h)
  | snil => exact .snil
  | slice h ho hn hc => exact .slice (hρ _ _ h) ho hn hc
  | slice0 b o a c => exact .slice0 b o a c
  | mnil => exact .mnil
  | map h => exact .map (hρ _ _ h)
  | func hx _ hy _ ih1 ih2 => exact .func hx ih1 hy ih2
  | nilFunc => exact .nilFunc
  | nilIface => exact .nilIface
  | iface _ ih => exact .iface ih
  | agg hx _ ih => exact .agg hx ih
  | tuple hx _ ih => exact .tuple hx ih
theorem VRs.mono {ρ ρ' : Ren} (hρ : ρ.ext ρ') {v v' : List Value} (h : VRs ρ v v') : VRs ρ' v v' := ⟨h.1, fun i a b ha hb => (h.2 i a b ha hb).mono hρ⟩

theorem VRs.nil (ρ : Ren) : VRs ρ [] [] := ⟨rfl, fun i v v' h => by simp at h⟩
theorem VRs.cons {ρ : Ren} {v v' : Value} {vs vs' : List Value} (h : VR ρ v v') (hs : VRs ρ vs vs') : VRs ρ (v :: vs) (v' :: vs') := by
  refine ⟨by simp [hs.1], fun i a b ha hb => ?_⟩
  cases i with
  | zero => simp at ha hb; subst ha; subst hb; exact h
  | succ i => exact hs.2 i a b (by simpa using ha) (by simpa using hb)
theorem VRs.get {ρ : Ren} {vs vs' : List Value} (h : VRs ρ vs vs') {i : Nat} {v : Value} (hv : vs[i]? = some v) : ∃ v', vs'[i]? = some v' ∧ VR ρ v v' := by
  have hi : i < vs.length := (List.getElem?_eq_some_iff.1 hv).1
  have hi' : i < vs'.length := h.1 ▸ hi
  exact ⟨vs'[i], by simp [hi'], h.2 i v _ hv (by simp [hi'])⟩
theorem VRs.uncons {ρ : Ren} {v v' : Value} {vs vs' : List Value} (h : VRs ρ (v :: vs) (v' :: vs')) : VR ρ v v' ∧ VRs ρ vs vs' :=
  ⟨h.2 0 _ _ rfl rfl, by simpa using h.1, fun i a b ha hb => h.2 (i + 1) a b (by simpa using ha) (by simpa using hb)⟩
theorem VRs.cons_left {ρ : Ren} {v : Value} {vs ws : List Value} (h : VRs ρ (v :: vs) ws) : ∃ v' vs', ws = v' :: vs' ∧ VR ρ v v' ∧ VRs ρ vs vs' := by
  cases ws with
  | nil => have := h.1; simp at this
  | cons v' vs' => exact ⟨v', vs', rfl, h.uncons⟩
theorem VRs.nil_left {ρ : Ren} {ws : List Value} (h : VRs ρ [] ws) : ws = [] := by
  cases ws with
  | nil => rfl
  | cons v' vs' => have := h.1; simp at this
theorem VRs.append {ρ : Ren} {a b a' b' : List Value} (h : VRs ρ a a') (k : VRs ρ b b') : VRs ρ (a ++ b) (a' ++ b') := by
  induction a generalizing a' with
  | nil => rw [h.nil_left]; exact k
  | cons v vs ih =>
    obtain ⟨v', vs', rfl, hv, hs⟩ := h.cons_left
    exact .cons hv (ih hs)
theorem VRs.drop {ρ : Ren} {a a' : List Value} (h : VRs ρ a a') (n : Nat) : VRs ρ (a.drop n) (a'.drop n) :=
  ⟨by simp [h.1], fun i v v' hv hv' => h.2 (n + i) v v' (by simpa using hv) (by simpa using hv')⟩
theorem VRs.take {ρ : Ren} {a a' : List Value} (h : VRs ρ a a') (n : Nat) : VRs ρ (a.take n) (a'.take n) := by
  refine ⟨by simp [h.1], fun i v v' hv hv' => ?_⟩
  rw [List.getElem?_take] at hv hv'
  split at hv
  · rename_i hi; rw [if_pos hi] at hv'; exact h.2 i v v' hv hv'
  · cases hv
theorem VRs.set {ρ : Ren} {a a' : List Value} (h : VRs ρ a a') {v v' : Value} (hv : VR ρ v v') (i : Nat) : VRs ρ (a.set i v) (a'.set i v') := by
  refine ⟨by simp [h.1], fun j x x' hx hx' => ?_⟩
  rw [List.getElem?_set] at hx hx'
  split at hx
  · rename_i e
    rw [if_pos e] at hx'
    split at hx
    · rename_i hi
      rw [if_pos (h.1 ▸ hi)] at hx'
      cases hx; cases hx'; exact hv
    · cases hx
  · rename_i e
    rw [if_neg e] at hx'
    exact h.2 j x x' hx hx'
theorem VRs.setL {ρ : Ren} {vs vs' : List Value} (hv : VRs ρ vs vs') : ∀ {a a' : List Value}, VRs ρ a a' → ∀ o, VRs ρ (setL a o vs) (setL a' o vs') := by
  induction vs generalizing vs' with
  | nil => rw [hv.nil_left]; exact fun h _ => h
  | cons v r ih =>
    obtain ⟨v', r', rfl, h1, h2⟩ := hv.cons_left
    exact fun h o => ih h2 (h.set h1 o) (o + 1)

theorem oneCell_eq {v : Value} (h : oneCell v = true) : v.oneCell' = true := by cases v <;> simp_all [oneCell, Value.oneCell']
theorem VR.one {ρ : Ren} {v v' : Value} (h : VR ρ v v') (ho : oneCell v = true) : oneCell v' = true := by cases h <;> simp_all [oneCell]
/-- The cells of a value. -/
theorem VR.cells {ρ : Ren} {v v' : Value} (h : VR ρ v v') : VRs ρ v.cells.toList v'.cells.toList := by
  cases h <;> first | exact ⟨‹_›, ‹_›⟩ | exact .cons (by first | exact .bool _ | exact .int _ _ | exact .float _ _ | exact .complex _ _ _ | exact .string _ | exact .pnil | exact .ptr ‹_› | exact .snil | exact .slice ‹_› ‹_› ‹_› ‹_› | exact .slice0 _ _ _ _ | exact .mnil | exact .map ‹_› | exact .func ‹_› ‹_› ‹_› ‹_› | exact .nilFunc | exact .nilIface | exact .iface ‹_› | exact .tuple ‹_› ‹_›) (.nil _)
theorem plain_VR {v : Value} (h : plainV v = true) (ρ : Ren) : VR ρ v v := by
  unfold plainV at h
  split at h <;> first | exact .bool _ | exact .int _ _ | exact .float _ _ | exact .complex _ _ _ | exact .string _ | exact .pnil | exact .snil | exact .mnil | exact .nilFunc | exact .nilIface | cases h
theorem const_VR {v : Value} (h : constOK v = true) (ρ : Ren) : VR ρ v v := by
  unfold constOK at h
  split at h
  · rename_i cs
    refine .agg rfl fun i v v' hv hv' => ?_
    rw [hv] at hv'; cases hv'
    exact plain_VR (List.all_eq_true.1 h v (List.mem_of_getElem? hv)) ρ
  · exact plain_VR h ρ
/-- A value of plain data (a zero value). -/
theorem constCells {v : Value} (h : constOK v = true) (ρ : Ren) : VRs ρ v.cells.toList v.cells.toList := (const_VR h ρ).cells

/-! the heap -/
def CellsR (ρ : Ren) (l : Loc) (cs : List Value) (C : Array Value) : Prop := ∀ (i : Nat) (v : Value), cs[i]? = some v → ∃ v', C[l.off + i]? = some v' ∧ VR ρ v v' ∧ oneCell v = true

def AObj.mut : AObj → Bool
  | .cells own _ _ => own
  | .map _ _ => true

def ObjR (P : Program) (ρ : Ren) (B : Nat) (l : Loc) (h : Array Obj) : AObj → Prop
  | .cells own e cs => ∃ C e' fz, h[l.blk]? = some (.cells C e' fz) ∧ CellsR ρ l cs C ∧
      (own = true → B ≤ l.blk ∧ l.off + l.lim ≤ C.size ∧ cs.length ≤ l.lim ∧ (∀ i, i < C.size → (decide (fz.1 ≤ i) && decide (i < fz.2)) = false) ∧ (l.row = true → l.sz = szOf P e))
  | .map kt es => ∃ E clock, h[l.blk]? = some (.map E clock) ∧ B ≤ l.blk ∧ E.size = es.length ∧
      (∀ (i : Nat) (k v : Value), es[i]? = some (k, v) → ∃ en, E[i]? = some en ∧ VR ρ k en.key ∧ VR ρ v en.val ∧ keyTy P kt k = true) ∧
      (∀ (i : Nat) (en : MapEntry), E[i]? = some en → en.born < clock) ∧ (∀ (i j : Nat) (en en' : MapEntry), i < j → E[i]? = some en → E[j]? = some en' → en.born < en'.born)

structure Rep (P : Program) (G : Nat) (ρ : Ren) (B : Nat) (H : Hp) (h : Array Obj) : Prop where
  base : B ≤ h.size
  glob : G ≤ H.next ∧ ∀ g, g < G → ∃ l, ρ g = some l ∧ l.blk = g ∧ l.off = 0
  dom : ∀ b, H.next ≤ b → ρ b = none
  obj : ∀ b o, H.obj b = some o → ∃ l, ρ b = some l ∧ ObjR P ρ B l h o
  sep : ∀ b b' l l' o o', H.obj b = some o → H.obj b' = some o' → ρ b = some l → ρ b' = some l' → o.mut = true → b ≠ b' → l.blk ≠ l'.blk

theorem ObjR.mono {P : Program} {ρ ρ' : Ren} (hρ : ρ.ext ρ') {B : Nat} {l : Loc} {h : Array Obj} {o : AObj} (k : ObjR P ρ B l h o) : ObjR P ρ' B l h o := by
  cases o with
  | cells own e cs =>
    obtain ⟨C, e', fz, h1, h2, h3⟩ := k
    exact ⟨C, e', fz, h1, fun i v hv => let ⟨v', a, b, c⟩ := h2 i v hv; ⟨v', a, b.mono hρ, c⟩, h3⟩
  | map kt es =>
    obtain ⟨E, clock, h1, h2, h3, h4, h5, h6⟩ := k
    exact ⟨E, clock, h1, h2, h3, fun i a b hv => let ⟨en, x, y, z, u⟩ := h4 i a b hv; ⟨en, x, y.mono hρ, z.mono hρ, u⟩, h5, h6⟩
theorem ObjR.heap {P : Program} {ρ : Ren} {B : Nat} {l : Loc} {h h' : Array Obj} {o : AObj} (k : ObjR P ρ B l h o) (hh : h'[l.blk]? = h[l.blk]?) : ObjR P ρ B l h' o := by
  cases o with
  | cells own e cs => obtain ⟨C, e', fz, h1, h2⟩ := k; exact ⟨C, e', fz, hh.trans h1, h2⟩
  | map kt es => obtain ⟨E, clock, h1, h2⟩ := k; exact ⟨E, clock, hh.trans h1, h2⟩
theorem ObjR.lt {P : Program} {ρ : Ren} {B : Nat} {l : Loc} {h : Array Obj} {o : AObj} (k : ObjR P ρ B l h o) : l.blk < h.size := by
  cases o with
  | cells own e cs => obtain ⟨C, e', fz, h1, _⟩ := k; exact (Array.getElem?_eq_some_iff.1 h1).1
  | map kt es => obtain ⟨E, clock, h1, _⟩ := k; exact (Array.getElem?_eq_some_iff.1 h1).1

variable {P : Program} {G : Nat} {ρ : Ren} {B : Nat} {H : Hp} {h : Array Obj}

theorem Rep.lt (r : Rep P G ρ B H h) {b : Nat} {o : AObj} (hb : H.obj b = some o) : b < H.next := by
  obtain ⟨l, hl, _⟩ := r.obj b o hb
  refine Nat.lt_of_not_le fun hle => ?_
  rw [r.dom b hle] at hl; cases hl

/-- A new block. -/
theorem Rep.new (r : Rep P G ρ B H h) {l : Loc} {o : AObj} {x : Obj} (hl : l.blk = h.size) (ho : ObjR P (ρ.add H.next l) B l (h.push x) o) :
    Rep P G (ρ.add H.next l) B (H.new o) (h.push x) := by
  have hnone := r.dom H.next (Nat.le_refl _)
  have hext := Ren.add_ext (ρ := ρ) l hnone
  have old : ∀ b o', H.obj b = some o' → b ≠ H.next := fun b o' hb e => by have := r.lt hb; omega
  have keep : ∀ (l' : Loc), l'.blk < h.size → (h.push x)[l'.blk]? = h[l'.blk]? := fun l' hlt => by rw [Array.getElem?_push, if_neg (by omega)]
  refine ⟨by simp; have := r.base; omega, ⟨Nat.le_succ_of_le r.glob.1, fun g hg => ?_⟩, fun b hb => ?_, fun b o' hb => ?_, fun b b' l1 l2 o1 o2 h1 h2 k1 k2 hm hne => ?_⟩
  · obtain ⟨l', a, b⟩ := r.glob.2 g hg
    exact ⟨l', hext _ _ a, b⟩
  · have hb' : H.next + 1 ≤ b := hb
    unfold Ren.add; rw [if_neg (by omega)]; exact r.dom b (by omega)
  · simp only [Hp.new] at hb
    split at hb
    · rename_i e; subst e; cases hb
      exact ⟨l, Ren.add_self _ _ _, ho⟩
    · obtain ⟨l', a, b'⟩ := r.obj b o' hb
      exact ⟨l', hext _ _ a, (b'.mono hext).heap (keep l' b'.lt)⟩
  · simp only [Hp.new] at h1 h2
    split at h1 <;> split at h2
    · omega
    · rename_i e1 e2
      subst e1
      rw [Ren.add_self] at k1; cases k1
      obtain ⟨l', a, b''⟩ := r.obj b' o2 h2
      rw [hext _ _ a] at k2; cases k2
      have := b''.lt; omega
    · rename_i e1 e2
      subst e2
      rw [Ren.add_self] at k2; cases k2
      obtain ⟨l', a, b''⟩ := r.obj b o1 h1
      rw [hext _ _ a] at k1; cases k1
      have := b''.lt; omega
    · obtain ⟨l', a, _⟩ := r.obj b o1 h1
      obtain ⟨l'', a', _⟩ := r.obj b' o2 h2
      rw [hext _ _ a] at k1; cases k1
      rw [hext _ _ a'] at k2; cases k2
      exact r.sep b b' _ _ o1 o2 h1 h2 a a' hm hne

/-- A block let go. -/
theorem Rep.drop (r : Rep P G ρ B H h) (b : Nat) : Rep P G ρ B (H.put b none) h := by
  refine ⟨r.base, r.glob, r.dom, fun c o hc => ?_, fun c c' l l' o o' h1 h2 k1 k2 hm hne => ?_⟩
  · simp only [Hp.put] at hc
    split at hc
    · cases hc
    · exact r.obj c o hc
  · simp only [Hp.put] at h1 h2
    split at h1
    · cases h1
    · split at h2
      · cases h2
      · exact r.sep c c' l l' o o' h1 h2 k1 k2 hm hne

/-- A block of the call's own turned. -/
theorem Rep.turn (r : Rep P G ρ B H h) {b : Nat} {o o' : AObj} {l : Loc} {x : Obj} (hb : H.obj b = some o) (hm : o.mut = true) (hl : ρ b = some l) (hm' : o'.mut = true)
    (ho : ObjR P ρ B l (h.setIfInBounds l.blk x) o') : Rep P G ρ B (H.put b (some o')) (h.setIfInBounds l.blk x) := by
  refine ⟨by simpa using r.base, r.glob, r.dom, fun c oc hc => ?_, fun c c' l1 l2 o1 o2 h1 h2 k1 k2 hmm hne => ?_⟩
  · simp only [Hp.put] at hc
    split at hc
    · rename_i e; subst e; cases hc; exact ⟨l, hl, ho⟩
    · rename_i e
      obtain ⟨l', a, b'⟩ := r.obj c oc hc
      refine ⟨l', a, b'.heap ?_⟩
      have := r.sep b c l l' o oc hb hc hl a hm (fun e' => e e'.symm)
      rw [Array.getElem?_setIfInBounds_ne this]
  · simp only [Hp.put] at h1 h2
    split at h1 <;> split at h2
    · omega
    · rename_i e1 e2; subst e1
      exact r.sep c c' l1 l2 o o2 hb h2 k1 k2 hm hne
    · rename_i e1 e2; subst e2
      exact fun e => (r.sep c' c l2 l1 o o1 hb h1 k2 k1 hm (fun e' => hne e'.symm)) e.symm
    · exact r.sep c c' l1 l2 o1 o2 h1 h2 k1 k2 hmm hne

/-! reading -/
theorem Rep.cells (r : Rep P G ρ B H h) {b : Nat} {own : Bool} {e : TypeId} {cs : List Value} (hb : H.obj b = some (.cells own e cs)) :
    ∃ l C e' fz, ρ b = some l ∧ h[l.blk]? = some (.cells C e' fz) ∧ CellsR ρ l cs C ∧
      (own = true → B ≤ l.blk ∧ l.off + l.lim ≤ C.size ∧ cs.length ≤ l.lim ∧ (∀ i, i < C.size → (decide (fz.1 ≤ i) && decide (i < fz.2)) = false) ∧ (l.row = true → l.sz = szOf P e)) := by
  obtain ⟨l, hl, C, e', fz, h1, h2, h3⟩ := r.obj b _ hb
  exact ⟨l, C, e', fz, hl, h1, h2, h3⟩
theorem Hp.cell_some {H : Hp} {b o : Nat} {v : Value} (hc : H.cell b o = some v) : ∃ own e cs, H.obj b = some (.cells own e cs) ∧ cs[o]? = some v := by
  unfold Hp.cell at hc
  split at hc
  · rename_i own e cs hb; exact ⟨own, e, cs, hb, hc⟩
  · cases hc
theorem cell_of_block {w : World} {g i : Nat} {C : Array Value} {e : TypeId} {fz : Nat × Nat} (hg : w.heap[g]? = some (.cells C e fz)) : w.cell? ⟨g, i, none⟩ = C[i]? := by
  simp [World.cell?, hg]
/-- A cell that the abstract heap shows stands in the world. -/
theorem Rep.cell {w : World} (r : Rep P G ρ B H w.heap) {b o : Nat} {v : Value} {l : Loc} (hl : ρ b = some l) (hc : H.cell b o = some v) :
    ∃ v', w.cell? ⟨l.blk, l.off + o, none⟩ = some v' ∧ VR ρ v v' ∧ oneCell v = true := by
  obtain ⟨own, e, cs, hb, hv⟩ := Hp.cell_some hc
  obtain ⟨l', C, e', fz, hl', h1, h2, _⟩ := r.cells hb
  rw [hl] at hl'; cases hl'
  obtain ⟨v', a, b', c⟩ := h2 o v hv
  exact ⟨v', by rw [cell_of_block h1]; exact a, b', c⟩
end Go.Proofs.Ytbikpfccdcblfaa.Eng
/- The engine, part 4: each operation of the model does what the engine asks of it (all but calls, append, maps). -/
namespace Go.Proofs.Ytbikpfccdcblfaa.Eng
open Go Go.RowKit
set_option linter.unusedVariables false
set_option linter.unusedSimpArgs false

def ER (ρ : Ren) (n : Nat) (σ : Env) (a : Act) : Prop := a.tmps.size = n ∧ ∀ (t : Nat) (v : Value), look t σ = some v → t < n ∧ VR ρ v (a.tmps.getD t undef)
/-- What stands behind an operation or a call. -/
def Post (P : Program) (G : Nat) (ρ : Ren) (B : Nat) (w : World) (K : Value → Hp → Prop) (v' : Value) (w' : World) : Prop :=
  ∃ (ρ' : Ren) (v : Value) (H' : Hp), K v H' ∧ ρ.ext ρ' ∧ VR ρ' v v' ∧ Rep P G ρ' B H' w'.heap ∧ Below B w w'

variable {P : Program} {G : Nat} {ρ : Ren} {B : Nat} {H : Hp} {w : World} {n : Nat} {σ : Env} {a : Act}

theorem Post.still (r : Rep P G ρ B H w.heap) {K : Value → Hp → Prop} {v v' : Value} (hk : K v H) (hv : VR ρ v v') : Post P G ρ B w K v' w :=
  ⟨ρ, v, H, hk, .refl ρ, hv, r, Below.refl _ _⟩

theorem arg_ok (r : Rep P G ρ B H w.heap) (he : ER ρ n σ a) {x : Operand} {v : Value} (h : arg G σ x = some v) : VR ρ v (a.eval x) := by
  cases x with
  | tmp t => exact (he.2 t v h).2
  | const u =>
    simp only [arg] at h
    split at h
    · cases h; exact const_VR ‹_› ρ
    · cases h
  | global g =>
    simp only [arg] at h
    split at h
    · rename_i e
      cases h
      obtain ⟨l, hl, hb, ho⟩ := r.glob.2 g (Nat.le_of_ble_eq_true e)
      have := VR.ptr (o := 0) hl
      rw [hb, ho] at this
      exact this
    · cases h
  | func f => cases h; exact .func rfl (fun i v v' h => by simp at h) rfl (fun i v v' h => by simp at h)
theorem argsL_ok {E : Operand → Option Value} (hE : ∀ x v, E x = some v → VR ρ v (a.eval x)) : ∀ {xs : List Operand} {vs : List Value}, argsL E xs = some vs → VRs ρ vs (xs.map a.eval)
  | [], vs, h => by cases h; exact .nil ρ
  | x :: xs, vs, h => by
    simp only [argsL] at h
    split at h
    · cases h
    · rename_i v hv
      split at h
      · cases h
      · rename_i us hus
        cases h
        exact .cons (hE x v hv) (argsL_ok hE hus)

/-! inversion of the relation -/
theorem VR.bool_inv {b : Bool} {v : Value} (h : VR ρ (.bool b) v) : v = .bool b := by cases h; rfl
theorem VR.int_inv {k : IntKind} {m : Int} {v : Value} (h : VR ρ (.int k m) v) : v = .int k m := by cases h; rfl
theorem VR.string_inv {s : ByteArray} {v : Value} (h : VR ρ (.string s) v) : v = .string s := by cases h; rfl
theorem VR.ptr_inv {p : Option Addr} {v : Value} (h : VR ρ (.pointer p) v) : (p = none ∧ v = .pointer none) ∨ ∃ b o l, p = some ⟨b, o, none⟩ ∧ ρ b = some l ∧ v = .pointer (some ⟨l.blk, l.off + o, none⟩) := by
  cases h with
  | pnil => exact .inl ⟨rfl, rfl⟩
  | ptr h => exact .inr ⟨_, _, _, rfl, h, rfl⟩
theorem VR.ptr_some {ad : Addr} {v : Value} (h : VR ρ (.pointer (some ad)) v) : ∃ l, ρ ad.block = some l ∧ ad.spot = none ∧ v = .pointer (some ⟨l.blk, l.off + ad.off, none⟩) := by
  cases h with
  | ptr h => exact ⟨_, h, rfl, rfl⟩
theorem VR.map_inv {m : Option Nat} {v : Value} (h : VR ρ (.map m) v) : (m = none ∧ v = .map none) ∨ ∃ b l, m = some b ∧ ρ b = some l ∧ v = .map (some l.blk) := by
  cases h with
  | mnil => exact .inl ⟨rfl, rfl⟩
  | map h => exact .inr ⟨_, _, rfl, h, rfl⟩
theorem VR.slice_inv {p : Option Addr} {m k : Nat} {v : Value} (h : VR ρ (.slice p m k) v) : (p = none ∧ m = 0 ∧ k = 0 ∧ v = .slice none 0 0) ∨
    (∃ b o l o' c, p = some ⟨b, o, none⟩ ∧ ρ b = some l ∧ v = .slice (some ⟨l.blk, o', none⟩) m c ∧ (o' = l.off + o ∨ c = 0) ∧ m ≤ c ∧ (k ≠ 0 → l.row = true ∧ l.sz = k ∧ o' + c * k ≤ l.off + l.lim)) ∨ ∃ b o a c, p = some ⟨b, o, none⟩ ∧ m = 0 ∧ k = 0 ∧ v = .slice (some a) 0 c := by
  cases h with
  | snil => exact .inl ⟨rfl, rfl, rfl, rfl⟩
  | slice h ho hn hc => exact .inr (.inl ⟨_, _, _, _, _, rfl, h, rfl, ho, hn, hc⟩)
  | slice0 b o a c => exact .inr (.inr ⟨_, _, _, _, rfl, rfl, rfl, rfl⟩)
theorem VR.agg_inv {cs : Array Value} {v : Value} (h : VR ρ (.agg cs) v) : ∃ cs', v = .agg cs' ∧ VRs ρ cs.toList cs'.toList := by
  cases h with
  | agg hx hx' => exact ⟨_, rfl, hx, hx'⟩
theorem VR.tuple_inv {cs : Array Value} {v : Value} (h : VR ρ (.tuple cs) v) : ∃ cs', v = .tuple cs' ∧ VRs ρ cs.toList cs'.toList := by
  cases h with
  | tuple hx hx' => exact ⟨_, rfl, hx, hx'⟩
theorem VR.func_inv {fn : Fn} {xs ys : Array Value} {v : Value} (h : VR ρ (.func fn xs ys) v) : ∃ xs' ys', v = .func fn xs' ys' ∧ VRs ρ xs.toList xs'.toList ∧ VRs ρ ys.toList ys'.toList := by
  cases h with
  | func a b c d => exact ⟨_, _, rfl, ⟨a, b⟩, ⟨c, d⟩⟩

theorem vr_agg {cs cs' : List Value} (h : VRs ρ cs cs') : VR ρ (.agg ⟨cs⟩) (.agg ⟨cs'⟩) := .agg h.1 h.2
theorem vr_tuple {cs cs' : List Value} (h : VRs ρ cs cs') : VR ρ (.tuple ⟨cs⟩) (.tuple ⟨cs'⟩) := .tuple h.1 h.2

/-! reading -/
theorem getK_elim {b o : Nat} {z : Value} {K : Value → Prop} (h : getK H b o z K) : ∃ v, H.cell b o = some v ∧ K v := by
  unfold getK at h
  split at h
  · obtain ⟨_, h1, h2⟩ := h; exact ⟨_, h1, h2⟩
  · obtain ⟨_, h1, h2⟩ := h; exact ⟨_, h1, h2⟩
  · obtain ⟨_, h1, h2⟩ := h; exact ⟨_, h1, h2⟩
  · obtain ⟨_, h1, h2⟩ := h; exact ⟨_, h1, h2⟩
  · obtain ⟨_, _, _, h1, h2⟩ := h; exact ⟨_, h1, h2⟩
  · obtain ⟨_, h1, h2⟩ := h; exact ⟨_, h1, h2⟩
  · obtain ⟨_, h1, _, h2⟩ := h; exact ⟨_, h1, h2⟩
theorem getsK_elim {b : Nat} : ∀ {zs : List Value} {o : Nat} {K : List Value → Prop}, getsK H b o zs K → ∃ vs, K vs ∧ vs.length = zs.length ∧ ∀ (j : Nat) (v : Value), vs[j]? = some v → H.cell b (o + j) = some v
  | [], o, K, h => ⟨[], h, rfl, fun j v hv => by simp at hv⟩
  | z :: zs, o, K, h => by
    obtain ⟨v, hv, h⟩ := getK_elim (K := fun v => getsK H b (o + 1) zs fun vs => K (v :: vs)) h
    obtain ⟨vs, hk, hl, hc⟩ := getsK_elim h
    refine ⟨v :: vs, hk, by simp [hl], fun j u hu => ?_⟩
    cases j with
    | zero => simp at hu; subst hu; exact hv
    | succ j => rw [show o + (j + 1) = o + 1 + j by omega]; exact hc j u (by simpa using hu)
theorem run_isAgg {t : TypeId} {d : TypeDesc} (hd : P.underlying t = some d) : (isAgg t).run P w = .ok (aggTy P t) w := by
  simp only [isAgg, Sem.run_bind, run_underlying hd, Result.andThen, aggTy, hd]
  cases d <;> rfl
theorem run_sizeOf {t : TypeId} {i : TypeInfo} (hi : P.info? t = some i) : (sizeOf t).run P w = .ok i.size w := by
  simp [sizeOf, typeInfo, hi]
theorem zeroOf_elim {t : TypeId} {z : Value} (hz : zeroOf P t = some z) : ∃ i, P.info? t = some i ∧ i.zero = some z ∧ constOK z = true := by
  unfold zeroOf at hz
  split at hz
  · cases hz
  · rename_i i hi
    split at hz
    · cases hz
    · split at hz
      · cases hz; exact ⟨i, hi, ‹_›, ‹_›⟩
      · cases hz
theorem run_zeroValue {t : TypeId} {z : Value} (hz : zeroOf P t = some z) : (zeroValue t).run P w = .ok z w := by
  obtain ⟨i, hi, h1, _⟩ := zeroOf_elim hz
  simp [zeroValue, typeInfo, hi, h1]
theorem szOf_eq {t : TypeId} {i : TypeInfo} (hi : P.info? t = some i) : szOf P t = i.size := by simp [szOf, hi]
/-- The cells of a block, read in a row. -/
theorem run_cells (r : Rep P G ρ B H w.heap) {b o : Nat} {l : Loc} (hl : ρ b = some l) {vs : List Value} (hc : ∀ (j : Nat) (v : Value), vs[j]? = some v → H.cell b (o + j) = some v) :
    ∃ vs', (loadCells ⟨l.blk, l.off + o, none⟩ vs.length).run P w = .ok vs'.toArray w ∧ VRs ρ vs vs' ∧ (∀ v ∈ vs, oneCell v = true) ∧ (∀ (j : Nat) (u : Value), vs'[j]? = some u → w.cell? ⟨l.blk, l.off + o + j, none⟩ = some u) := by
  have key : ∀ (vs : List Value) (o : Nat), (∀ (j : Nat) (v : Value), vs[j]? = some v → H.cell b (o + j) = some v) → ∃ vs' : List Value, VRs ρ vs vs' ∧ (∀ v ∈ vs, oneCell v = true) ∧ (∀ (j : Nat) (u : Value), vs'[j]? = some u → w.cell? ⟨l.blk, l.off + o + j, none⟩ = some u) := by
    intro vs
    induction vs with
    | nil => exact fun o _ => ⟨[], .nil ρ, (fun v h => by cases h), (fun j u h => by simp at h)⟩
    | cons v vs ih =>
      intro o hc
      obtain ⟨v', h1, h2, h3⟩ := r.cell hl (hc 0 v rfl)
      obtain ⟨vs', k1, k2, k3⟩ := ih (o + 1) (fun j u hu => by rw [show o + 1 + j = o + (j + 1) by omega]; exact hc (j + 1) u (by simpa using hu))
      refine ⟨v' :: vs', .cons h2 k1, fun u hu => ?_, fun j u hu => ?_⟩
      · rcases List.mem_cons.1 hu with rfl | hu
        · exact h3
        · exact k2 u hu
      · cases j with
        | zero => simp at hu; subst hu; simpa using h1
        | succ j => rw [show l.off + o + (j + 1) = l.off + (o + 1) + j by omega]; exact k3 j u (by simpa using hu)
  obtain ⟨vs', h1, h2, h3⟩ := key vs o hc
  refine ⟨vs', ?_, h1, h2, h3⟩
  rw [h1.1]
  exact run_loadCells_list w _ vs' (fun j v hv => by rw [Addr.add_lit]; exact h3 j v hv)
theorem loadK_ok (r : Rep P G ρ B H w.heap) {b o : Nat} {t : TypeId} {K : Value → Prop} {l : Loc} (hl : ρ b = some l) (h : loadK P H b o t K) :
    ∃ v v', (loadVar t ⟨l.blk, l.off + o, none⟩).run P w = .ok v' w ∧ VR ρ v v' ∧ K v := by
  unfold loadK at h
  split at h
  · exact h.elim
  · rename_i i hi
    split at h
    · exact h.elim
    · exact h.elim
    · rename_i d z hd hz
      split at h
      · rename_i hagg
        split at h
        · rename_i hs
          obtain ⟨vs, hk, hlen, hc⟩ := getsK_elim h
          obtain ⟨vs', h1, h2, _⟩ := run_cells r hl hc
          have hn : vs.length = i.size := by rw [hlen, Array.length_toList]; exact Nat.eq_of_beq_eq_true hs
          rw [hn] at h1
          refine ⟨_, .agg ⟨vs'⟩, ?_, vr_agg h2, hk⟩
          simp [loadVar, run_isAgg hd, hagg, run_sizeOf hi, h1, Result.andThen]
        · exact h.elim
      · rename_i hagg
        obtain ⟨v, hv, hk⟩ := getK_elim h
        obtain ⟨v', h1, h2, _⟩ := r.cell hl hv
        refine ⟨v, v', ?_, h2, hk⟩
        simp [loadVar, run_isAgg hd, hagg, h1, Result.andThen]

/-! writing -/
theorem allOne_elim : ∀ {vs : List Value} {p : Prop}, allOne vs p → (∀ v ∈ vs, oneCell v = true) ∧ p
  | [], p, h => ⟨(fun v h => by cases h), h⟩
  | v :: vs, p, h => by
    obtain ⟨h1, h2⟩ := gd_elim h
    obtain ⟨h3, h4⟩ := allOne_elim h2
    exact ⟨fun u hu => by rcases List.mem_cons.1 hu with rfl | hu; exact h1; exact h3 u hu, h4⟩
theorem setL_length : ∀ (vs cs : List Value) (o : Nat), (setL cs o vs).length = cs.length
  | [], _, _ => rfl
  | v :: vs, cs, o => by rw [setL, setL_length vs]; simp
theorem setL_get : ∀ (vs cs : List Value) (o i : Nat), (setL cs o vs)[i]? = if o ≤ i ∧ i < o + vs.length ∧ i < cs.length then vs[i - o]? else cs[i]?
  | [], cs, o, i => by rw [setL, if_neg (by simp; omega)]
  | v :: vs, cs, o, i => by
    rw [setL, setL_get vs (cs.set o v) (o + 1) i]
    simp only [List.length_set, List.length_cons]
    by_cases h1 : o + 1 ≤ i ∧ i < o + 1 + vs.length ∧ i < cs.length
    · rw [if_pos h1, if_pos (by omega), show i - o = (i - (o + 1)) + 1 by omega]; simp
    · rw [if_neg h1]
      by_cases h2 : i = o
      · subst h2
        by_cases h3 : i < cs.length
        · rw [if_pos (by omega)]; simp [h3]
        · rw [if_neg (by omega)]; simp [h3, List.getElem?_eq_none (Nat.le_of_not_lt h3)]
      · rw [if_neg (by omega), List.getElem?_set_ne (by omega)]
theorem setCells_heap (b : Nat) : ∀ (vs : List Value) (o : Nat) (w : World) (C : Array Value) (e : TypeId) (fz : Nat × Nat), w.heap[b]? = some (.cells C e fz) →
    ∃ C' : Array Value, C'.toList = setL C.toList o vs ∧ (w.setCells b o vs).heap = w.heap.setIfInBounds b (.cells C' e fz)
  | [], o, w, C, e, fz, hw => by
    refine ⟨C, rfl, ?_⟩
    apply Array.ext_getElem?
    intro i
    by_cases hi : b = i
    · subst hi
      rw [Array.getElem?_setIfInBounds_self_of_lt (Array.getElem?_eq_some_iff.1 hw).1]
      exact hw
    · rw [Array.getElem?_setIfInBounds_ne hi]; rfl
  | v :: vs, o, w, C, e, fz, hw => by
    have h1 : (w.setCell ⟨b, o, none⟩ v).heap = w.heap.setIfInBounds b (.cells (C.setIfInBounds o v) e fz) := by
      apply Array.ext_getElem?
      intro i
      simp only [World.setCell, Array.getElem?_modify]
      by_cases hi : b = i
      · subst hi
        rw [if_pos rfl, hw, Array.getElem?_setIfInBounds_self_of_lt (Array.getElem?_eq_some_iff.1 hw).1]
        simp
      · rw [if_neg hi, Array.getElem?_setIfInBounds_ne hi]
    have hb : b < w.heap.size := (Array.getElem?_eq_some_iff.1 hw).1
    obtain ⟨C', k1, k2⟩ := setCells_heap b vs (o + 1) (w.setCell ⟨b, o, none⟩ v) (C.setIfInBounds o v) e fz (by rw [h1]; simp [hb])
    refine ⟨C', by rw [k1, setL]; simp, ?_⟩
    show (World.setCells _ b (o + 1) vs).heap = _
    rw [k2, h1]
    apply Array.ext_getElem?
    intro i
    by_cases hi : b = i
    · subst hi; simp [hb]
    · rw [Array.getElem?_setIfInBounds_ne hi, Array.getElem?_setIfInBounds_ne hi, Array.getElem?_setIfInBounds_ne hi]
theorem setCells_below (b : Nat) (hB : B ≤ b) : ∀ (vs : List Value) (o : Nat) (w : World), Below B w (w.setCells b o vs)
  | [], _, w => .refl _ _
  | v :: vs, o, w => ((Below.refl B w).setCell (p := ⟨b, o, none⟩) hB v).trans (setCells_below b hB vs (o + 1) _)
/-- n cells stored into a block of the call's own. -/
theorem Rep.store (r : Rep P G ρ B H w.heap) {b o : Nat} {l : Loc} (hl : ρ b = some l) {vs vs' : List Value} (hm : H.may b o vs.length) (hv : VRs ρ vs vs') (h1 : ∀ v ∈ vs, oneCell v = true) :
    (storeCells ⟨l.blk, l.off + o, none⟩ vs').run P w = .ok () (w.setCells l.blk (l.off + o) vs') ∧
      Rep P G ρ B (H.store b o vs) (w.setCells l.blk (l.off + o) vs').heap ∧ Below B w (w.setCells l.blk (l.off + o) vs') := by
  obtain ⟨e, cs, hb, hlen⟩ := hm
  obtain ⟨l', C, e', fz, hl', hC, hcells, hown⟩ := r.cells hb
  rw [hl] at hl'; cases hl'
  obtain ⟨o1, o2, o3, o4, o5⟩ := hown rfl
  have one' : ∀ v ∈ vs', oneCell v = true := by
    intro v hvm
    obtain ⟨i, hi⟩ := List.getElem?_of_mem hvm
    have hi' : i < vs.length := hv.1 ▸ (List.getElem?_eq_some_iff.1 hi).1
    exact (hv.2 i _ v (List.getElem?_eq_getElem hi') hi).one (h1 _ (List.getElem_mem hi'))
  have hst := run_storeCells_cells (P := P) l.blk (l.off + o) vs' 0 w
    (fun j hj => by rw [cell_of_block hC]; have := hv.1; simp; omega)
    (fun j hj => by
      have hlt : l.off + o + 0 + j < C.size := by have := hv.1; omega
      have := o4 _ hlt
      simp only [World.frozen?, hC]; exact this)
    (fun v hv => oneCell_eq (one' v hv))
  simp only [Nat.add_zero] at hst
  refine ⟨hst, ?_, setCells_below _ o1 _ _ _⟩
  obtain ⟨C', k1, k2⟩ := setCells_heap l.blk vs' (l.off + o) w C e' fz hC
  have hs : H.store b o vs = H.put b (some (.cells true e (setL cs o vs))) := by simp [Hp.store, hb]
  have hsz : C'.size = C.size := by rw [← Array.length_toList, k1, setL_length, Array.length_toList]
  rw [hs, k2]
  refine r.turn hb rfl hl rfl ⟨C', e', fz, by simp [(Array.getElem?_eq_some_iff.1 hC).1], fun i v hi => ?_, fun _ => ⟨o1, by omega, by rw [setL_length]; exact o3, fun i hi => o4 i (by omega), o5⟩⟩
  rw [setL_get] at hi
  have hg : C'[l.off + i]? = (setL C.toList (l.off + o) vs')[l.off + i]? := by rw [← k1]; simp
  rw [hg, setL_get]
  have hcs : i < cs.length → l.off + i < C.size := fun h => by omega
  split at hi
  · rename_i hc
    have hl2 := hv.1
    rw [if_pos (by simp; omega)]
    obtain ⟨v', a1, a2⟩ := hv.get hi
    exact ⟨v', by rw [show l.off + i - (l.off + o) = i - o by omega]; exact a1, a2, h1 v (List.mem_of_getElem? hi)⟩
  · rename_i hc
    have hi' : i < cs.length := (List.getElem?_eq_some_iff.1 hi).1
    have hl2 := hv.1
    rw [if_neg (by simp; omega)]
    obtain ⟨v', a1, a2, a3⟩ := hcells i v hi
    exact ⟨v', by simpa using a1, a2, a3⟩
theorem storeK_ok (r : Rep P G ρ B H w.heap) {b o : Nat} {t : TypeId} {v v' : Value} {K : Hp → Prop} {l : Loc} (hl : ρ b = some l) (hv : VR ρ v v') (h : storeK P H b o t v K) :
    ∃ w' H', (storeVar t ⟨l.blk, l.off + o, none⟩ v').run P w = .ok () w' ∧ Rep P G ρ B H' w'.heap ∧ Below B w w' ∧ K H' := by
  unfold storeK at h
  split at h
  · exact h.elim
  · rename_i i hi
    obtain ⟨h1, h2⟩ := gd_elim h
    obtain ⟨h3, h4, h5⟩ := allOne_elim h2
    obtain ⟨k1, k2, k3⟩ := r.store hl (by simpa using h4) hv.cells h3
    refine ⟨_, _, ?_, k2, k3, h5⟩
    have e1 : v'.cells.size = i.size := by
      have := hv.cells.1
      simp only [Array.length_toList] at this
      rw [← this]; exact Nat.eq_of_beq_eq_true h1
    simp only [storeVar, Sem.run_bind, run_sizeOf hi, Result.andThen, e1]
    simp [k1]
/-- A new block of the call's own. -/
theorem Rep.made (r : Rep P G ρ B H w.heap) {e e' : TypeId} {cs cs' : List Value} {rest : Array Value} {row : Bool} {fz : Nat × Nat} (hv : VRs ρ cs cs') (h1 : ∀ v ∈ cs, oneCell v = true)
    (hfz : ∀ i, i < cs'.length + rest.size → (decide (fz.1 ≤ i) && decide (i < fz.2)) = false) :
    Rep P G (ρ.add H.next ⟨w.heap.size, 0, cs'.length + rest.size, szOf P e, row⟩) B (H.new (.cells true e cs)) (w.heap.push (.cells (cs'.toArray ++ rest) e' fz)) := by
  refine r.new rfl ⟨cs'.toArray ++ rest, e', fz, by simp, fun i v hi => ?_, fun _ => ⟨r.base, by simp, by rw [hv.1]; simp, fun i hi => hfz i (by simpa using hi), fun _ => rfl⟩⟩
  obtain ⟨v', a1, a2⟩ := hv.get hi
  have hi' : i < cs'.length := (List.getElem?_eq_some_iff.1 a1).1
  refine ⟨v', ?_, a2.mono (Ren.add_ext _ (r.dom _ (Nat.le_refl _))), h1 v (List.mem_of_getElem? hi)⟩
  simp only [Nat.zero_add]
  rw [Array.getElem?_append_left (by simpa using hi')]
  simpa using a1
theorem below_push (w : World) (o : Obj) (hB : B ≤ w.heap.size) : Below B w (w.alloc o) := (Below.refl B w).alloc hB o
end Go.Proofs.Ytbikpfccdcblfaa.Eng
/- The engine, part 5: each operation does what the engine asks of it: blocks, arithmetic, comparisons, slices, places. -/
namespace Go.Proofs.Ytbikpfccdcblfaa.Eng
open Go Go.RowKit
set_option linter.unusedVariables false
set_option linter.unusedSimpArgs false
variable {P : Program} {G : Nat} {ρ : Ren} {B : Nat} {H : Hp} {w : World} {n : Nat} {σ : Env} {a : Act}

theorem plain_one {v : Value} (h : plainV v = true) : oneCell v = true := by
  unfold plainV at h
  split at h <;> first | rfl | cases h
theorem const_one {v : Value} (h : constOK v = true) : ∀ u ∈ v.cells.toList, oneCell u = true := by
  unfold constOK at h
  split at h
  · exact fun u hu => plain_one (List.all_eq_true.1 h u hu)
  · rename_i hne
    intro u hu
    have : v.cells = #[v] := by cases v <;> first | rfl | exact (hne _ rfl).elim
    rw [this] at hu
    simp at hu; subst hu; exact plain_one h

/-- A new block: the value is its address. -/
theorem box_ok (r : Rep P G ρ B H w.heap) {e : TypeId} {v v' : Value} (hv : VR ρ v v') (h1 : ∀ u ∈ v.cells.toList, oneCell u = true) {K : Value → Hp → Prop}
    (hk : K (.pointer (some ⟨H.next, 0, none⟩)) (H.new (.cells true e v.cells.toList))) :
    Post P G ρ B w K (.pointer (some ⟨w.heap.size, 0, none⟩)) (w.alloc (.cells v'.cells e)) := by
  have m := r.made (e := e) (e' := e) (rest := #[]) (row := false) (fz := (0, 0)) hv.cells h1 (by simp)
  refine ⟨_, _, _, hk, Ren.add_ext _ (r.dom _ (Nat.le_refl _)), (VR.ptr (o := 0) (Ren.add_self _ _ ⟨w.heap.size, 0, v'.cells.toList.length + (#[] : Array Value).size, szOf P e, false⟩) : VR _ _ (.pointer (some ⟨w.heap.size, 0 + 0, none⟩))), ?_, below_push w _ r.base⟩
  have hh : (w.alloc (.cells v'.cells e)).heap = w.heap.push (.cells (v'.cells.toList.toArray ++ #[]) e (0, 0)) := by
    simp only [World.alloc_eq, Array.toArray_toList, Array.append_empty]
    rfl
  rw [hh]; exact m

theorem semPure_run {α : Type} {s : Sem α} {x : α} (h : semPure s = some x) : s.run P w = .ok x w := by
  cases s <;> simp_all [semPure, Sem.run]

theorem bytes_list (s : ByteArray) : s.toList = s.data.toList := by
  exact Go.Lib.toList_data s

/-! comparisons -/
theorem beq_bytes (a b : ByteArray) : (a.toList == b.toList) = decide (a = b) := by
  rw [bytes_list, bytes_list]
  by_cases h : a = b
  · simp [h]
  · have : ¬ a.data.toList = b.data.toList := fun e => h (by cases a; cases b; simp at e; simp [e])
    simp [h, this]
    exact fun e => this (by rw [e])
theorem nilEq_ok {α : Type} {a b : Option α} {r : Bool} (h : nilEq a b = some r) : (b = none ∧ r = a.isNone) ∨ (a = none ∧ b.isSome = true ∧ r = false) := by
  cases b with
  | none => left; simp [nilEq] at h; exact ⟨rfl, h.symm⟩
  | some y => cases a with
    | none => right; simp [nilEq] at h; exact ⟨rfl, rfl, h⟩
    | some x => simp [nilEq] at h
theorem eqV_ok : ∀ (d : Nat) {t : TypeId} {x y x' y' : Value} {r : Bool}, eqV P d t x y = some r → VR ρ x x' → VR ρ y y' → ∀ (D : Nat) (w : World), d ≤ D → (Op.equalIn D t x' y').run P w = .ok r w := by
  intro d
  induction d with
  | zero => intro t x y x' y' r h; simp [eqV] at h
  | succ d ih =>
    intro t x y x' y' r h hx hy D w hD
    obtain ⟨D, rfl⟩ : ∃ D', D = D' + 1 := ⟨D - 1, by omega⟩
    have hD' : d ≤ D := by omega
    unfold eqV at h
    split at h
    · rename_i ht; cases h; cases hx; cases hy; rw [run_equalIn_bool' w D t _ _ ht]; congr 1
    · rename_i k' k a k'' b ht
      split at h
      · rename_i hk
        have hk : k = k'' := of_decide_eq_true hk
        cases h; cases hx; cases hy; subst hk; rw [run_equalIn_int w D t _ _ _ _ ht]; congr 1
      · cases h
    · rename_i ht; cases h; cases hx; cases hy; rw [run_equalIn_string w D t _ _ ht, beq_bytes]
    · rename_i e p q ht
      rcases nilEq_ok h with ⟨rfl, rfl⟩ | ⟨rfl, h2, rfl⟩
      · cases hy
        rcases hx.ptr_inv with ⟨rfl, rfl⟩ | ⟨b, o, l, rfl, hl, rfl⟩ <;> simp [Op.equalIn, run_underlying ht, Result.andThen]
      · cases hx
        rcases hy.ptr_inv with ⟨rfl, rfl⟩ | ⟨b, o, l, rfl, hl, rfl⟩
        · simp at h2
        · simp [Op.equalIn, run_underlying ht, Result.andThen]
    · rename_i e p _ _ q _ _ ht
      rcases nilEq_ok h with ⟨rfl, rfl⟩ | ⟨rfl, h2, rfl⟩
      · cases hy
        rcases hx.slice_inv with ⟨rfl, _, _, rfl⟩ | ⟨b, o, l, o', c, rfl, hl, rfl, _⟩ | ⟨b, o, a0, c0, rfl, _, _, rfl⟩ <;> simp [Op.equalIn, run_underlying ht, Result.andThen]
      · cases hx
        rcases hy.slice_inv with ⟨rfl, _, _, rfl⟩ | ⟨b, o, l, o', c, rfl, hl, rfl, _⟩ | ⟨b, o, a0, c0, rfl, _, _, rfl⟩
        · simp at h2
        · simp [Op.equalIn, run_underlying ht, Result.andThen]
        · simp [Op.equalIn, run_underlying ht, Result.andThen]
    · rename_i k e p q ht
      rcases nilEq_ok h with ⟨rfl, rfl⟩ | ⟨rfl, h2, rfl⟩
      · cases hy
        rcases hx.map_inv with ⟨rfl, rfl⟩ | ⟨b, l, rfl, hl, rfl⟩ <;> simp [Op.equalIn, run_underlying ht, Result.andThen]
      · cases hx
        rcases hy.map_inv with ⟨rfl, rfl⟩ | ⟨b, l, rfl, hl, rfl⟩
        · simp at h2
        · simp [Op.equalIn, run_underlying ht, Result.andThen]
    · rename_i ht; cases h; cases hx; cases hy; simp [Op.equalIn, run_underlying ht, Result.andThen]
    · rename_i ht; cases h; cases hx; cases hy; simp [Op.equalIn, run_underlying ht, Result.andThen]
    · rename_i ht; cases h; cases hx; cases hy; simp [Op.equalIn, run_underlying ht, Result.andThen]
    · rename_i fs xs ys ht
      split at h
      · cases h
      · rename_i hp
        obtain ⟨xs', rfl, hxs⟩ := hx.agg_inv
        obtain ⟨ys', rfl, hys⟩ := hy.agg_inv
        have hf : P.fieldsOf t = fs := by simp [Program.fieldsOf, ht]
        rw [run_equalIn_struct (P := P) w D t xs' ys' (by rw [hf]; exact ht) hp, hf]
        have key : ∀ (gs : List Field) (r : Bool), eqV.eqFields P d xs.toList ys.toList gs = some r → (Op.eqFields D xs' ys' gs).run P w = .ok r w := by
          intro gs
          induction gs with
          | nil => intro r h; simp [eqV.eqFields] at h; subst h; simp [Op.eqFields]
          | cons f gs ihg =>
            intro r h
            rw [eqV.eqFields] at h
            split at h
            · rename_i u v hn hagg hu hv
              split at h
              · rename_i r1 r2 h1 h2
                cases h
                have hn' : f.name ≠ "_" := of_decide_eq_true hn
                obtain ⟨u', hu', vu⟩ := hxs.get hu
                obtain ⟨v', hv', vv⟩ := hys.get hv
                have hd : ∃ dd, P.underlying f.type = some dd := by
                  cases hd : P.underlying f.type with
                  | none => cases d <;> simp [eqV, hd] at h1
                  | some dd => exact ⟨dd, rfl⟩
                obtain ⟨dd, hd⟩ := hd
                have pa : (part f.type xs' f.offset).run P w = .ok u' w := by
                  have : xs'[f.offset]? = some u' := by simpa using hu'
                  simp [part, run_isAgg hd, hagg, this, Result.andThen]
                have pb : (part f.type ys' f.offset).run P w = .ok v' w := by
                  have : ys'[f.offset]? = some v' := by simpa using hv'
                  simp [part, run_isAgg hd, hagg, this, Result.andThen]
                rw [Op.eqFields]
                simp only [if_pos hn', Sem.run_bind, pa, pb, ih h1 vu vv D w hD', Result.andThen_ok]
                have hr := ihg r2 h2
                cases r1
                · simp
                · simpa using hr
              · cases h
            · cases h
        exact key fs.toList r h
    · cases h
theorem equal_ok {t : TypeId} {x y x' y' : Value} {r : Bool} (h : eqV P 5 t x y = some r) (hx : VR ρ x x') (hy : VR ρ y y') (w : World) : (Op.equal t x' y').run P w = .ok r w :=
  eqV_ok 5 h hx hy Op.maxDepth w (by decide)

theorem lt_not_ge (a b : List UInt8) : Op.bytesLess a b = true → Op.bytesLess b a = false ∧ a ≠ b := by
  induction a generalizing b with
  | nil => cases b <;> simp [Op.bytesLess]
  | cons x xs ih =>
    cases b with
    | nil => simp [Op.bytesLess]
    | cons y ys =>
      simp only [Op.bytesLess, Bool.or_eq_true, Bool.and_eq_true, decide_eq_true_eq, beq_iff_eq, Bool.or_eq_false_iff, Bool.and_eq_false_iff]
      rintro (h | ⟨rfl, h⟩)
      · exact ⟨⟨by simp; exact UInt8.le_of_lt h, .inl (by rw [beq_eq_false_iff_ne]; exact fun e => by subst e; exact UInt8.lt_irrefl _ h)⟩, fun e => by injection e with e1 e2; subst e1; exact UInt8.lt_irrefl _ h⟩
      · obtain ⟨h1, h2⟩ := ih ys h
        exact ⟨⟨by simp, .inr h1⟩, fun e => h2 (by injection e)⟩
theorem lt_total (a b : List UInt8) : Op.bytesLess a b = false → Op.bytesLess b a = false → a = b := by
  induction a generalizing b with
  | nil => cases b <;> simp [Op.bytesLess]
  | cons x xs ih =>
    cases b with
    | nil => simp [Op.bytesLess]
    | cons y ys =>
      simp only [Op.bytesLess, Bool.or_eq_false_iff, decide_eq_false_iff_not, Bool.and_eq_false_iff]
      rintro ⟨h1, h2⟩ ⟨h3, h4⟩
      have e : x = y := UInt8.le_antisymm (UInt8.not_lt.1 h3) (UInt8.not_lt.1 h1)
      subst e
      rw [ih ys (by rcases h2 with h2 | h2; simp at h2; exact h2) (by rcases h4 with h4 | h4; simp at h4; exact h4)]
theorem lt_or_eq (a b : List UInt8) : (Op.bytesLess a b || (a == b)) = !Op.bytesLess b a := by
  cases h : Op.bytesLess b a with
  | true =>
    obtain ⟨h1, h2⟩ := lt_not_ge b a h
    simp [h1]; exact fun e => h2 e.symm
  | false =>
    cases h' : Op.bytesLess a b with
    | true => rfl
    | false => simp [lt_total a b h' h]
theorem binOp_eqV {t : TypeId} {x y x' y' : Value} {r : Bool} (hr : eqV P 5 t x y = some r) (hx : VR ρ x x') (hy : VR ρ y y') (w : World)
    (h1 : ∀ k m k' m', x = .int k m → y = .int k' m' → False) (h2 : ∀ a b, x = .string a → y = .string b → False) :
    ((Op.equal t x' y').run P w = .ok r w → (binOp .eql t x' y').run P w = .ok (.bool r) w) ∧ ((Op.equal t x' y').run P w = .ok r w → (binOp .neq t x' y').run P w = .ok (.bool !r) w) := by
  unfold eqV at hr
  split at hr
  · cases hx; cases hy; constructor <;> intro he <;> simp [binOp, he, Result.andThen]
  · exact (h1 _ _ _ _ rfl rfl).elim
  · exact (h2 _ _ rfl rfl).elim
  · cases hx <;> cases hy <;> constructor <;> intro he <;> simp [binOp, he, Result.andThen]
  · cases hx <;> cases hy <;> constructor <;> intro he <;> simp [binOp, he, Result.andThen]
  · cases hx <;> cases hy <;> constructor <;> intro he <;> simp [binOp, he, Result.andThen]
  · cases hx; cases hy; constructor <;> intro he <;> simp [binOp, he, Result.andThen]
  · cases hx; cases hy; constructor <;> intro he <;> simp [binOp, he, Result.andThen]
  · cases hx; cases hy; constructor <;> intro he <;> simp [binOp, he, Result.andThen]
  · cases hx; cases hy; constructor <;> intro he <;> simp [binOp, he, Result.andThen]
  · cases hr
theorem binK_ok {op : BinOp} {t : TypeId} {x y x' y' : Value} {K : Value → Prop} (hx : VR ρ x x') (hy : VR ρ y y') (h : binK P op t x y K) :
    ∃ v, K v ∧ plainV v = true ∧ ∀ (w : World), (binOp op t x' y').run P w = .ok v w := by
  unfold binK at h
  split at h
  · rename_i k m _ q
    cases hx; cases hy
    obtain ⟨h1, h2⟩ := gd_elim h
    have h1 : ¬ q < 0 := by simpa using h1
    exact ⟨_, h2, rfl, fun w => by simp [binOp, Op.shift, h1, shiftI]⟩
  · rename_i k m _ q
    cases hx; cases hy
    obtain ⟨h1, h2⟩ := gd_elim h
    have h1 : ¬ q < 0 := by simpa using h1
    exact ⟨_, h2, rfl, fun w => by simp [binOp, Op.shift, h1, shiftI]⟩
  · rename_i k m k' m' _ _
    cases hx; cases hy
    split at h
    · exact h.elim
    · rename_i hk
      have hk : k = k' := of_decide_eq_true hk
      subst hk
      have ne : (k ≠ k) = False := by simp
      cases op
      case add | sub | mul =>
        obtain ⟨v, hv, hk⟩ := optP_elim h
        refine ⟨v, hk, ?_, fun w => ?_⟩
        · simp [Op.intArith, semPure, pure] at hv; subst hv; rfl
        · simp only [binOp, ne, if_false]; exact semPure_run hv
      case quo | rem =>
        obtain ⟨h1, h2⟩ := gd_elim h
        have h1 : ¬ m' = 0 := by simpa using h1
        refine ⟨_, h2, rfl, fun w => ?_⟩
        simp [binOp, ne, Op.intDiv, h1]
      case and | or | xor | andNot =>
        obtain ⟨v, hv, hk⟩ := optP_elim h
        refine ⟨v, hk, ?_, fun w => ?_⟩
        · simp [Op.intBits, semPure, pure] at hv; subst hv; rfl
        · simp only [binOp, ne, if_false]; exact semPure_run hv
      case eql | neq | lss | leq | gtr | geq =>
        refine ⟨_, h, rfl, fun w => ?_⟩
        simp only [binOp, ne, if_false, Op.intCmp]
        rfl
      all_goals exact h.elim
  · cases hx; cases hy
    obtain ⟨h1, h2⟩ := gd_elim h
    refine ⟨_, h2, rfl, fun w => ?_⟩
    have h1 := of_decide_eq_true h1
    have hm : IntKind.i64.max = 9223372036854775807 := by decide
    simp only [binOp, Op.stringOp, hm]
    rw [if_neg (by omega)]; rfl
  · cases hx; cases hy
    refine ⟨_, h, rfl, fun w => ?_⟩
    simp only [binOp, Op.stringOp, beq_bytes]; rfl
  · cases hx; cases hy
    refine ⟨_, h, rfl, fun w => ?_⟩
    simp only [binOp, Op.stringOp, beq_bytes]; rfl
  · cases hx; cases hy
    refine ⟨_, h, rfl, fun w => ?_⟩
    simp only [binOp, Op.stringOp, bytes_list]; rfl
  · cases hx; cases hy
    refine ⟨_, h, rfl, fun w => ?_⟩
    simp only [binOp, Op.stringOp, bytes_list, lt_or_eq, Bool.not_not]; rfl
  · cases hx; cases hy
    refine ⟨_, h, rfl, fun w => ?_⟩
    simp only [binOp, Op.stringOp, bytes_list, lt_or_eq]; rfl
  · cases hx; cases hy
    refine ⟨_, h, rfl, fun w => ?_⟩
    simp only [binOp, Op.stringOp, bytes_list]; rfl
  · rename_i hne1 hne2 hne3
    split at h
    · obtain ⟨r, hr, hk⟩ := optP_elim h
      refine ⟨_, hk, rfl, fun w => ?_⟩
      have he := equal_ok hr hx hy w
      exact (binOp_eqV hr hx hy w (fun k m k' m' e => hne2 k m k' m' e) (fun a b e => hne3 a b e)).1 he
    · exact h.elim
  · rename_i hne1 hne2 hne3
    split at h
    · obtain ⟨r, hr, hk⟩ := optP_elim h
      refine ⟨_, hk, rfl, fun w => ?_⟩
      have he := equal_ok hr hx hy w
      exact (binOp_eqV hr hx hy w (fun k m k' m' e => hne2 k m k' m' e) (fun a b e => hne3 a b e)).2 he
    · exact h.elim
  · exact h.elim
end Go.Proofs.Ytbikpfccdcblfaa.Eng
/- The engine, part 6: each operation does what the engine asks of it, as the model runs it: scalars, comparisons, places, blocks, slices. -/
namespace Go.Proofs.Ytbikpfccdcblfaa.Eng
open Go Go.RowKit
set_option linter.unusedVariables false
set_option linter.unusedSimpArgs false
variable {P : Program} {G : Nat} {ρ : Ren} {B : Nat} {H : Hp} {w : World} {n : Nat} {σ : Env} {a : Act}

theorem VR.nilIface_inv {v : Value} (h : VR ρ v .nilIface) : v = .nilIface := by cases h; rfl
theorem VR.agg_inv' {cs : Array Value} {v : Value} (h : VR ρ v (.agg cs)) : ∃ cs', v = .agg cs' := by
  cases h with
  | agg hx hx' => exact ⟨_, rfl⟩
theorem eqGuard_ok {op : BinOp} {t : TypeId} {x y x' y' : Value} {X Y : Operand} {K : Value → Prop} (hx : VR ρ x x') (hy : VR ρ y y') (h : binK P op t x y K) (w : World) :
    (eqGuard op t X Y x' y').run P w = .ok () w := by
  cases op
  case eql =>
    unfold eqGuard
    simp only
    cases x' <;> cases y' <;> first | rfl | skip
    · have := hx.nilIface_inv; have := hy.nilIface_inv; subst_vars
      simp [binK, binK.eqSafe] at h
    · obtain ⟨c, rfl⟩ := hx.agg_inv'; obtain ⟨d, rfl⟩ := hy.agg_inv'
      have hg : P.eqGuardType P.depth t = false := by
        cases hg : P.eqGuardType P.depth t with
        | false => rfl
        | true => simp [binK, binK.eqSafe, hg] at h
      simp [hg]
  case neq =>
    unfold eqGuard
    simp only
    cases x' <;> cases y' <;> first | rfl | skip
    · have := hx.nilIface_inv; have := hy.nilIface_inv; subst_vars
      simp [binK, binK.eqSafe] at h
    · obtain ⟨c, rfl⟩ := hx.agg_inv'; obtain ⟨d, rfl⟩ := hy.agg_inv'
      have hg : P.eqGuardType P.depth t = false := by
        cases hg : P.eqGuardType P.depth t with
        | false => rfl
        | true => simp [binK, binK.eqSafe, hg] at h
      simp [hg]
  all_goals rfl
theorem ifaceNil_elim {x x' : Value} {r : Bool} (hx : VR ρ x x') (h : ifaceNil x = some r) : (x' = .nilIface ∧ r = true) ∨ (∃ t v, x' = .iface t v) ∧ r = false := by
  unfold ifaceNil at h
  split at h
  · cases hx; cases h; exact .inl ⟨rfl, rfl⟩
  · cases hx; cases h; exact .inr ⟨⟨_, _, rfl⟩, rfl⟩
  · cases h
theorem isConst_elim {x : Operand} (h : isConst x = true) : x = .const .nilIface := by
  unfold isConst at h
  split at h
  · rfl
  · cases h
theorem isIface_elim {t : TypeId} (h : isIface P t = true) : ∃ m, P.underlying t = some (.interface m) := by
  unfold isIface at h
  split at h
  · exact ⟨_, ‹_›⟩
  · cases h
theorem equal_iface {t : TypeId} {x' y' : Value} {r : Bool} (ht : ∃ m, P.underlying t = some (.interface m)) (hx : (x' = .nilIface ∧ r = true) ∨ (∃ t v, x' = .iface t v) ∧ r = false) (hy : y' = .nilIface) (w : World) :
    (Op.equal t x' y').run P w = .ok r w ∧ (Op.equal t y' x').run P w = .ok r w := by
  obtain ⟨m, hm⟩ := ht
  subst hy
  rcases hx with ⟨rfl, rfl⟩ | ⟨⟨t', v, rfl⟩, rfl⟩ <;> constructor <;> (show (Op.equalIn (9999 + 1) _ _ _).run P w = _) <;> (unfold Op.equalIn; simp [run_underlying hm, Result.andThen])
theorem binopK_ok {op : BinOp} {t : TypeId} {x y x' y' : Value} {X Y : Operand} {K : Value → Prop} (hX : isConst X = true → x' = .nilIface) (hY : isConst Y = true → y' = .nilIface) (hx : VR ρ x x') (hy : VR ρ y y')
    (h : binopK P op t X Y x y K) : ∃ v, K v ∧ plainV v = true ∧ ∀ (w : World), (do eqGuard op t X Y x' y'; binOp op t x' y').run P w = .ok v w := by
  unfold binopK at h
  split at h
  · rename_i hi
    have ht := isIface_elim hi
    unfold ifaceK at h
    split at h
    · split at h
      · rename_i hc
        obtain ⟨r, hr, hk⟩ := optP_elim h
        have hx' := ifaceNil_elim hx hr
        have hy' := hY hc
        refine ⟨_, hk, rfl, fun w => ?_⟩
        have he := (equal_iface ht hx' hy' w).1
        have hc := isConst_elim hc; subst hc; subst hy'
        rcases hx' with ⟨rfl, rfl⟩ | ⟨⟨t', v, rfl⟩, rfl⟩ <;> simp [eqGuard, binOp, he, Result.andThen]
      · obtain ⟨hc, h⟩ := gd_elim h
        obtain ⟨r, hr, hk⟩ := optP_elim h
        have hy' := ifaceNil_elim hy hr
        have hx' := hX hc
        refine ⟨_, hk, rfl, fun w => ?_⟩
        have he := (equal_iface ht hy' hx' w).2
        have hc := isConst_elim hc; subst hc; subst hx'
        rcases hy' with ⟨rfl, rfl⟩ | ⟨⟨t', v, rfl⟩, rfl⟩ <;> simp [eqGuard, binOp, he, Result.andThen]
    · split at h
      · rename_i hc
        obtain ⟨r, hr, hk⟩ := optP_elim h
        have hx' := ifaceNil_elim hx hr
        have hy' := hY hc
        refine ⟨_, hk, rfl, fun w => ?_⟩
        have he := (equal_iface ht hx' hy' w).1
        have hc := isConst_elim hc; subst hc; subst hy'
        rcases hx' with ⟨rfl, rfl⟩ | ⟨⟨t', v, rfl⟩, rfl⟩ <;> simp [eqGuard, binOp, he, Result.andThen]
      · obtain ⟨hc, h⟩ := gd_elim h
        obtain ⟨r, hr, hk⟩ := optP_elim h
        have hy' := ifaceNil_elim hy hr
        have hx' := hX hc
        refine ⟨_, hk, rfl, fun w => ?_⟩
        have he := (equal_iface ht hy' hx' w).2
        have hc := isConst_elim hc; subst hc; subst hx'
        rcases hy' with ⟨rfl, rfl⟩ | ⟨⟨t', v, rfl⟩, rfl⟩ <;> simp [eqGuard, binOp, he, Result.andThen]
    · exact h.elim
  · obtain ⟨v, h1, h2, h3⟩ := binK_ok hx hy h
    exact ⟨v, h1, h2, fun w => by simp [eqGuard_ok hx hy h w, h3 w, Result.andThen]⟩
theorem isConst_eval {x : Operand} (h : isConst x = true) (a : Act) : a.eval x = .nilIface := by rw [isConst_elim h]; rfl

/-! slices of strings, slices, arrays -/
theorem run_underlying' {t : TypeId} {d : TypeDesc} (h : P.underlying t = some d) (w : World) : (underlying t).run P w = .ok d w := run_underlying h w
/-- An optional bound. -/
theorem boundK_ok {E : Operand → Option Value} (hE : ∀ x v, E x = some v → VR ρ v (a.eval x)) {o : Option Operand} {d : Int} {K : Int → Prop} (h : boundK E o d K) :
    ∃ m : Int, K m ∧ ((o = none ∧ m = d) ∨ ∃ x k, o = some x ∧ a.eval x = .int k m) := by
  unfold boundK at h
  split at h
  · exact ⟨d, h, .inl ⟨rfl, rfl⟩⟩
  · rename_i x
    split at h
    · rename_i k m hx
      exact ⟨m, h, .inr ⟨x, k, rfl, (hE _ _ hx).int_inv⟩⟩
    · exact h.elim
theorem run_bounds {isSlice : Bool} {len cap : Nat} {lo hi : Option Operand} {l h : Int} (hl : (lo = none ∧ l = 0) ∨ ∃ x k, lo = some x ∧ a.eval x = .int k l) (hh : (hi = none ∧ h = (len : Int)) ∨ ∃ x k, hi = some x ∧ a.eval x = .int k h)
    (h0 : 0 ≤ l) (h1 : l ≤ h) (h2 : h ≤ (len : Int)) (hc : len ≤ cap) (w : World) :
    (Instr.sliceBounds isSlice len cap (lo.map a.eval) (hi.map a.eval) none).run P w = .ok (l.toNat, h.toNat, cap) w := by
  have e1 : ∀ (k : IntKind) (m : Int) (y : Nat) (c : BoundsCode), 0 ≤ m → m ≤ (y : Int) → (Instr.sliceBound (.int k m) y c).run P w = .ok m.toNat w := by
    intro k m y c a1 a2
    simp [Instr.sliceBound, asIntOf, a1, a2]
  have hlen : ((len : Int)).toNat = len := by omega
  rcases hl with ⟨rfl, rfl⟩ | ⟨x, k, rfl, hx⟩ <;> rcases hh with ⟨rfl, rfl⟩ | ⟨y, k', rfl, hy⟩
  · simp [Instr.sliceBounds, hlen]
  · simp [Instr.sliceBounds, hy, e1 k' h cap _ (by omega) (by omega)]
  · simp [Instr.sliceBounds, hx, e1 k l len _ h0 h1, hlen]
  · have : l ≤ (h.toNat : Int) := by omega
    simp [Instr.sliceBounds, hx, hy, e1 k' h cap _ (by omega) (by omega), e1 k l h.toNat _ h0 this]
theorem sliceK_ok {E : Operand → Option Value} (hE : ∀ x v, E x = some v → VR ρ v (a.eval x)) {t : TypeId} {x x' : Value} {lo hi : Option Operand} {K : Value → Prop} (hx : VR ρ x x') (h : sliceK P E t x lo hi K) :
    ∃ v v', K v ∧ VR ρ v v' ∧ (Instr.sliceAt t x' (lo.map a.eval) (hi.map a.eval) (none : Option Value)).run P w = .ok v' w := by
  unfold sliceK at h
  split at h
  · rename_i s ht
    cases hx
    obtain ⟨l, h3, hl⟩ := boundK_ok hE h
    obtain ⟨m, h4, hm⟩ := boundK_ok hE h3
    obtain ⟨hb, hk⟩ := gd_elim h4
    simp only [Bool.and_eq_true, decide_eq_true_eq] at hb
    refine ⟨_, _, hk, .string _, ?_⟩
    have := run_bounds (P := P) (isSlice := false) (cap := s.size) hl hm hb.1.1 hb.1.2 hb.2 (Nat.le_refl _) w
    simp [Instr.sliceAt, Instr.slice, run_underlying ht, this, Result.andThen]
  · rename_i e p m k ht
    split at h
    · exact h.elim
    · rename_i i hi'
      obtain ⟨l, h3, hl⟩ := boundK_ok hE h
      obtain ⟨q, h4, hq⟩ := boundK_ok hE h3
      obtain ⟨hb, h5⟩ := gd_elim h4
      simp only [Bool.and_eq_true, decide_eq_true_eq] at hb
      rcases hx.slice_inv with ⟨rfl, rfl, rfl, rfl⟩ | ⟨b, o, lc, o', c, rfl, hlc, rfl, ho, hn, hc⟩ | ⟨b, o, a0, c0, rfl, rfl, rfl, rfl⟩
      · have := run_bounds (P := P) (isSlice := true) (cap := 0) hl hq hb.1.1 hb.1.2 hb.2 (Nat.le_refl _) w
        refine ⟨_, _, h5, .snil, ?_⟩
        have hq0 : q.toNat = 0 := by omega
        have hl0 : l.toNat = 0 := by omega
        simp [Instr.sliceAt, Instr.slice, run_underlying ht, this, Result.andThen, run_sizeOf hi', hq0, hl0]
      · have := run_bounds (P := P) (isSlice := true) (cap := c) hl hq hb.1.1 hb.1.2 hb.2 hn w
        simp only at h5
        refine ⟨_, .slice (some ⟨lc.blk, if c = l.toNat then o' else o' + l.toNat * i.size, none⟩) (q.toNat - l.toNat) (c - l.toNat), h5, ?_, ?_⟩
        · rw [show (q - l).toNat = q.toNat - l.toNat by omega]
          refine .slice hlc ?_ (by omega) ?_
          · split
            · right; omega
            · rename_i hne
              rcases ho with ho | ho
              · left; omega
              · exact (by omega : False).elim
          · intro hkn
            have hkm : k = i.size := by
              cases hk1 : Nat.beq k i.size with
              | true => exact Nat.eq_of_beq_eq_true hk1
              | false => rw [hk1] at hkn; simp at hkn
            have hk1 : Nat.beq k i.size = true := by rw [hkm]; exact Nat.beq_refl _
            rw [hk1] at hkn ⊢
            simp only [cond_true] at hkn ⊢
            obtain ⟨c1, c2, c3⟩ := hc (by omega)
            refine ⟨c1, by omega, ?_⟩
            rw [hkm] at c3
            split
            · rename_i hcl
              rw [show c - l.toNat = 0 by omega, Nat.zero_mul]
              have := Nat.le_trans (Nat.le_add_right o' (c * i.size)) c3
              omega
            · have hle : l.toNat ≤ c := by omega
              have : l.toNat * i.size + (c - l.toNat) * i.size = c * i.size := by rw [← Nat.add_mul, Nat.add_sub_cancel' hle]
              omega
        · simp [Instr.sliceAt, Instr.slice, run_underlying ht, this, Result.andThen, run_sizeOf hi', Addr.add_lit]
          split <;> rfl
      · have := run_bounds (P := P) (isSlice := true) (cap := c0) hl hq hb.1.1 hb.1.2 hb.2 (Nat.zero_le _) w
        have hq0 : q.toNat = 0 := by omega
        have hl0 : l.toNat = 0 := by omega
        have hql : (q - l).toNat = 0 := by omega
        simp only [hql, hl0] at h5
        have hk0 : cond (Nat.beq 0 i.size) i.size 0 = 0 := by
          cases hk1 : Nat.beq 0 i.size with
          | true => simp [Nat.eq_of_beq_eq_true hk1]
          | false => rfl
        rw [hk0] at h5
        refine ⟨_, .slice (some a0) 0 c0, h5, .slice0 _ _ _ _, ?_⟩
        simp [Instr.sliceAt, Instr.slice, run_underlying ht, this, Result.andThen, run_sizeOf hi', hq0, hl0, Addr.add]
  · rename_i len e p ht
    obtain ⟨ad, rfl, h0⟩ := optP_elim h
    clear h
    have h := h0
    clear h0
    obtain ⟨lc, hlc, hs, rfl⟩ := hx.ptr_some
    split at h
    · exact h.elim
    · rename_i i hi'
      obtain ⟨l, h3, hl⟩ := boundK_ok hE h
      obtain ⟨q, h4, hq⟩ := boundK_ok hE h3
      obtain ⟨hb, h5⟩ := gd_elim h4
      simp only [Bool.and_eq_true, decide_eq_true_eq] at hb
      have := run_bounds (P := P) (isSlice := false) (cap := len) hl hq hb.1.1 hb.1.2 hb.2 (Nat.le_refl _) w
      refine ⟨_, .slice (some ⟨lc.blk, if len = l.toNat then lc.off + ad.off else lc.off + ad.off + l.toNat * i.size, none⟩) (q.toNat - l.toNat) (len - l.toNat), h5, ?_, ?_⟩
      · rw [show (q - l).toNat = q.toNat - l.toNat by omega]
        refine .slice hlc ?_ (by omega) (fun h0 => (h0 rfl).elim)
        split
        · right; omega
        · left; omega
      · simp [Instr.sliceAt, Instr.sureAddr, run_underlying ht, this, Result.andThen, run_sizeOf hi', Addr.add_lit]
        split <;> rfl
  · exact h.elim
end Go.Proofs.Ytbikpfccdcblfaa.Eng
/- The engine, part 7: make, append, copy, conversions, places, literals. -/
namespace Go.Proofs.Ytbikpfccdcblfaa.Eng
open Go Go.RowKit
set_option linter.unusedVariables false
set_option linter.unusedSimpArgs false
variable {P : Program} {G : Nat} {ρ : Ren} {B : Nat} {H : Hp} {w : World} {n : Nat} {σ : Env} {a : Act}

/-- A new row of the call's own. -/
theorem Rep.row (r : Rep P G ρ B H w.heap) {e e' : TypeId} {cs : List Value} {C : Array Value} {row : Bool} {fz : Nat × Nat} (hl : cs.length ≤ C.size)
    (hv : ∀ (i : Nat) (v : Value), cs[i]? = some v → ∃ v', C[i]? = some v' ∧ VR ρ v v' ∧ oneCell v = true)
    (hfz : ∀ i, i < C.size → (decide (fz.1 ≤ i) && decide (i < fz.2)) = false) :
    Rep P G (ρ.add H.next ⟨w.heap.size, 0, C.size, szOf P e, row⟩) B (H.new (.cells true e cs)) (w.heap.push (.cells C e' fz)) := by
  refine r.new rfl ⟨C, e', fz, by simp, fun i v hi => ?_, fun _ => ⟨r.base, by simp, hl, hfz, fun _ => rfl⟩⟩
  obtain ⟨v', a1, a2, a3⟩ := hv i v hi
  exact ⟨v', by simpa using a1, a2.mono (Ren.add_ext _ (r.dom _ (Nat.le_refl _))), a3⟩
theorem flat_get (l : List Value) : ∀ (n i : Nat), (List.replicate n l).flatten[i]? = if i < n * l.length then l[i % l.length]? else none
  | 0, i => by simp
  | n + 1, i => by
    rw [List.replicate_succ, List.flatten_cons, List.getElem?_append, flat_get l n]
    by_cases h : i < l.length
    · have : i < (n + 1) * l.length := by rw [Nat.succ_mul]; omega
      rw [if_pos h, if_pos this, Nat.mod_eq_of_lt h]
    · rw [if_neg h]
      by_cases h2 : i - l.length < n * l.length
      · rw [if_pos h2, if_pos (by rw [Nat.succ_mul]; omega), Nat.mod_eq_sub_mod (a := i) (by omega)]
      · rw [if_neg h2, if_neg (by rw [Nat.succ_mul]; omega)]
theorem zerosN_length (z : Value) (n : Nat) : (zerosN z n).length = n * z.cells.size := by simp [zerosN]
theorem zerosN_get {z : Value} {m k i : Nat} (hk : m ≤ k) {v : Value} (h : (zerosN z m)[i]? = some v) : (madeCells z.cells (k * z.cells.size))[i]? = some v := by
  rw [zerosN, flat_get] at h
  split at h
  · rename_i hi
    simp only [Array.length_toList] at hi h
    have hlt : i < k * z.cells.size := Nat.lt_of_lt_of_le hi (Nat.mul_le_mul_right _ hk)
    have hpos : 0 < z.cells.size := by
      rcases Nat.eq_zero_or_pos z.cells.size with e | e
      · rw [e] at hi; omega
      · exact e
    have hm : i % z.cells.size < z.cells.size := Nat.mod_lt _ hpos
    have hv : z.cells[i % z.cells.size]! = v := by
      have h' : z.cells[i % z.cells.size]? = some v := by simpa using h
      rw [getElem!_def, h']
    simp only [madeCells]
    rw [Array.getElem?_map, Array.getElem?_range, if_pos hlt]
    simp [hv]
  · cases h
theorem room_int : ((room : Nat) : Int) = 140737488355328 := rfl
theorem makeSliceK_ok (r : Rep P G ρ B H w.heap) {t : TypeId} {l m l' m' : Value} {K : Value → Hp → Prop} (hl : VR ρ l l') (hm : VR ρ m m') (h : makeSliceK P t l m H K) :
    ∃ v' w', (Instr.makeSlice t l' m').run P w = .ok v' w' ∧ Post P G ρ B w K v' w' := by
  unfold makeSliceK at h
  split at h
  · rename_i e n m ht
    cases hl; cases hm
    split at h
    · exact h.elim
    · rename_i i hi
      split at h
      · exact h.elim
      · rename_i z hz
        obtain ⟨h1, h2⟩ := gd_elim h
        obtain ⟨h3, h4⟩ := gd_elim h2
        simp only [Bool.and_eq_true, decide_eq_true_eq] at h1
        obtain ⟨i', hi', hz', hzc⟩ := zeroOf_elim hz
        rw [hi] at hi'; cases hi'
        have hs : z.cells.size = i.size := Nat.eq_of_beq_eq_true h3
        have hr := run_make (P := P) w t e i z ht hi hz' .i64 .i64 n m h1.1.1.1 h1.1.1.2 (by have := h1.1.2; rw [room_int] at this; rw [Int.mul_comm]; omega) (by have := h1.2; rw [room_int] at this; omega)
        refine ⟨_, _, hr, ?_⟩
        have hnm : n.toNat ≤ m.toNat := by have := h1.1.1; omega
        have hrow := r.row (e := e) (e' := e) (cs := zerosN z n.toNat) (C := madeCells z.cells (m.toNat * i.size)) (row := true) (fz := (0, 0))
          (by rw [zerosN_length, size_madeCells, hs]; exact Nat.mul_le_mul_right _ hnm)
          (fun j v hj => ⟨v, by rw [← hs]; exact zerosN_get hnm hj, by
            have hz2 : v ∈ z.cells.toList := by
              have := List.mem_of_getElem? hj
              simp only [zerosN, List.mem_flatten, List.mem_replicate] at this
              obtain ⟨_, ⟨_, rfl⟩, hv⟩ := this
              exact hv
            refine ⟨?_, const_one hzc v hz2⟩
            obtain ⟨q, hq⟩ := List.getElem?_of_mem hz2
            exact (constCells hzc ρ).2 q v v hq hq⟩) (by simp)
        refine ⟨_, _, _, h4, Ren.add_ext _ (r.dom _ (Nat.le_refl _)), ?_, hrow, below_push w _ r.base⟩
        have := VR.slice (ρ := ρ.add H.next ⟨w.heap.size, 0, (madeCells z.cells (m.toNat * i.size)).size, szOf P e, true⟩) (b := H.next) (o := 0) (n := n.toNat) (k := i.size) (o' := 0) (c := m.toNat) (Ren.add_self _ _ _) (.inl rfl) hnm
          (fun _ => ⟨rfl, by simp [szOf_eq hi], by simp [size_madeCells]⟩)
        exact this
  · exact h.elim

/-! append, copy -/
theorem Hp.take_get {H : Hp} {b o m : Nat} {j : Nat} {v : Value} (h : (H.take b o m)[j]? = some v) : j < m ∧ H.cell b (o + j) = some v := by
  unfold Hp.take Hp.row at h
  rw [List.getElem?_take] at h
  split at h
  · rename_i hj
    refine ⟨hj, ?_⟩
    unfold Hp.cell
    split at h
    · simpa using h
    · simp at h
  · cases h
theorem Hp.take_length {H : Hp} {b o m : Nat} {own : Bool} {e : TypeId} {cs : List Value} (hb : H.obj b = some (.cells own e cs)) (hl : o + m ≤ cs.length) : (H.take b o m).length = m := by
  simp [Hp.take, Hp.row, hb]; omega
/-- The cells that a slice shows. -/
theorem src_cells {w : World} (r : Rep P G ρ B H w.heap) {ad : Addr} {m k : Nat} {x' : Value} (hx : VR ρ (.slice (some ad) m k) x') {sz : Nat} (h : H.has ad.block ad.off (m * sz)) :
    ∃ a' c vs', x' = .slice (some a') m c ∧ VRs ρ (H.take ad.block ad.off (m * sz)) vs' ∧ (∀ v ∈ H.take ad.block ad.off (m * sz), oneCell v = true) ∧ (H.take ad.block ad.off (m * sz)).length = m * sz ∧
      ∀ j u, vs'[j]? = some u → w.cell? (a'.add j) = some u := by
  have nil : ∀ (b o : Nat), m * sz = 0 → H.take b o (m * sz) = [] := fun b o e => by rw [e]; rfl
  rcases hx.slice_inv with ⟨hne, _⟩ | ⟨b, o, l, o', c, hne, hlb, rfl, ho, hn, hc⟩ | ⟨b, o, a0, c0, hne, hm, _, rfl⟩
  · cases hne
  · cases hne
    rcases h with h | ⟨own, e, cs, hb, hl⟩
    · refine ⟨⟨l.blk, o', none⟩, c, [], rfl, ?_, ?_, ?_, fun j u hj => by simp at hj⟩
      · rw [nil _ _ h]; exact .nil ρ
      · rw [nil _ _ h]; exact fun v hv => by cases hv
      · rw [nil _ _ h, h]; rfl
    · simp only at hb hl
      have hlen := Hp.take_length hb hl
      obtain ⟨vs', k1, k2, k3, k4⟩ := run_cells r hlb (vs := H.take b o (m * sz)) (o := o) (fun j v hj => (Hp.take_get hj).2)
      refine ⟨_, c, vs', rfl, k2, k3, hlen, fun j u hu => ?_⟩
      rw [Addr.add_lit]
      rcases ho with ho | ho
      · rw [ho]; exact k4 j u hu
      · have hj : j < vs'.length := (List.getElem?_eq_some_iff.1 hu).1
        have : m = 0 := by omega
        rw [← k2.1, hlen, this] at hj; omega
  · cases hne
    subst hm
    refine ⟨a0, c0, [], rfl, ?_, ?_, ?_, fun j u hj => by simp at hj⟩
    · rw [nil _ _ (Nat.zero_mul _)]; exact .nil ρ
    · rw [nil _ _ (Nat.zero_mul _)]; exact fun v hv => by cases hv
    · rw [nil _ _ (Nat.zero_mul _)]; simp
/-- What an append or a copy reads. -/
theorem srcK_ok (r : Rep P G ρ B H w.heap) {sz : Nat} {x x' : Value} {tx : TypeId} {K : Nat → List Value → Prop} (hx : VR ρ x x')
    {d : TypeDesc} (hd : P.underlying tx = some d) (hty : srcTy d sz x = true)
    (h : srcK sz x H K) : ∃ m new new', K m new ∧ VRs ρ new new' ∧ (∀ v ∈ new, oneCell v = true) ∧ new.length = m * sz ∧ Src P sz tx x' m new' w ∧ (m = 0 → new' = []) := by
  unfold srcK at h
  split at h
  · rename_i p m k
    obtain ⟨e', he'⟩ : ∃ e, P.underlying tx = some (.slice e) := by
      unfold srcTy at hty
      split at hty
      · exact ⟨_, hd⟩
      · rename_i hne; cases hne
      · cases hty
    split at h
    · rcases hx.slice_inv with ⟨_, rfl, rfl, rfl⟩ | ⟨b, o, l, o', c, hne, _⟩ | ⟨b, o, a0, c0, hne, _⟩
      · exact ⟨0, [], [], h, .nil ρ, (fun v hv => by cases hv), by simp, Src.ofNil w he' 0, fun _ => rfl⟩
      · cases hne
      · cases hne
    · rename_i ad
      obtain ⟨hh, hk⟩ := h
      obtain ⟨a', c, vs', rfl, k2, k3, hlen, k4⟩ := src_cells r hx hh
      have hlen' : vs'.length = m * sz := by rw [← k2.1]; exact hlen
      refine ⟨m, _, vs', hk, k2, k3, hlen, ?_, fun hm => ?_⟩
      · refine Src.ofSlice w he' a' m c vs' hlen' k4 (fun u hu => ?_)
        obtain ⟨j, hj⟩ := List.getElem?_of_mem hu
        have hj' : j < (H.take ad.block ad.off (m * sz)).length := k2.1 ▸ (List.getElem?_eq_some_iff.1 hj).1
        exact oneCell_eq ((k2.2 j _ u (List.getElem?_eq_getElem hj') hj).one (k3 _ (List.getElem_mem hj')))
      · subst hm
        rw [Nat.zero_mul] at hlen'
        exact List.eq_nil_of_length_eq_zero hlen'
  · rename_i s
    cases hx
    obtain ⟨hu, rfl⟩ : P.underlying tx = some .string ∧ sz = 1 := by
      unfold srcTy at hty
      split at hty
      · rename_i hne; cases hne
      · exact ⟨hd, Nat.eq_of_beq_eq_true hty⟩
      · cases hty
    refine ⟨s.size, _, byteCells s, h, ?_, ?_, ?_, Src.ofString w hu s, fun hm => ?_⟩
    · refine ⟨by simp [bytesV, byteCells], fun i v v' hv hv' => ?_⟩
      have e : bytesV s = byteCells s := rfl
      rw [e] at hv; rw [hv] at hv'; cases hv'
      obtain ⟨_, _, rfl⟩ := List.mem_map.1 (List.mem_of_getElem? hv)
      exact .int _ _
    · intro v hv
      obtain ⟨_, _, rfl⟩ := List.mem_map.1 hv; rfl
    · show (byteCells s).length = _
      rw [byteCells_length, Nat.mul_one]
    · exact List.eq_nil_of_length_eq_zero (by rw [byteCells_length]; exact hm)
  · exact h.elim
theorem drew_heap (w : World) : w.drew.heap = w.heap := rfl
theorem Rep.drew (r : Rep P G ρ B H w.heap) : Rep P G ρ B H w.drew.heap := r
/-- The arm of append that makes a new row. -/
theorem grow_ok (r : Rep P G ρ B H w.heap) {H0 : Hp} (hH : H0.next = H.next) (r0 : Rep P G ρ B H0 w.heap) {e : TypeId} {i : TypeInfo} {z : Value} {cs cs' : List Value} {need cap : Nat} (hi : P.info? e = some i)
    (hv : VRs ρ cs cs') (h1 : ∀ v ∈ cs, oneCell v = true) (hneed : cs.length = need * i.size) (hcap : need ≤ cap) (rest : Array Value) (hrest : need * i.size + rest.size = cap * i.size) {K : Value → Hp → Prop}
    (hk : K (.slice (some ⟨H.next, 0, none⟩) need i.size) (H0.new (.cells true e cs))) :
    Post P G ρ B w K (.slice (some ⟨w.heap.size, 0, none⟩) need cap) (w.drew.alloc (.cells (cs'.toArray ++ rest) e)) := by
  have hsz : (cs'.toArray ++ rest).size = cap * i.size := by
    have := hv.1
    simp; omega
  have hrow := r0.row (e := e) (e' := e) (cs := cs) (C := cs'.toArray ++ rest) (row := true) (fz := (0, 0)) (by have := hv.1; simp; omega)
    (fun j v hj => by
      obtain ⟨v', a1, a2⟩ := hv.get hj
      have hj' : j < cs'.length := (List.getElem?_eq_some_iff.1 a1).1
      exact ⟨v', by rw [Array.getElem?_append_left (by simpa using hj')]; simpa using a1, a2, h1 v (List.mem_of_getElem? hj)⟩) (by simp)
  refine ⟨_, _, _, hk, Ren.add_ext _ (r.dom _ (Nat.le_refl _)), ?_, by rw [← hH]; exact hrow, ((Below.refl B w).drew).alloc r.base _⟩
  have := VR.slice (ρ := ρ.add H.next ⟨w.heap.size, 0, (cs'.toArray ++ rest).size, szOf P e, true⟩) (b := H.next) (o := 0) (n := need) (k := i.size) (o' := 0) (c := cap) (Ren.add_self _ _ _) (.inl rfl) hcap
    (fun _ => ⟨rfl, by simp [szOf_eq hi], by simp only [hsz]; omega⟩)
  exact this
theorem zeroCells_size (z : Array Value) (n : Nat) : (Builtin.zeroCells z n).size = n * z.size := by simp [Builtin.zeroCells]
theorem zeroFits_elim {e : TypeId} {i : TypeInfo} (hi : P.info? e = some i) (h : zeroFits P e = true) : ∃ z, i.zero = some z ∧ z.cells.size = i.size := by
  unfold zeroFits at h
  split at h
  · rename_i i' z he hz
    rw [hi] at he
    cases he
    obtain ⟨i', hi', hz', _⟩ := zeroOf_elim hz
    rw [hi] at hi'; cases hi'
    exact ⟨z, hz', Nat.eq_of_beq_eq_true h⟩
  · cases h
theorem renew_obj (H : Hp) (b : Nat) (o2 : AObj) (c : Nat) : ((H.put b none).new o2).obj c = if c = H.next then some o2 else if c = b then none else H.obj c := rfl
/-- A block of the call's own under a new name. -/
theorem Rep.renew {h : Array Obj} (r : Rep P G ρ B H h) {b : Nat} {o o2 : AObj} {l l2 : Loc} {x : Obj} (hb : H.obj b = some o) (hm : o.mut = true) (hl : ρ b = some l) (hblk : l2.blk = l.blk)
    (ho : ObjR P (ρ.add H.next l2) B l2 (h.setIfInBounds l.blk x) o2) : Rep P G (ρ.add H.next l2) B ((H.put b none).new o2) (h.setIfInBounds l.blk x) := by
  have hnone := r.dom H.next (Nat.le_refl _)
  have hext := Ren.add_ext (ρ := ρ) l2 hnone
  have other : ∀ c oc, H.obj c = some oc → c ≠ b → ∀ lc, ρ c = some lc → l.blk ≠ lc.blk := fun c oc hc hne lc hlc => r.sep b c l lc o oc hb hc hl hlc hm (fun e => hne e.symm)
  refine ⟨by simpa using r.base, ⟨Nat.le_succ_of_le r.glob.1, fun g hg => ?_⟩, fun c hc => ?_, fun c oc hc => ?_, fun c c' l1 l3 o1 o3 h1 h2 k1 k2 hmm hne => ?_⟩
  · obtain ⟨l', a, b⟩ := r.glob.2 g hg
    exact ⟨l', hext _ _ a, b⟩
  · have hc' : H.next + 1 ≤ c := hc
    unfold Ren.add; rw [if_neg (by omega)]; exact r.dom c (by omega)
  · rw [renew_obj] at hc
    by_cases e1 : c = H.next
    · rw [if_pos e1] at hc; subst e1; cases hc
      exact ⟨l2, Ren.add_self _ _ _, ho⟩
    · rw [if_neg e1] at hc
      by_cases e2 : c = b
      · rw [if_pos e2] at hc; cases hc
      · rw [if_neg e2] at hc
        obtain ⟨l', a, b'⟩ := r.obj c oc hc
        refine ⟨l', hext _ _ a, (b'.mono hext).heap ?_⟩
        rw [Array.getElem?_setIfInBounds_ne (other c oc hc e2 l' a)]
  · rw [renew_obj] at h1 h2
    by_cases e1 : c = H.next
    · rw [if_pos e1] at h1; cases h1
      rw [if_neg (fun e => hne (e1.trans e.symm))] at h2
      by_cases e3 : c' = b
      · rw [if_pos e3] at h2; cases h2
      · rw [if_neg e3] at h2
        subst e1
        rw [Ren.add_self] at k1; cases k1
        obtain ⟨l', a, _⟩ := r.obj c' o3 h2
        rw [hext _ _ a] at k2; cases k2
        rw [hblk]; exact other c' o3 h2 e3 _ a
    · rw [if_neg e1] at h1
      by_cases e3 : c = b
      · rw [if_pos e3] at h1; cases h1
      · rw [if_neg e3] at h1
        obtain ⟨l', a, _⟩ := r.obj c o1 h1
        rw [hext _ _ a] at k1; cases k1
        by_cases e2 : c' = H.next
        · rw [if_pos e2] at h2; cases h2
          subst e2
          rw [Ren.add_self] at k2; cases k2
          rw [hblk]; exact fun e => other c o1 h1 e3 _ a e.symm
        · rw [if_neg e2] at h2
          by_cases e4 : c' = b
          · rw [if_pos e4] at h2; cases h2
          · rw [if_neg e4] at h2
            obtain ⟨l'', a', _⟩ := r.obj c' o3 h2
            rw [hext _ _ a'] at k2; cases k2
            exact r.sep c c' _ _ o1 o3 h1 h2 a a' hmm hne
theorem appendK_ok (r : Rep P G ρ B H w.heap) {t t2 ty : TypeId} {s x s' x' : Value} {K : Value → Hp → Prop} (hs : VR ρ s s') (hx : VR ρ x x') (h : appendK P t t2 s x H K) :
    ∃ v' w', (Builtin.append_ #[t, t2] ty #[s', x']).run P w = .ok v' w' ∧ Post P G ρ B w K v' w' := by
  unfold appendK at h
  split at h
  · rename_i e d2 ht ht2
    split at h
    · exact h.elim
    · rename_i i hi
      obtain ⟨hty, h1⟩ := gd_elim h
      obtain ⟨hb, h2⟩ := gd_elim h1
      simp only [Bool.and_eq_true] at hb
      obtain ⟨hb, hzf⟩ := hb
      have hb : 1 ≤ i.bytes := Nat.le_of_ble_eq_true hb
      obtain ⟨z, hz, hzs⟩ := zeroFits_elim hi hzf
      split at h2
      · rename_i p m k
        split at h2
        · rcases hs.slice_inv with ⟨_, rfl, rfl, rfl⟩ | ⟨b, o, l, o', c, hne, _⟩ | ⟨b, o, a0, c0, hne, _⟩
          · obtain ⟨q, new, new', hk, k2, k3, k4, k5, k6⟩ := srcK_ok r hx ht2 hty h2
            split at hk
            · rename_i hq
              have hq : q = 0 := Nat.eq_of_beq_eq_true hq
              subst hq
              rw [k6 rfl] at k5
              refine ⟨_, _, run_append_nothing w t t2 ty e i ht hi none 0 0 (Nat.le_refl _) x' k5, Post.still r hk .snil⟩
            · rename_i hq
              have hq : q ≠ 0 := fun e => by subst e; simp at hq
              obtain ⟨hr, hk⟩ := gd_elim hk
              have hr : q * i.bytes ≤ 140737488355328 := of_decide_eq_true hr
              have hq2 : q ≤ q * i.bytes := Nat.le_mul_of_pos_right _ hb
              have hold := run_firstCells_none (P := P) w.drew i.size 0 0 0
              have := run_append_grow_src w t t2 ty e i z ht hi hz none 0 0 [] (by simpa using hold) x' q new' k5 (by omega) (by omega) (growslice_fits (by omega) (by simpa using hr))
              refine ⟨_, _, this, ?_⟩
              have hcap := grownCap_ge w (0 + q) 0 e
              have g := grow_ok (e := e) (z := z) r rfl r hi k2 k3 (cap := grownCap w (0 + q) 0 e) k4 (by omega) (Builtin.zeroCells z.cells (grownCap w (0 + q) 0 e - (0 + q))) (by rw [zeroCells_size, hzs, ← Nat.add_mul]; congr 1; omega) (by simpa using hk)
              simpa using g
          · cases hne
          · cases hne
        · rename_i ad
          obtain ⟨hkz, ⟨cs, hob, hlen⟩, hsrc⟩ := gd_elim h2
          simp only [Bool.and_eq_true] at hkz
          have hk1 : k = i.size := Nat.eq_of_beq_eq_true hkz.1
          have hk2 : 1 ≤ k := Nat.le_of_ble_eq_true hkz.2
          rcases hs.slice_inv with ⟨hne, _⟩ | ⟨b, o, l, o', c, hne, hlb, rfl, ho, hn, hc⟩ | ⟨b, o, a0, c0, _, _, hk0, _⟩
          rotate_right
          · omega
          · cases hne
          · cases hne
            simp only at hob hlen hsrc
            obtain ⟨q, new, new', hk, s2, s3, s4, s5, s6⟩ := srcK_ok r hx ht2 hty hsrc
            obtain ⟨hr, hk⟩ := gd_elim hk
            have hr : (m + q) * i.bytes ≤ 140737488355328 := of_decide_eq_true hr
            have hq2 : m + q ≤ (m + q) * i.bytes := Nat.le_mul_of_pos_right _ hb
            obtain ⟨c1, c2, c3⟩ := hc (by omega)
            obtain ⟨l', C, e', fz, hl', hC, hcells, hown⟩ := r.cells hob
            rw [hlb] at hl'; cases hl'
            obtain ⟨o1, o2, o3, o4, o5⟩ := hown rfl
            rw [hk1] at c3
            have hlt := Hp.take_length hob hlen
            obtain ⟨olds, k1, k2, k3, k4⟩ := run_cells r hlb (vs := H.take b o (m * i.size)) (o := o) (fun j v hj => (Hp.take_get hj).2)
            have hol : olds.length = m * i.size := by rw [← k2.1]; exact hlt
            have hnl : new'.length = q * i.size := by rw [← s2.1]; exact s4
            have holds : ∀ (j : Nat) (u : Value), olds[j]? = some u → w.cell? ⟨l.blk, o' + j, none⟩ = some u := by
              intro j u hj
              rcases ho with ho | ho
              · rw [ho]; exact k4 j u hj
              · have hj' : j < olds.length := (List.getElem?_eq_some_iff.1 hj).1
                have : m = 0 := by omega
                rw [hol, this] at hj'; omega
            by_cases hroom : m + q ≤ c
            · have hfit : o' + (m + q) * i.size ≤ C.size := by
                have := Nat.mul_le_mul_right i.size hroom
                omega
              have hmq : (m + q) * i.size = m * i.size + q * i.size := Nat.add_mul _ _ _
              have hrun := run_append_room_src w t t2 ty e i ht hi l.blk o' m c x' q new' s5 hroom
                (fun j hj => by rw [cell_of_block hC]; simp; omega)
                (fun j hj => by
                  have hj2 : o' + m * i.size + j < C.size := by omega
                  have := o4 _ hj2
                  simp only [World.frozen?, hC]; exact this)
              refine ⟨_, _, hrun, ?_⟩
              obtain ⟨C', q1, q2⟩ := setCells_heap l.blk new' (o' + m * i.size) w C e' fz hC
              have hsz : C'.size = C.size := by rw [← Array.length_toList, q1, setL_length, Array.length_toList]
              have hlim : l.off + l.lim ≤ C.size := o2
              refine ⟨ρ.add H.next ⟨l.blk, o', l.off + l.lim - o', szOf P e, true⟩, _, _, hk, Ren.add_ext _ (r.dom _ (Nat.le_refl _)), ?_, ?_, setCells_below _ o1 _ _ _⟩
              · have := VR.slice (ρ := ρ.add H.next ⟨l.blk, o', l.off + l.lim - o', szOf P e, true⟩) (b := H.next) (o := 0) (n := m + q) (k := i.size) (o' := o') (c := c) (Ren.add_self _ _ _) (.inl rfl) hroom
                  (fun _ => ⟨rfl, by simp [szOf_eq hi], by simp only; omega⟩)
                exact this
              · rw [q2]
                refine r.renew hob rfl hlb rfl ⟨C', e', fz, by simp [(Array.getElem?_eq_some_iff.1 hC).1], fun j v hj => ?_, fun _ => ⟨o1, by simp only; omega, ?_, fun j hj => o4 j (by omega), fun _ => rfl⟩⟩
                · have hext := Ren.add_ext (ρ := ρ) ⟨l.blk, o', l.off + l.lim - o', szOf P e, true⟩ (r.dom _ (Nat.le_refl _))
                  have hg : C'[o' + j]? = (setL C.toList (o' + m * i.size) new')[o' + j]? := by rw [← q1]; simp
                  simp only
                  rw [hg, setL_get]
                  rw [List.getElem?_append] at hj
                  split at hj
                  · rename_i hj1
                    rw [if_neg (by omega)]
                    obtain ⟨u, u1, u2⟩ := k2.get hj
                    have hcell := holds j u u1
                    rw [cell_of_block hC] at hcell
                    exact ⟨u, by simpa using hcell, u2.mono hext, k3 v (List.mem_of_getElem? hj)⟩
                  · rename_i hj1
                    rw [hlt] at hj hj1
                    obtain ⟨u, u1, u2⟩ := s2.get hj
                    have hjn : j - m * i.size < new'.length := (List.getElem?_eq_some_iff.1 u1).1
                    rw [if_pos (by simp; omega)]
                    exact ⟨u, by rw [show o' + j - (o' + m * i.size) = j - m * i.size by omega]; exact u1, u2.mono hext, s3 v (List.mem_of_getElem? hj)⟩
                · have := Nat.mul_le_mul_right i.size hroom
                  rw [List.length_append, hlt, s4]; simp only; omega
            · have hgr : c < m + q := by omega
              have hold := run_firstCells_some (P := P) w.drew i.size m ⟨l.blk, o', none⟩ m c olds hol (fun j v hj => by rw [Addr.add_lit]; exact holds j v hj)
              have hrun := run_append_grow_src w t t2 ty e i z ht hi hz (some ⟨l.blk, o', none⟩) m c olds hold x' q new' s5 hgr (by omega) (growslice_fits hgr hr)
              refine ⟨_, _, hrun, ?_⟩
              have hcap := grownCap_ge w (m + q) c e
              exact grow_ok (H0 := H.put b none) (e := e) (z := z) r rfl (r.drop b) hi (k2.append s2) (fun v hv => by
                  rcases List.mem_append.1 hv with hv | hv
                  · exact k3 v hv
                  · exact s3 v hv) (by rw [List.length_append, hlt, s4, Nat.add_mul]) hcap (Builtin.zeroCells z.cells (grownCap w (m + q) c e - (m + q))) (by rw [zeroCells_size, hzs, ← Nat.add_mul]; congr 1; omega) hk
      · exact h2.elim
  · exact h.elim
end Go.Proofs.Ytbikpfccdcblfaa.Eng
/- The engine, part 8: copy, conversions, places, literals. -/
namespace Go.Proofs.Ytbikpfccdcblfaa.Eng
open Go Go.RowKit
set_option linter.unusedVariables false
set_option linter.unusedSimpArgs false
variable {P : Program} {G : Nat} {ρ : Ren} {B : Nat} {H : Hp} {w : World} {n : Nat} {σ : Env} {a : Act}

/-- The first cells of what an append or a copy reads. -/
theorem src_first (r : Rep P G ρ B H w.heap) {sz : Nat} {x x' : Value} {tx : TypeId} {K : Nat → List Value → Prop} (hx : VR ρ x x') {d : TypeDesc} (hd : P.underlying tx = some d) (hty : srcTy d sz x = true)
    (h : srcK sz x H K) : ∃ m new new', K m new ∧ VRs ρ new new' ∧ (∀ v ∈ new, oneCell v = true) ∧ new.length = m * sz ∧ (Builtin.lenOf x').run P w = .ok m w ∧
      ∀ k, k ≤ m → (Builtin.firstCells sz k x').run P w = .ok (new'.take (k * sz)).toArray w := by
  unfold srcK at h
  split at h
  · rename_i p m k
    split at h
    · rcases hx.slice_inv with ⟨_, rfl, rfl, rfl⟩ | ⟨b, o, l, o', c, hne, _⟩ | ⟨b, o, a0, c0, hne, _⟩
      · exact ⟨0, [], [], h, .nil ρ, (fun v hv => by cases hv), by simp, rfl, fun k hk => by simp [Builtin.firstCells]⟩
      · cases hne
      · cases hne
    · rename_i ad
      obtain ⟨hh, hk⟩ := h
      obtain ⟨a', c, vs', rfl, k2, k3, hlen, k4⟩ := src_cells r hx hh
      have hlen' : vs'.length = m * sz := by rw [← k2.1]; exact hlen
      refine ⟨m, _, vs', hk, k2, k3, hlen, rfl, fun q hq => ?_⟩
      have hqm : q * sz ≤ m * sz := Nat.mul_le_mul_right _ hq
      refine run_firstCells_some w sz q a' m c (vs'.take (q * sz)) (by simp; omega) (fun j u hu => ?_)
      rw [List.getElem?_take] at hu
      split at hu
      · exact k4 j u hu
      · cases hu
  · rename_i s
    cases hx
    obtain ⟨hu, rfl⟩ : P.underlying tx = some .string ∧ sz = 1 := by
      unfold srcTy at hty
      split at hty
      · rename_i hne; cases hne
      · exact ⟨hd, Nat.eq_of_beq_eq_true hty⟩
      · cases hty
    refine ⟨s.size, _, byteCells s, h, ?_, ?_, ?_, rfl, fun k hk => ?_⟩
    · refine ⟨by simp [bytesV, byteCells], fun i v v' hv hv' => ?_⟩
      have e : bytesV s = byteCells s := rfl
      rw [e] at hv; rw [hv] at hv'; cases hv'
      obtain ⟨_, _, rfl⟩ := List.mem_map.1 (List.mem_of_getElem? hv)
      exact .int _ _
    · intro v hv
      obtain ⟨_, _, rfl⟩ := List.mem_map.1 hv; rfl
    · show (byteCells s).length = _
      rw [byteCells_length, Nat.mul_one]
    · rw [Nat.mul_one]
      simp [Builtin.firstCells, byteCells]
      apply Array.ext'
      simp [List.map_take]
  · exact h.elim
theorem copyK_ok (r : Rep P G ρ B H w.heap) {t t2 ty : TypeId} {d s d' s' : Value} {K : Value → Hp → Prop} (hd : VR ρ d d') (hs : VR ρ s s') (h : copyK P t t2 d s H K) :
    ∃ v' w', (Builtin.copy_ #[t, t2] ty #[d', s']).run P w = .ok v' w' ∧ Post P G ρ B w K v' w' := by
  unfold copyK at h
  split at h
  · rename_i e ht
    split at h
    · exact h.elim
    · exact h.elim
    · rename_i i d2 hi ht2
      obtain ⟨hty, h1⟩ := gd_elim h
      split at h1
      · rename_i p m k
        split at h1
        · rename_i ad
          rcases hd.slice_inv with ⟨hne, _⟩ | ⟨b, o, l, o', c, hne, hlb, rfl, ho, hn, hc⟩ | ⟨b, o, a0, c0, hne, rfl, _, rfl⟩
          rotate_right
          · cases hne
            obtain ⟨q, new, new', ⟨hm, hk⟩, k2, k3, k4, k5, k6⟩ := src_first r hs ht2 hty h1
            have hmin : Nat.min q 0 = 0 := Nat.min_zero _
            have k7 := k6 0 (Nat.zero_le _)
            rw [Nat.zero_mul, List.take_zero] at k7
            have hmz : min q 0 = 0 := Nat.min_zero _
            rw [hmz, Nat.zero_mul, List.take_zero] at hk
            refine ⟨.int .i64 (0 : Nat), w, ?_, ?_⟩
            · simp [Builtin.copy_, run_underlying ht, run_sizeOf hi, k5, k7, hmin, storeCells, Result.andThen]; rfl
            · refine ⟨ρ, _, _, hk, .refl ρ, .int _ _, ?_, Below.refl _ _⟩
              have : H.store b o [] = H := by
                obtain ⟨e', cs, hb, _⟩ := hm
                simp only [Hp.store, hb, setL, Hp.put]
                cases H with
                | mk obj next =>
                  simp only [Hp.mk.injEq, and_true]
                  funext j
                  by_cases hj : j = b
                  · subst hj; simp; exact hb.symm
                  · simp [hj]
              rw [this]; exact r
          · cases hne
          · cases hne
            obtain ⟨q, new, new', ⟨hm, hk⟩, k2, k3, k4, k5, k6⟩ := src_first r hs ht2 hty h1
            have hmin : Nat.min q m = min q m := rfl
            have k7 := k6 (min q m) (Nat.min_le_left _ _)
            have hle : min q m * i.size ≤ q * i.size := Nat.mul_le_mul_right _ (Nat.min_le_left _ _)
            have hlen : (new.take (min q m * i.size)).length = min q m * i.size := by simp; omega
            by_cases hz : min q m * i.size = 0
            · have e1 : new.take (min q m * i.size) = [] := by rw [hz]; rfl
              have e2 : new'.take (min q m * i.size) = [] := by rw [hz]; rfl
              rw [e2] at k7
              refine ⟨.int .i64 (min q m : Nat), w, ?_, ?_⟩
              · simp [Builtin.copy_, run_underlying ht, run_sizeOf hi, k5, k7, hmin, storeCells, Result.andThen]; rfl
              · refine ⟨ρ, _, _, hk, .refl ρ, .int _ _, ?_, Below.refl _ _⟩
                rw [e1]
                have : H.store b o [] = H := by
                  obtain ⟨e', cs, hb, _⟩ := hm
                  simp only [Hp.store, hb, setL, Hp.put]
                  cases H with
                  | mk obj next =>
                    simp only [Hp.mk.injEq, and_true]
                    funext j
                    by_cases hj : j = b
                    · subst hj; simp; exact hb.symm
                    · simp [hj]
                rw [this]; exact r
            · have ho' : o' = l.off + o := by
                rcases ho with ho | ho
                · exact ho
                · exfalso
                  have : m = 0 := by omega
                  subst this
                  simp at hz
              subst ho'
              obtain ⟨s1, s2, s3⟩ := r.store hlb (vs := new.take (min q m * i.size)) (vs' := new'.take (min q m * i.size)) (by rw [hlen]; exact hm) (k2.take _) (fun v hv => k3 v (List.mem_of_mem_take hv))
              refine ⟨.int .i64 (min q m : Nat), _, ?_, ⟨ρ, _, _, hk, .refl ρ, .int _ _, s2, s3⟩⟩
              simp [Builtin.copy_, run_underlying ht, run_sizeOf hi, k5, k7, hmin, s1, Result.andThen]; rfl
        · rcases hd.slice_inv with ⟨_, rfl, rfl, rfl⟩ | ⟨b, o, l, o', c, hne, _⟩ | ⟨b, o, a0, c0, hne, _⟩
          · have hsrc : ∃ q, (Builtin.lenOf s').run P w = .ok q w ∧ (Builtin.firstCells i.size 0 s').run P w = .ok #[] w := by
              unfold srcTy at hty
              split at hty
              · rcases hs.slice_inv with ⟨_, _, _, rfl⟩ | ⟨b, o, l, o', c, _, _, rfl, _⟩ | ⟨b, o, a0, c0, _, _, _, rfl⟩
                · exact ⟨0, rfl, rfl⟩
                · exact ⟨_, rfl, by simp [Builtin.firstCells, loadCells, loadCellsFrom]⟩
                · exact ⟨_, rfl, by simp [Builtin.firstCells, loadCells, loadCellsFrom]⟩
              · cases hs
                exact ⟨_, rfl, by simp [Builtin.firstCells]⟩
              · cases hty
            obtain ⟨q, q1, q2⟩ := hsrc
            refine ⟨.int .i64 0, w, ?_, Post.still r h1 (.int _ _)⟩
            have hmin : Nat.min q 0 = 0 := Nat.min_zero _
            simp [Builtin.copy_, run_underlying ht, run_sizeOf hi, q1, q2, hmin, Result.andThen]; rfl
          · cases hne
          · cases hne
      · exact h1.elim
  · exact h.elim

/-! conversions -/
theorem Rep.frozenHeap {h h' : Array Obj} (e : h = h') (r : Rep P G ρ B H h) : Rep P G ρ B H h' := e ▸ r
theorem bytesWorld_heap (w : World) (e : TypeId) (s : ByteArray) : (Lib.bytesWorld w e s).heap = w.heap.push (.cells (Lib.bytesCells w e s) e ((Lib.bytesCells w e s).size, (Lib.bytesCells w e s).size + 1)) := by
  apply Array.ext_getElem?
  intro j
  rcases Nat.lt_trichotomy j w.heap.size with hj | hj | hj
  · rw [Lib.bytesWorld_at_old w e s j hj, Array.getElem?_push, if_neg (by omega)]
  · subst hj; rw [Lib.bytesWorld_at_new, Array.getElem?_push, if_pos rfl]
  · rw [Array.getElem?_eq_none (by rw [Lib.bytesWorld_size]; omega), Array.getElem?_push, if_neg (by omega), Array.getElem?_eq_none (by omega)]
theorem bytesWorld_below (w : World) (e : TypeId) (s : ByteArray) (hB : B ≤ w.heap.size) : Below B w (Lib.bytesWorld w e s) :=
  ⟨rfl, rfl, rfl, by rw [Lib.bytesWorld_size]; omega, fun k hk => Lib.bytesWorld_at_old w e s k (by omega)⟩
theorem isByte_elim {v : Value} (h : isByte v = true) : ∃ m : Int, v = .int .u8 m ∧ byteOfV v = UInt8.ofNat m.toNat := by
  unfold isByte at h
  split at h
  · exact ⟨_, rfl, rfl⟩
  · cases h
theorem convertK_ok (r : Rep P G ρ B H w.heap) {src dst : TypeId} {x x' : Value} {K : Value → Hp → Prop} (hx : VR ρ x x') (h : convertK P src dst x H K) :
    ∃ v' w', (convert src dst x').run P w = .ok v' w' ∧ Post P G ρ B w K v' w' := by
  unfold convertK at h
  split at h
  · rename_i d k k' m hs hd
    cases hx
    exact ⟨_, w, by simp [convert, run_underlying hs, run_underlying hd, Conv.intToInt, Result.andThen], Post.still r h (.int _ _)⟩
  · rename_i d s hs hd
    cases hx
    exact ⟨_, w, by simp [convert, run_underlying hs, run_underlying hd, Result.andThen], Post.still r h (.string _)⟩
  · rename_i d e s hs hd
    cases hx
    split at h
    · rename_i he
      obtain ⟨hb, hk⟩ := gd_elim h
      simp only [Bool.and_eq_true] at hb
      have hsz : szOf P e = 1 := Nat.eq_of_beq_eq_true hb.1
      refine ⟨_, _, Lib.run_convert_string_bytes w src dst e s hs hd he, ?_⟩
      have hcap := grownCap_ge w s.size 0 e
      have hcs : (Lib.bytesCells w e s).size = grownCap w s.size 0 e := by
        have : s.data.size = s.size := rfl
        simp [Lib.bytesCells, this]; omega
      have hrow := r.row (e := e) (e' := e) (cs := bytesV s) (C := Lib.bytesCells w e s) (row := true) (fz := ((Lib.bytesCells w e s).size, (Lib.bytesCells w e s).size + 1))
        (by rw [hcs]; show (byteCells s).length ≤ _; rw [byteCells_length]; exact hcap)
        (fun j v hj => by
          have hj' : j < s.data.toList.length := by have := (List.getElem?_eq_some_iff.1 hj).1; simpa [bytesV] using this
          refine ⟨v, ?_, ?_, ?_⟩
          · rw [Lib.bytesCells, Array.getElem?_append_left (by simpa using hj')]
            simpa [bytesV] using hj
          · obtain ⟨_, _, rfl⟩ := List.mem_map.1 (List.mem_of_getElem? hj); exact .int _ _
          · obtain ⟨_, _, rfl⟩ := List.mem_map.1 (List.mem_of_getElem? hj); rfl)
        (fun j hj => by simp; omega)
      refine ⟨_, _, _, hk, Ren.add_ext _ (r.dom _ (Nat.le_refl _)), ?_, by rw [bytesWorld_heap]; exact hrow, bytesWorld_below w e s r.base⟩
      have := VR.slice (ρ := ρ.add H.next ⟨w.heap.size, 0, (Lib.bytesCells w e s).size, szOf P e, true⟩) (b := H.next) (o := 0) (n := s.size) (k := 1) (o' := 0) (c := grownCap w s.size 0 e) (Ren.add_self _ _ _) (.inl rfl) hcap
        (fun _ => ⟨rfl, hsz, by simp only [hcs]; omega⟩)
      exact this
    · exact h.elim
  · rename_i e p m k hs hd
    split at h
    · rename_i he
      split at h
      · rcases hx.slice_inv with ⟨_, rfl, rfl, rfl⟩ | ⟨b, o, l, o', c, hne, _⟩ | ⟨b, o, a0, c0, hne, _⟩
        · exact ⟨_, w, run_convert_bytes_nil w src e hs he 0 0 dst hd, Post.still r h (.string _)⟩
        · cases hne
        · cases hne
      · rename_i ad
        obtain ⟨hh, hby, hk⟩ := h
        obtain ⟨a', c, vs', rfl, k2, k3, hlen, k4⟩ := src_cells (sz := 1) r hx (by rw [Nat.mul_one]; exact hh)
        rw [Nat.mul_one] at k2 k3 hlen
        have hall := List.all_eq_true.1 hby
        let ns : List Int := (H.take ad.block ad.off m).map fun v => match v with | .int _ q => q | _ => 0
        have hvs : vs' = ns.map (Value.int .u8) := by
          apply List.ext_getElem?
          intro j
          by_cases hj1 : j < (H.take ad.block ad.off m).length
          · obtain ⟨q, hq, _⟩ := isByte_elim (hall _ (List.getElem_mem hj1))
            obtain ⟨u, u1, u2⟩ := k2.get (List.getElem?_eq_getElem hj1)
            rw [hq] at u2
            cases u2
            rw [u1]
            simp [ns, hj1, hq]
          · have h1 : vs'.length ≤ j := by rw [← k2.1]; omega
            rw [List.getElem?_eq_none h1, List.getElem?_eq_none (by simp [ns]; omega)]
        have hl : (loadCells a' m).run P w = .ok (ns.map (Value.int .u8)).toArray w := by
          have := run_loadCells_list (P := P) w a' vs' k4
          rw [← k2.1, hlen, hvs] at this
          exact this
        have hrun : (convert src dst (.slice (some a') m c)).run P w = .ok (.string (strOfNums ns)) w := by
          rw [run_convert_bytes_string w src dst e _ m c hs he hd, run_bytesToString w _ m c ns hl, foldl_push_bytes]
          simp [strOfNums, ByteArray.empty, ByteArray.emptyWithCapacity]
          rfl
        refine ⟨_, w, hrun, ?_⟩
        have hstr : strOfNums ns = strOf (H.take ad.block ad.off m) := by
          unfold strOf strOfNums
          congr 1
          congr 1
          simp only [ns, List.map_map]
          apply List.map_congr_left
          intro v hv
          obtain ⟨q, rfl, h2⟩ := isByte_elim (hall v hv)
          simp [h2]
        rw [hstr]
        exact Post.still r hk (.string _)
    · exact h.elim
  · exact h.elim
end Go.Proofs.Ytbikpfccdcblfaa.Eng
/- The engine, part 9: places, literals, maps, built-in functions. -/
namespace Go.Proofs.Ytbikpfccdcblfaa.Eng
open Go Go.RowKit
set_option linter.unusedVariables false
set_option linter.unusedSimpArgs false
variable {P : Program} {G : Nat} {ρ : Ren} {B : Nat} {H : Hp} {w : World} {n : Nat} {σ : Env} {a : Act}

theorem partK_ok {t : TypeId} {cs : List Value} {cs' : Array Value} {off : Nat} {K : Value → Prop} (hc : VRs ρ cs cs'.toList) (h : partK P t cs off K) :
    ∃ v v', K v ∧ VR ρ v v' ∧ ∀ (w : World), (part t cs' off).run P w = .ok v' w := by
  unfold partK at h
  split at h
  · rename_i i d hi hd
    split at h
    · rename_i hagg
      refine ⟨_, .agg (cs'.extract off (off + i.size)), h, ?_, fun w => ?_⟩
      · have := (hc.drop off).take i.size
        refine .agg ?_ ?_
        · have := this.1; simp at this ⊢; omega
        · have e : (cs'.extract off (off + i.size)).toList = (cs'.toList.drop off).take i.size := by simp
          rw [e]; exact this.2
      · simp [part, run_isAgg hd, hagg, run_sizeOf hi, Result.andThen]
    · rename_i hagg
      obtain ⟨v, hv, hk⟩ := optP_elim h
      obtain ⟨v', h1, h2⟩ := hc.get hv
      refine ⟨v, v', hk, h2, fun w => ?_⟩
      have : cs'[off]? = some v' := by simpa using h1
      simp [part, run_isAgg hd, hagg, this, Result.andThen]
  · exact h.elim
theorem fieldOf_elim {t : TypeId} {f : Nat} {fd : Field} (h : fieldOf P t f = some fd) : ∃ fs, P.underlying t = some (.struct fs) ∧ fs[f]? = some fd := by
  unfold fieldOf at h
  split at h
  · exact ⟨_, ‹_›, by simpa using h⟩
  · cases h
theorem szOf_pos {t : TypeId} (h : szOf P t ≠ 0) : ∃ i, P.info? t = some i ∧ i.size = szOf P t := by
  unfold szOf at h ⊢
  split at h
  · rename_i i hi; exact ⟨i, hi, by simp [hi]⟩
  · exact (h rfl).elim
theorem fieldAddrK_ok {t : TypeId} {f : Nat} {x x' : Value} {K : Value → Prop} (hx : VR ρ x x') (h : fieldAddrK P t f x K) :
    ∃ v v', K v ∧ VR ρ v v' ∧ ∀ (w : World), (Instr.fieldAt t x' f).run P w = .ok v' w := by
  unfold fieldAddrK at h
  split at h
  · rename_i fd p hf
    obtain ⟨ad, rfl, h1⟩ := optP_elim h
    obtain ⟨hz, hk⟩ := gd_elim h1
    obtain ⟨l, hl, hs, rfl⟩ := hx.ptr_some
    obtain ⟨fs, hu, hfs⟩ := fieldOf_elim hf
    have hz' : szOf P fd.type ≠ 0 := fun e => by rw [e] at hz; cases hz
    obtain ⟨i, hi, hsz⟩ := szOf_pos hz'
    refine ⟨_, _, hk, .ptr hl, fun w => ?_⟩
    have hne : ¬ i.size = 0 := by omega
    simp [Instr.fieldAt, run_underlying hu, hfs, Instr.sureAddr, fieldPlace, run_sizeOf hi, hne, Addr.add_lit, Result.andThen, Nat.add_assoc]
  · exact h.elim
theorem indexAddrK_ok {t : TypeId} {x ix x' ix' : Value} {K : Value → Prop} (hx : VR ρ x x') (hi : VR ρ ix ix') (h : indexAddrK P t x ix K) :
    ∃ v v', K v ∧ VR ρ v v' ∧ ∀ (w : World), (Instr.indexAt t x' ix').run P w = .ok v' w := by
  unfold indexAddrK at h
  split at h
  · rename_i k j
    cases hi
    split at h
    · rename_i len e p ht
      split at h
      · exact h.elim
      · rename_i i hie
        obtain ⟨ad, rfl, h1⟩ := optP_elim h
        obtain ⟨hb, hk⟩ := gd_elim h1
        simp only [Bool.and_eq_true, decide_eq_true_eq] at hb
        obtain ⟨l, hl, hs, rfl⟩ := hx.ptr_some
        refine ⟨_, _, hk, .ptr hl, fun w => ?_⟩
        simp [Instr.indexAt, asIntOf, run_underlying ht, Instr.sureAddr, hb.1, hb.2, run_sizeOf hie, Addr.add_lit, Result.andThen, Nat.add_assoc]
    · rename_i e p m k' ht
      split at h
      · exact h.elim
      · rename_i i hie
        obtain ⟨ad, rfl, h1⟩ := optP_elim h
        obtain ⟨hb, hk⟩ := gd_elim h1
        simp only [Bool.and_eq_true, decide_eq_true_eq] at hb
        rcases hx.slice_inv with ⟨hne, _⟩ | ⟨b, o, l, o', c, hne, hl, rfl, ho, hn, hc⟩ | ⟨b, o, a0, c0, _, hm0, _⟩
        rotate_right
        · omega
        · cases hne
        · cases hne
          have ho' : o' = l.off + o := by rcases ho with ho | ho; exact ho; omega
          subst ho'
          refine ⟨_, _, hk, .ptr hl, fun w => ?_⟩
          simp [Instr.indexAt, asIntOf, run_underlying ht, hb.1, hb.2, run_sizeOf hie, Addr.add_lit, Result.andThen, Nat.add_assoc]
    · exact h.elim
  · exact h.elim
theorem indexK_ok {t : TypeId} {x ix x' ix' : Value} {K : Value → Prop} (hx : VR ρ x x') (hi : VR ρ ix ix') (h : indexK P t x ix K) :
    ∃ v v', K v ∧ VR ρ v v' ∧ ∀ (w : World), (Instr.index t x' ix').run P w = .ok v' w := by
  unfold indexK at h
  split at h
  · rename_i k j
    cases hi
    split at h
    · rename_i len e cs ht
      split at h
      · exact h.elim
      · rename_i i hie
        obtain ⟨hb, hk⟩ := gd_elim h
        simp only [Bool.and_eq_true, decide_eq_true_eq] at hb
        obtain ⟨cs', rfl, hcs⟩ := hx.agg_inv
        obtain ⟨v, v', h1, h2, h3⟩ := partK_ok hcs hk
        refine ⟨v, v', h1, h2, fun w => ?_⟩
        simp [Instr.index, asIntOf, run_underlying ht, hb.1, hb.2, run_sizeOf hie, h3, Result.andThen]
    · rename_i s ht
      cases hx
      obtain ⟨hb, hk⟩ := gd_elim h
      simp only [Bool.and_eq_true, decide_eq_true_eq] at hb
      refine ⟨_, _, hk, .int _ _, fun w => ?_⟩
      have hlt : j.toNat < s.size := by omega
      have hg : s[j.toNat]? = some s[j.toNat] := getElem?_pos s j.toNat hlt
      have hv : byteAt s j.toNat = ((s[j.toNat]).toNat : Int) := by
        have h2 : j.toNat < s.data.toList.length := by simpa using hlt
        simp [byteAt, List.getD, List.getElem?_eq_getElem h2]
        rfl
      simp [Instr.index, asIntOf, run_underlying ht, hb.1, hg, hv, Result.andThen]
    · exact h.elim
  · exact h.elim

/-! literals -/
theorem foldl_setL (off : Nat) : ∀ (l : List Value) (k : Nat) (cells : Array Value), ((l.zipIdx k).foldl (fun (cs : Array Value) (x : Value × Nat) => cs.setIfInBounds (off + x.2) x.1) cells).toList = setL cells.toList (off + k) l
  | [], k, cells => rfl
  | v :: l, k, cells => by
    rw [List.zipIdx_cons, List.foldl_cons, foldl_setL off l (k + 1)]
    simp [setL, Nat.add_assoc]
theorem fill_ok {place : Nat → Option (Nat × Nat)} : ∀ {vs vs' : List (Nat × Value)} {zs : List Value} {zs' : Array Value} {cs : List Value}, VRs ρ zs zs'.toList →
    vs.map (·.1) = vs'.map (·.1) → VRs ρ (vs.map (·.2)) (vs'.map (·.2)) → fillL place zs vs = some cs → ∃ cs', Instr.fill place zs' vs' = some cs' ∧ VRs ρ cs cs'.toList
  | [], vs', zs, zs', cs, hz, hi, hv, h => by
    cases vs' with
    | cons a b => simp at hi
    | nil => simp only [fillL, Option.some.injEq] at h; subst h; exact ⟨zs', rfl, hz⟩
  | (i, v) :: r, vs', zs, zs', cs, hz, hi, hv, h => by
    cases vs' with
    | nil => simp at hi
    | cons a b =>
      obtain ⟨i', v'⟩ := a
      simp only [List.map_cons, List.cons.injEq] at hi
      obtain ⟨rfl, hi⟩ := hi
      obtain ⟨hv1, hv2⟩ := hv.uncons
      unfold fillL at h
      split at h
      · cases h
      · rename_i off size hp
        split at h
        · rename_i hc
          simp only [Bool.and_eq_true] at hc
          have c1 : v.cells.size = size := Nat.eq_of_beq_eq_true hc.1
          have c2 : off + v.cells.size ≤ zs.length := Nat.le_of_ble_eq_true hc.2
          have e1 : v'.cells.size = v.cells.size := by have := hv1.cells.1; simp at this; exact this.symm
          have e2 : zs'.size = zs.length := by have := hz.1; simp at this; exact this.symm
          unfold Instr.fill
          simp only [hp]
          rw [if_neg (by simp [e1, e2, c1]; omega)]
          refine fill_ok (zs' := _) ?_ hi hv2 h
          have : (v'.cells.zipIdx.foldl (fun (cs : Array Value) (x : Value × Nat) => cs.setIfInBounds (off + x.2) x.1) zs').toList = setL zs'.toList off v'.cells.toList := by
            rw [← Array.foldl_toList, Array.toList_zipIdx, foldl_setL]
            rfl
          rw [this]
          exact hv1.cells.setL hz off
        · cases h
theorem partsL_ok {E : Operand → Option Value} (hE : ∀ x v, E x = some v → VR ρ v (a.eval x)) : ∀ {ps : List (Nat × Operand)} {vs : List (Nat × Value)}, partsL E ps = some vs →
    vs.map (·.1) = (ps.map fun (i, x) => (i, a.eval x)).map (·.1) ∧ VRs ρ (vs.map (·.2)) ((ps.map fun (i, x) => (i, a.eval x)).map (·.2))
  | [], vs, h => by cases h; exact ⟨rfl, .nil ρ⟩
  | (i, x) :: ps, vs, h => by
    simp only [partsL] at h
    split at h
    · cases h
    · rename_i v hv
      split at h
      · cases h
      · rename_i us hus
        cases h
        obtain ⟨h1, h2⟩ := partsL_ok hE hus
        exact ⟨by simp only [List.map_cons]; rw [h1], .cons (hE _ _ hv) h2⟩
theorem placesL_eq : ∀ {fs : List Field} {l : List (Nat × Nat)}, placesL P fs = some l → fs.mapM (fun f => (P.info? f.type).map fun i => (f.offset, i.size)) = some l
  | [], l, h => by cases h; rfl
  | f :: fs, l, h => by
    simp only [placesL] at h
    split at h
    · rename_i i r hi hr
      cases h
      simp [List.mapM_cons, hi, placesL_eq hr]
    · cases h
theorem build_ok {t : TypeId} {z : Value} {pl : Nat → Option (Nat × Nat)} {ps : Array (Nat × Value)} {cs : List Value} {vs : List (Nat × Value)} (hz : zeroOf P t = some z) (hpl : places P t = some pl)
    (hi : vs.map (·.1) = ps.toList.map (·.1)) (hv : VRs ρ (vs.map (·.2)) (ps.toList.map (·.2))) (h : fillL pl z.cells.toList vs = some cs) :
    ∃ cs', VRs ρ cs cs'.toList ∧ ∀ (w : World), (Instr.build t ps).run P w = .ok (.agg cs') w := by
  obtain ⟨it, hit, hz', hzc⟩ := zeroOf_elim hz
  obtain ⟨cs', h1, h2⟩ := fill_ok (zs' := z.cells) (constCells hzc ρ) hi hv h
  refine ⟨cs', h2, fun w => run_build w t ps cs' ?_⟩
  unfold Program.built
  unfold places at hpl
  split at hpl
  · rename_i fs hu
    split at hpl
    · rename_i l hl
      cases hpl
      simp only [hit, hu, hz', placesL_eq hl]
      have : (fun (i : Nat) => (l.toArray)[i]?) = fun (i : Nat) => l[i]? := by funext i; simp
      rw [this]; exact h1
    · cases hpl
  · rename_i len e hu
    split at hpl
    · rename_i i hi
      cases hpl
      simp only [hit, hu, hz', hi]; exact h1
    · cases hpl
  · cases hpl
theorem buildSlice_ok (r : Rep P G ρ B H w.heap) {t e : TypeId} {z : Value} {m : Nat} {ps : Array (Nat × Value)} {cs : List Value} {vs : List (Nat × Value)} (ht : P.underlying t = some (.slice e)) (hz : zeroOf P e = some z)
    (hsz : z.cells.size = szOf P e) (hsmall : m * szOf P e ≤ 16777216) (hi : vs.map (·.1) = ps.toList.map (·.1)) (hv : VRs ρ (vs.map (·.2)) (ps.toList.map (·.2)))
    (h : fillL (fun i => some (i * szOf P e, szOf P e)) (zerosN z m) vs = some cs) (h1 : ∀ v ∈ cs, oneCell v = true) {K : Value → Hp → Prop}
    (hk : K (.slice (some ⟨H.next, 0, none⟩) m (szOf P e)) (H.new (.cells true e cs))) :
    ∃ v' w', (Instr.buildSlice t m ps).run P w = .ok v' w' ∧ Post P G ρ B w K v' w' := by
  obtain ⟨ie, hie, hz', hzc⟩ := zeroOf_elim hz
  have hs := szOf_eq hie
  rw [hs] at hsz hsmall h hk
  have hzl : (madeCells z.cells (m * ie.size)).toList = zerosN z m := by
    apply List.ext_getElem?
    intro j
    by_cases hj : j < m * ie.size
    · have hj2 : j < (zerosN z m).length := by rw [zerosN_length, hsz]; exact hj
      rw [List.getElem?_eq_getElem hj2]
      have := zerosN_get (k := m) (Nat.le_refl _) (List.getElem?_eq_getElem hj2)
      rw [hsz] at this
      simpa using this
    · have z1 : (zerosN z m)[j]? = none := List.getElem?_eq_none (by rw [zerosN_length, hsz]; omega)
      have z2 : (madeCells z.cells (m * ie.size)).toList[j]? = none := List.getElem?_eq_none (by rw [Array.length_toList, size_madeCells]; omega)
      rw [z1, z2]
  have hmade : VRs ρ (zerosN z m) (madeCells z.cells (m * ie.size)).toList := by
    rw [hzl]
    refine ⟨rfl, fun i v v' hv hv' => ?_⟩
    rw [hv] at hv'; cases hv'
    have hz2 : v ∈ z.cells.toList := by
      have := List.mem_of_getElem? hv
      simp only [zerosN, List.mem_flatten, List.mem_replicate] at this
      obtain ⟨_, ⟨_, rfl⟩, hv⟩ := this
      exact hv
    obtain ⟨q, hq⟩ := List.getElem?_of_mem hz2
    exact (constCells hzc ρ).2 q v v hq hq
  obtain ⟨cs', f1, f2⟩ := fill_ok (zs' := madeCells z.cells (m * ie.size)) hmade hi hv h
  have hlen : ∀ {pl : Nat → Option (Nat × Nat)} {vs : List (Nat × Value)} {zs cs : List Value}, fillL pl zs vs = some cs → cs.length = zs.length := by
    intro pl vs
    induction vs with
    | nil => intro zs cs h; cases h; rfl
    | cons x vs ih =>
      obtain ⟨i, v⟩ := x
      intro zs cs h
      unfold fillL at h
      split at h
      · cases h
      · split at h
        · rw [ih h, setL_length]
        · cases h
  have hcl : cs.length = m * ie.size := by rw [hlen h, zerosN_length, hsz]
  have hcl' : cs'.size = m * ie.size := by have := f2.1; simp at this; omega
  have hrun : (Instr.buildSlice t m ps).run P w = .ok (.slice (some ⟨w.heap.size, 0, none⟩) m m) (w.alloc (.cells cs' e)) := by
    by_cases hp : m * ie.size = 0
    · have f1' : Instr.fill (fun i => some (i * ie.size, ie.size)) #[] ps.toList = some cs' := by
        have : madeCells z.cells (m * ie.size) = #[] := by rw [hp]; exact Array.eq_empty_of_size_eq_zero (size_madeCells _ _)
        rwa [this] at f1
      simp [Instr.buildSlice, run_underlying ht, run_sizeOf hie, hp, newRow, Array.range_zero', f1', Result.andThen]
    · exact run_buildSlice w t e m ps cs' ie z ht hie hz' (by omega) hp (by simpa [madeCells] using f1)
  refine ⟨_, _, hrun, ?_⟩
  have hrow := r.row (e := e) (e' := e) (cs := cs) (C := cs') (row := true) (fz := (0, 0)) (by omega)
    (fun j v hj => by
      obtain ⟨v', a1, a2⟩ := f2.get hj
      exact ⟨v', by simpa using a1, a2, h1 v (List.mem_of_getElem? hj)⟩) (by simp)
  refine ⟨_, _, _, hk, Ren.add_ext _ (r.dom _ (Nat.le_refl _)), ?_, hrow, below_push w _ r.base⟩
  have := VR.slice (ρ := ρ.add H.next ⟨w.heap.size, 0, cs'.size, szOf P e, true⟩) (b := H.next) (o := 0) (n := m) (k := ie.size) (o' := 0) (c := m) (Ren.add_self _ _ _) (.inl rfl) (Nat.le_refl _)
    (fun _ => ⟨rfl, by simp [hs], by simp only [hcl']; omega⟩)
  exact this
end Go.Proofs.Ytbikpfccdcblfaa.Eng
