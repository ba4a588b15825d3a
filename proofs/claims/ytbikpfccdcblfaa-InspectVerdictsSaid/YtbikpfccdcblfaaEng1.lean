/- The engine, part 1: an abstract heap, and what a Go function's code asks of a continuation over it (predicate transformers). Definitions alone. -/
import Derived.Calls
import Derived.Orders
import Derived.Below
namespace Go.Proofs.Ytbikpfccdcblfaa.Eng
open Go

/-- A guard that vanishes where its Bool is a literal. -/
def gd (b : Bool) (p : Prop) : Prop := match b with | true => p | false => False
def optP {α : Type} (o : Option α) (f : α → Prop) : Prop := match o with | some x => f x | none => False

inductive AObj where
  | cells (own : Bool) (e : TypeId) (cs : List Value)
  | map (kt : TypeId) (es : List (Value × Value))

structure Hp where
  obj : Nat → Option AObj
  next : Nat

namespace Hp
def cell (H : Hp) (b o : Nat) : Option Value := match H.obj b with | some (.cells _ _ cs) => cs[o]? | _ => none
def put (H : Hp) (b : Nat) (o : Option AObj) : Hp := ⟨fun i => if i = b then o else H.obj i, H.next⟩
def new (H : Hp) (o : AObj) : Hp := ⟨fun i => if i = H.next then some o else H.obj i, H.next + 1⟩
/-- The cells of a block that may be read: whatever block. -/
def row (H : Hp) (b : Nat) : List Value := match H.obj b with | some (.cells _ _ cs) => cs | _ => []
/-- n cells from o on lie in block b. -/
def has (H : Hp) (b o n : Nat) : Prop := ∃ w e cs, H.obj b = some (.cells w e cs) ∧ o + n ≤ cs.length
/-- .. and may be written. -/
def may (H : Hp) (b o n : Nat) : Prop := ∃ e cs, H.obj b = some (.cells true e cs) ∧ o + n ≤ cs.length
/-- block b is a row of elements e of the call's own, with n cells from o on. -/
def own (H : Hp) (b : Nat) (e : TypeId) (o n : Nat) : Prop := ∃ cs, H.obj b = some (.cells true e cs) ∧ o + n ≤ cs.length
def take (H : Hp) (b o n : Nat) : List Value := ((H.row b).drop o).take n
end Hp

def setL (cs : List Value) (o : Nat) : List Value → List Value
  | [] => cs
  | v :: vs => setL (cs.set o v) (o + 1) vs
def Hp.store (H : Hp) (b o : Nat) (vs : List Value) : Hp :=
  match H.obj b with
  | some (.cells w e cs) => H.put b (some (.cells w e (setL cs o vs)))
  | _ => H

/-! environments -/
abbrev Env := List (Nat × Value)
def look (t : Nat) : Env → Option Value
  | [] => none
  | (u, v) :: r => cond (Nat.beq t u) (some v) (look t r)
def forget (live : List Nat) (σ : Env) : Env := live.filterMap fun t => (look t σ).map fun v => (t, v)

def oneCell : Value → Bool
  | .agg _ | .tuple _ => false
  | _ => true
def plainV : Value → Bool
  | .bool _ | .int .. | .float .. | .complex .. | .string _ | .pointer none | .slice none 0 0 | .map none | .nilFunc | .nilIface => true
  | _ => false
/-- A literal that holds no address. -/
def constOK : Value → Bool
  | .agg cs => cs.toList.all plainV
  | v => plainV v
/-- G: how many package-level variables have a place in the heap. -/
def arg (G : Nat) (σ : Env) : Operand → Option Value
  | .tmp t => look t σ
  | .const v => match constOK v with | true => some v | false => none
  | .global g => match Nat.ble (g + 1) G with | true => some (.pointer (some ⟨g, 0, none⟩)) | false => none
  | .func f => some (.func (.func f) #[] #[])
def argsL (E : Operand → Option Value) : List Operand → Option (List Value)
  | [] => some []
  | x :: xs => match E x with
    | none => none
    | some v => match argsL E xs with
      | none => none
      | some vs => some (v :: vs)

def semPure {α : Type} : Sem α → Option α
  | .pure a => some a
  | _ => none

/-! reading -/
/-- One cell, of the kind that the zero value z shows. -/
def getK (H : Hp) (b o : Nat) (z : Value) (K : Value → Prop) : Prop :=
  match z with
  | .int k _ => ∃ n : Int, H.cell b o = some (.int k n) ∧ K (.int k n)
  | .bool _ => ∃ x : Bool, H.cell b o = some (.bool x) ∧ K (.bool x)
  | .string _ => ∃ s : ByteArray, H.cell b o = some (.string s) ∧ K (.string s)
  | .pointer _ => ∃ p : Option Addr, H.cell b o = some (.pointer p) ∧ K (.pointer p)
  | .slice _ _ _ => ∃ (a : Option Addr) (n k : Nat), H.cell b o = some (.slice a n k) ∧ K (.slice a n k)
  | .map _ => ∃ m : Option Nat, H.cell b o = some (.map m) ∧ K (.map m)
  | _ => ∃ v : Value, H.cell b o = some v ∧ oneCell v = true ∧ K v
def getsK (H : Hp) (b : Nat) : Nat → List Value → (List Value → Prop) → Prop
  | _, [], K => K []
  | o, z :: zs, K => getK H b o z fun v => getsK H b (o + 1) zs fun vs => K (v :: vs)
/-- Is a variable of the type one value of several cells? -/
def aggTy (P : Program) (t : TypeId) : Bool :=
  match P.underlying t with
  | some (.struct _) | some (.array _ _) => true
  | _ => false
def zeroOf (P : Program) (t : TypeId) : Option Value :=
  match P.info? t with
  | none => none
  | some i => match i.zero with
    | none => none
    | some z => match constOK z with
      | true => some z
      | false => none
def loadK (P : Program) (H : Hp) (b o : Nat) (t : TypeId) (K : Value → Prop) : Prop :=
  match P.info? t with
  | none => False
  | some i => match P.underlying t, i.zero with
    | none, _ => False
    | _, none => False
    | some _, some z => match aggTy P t with
      | true => match Nat.beq z.cells.size i.size with
        | true => getsK H b o z.cells.toList fun vs => K (.agg ⟨vs⟩)
        | false => False
      | false => getK H b o z K
def allOne : List Value → Prop → Prop
  | [], p => p
  | v :: vs, p => gd (oneCell v) (allOne vs p)
def storeK (P : Program) (H : Hp) (b o : Nat) (t : TypeId) (v : Value) (K : Hp → Prop) : Prop :=
  match P.info? t with
  | none => False
  | some i => gd (Nat.beq v.cells.size i.size) (allOne v.cells.toList (H.may b o v.cells.size ∧ K (H.store b o v.cells.toList)))

/-! comparisons -/
/-- Held against nil. -/
def nilEq {α : Type} (a b : Option α) : Option Bool :=
  match b with
  | none => some a.isNone
  | some _ => match a with
    | none => some false
    | some _ => none
/-- Is an interface value nil? -/
def ifaceNil : Value → Option Bool
  | .nilIface => some true
  | .iface _ _ => some false
  | _ => none
def isConst : Operand → Bool
  | .const .nilIface => true
  | _ => false
/-- The comparison '==' at a type, where it is decided by plain data: 'none' where the engine does not say. -/
def eqV (P : Program) : Nat → TypeId → Value → Value → Option Bool
  | 0, _, _, _ => none
  | d + 1, t, x, y =>
    match P.underlying t, x, y with
    | some .bool, .bool a, .bool b => some (decide (a = b))
    | some (.int _), .int k a, .int k' b => match decide (k = k') with | true => some (decide (a = b)) | false => none
    | some .string, .string a, .string b => some (decide (a = b))
    | some (.pointer _), .pointer a, .pointer b => nilEq a b
    | some (.slice _), .slice a _ _, .slice b _ _ => nilEq a b
    | some (.map _ _), .map a, .map b => nilEq a b
    | some (.func _ _ _), .nilFunc, .nilFunc => some true
    | some (.func _ _ _), .nilFunc, .func _ _ _ => some false
    | some (.func _ _ _), .func _ _ _, .nilFunc => some false
    | some (.struct fs), .agg xs, .agg ys => match P.stoodInHeld t with
      | true => none
      | false => eqFields P d xs.toList ys.toList fs.toList
    | _, _, _ => none
  where
  /-- the fields, one after the other (each of one cell, none blank) -/
  eqFields (P : Program) (d : Nat) (xs ys : List Value) : List Field → Option Bool
    | [] => some true
    | f :: fs => match decide (f.name ≠ "_"), aggTy P f.type, xs[f.offset]?, ys[f.offset]? with
      | true, false, some x, some y => match eqV P d f.type x y, eqFields P d xs ys fs with
        | some r, some q => some (r && q)
        | _, _ => none
      | _, _, _, _ => none

/-- A shift. -/
def shiftI (op : BinOp) (k : IntKind) (m n : Int) : Int :=
  match op with
  | .shl => k.wrap (m * 2 ^ (min n.toNat k.bits))
  | _ => m.fdiv (2 ^ (min n.toNat k.bits))
/-- A comparison or a sum of two values. -/
def binK (P : Program) (op : BinOp) (t : TypeId) (a b : Value) (K : Value → Prop) : Prop :=
  match op, a, b with
  | .shl, .int k m, .int _ n | .shr, .int k m, .int _ n => gd (!decide (n < 0)) (K (.int k (shiftI op k m n)))
  | _, .int k m, .int k' n => match decide (k = k') with
    | false => False
    | true => match op with
      | .add | .sub | .mul => optP (semPure (Op.intArith op k m n)) K
      | .quo => gd (!decide (n = 0)) (K (.int k (k.wrap (m.tdiv n))))
      | .rem => gd (!decide (n = 0)) (K (.int k (m.tmod n)))
      | .and | .or | .xor | .andNot => optP (semPure (Op.intBits op k m n)) K
      | .eql => K (.bool (decide (m = n)))
      | .neq => K (.bool (!decide (m = n)))
      | .lss => K (.bool (decide (m < n)))
      | .leq => K (.bool (decide (m ≤ n)))
      | .gtr => K (.bool (decide (n < m)))
      | .geq => K (.bool (decide (n ≤ m)))
      | _ => False
  | .add, .string m, .string n => gd (decide (m.size + n.size ≤ 9223372036854775807)) (K (.string (m ++ n)))
  | .eql, .string m, .string n => K (.bool (decide (m = n)))
  | .neq, .string m, .string n => K (.bool (!decide (m = n)))
  | .lss, .string m, .string n => K (.bool (Op.bytesLess m.data.toList n.data.toList))
  | .gtr, .string m, .string n => K (.bool (Op.bytesLess n.data.toList m.data.toList))
  | .leq, .string m, .string n => K (.bool (!Op.bytesLess n.data.toList m.data.toList))
  | .geq, .string m, .string n => K (.bool (!Op.bytesLess m.data.toList n.data.toList))
  | .eql, a, b => match eqSafe P a b t with | true => optP (eqV P 5 t a b) fun r => K (.bool r) | false => False
  | .neq, a, b => match eqSafe P a b t with | true => optP (eqV P 5 t a b) fun r => K (.bool (!r)) | false => False
  | _, _, _ => False
  where
  /-- structs: none with an interface inside -/
  eqSafe (P : Program) (a b : Value) (t : TypeId) : Bool := match a, b with
    | .agg _, .agg _ => !P.eqGuardType P.depth t
    | .nilIface, .nilIface => false
    | _, _ => true
/-- An interface value held against the literal nil. -/
def ifaceK (op : BinOp) (x y : Operand) (a b : Value) (K : Value → Prop) : Prop :=
  match op with
  | .eql => match isConst y with
    | true => optP (ifaceNil a) fun r => K (.bool r)
    | false => gd (isConst x) (optP (ifaceNil b) fun r => K (.bool r))
  | .neq => match isConst y with
    | true => optP (ifaceNil a) fun r => K (.bool (!r))
    | false => gd (isConst x) (optP (ifaceNil b) fun r => K (.bool (!r)))
  | _ => False
def isIface (P : Program) (t : TypeId) : Bool := match P.underlying t with | some (.interface _) => true | _ => false
/-- An operation of two operands. -/
def binopK (P : Program) (op : BinOp) (t : TypeId) (x y : Operand) (a b : Value) (K : Value → Prop) : Prop :=
  match isIface P t with
  | true => ifaceK op x y a b K
  | false => binK P op t a b K

/-! maps -/
def scalarTy (P : Program) (t : TypeId) (v : Value) : Bool :=
  match P.underlying t, v with
  | some (.int k), .int k' _ => decide (k = k')
  | some .string, .string _ => true
  | some .bool, .bool _ => true
  | _, _ => false
def fieldsKey (P : Program) : Nat → List Field → List Value → Bool
  | _, [], [] => true
  | i, f :: fs, v :: vs => decide (f.name ≠ "_") && (Nat.beq f.offset i && (!aggTy P f.type && (scalarTy P f.type v && fieldsKey P (i + 1) fs vs)))
  | _, _, _ => false
/-- Is it a key of the type: an integer, a string, a bool, a struct of such? -/
def keyTy (P : Program) (t : TypeId) (v : Value) : Bool :=
  match v with
  | .agg cs => match P.underlying t with
    | some (.struct fs) => !P.stoodInHeld t && fieldsKey P 0 fs.toList cs.toList
    | _ => false
  | v => scalarTy P t v
def keyEq (P : Program) (t : TypeId) (x y : Value) : Bool := (eqV P 5 t x y).getD false
/-- The first place of a key. -/
def midx (P : Program) (t : TypeId) (k : Value) : List (Value × Value) → Option Nat
  | [] => none
  | (k', _) :: es => cond (keyEq P t k k') (some 0) ((midx P t k es).map (· + 1))
def mfind (P : Program) (t : TypeId) (k : Value) (es : List (Value × Value)) : Option Value :=
  match midx P t k es with
  | some i => (es[i]?).map (·.2)
  | none => none
def mset (P : Program) (t : TypeId) (k v : Value) (es : List (Value × Value)) : List (Value × Value) :=
  match midx P t k es with
  | some i => es.set i (k, v)
  | none => es ++ [(k, v)]
def mdel (P : Program) (t : TypeId) (k : Value) (es : List (Value × Value)) : List (Value × Value) :=
  match midx P t k es with
  | some i => es.eraseIdx i
  | none => es
def Hp.isMap (H : Hp) (m : Nat) (kt : TypeId) (es : List (Value × Value)) : Prop := H.obj m = some (.map kt es)
/-- A value that came out of a map, seen as the zero value z shows. -/
def seenK (z v : Value) (K : Value → Prop) : Prop :=
  match z with
  | .int k _ => ∃ n : Int, v = .int k n ∧ K (.int k n)
  | .bool _ => ∃ x : Bool, v = .bool x ∧ K (.bool x)
  | .string _ => ∃ s : ByteArray, v = .string s ∧ K (.string s)
  | .pointer _ => ∃ p : Option Addr, v = .pointer p ∧ K (.pointer p)
  | .slice _ _ _ => ∃ (a : Option Addr) (n k : Nat), v = .slice a n k ∧ K (.slice a n k)
  | .map _ => ∃ m : Option Nat, v = .map m ∧ K (.map m)
  | _ => K v
def lookupK (P : Program) (t : TypeId) (m k : Value) (ok : Bool) (H : Hp) (K : Value → Prop) : Prop :=
  match P.underlying t with
  | some (.map kt et) => gd (keyTy P kt k) <| match zeroOf P et with
    | none => False
    | some z => match m with
      | .map none => K (match ok with | true => .tuple #[z, .bool false] | false => z)
      | .map (some r) => ∃ es, H.isMap r kt es ∧ match mfind P kt k es with
        | some v => seenK z v fun v => K (match ok with | true => .tuple #[v, .bool true] | false => v)
        | none => K (match ok with | true => .tuple #[z, .bool false] | false => z)
      | _ => False
  | _ => False
def updateK (P : Program) (t : TypeId) (m k v : Value) (H : Hp) (K : Hp → Prop) : Prop :=
  match P.underlying t with
  | some (.map kt _) => gd (keyTy P kt k) <| match m with
    | .map m => optP m fun r => ∃ es, H.isMap r kt es ∧ K (H.put r (some (.map kt (mset P kt k v es))))
    | _ => False
  | _ => False
def deleteK (P : Program) (t : TypeId) (m k : Value) (H : Hp) (K : Hp → Prop) : Prop :=
  match P.underlying t with
  | some (.map kt _) => gd (keyTy P kt k) <| match m with
    | .map none => K H
    | .map (some r) => ∃ es, H.isMap r kt es ∧ K (H.put r (some (.map kt (mdel P kt k es))))
    | _ => False
  | _ => False

/-! slices -/
def byteAt (s : ByteArray) (i : Nat) : Int := ((s.data.toList.getD i 0).toNat : Int)
def bytesV (s : ByteArray) : List Value := s.data.toList.map fun b => .int .u8 b.toNat
def byteOfV : Value → UInt8
  | .int _ n => UInt8.ofNat n.toNat
  | _ => 0
def strOf (vs : List Value) : ByteArray := ⟨(vs.map byteOfV).toArray⟩
def isByte : Value → Bool
  | .int .u8 n => decide (0 ≤ n) && decide (n < 256)
  | _ => false
def szOf (P : Program) (t : TypeId) : Nat := match P.info? t with | some i => i.size | none => 0
def bytesOf (P : Program) (t : TypeId) : Nat := match P.info? t with | some i => i.bytes | none => 0
def zerosN (z : Value) (n : Nat) : List Value := (List.replicate n z.cells.toList).flatten
/-- 2^47 -/
def room : Nat := 140737488355328

/-- The cells of n elements (of sz cells) that a slice or a string shows. -/
def srcK (sz : Nat) (x : Value) (H : Hp) (K : Nat → List Value → Prop) : Prop :=
  match x with
  | .slice a n _ => match a with
    | none => K 0 []
    | some a => H.has a.block a.off (n * sz) ∧ K n (H.take a.block a.off (n * sz))
  | .string s => K s.size (bytesV s)
  | _ => False
/-- Does the source fit its type? -/
def srcTy (d : TypeDesc) (sz : Nat) (x : Value) : Bool :=
  match d, x with
  | .slice _, .slice _ _ _ => true
  | .string, .string _ => Nat.beq sz 1
  | _, _ => false
def zeroFits (P : Program) (e : TypeId) : Bool :=
  match P.info? e, zeroOf P e with
  | some i, some z => Nat.beq z.cells.size i.size
  | _, _ => false
def appendK (P : Program) (t t2 : TypeId) (s x : Value) (H : Hp) (K : Value → Hp → Prop) : Prop :=
  match P.underlying t, P.underlying t2 with
  | some (.slice e), some d2 => match P.info? e with
    | none => False
    | some i => gd (srcTy d2 i.size x) <| gd (Nat.ble 1 i.bytes && zeroFits P e) <| match s with
      | .slice a n k => match a with
        | none => srcK i.size x H fun m new => match Nat.beq m 0 with
          | true => K (.slice none 0 0) H
          | false => gd (decide (m * i.bytes ≤ room)) (K (.slice (some ⟨H.next, 0, none⟩) m i.size) (H.new (.cells true e new)))
        | some a => gd (Nat.beq k i.size && Nat.ble 1 k) <| H.own a.block e a.off (n * i.size) ∧ srcK i.size x H fun m new =>
          gd (decide ((n + m) * i.bytes ≤ room)) (K (.slice (some ⟨H.next, 0, none⟩) (n + m) i.size) ((H.put a.block none).new (.cells true e (H.take a.block a.off (n * i.size) ++ new))))
      | _ => False
  | _, _ => False
def copyK (P : Program) (t t2 : TypeId) (d s : Value) (H : Hp) (K : Value → Hp → Prop) : Prop :=
  match P.underlying t with
  | some (.slice e) => match P.info? e, P.underlying t2 with
    | none, _ => False
    | _, none => False
    | some i, some d2 => gd (srcTy d2 i.size s) <| match d with
      | .slice a n _ => match a with
        | some a => srcK i.size s H fun m new => H.may a.block a.off (min m n * i.size) ∧ K (.int .i64 (min m n : Nat)) (H.store a.block a.off (new.take (min m n * i.size)))
        | none => K (.int .i64 0) H
      | _ => False
  | _ => False
def makeSliceK (P : Program) (t : TypeId) (l c : Value) (H : Hp) (K : Value → Hp → Prop) : Prop :=
  match P.underlying t, l, c with
  | some (.slice e), .int .i64 n, .int .i64 m => match P.info? e with
    | none => False
    | some i => match zeroOf P e with
      | none => False
      | some z => gd (decide (0 ≤ n) && decide (n ≤ m) && decide (m * (i.bytes : Int) ≤ room) && decide (m ≤ room)) <| gd (Nat.beq z.cells.size i.size) <|
        K (.slice (some ⟨H.next, 0, none⟩) n.toNat i.size) (H.new (.cells true e (zerosN z n.toNat)))
  | _, _, _ => False
/-- an optional bound -/
def boundK (E : Operand → Option Value) (o : Option Operand) (d : Int) (K : Int → Prop) : Prop :=
  match o with
  | none => K d
  | some x => match E x with
    | some (.int _ n) => K n
    | _ => False
def sliceK (P : Program) (E : Operand → Option Value) (t : TypeId) (x : Value) (lo hi : Option Operand) (K : Value → Prop) : Prop :=
  match P.underlying t, x with
  | some .string, .string s => boundK E lo 0 fun l => boundK E hi (s.size : Int) fun h =>
      gd (decide (0 ≤ l) && decide (l ≤ h) && decide (h ≤ (s.size : Int))) (K (.string (s.extract l.toNat h.toNat)))
  | some (.slice e), .slice a n k => match P.info? e with
    | none => False
    | some i => boundK E lo 0 fun l => boundK E hi (n : Int) fun h =>
      gd (decide (0 ≤ l) && decide (l ≤ h) && decide (h ≤ (n : Int))) (match a with
        | none => K (.slice none 0 0)
        | some ad => K (.slice (some ⟨ad.block, ad.off + l.toNat * i.size, none⟩) (h - l).toNat (cond (Nat.beq k i.size) i.size 0)))
  | some (.array n e), .pointer p => optP p fun ad => match P.info? e with
    | none => False
    | some i => boundK E lo 0 fun l => boundK E hi (n : Int) fun h =>
      gd (decide (0 ≤ l) && decide (l ≤ h) && decide (h ≤ (n : Int))) (K (.slice (some ⟨ad.block, ad.off + l.toNat * i.size, none⟩) (h - l).toNat 0))
  | _, _ => False

/-! places -/
def partK (P : Program) (t : TypeId) (cs : List Value) (off : Nat) (K : Value → Prop) : Prop :=
  match P.info? t, P.underlying t with
  | some i, some _ => match aggTy P t with
    | true => K (.agg ⟨(cs.drop off).take i.size⟩)
    | false => optP cs[off]? K
  | _, _ => False
def fieldOf (P : Program) (t : TypeId) (f : Nat) : Option Field := match P.underlying t with | some (.struct fs) => fs.toList[f]? | _ => none
def fieldAddrK (P : Program) (t : TypeId) (f : Nat) (x : Value) (K : Value → Prop) : Prop :=
  match fieldOf P t f, x with
  | some fd, .pointer p => optP p fun a => gd (!Nat.beq (szOf P fd.type) 0) (K (.pointer (some ⟨a.block, a.off + fd.offset, none⟩)))
  | _, _ => False
def indexAddrK (P : Program) (t : TypeId) (x ix : Value) (K : Value → Prop) : Prop :=
  match ix with
  | .int _ j => match P.underlying t, x with
    | some (.array n e), .pointer p => match P.info? e with
      | none => False
      | some i => optP p fun a => gd (decide (0 ≤ j) && decide (j < (n : Int))) (K (.pointer (some ⟨a.block, a.off + j.toNat * i.size, none⟩)))
    | some (.slice e), .slice a n _ => match P.info? e with
      | none => False
      | some i => optP a fun a => gd (decide (0 ≤ j) && decide (j < (n : Int))) (K (.pointer (some ⟨a.block, a.off + j.toNat * i.size, none⟩)))
    | _, _ => False
  | _ => False
def indexK (P : Program) (t : TypeId) (x ix : Value) (K : Value → Prop) : Prop :=
  match ix with
  | .int _ j => match P.underlying t, x with
    | some (.array n e), .agg cs => match P.info? e with
      | none => False
      | some i => gd (decide (0 ≤ j) && decide (j < (n : Int))) (partK P e cs.toList (j.toNat * i.size) K)
    | some .string, .string s => gd (decide (0 ≤ j) && decide (j < (s.size : Int))) (K (.int .u8 (byteAt s j.toNat)))
    | _, _ => False
  | _ => False

/-- Where a part of a struct or of an array lies. -/
def placesL (P : Program) : List Field → Option (List (Nat × Nat))
  | [] => some []
  | f :: fs => match P.info? f.type, placesL P fs with
    | some i, some r => some ((f.offset, i.size) :: r)
    | _, _ => none
def places (P : Program) (t : TypeId) : Option (Nat → Option (Nat × Nat)) :=
  match P.underlying t with
  | some (.struct fs) => match placesL P fs.toList with
    | some l => some fun i => l[i]?
    | none => none
  | some (.array _ e) => match P.info? e with
    | some i => some fun j => some (j * i.size, i.size)
    | none => none
  | _ => none
def fillL (place : Nat → Option (Nat × Nat)) (cells : List Value) : List (Nat × Value) → Option (List Value)
  | [] => some cells
  | (i, v) :: rest => match place i with
    | none => none
    | some (off, size) => match Nat.beq v.cells.size size && Nat.ble (off + v.cells.size) cells.length with
      | true => fillL place (setL cells off v.cells.toList) rest
      | false => none
def partsL (E : Operand → Option Value) : List (Nat × Operand) → Option (List (Nat × Value))
  | [] => some []
  | (i, x) :: r => match E x with
    | none => none
    | some v => match partsL E r with
      | none => none
      | some vs => some ((i, v) :: vs)

def convertK (P : Program) (src dst : TypeId) (x : Value) (H : Hp) (K : Value → Hp → Prop) : Prop :=
  match P.underlying src, P.underlying dst, x with
  | some _, some (.int k), .int _ n => K (.int k (k.wrap n)) H
  | some _, some .string, .string s => K (.string s) H
  | some _, some (.slice e), .string s => match P.underlying e with
    | some (.int .u8) => gd (Nat.beq (szOf P e) 1 && decide (s.size ≤ room)) (K (.slice (some ⟨H.next, 0, none⟩) s.size 1) (H.new (.cells true e (bytesV s))))
    | _ => False
  | some (.slice e), some .string, .slice a n _ => match P.underlying e with
    | some (.int .u8) => match a with
      | none => K (.string ⟨#[]⟩) H
      | some ad => H.has ad.block ad.off n ∧ (H.take ad.block ad.off n).all isByte = true ∧ K (.string (strOf (H.take ad.block ad.off n))) H
    | _ => False
  | _, _, _ => False
end Go.Proofs.Ytbikpfccdcblfaa.Eng
