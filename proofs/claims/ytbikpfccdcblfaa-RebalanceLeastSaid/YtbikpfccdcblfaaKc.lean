/- The lifter, part 1: typed data in place of cells and addresses; who owns what. Definitions alone. -/
import Derived.Test.YtbikpfccdcblfaaKb
namespace Go.Proofs.Ytbikpfccdcblfaa.Eng
open Go
set_option linter.unusedVariables false

/-- What a value is read as. sl own e t: a slice (own: nobody else writes there), e the element's type in the program. -/
inductive Ty where
  | int (k : IntKind) | bool | str | unit | fn
  | ptr (c : Nat)
  | stale (n : Nat)
  | sl (own : Bool) (e : TypeId) (t : Ty)
  | map (own : Bool) (kt vt : TypeId) (k v : Ty)
  | prod (a b : Ty)
  deriving DecidableEq
def Data : Ty → Type
  | .int _ => Int
  | .bool => Bool
  | .str => List UInt8
  | .unit => Unit
  | .fn => Option Nat
  | .ptr _ => Option Nat
  | .stale _ => Unit
  | .sl _ _ t => List (Data t)
  | .map _ _ _ k v => List (Data k × Data v)
  | .prod a b => Data a × Data b
abbrev VT := (t : Ty) × Data t
def castTo (t : Ty) (x : VT) : Option (Data t) := if h : x.1 = t then some (h ▸ x.2) else none
/-- How many cells. -/
def Ty.n : Ty → Nat
  | .unit => 0
  | .prod a b => a.n + b.n
  | .stale n => n
  | _ => 1
def Ty.agg : Ty → Bool
  | .unit | .prod _ _ => true
  | _ => false
def Ty.noOwn : Ty → Bool
  | .sl own _ _ => !own
  | .map own .. => !own
  | .stale _ => false
  | .prod a b => a.noOwn && b.noOwn
  | _ => true

/-! labels: who owns a block -/
abbrev Lab := List Nat
def fz : Lab := [9]
def nol : Lab := [8]
def pre : Lab → Lab → Bool
  | [], _ => true
  | _ :: _, [] => false
  | a :: x, b :: y => Nat.beq a b && pre x y
def over (a b : Lab) : Bool := pre a b || pre b a
def rest : Lab → Lab → Lab
  | [], l => l
  | _ :: x, _ :: y => rest x y
  | _ :: _, [] => []
/-- Is it a slot's label, or one of a variable's parts? -/
def okL : Lab → Bool
  | 1 :: _ :: _ => true
  | 2 :: _ :: _ => true
  | _ => false
def mvL (g g' l : Lab) : Lab := cond (pre g l) (g' ++ rest g l) l

/-! what a slot holds -/
inductive A where
  | d (t : Ty) (ℓ : Lab) (x : Data t)
  | c (v : Value)
  /-- a place in a variable -/
  | pv (key : Nat) (p : List Nat) (o : Nat)
  /-- a place in an element of a slice -/
  | pe (own : Bool) (e : TypeId) (t : Ty) (ℓ : Lab) (l : List (Data t)) (i : Nat) (p : List Nat) (o : Nat)
  /-- nothing: an operation that was skipped -/
  | un
  /-- whatever it is -/
  | sk
inductive TV where
  | a (x : A)
  | tup (l : List A)
  | clo (k : FuncId) (xs ys : List A)

def A.live (g : Lab) : A → Bool
  | .d t ℓ _ => t.noOwn || !over g ℓ
  | .pe own _ _ ℓ _ _ _ _ => !own || !over g ℓ
  | _ => true
def A.mv (g g' : Lab) : A → A
  | .d t ℓ x => .d t (mvL g g' ℓ) x
  | .pe own e t ℓ l i p o => .pe own e t (mvL g g' ℓ) l i p o
  | x => x
/-- Does it lead to a variable? -/
def A.noKey (key : Nat) : A → Bool
  | .pv kk _ _ => !Nat.beq kk key
  | _ => true
def TV.all (f : A → Bool) : TV → Bool
  | .a x => f x
  | .tup l => l.all f
  | .clo _ xs ys => xs.all f && ys.all f
def TV.map (f : A → A) : TV → TV
  | .a x => .a (f x)
  | .tup l => .tup (l.map f)
  | .clo k xs ys => .clo k (xs.map f) (ys.map f)
def TV.keep (f : A → Bool) (v : TV) : TV := cond (v.all f) v (.a .sk)
abbrev TEnv := List (Nat × TV)
def onEnv (f : TV → TV) (e : TEnv) : TEnv := e.map fun p => (p.1, f p.2)

/-- A variable: what it holds; where it is an object of the program's heap: which. -/
structure Var where
  v : VT
  dyn : Option (Nat × Nat)
structure TS where
  env : TEnv
  low : TEnv
  vars : List (Nat × Var)
def TS.on (f : TV → TV) (st : TS) : TS := ⟨onEnv f st.env, onEnv f st.low, st.vars⟩
def TS.keep (f : A → Bool) (st : TS) : TS := st.on (TV.keep f)

abbrev Dh (Γ : Nat → Ty) := (c : Nat) → Nat → Option (Data (Γ c))
def Dh.set {Γ : Nat → Ty} (S : Dh Γ) (c id : Nat) (x : Data (Γ c)) : Dh Γ := fun c' i => if h : c = c' then (if i = id then some (h ▸ x) else S c' i) else S c' i

/-! parts of a value -/
def getP : List Nat → VT → Option VT
  | [], x => some x
  | s :: p, ⟨.prod a b, x⟩ => match s with | 0 => getP p ⟨a, x.1⟩ | 1 => getP p ⟨b, x.2⟩ | _ => none
  | _ :: _, _ => none
/-- A part is replaced, perhaps by one of another type (of as many cells). -/
def setP : List Nat → VT → VT → Option VT
  | [], y, x => match Nat.beq y.1.n x.1.n && (Bool.xor y.1.agg (!x.1.agg)) with | true => some y | false => none
  | s :: p, y, ⟨.prod a b, x⟩ => match s with
    | 0 => match setP p y ⟨a, x.1⟩ with | some z => some ⟨.prod z.1 b, (z.2, x.2)⟩ | none => none
    | 1 => match setP p y ⟨b, x.2⟩ with | some z => some ⟨.prod a z.1, (x.1, z.2)⟩ | none => none
    | _ => none
  | _ :: _, _, _ => none
def offP : List Nat → Ty → Nat
  | [], _ => 0
  | s :: p, .prod a b => match s with | 0 => offP p a | _ => a.n + offP p b
  | _ :: _, _ => 0
def fldP (f : Nat) : List Nat := List.replicate f 1 ++ [0]
def staleOf (x : VT) : VT := ⟨.stale x.1.n, ()⟩
/-- What was owned is frozen: from now on all may read it, nobody writes it. -/
def roS : (t : Ty) → Data t → VT
  | .sl own e t, x => ⟨.sl false e t, x⟩
  | .map own kt vt k v, x => ⟨.map false kt vt k v, x⟩
  | .prod a b, x => ⟨.prod (roS a x.1).1 (roS b x.2).1, ((roS a x.1).2, (roS b x.2).2)⟩
  | t, x => ⟨t, x⟩

def mkS (s : List UInt8) : ByteArray := ⟨⟨s⟩⟩
def constI (k : IntKind) : List Value → Option Int
  | [.int k' n] => match decide (k' = k) with | true => some n | false => none
  | _ => none
def constB : List Value → Option Bool
  | [.bool b] => some b
  | _ => none
def constS : List Value → Option (List UInt8)
  | [.string s] => some s.data.toList
  | _ => none
def constU : List Value → Option Unit
  | [] => some ()
  | _ => none
def constP : List Value → Option (Option Nat)
  | [.pointer none] => some none
  | _ => none
def constF : List Value → Option (Option Nat)
  | [.nilFunc] => some none
  | _ => none
def constL (α : Type) (ok : Bool) : List Value → Option (List α)
  | [.slice none 0 0] => match ok with | true => some [] | false => none
  | _ => none
def constM (α : Type) (ok : Bool) : List Value → Option (List α)
  | [.map none] => match ok with | true => some [] | false => none
  | _ => none
def pairO {α β : Type} : Option α → Option β → Option (α × β)
  | some x, some y => some (x, y)
  | _, _ => none
/-- A constant as data. -/
def constD : (t : Ty) → List Value → Option (Data t)
  | .int k, vs => constI k vs
  | .bool, vs => constB vs
  | .str, vs => constS vs
  | .unit, vs => constU vs
  | .ptr _, vs => constP vs
  | .sl _ _ t, vs => constL (Data t) t.noOwn vs
  | .prod a b, vs => pairO (constD a (vs.take a.n)) (constD b (vs.drop a.n))
  | .fn, vs => constF vs
  | .stale _, _ => none
  | .map own _ _ k v, vs => constM (Data k × Data v) (!own && (k.noOwn && v.noOwn)) vs
/-- An atom as data of a type, and its label (none: a constant). -/
def asD (t : Ty) : A → Option (Option Lab × Data t)
  | .d t' ℓ x => match castTo t ⟨t', x⟩ with | some y => some (some ℓ, y) | none => none
  | .c v => match Bool.xor t.agg (isAggV v) with | true => none | false => (match constD t v.cells.toList with | some y => some (none, y) | none => none)
  | _ => none
  where
  isAggV : Value → Bool
    | .agg _ => true
    | _ => false
/-- A number, a truth value, as the model's value. -/
def scal : A → Option Value
  | .d (.int k) _ n => some (.int k n)
  | .d .bool _ b => some (.bool b)
  | .c (.int k n) => some (.int k n)
  | .c (.bool b) => some (.bool b)
  | _ => none
def strA : A → Option (List UInt8)
  | .d .str _ s => some s
  | .c (.string s) => some s.data.toList
  | _ => none
def intA : A → Option Int
  | .d (.int _) _ n => some n
  | .c (.int _ n) => some n
  | _ => none
def i64A : A → Option Int
  | .d (.int .i64) _ n => some n
  | .c (.int .i64 n) => some n
  | _ => none
/-- A value of the engine as an atom. -/
def ofV : Value → Option A
  | .int k n => some (.d (.int k) nol n)
  | .bool b => some (.d .bool nol b)
  | .string s => some (.d .str nol s.data.toList)
  | _ => none
def eqI (a b : Int) : Bool := decide (a = b)
def eqB (a b : Bool) : Bool := decide (a = b)
def eqS (a b : List UInt8) : Bool := decide (a = b)
/-- Equality of data. -/
def eqD : (t : Ty) → Data t → Data t → Bool
  | .int _, a, b => eqI a b
  | .bool, a, b => eqB a b
  | .str, a, b => eqS a b
  | .prod a b, x, y => eqD a x.1 y.1 && eqD b x.2 y.2
  | _, _, _ => true
def eqTy : Ty → Bool
  | .int _ | .bool | .str | .unit => true
  | .prod a b => eqTy a && eqTy b
  | _ => false

/-! how a type of the program is read -/
inductive Knd where
  | int (k : IntKind) | bool | str | ptr | sl | map | fn | other
  deriving DecidableEq
def kndV : Value → Knd
  | .int k _ => .int k
  | .bool _ => .bool
  | .string _ => .str
  | .pointer _ => .ptr
  | .slice .. => .sl
  | .map _ => .map
  | .nilFunc => .fn
  | _ => .other
def Ty.knds : Ty → List Knd
  | .int k => [.int k]
  | .bool => [.bool]
  | .str => [.str]
  | .unit => []
  | .fn => [.fn]
  | .ptr _ => [.ptr]
  | .stale n => List.replicate n .other
  | .sl .. => [.sl]
  | .map .. => [.map]
  | .prod a b => a.knds ++ b.knds
/-- Is the program's type t read as ty? -/
def fits (P : Program) (t : TypeId) (ty : Ty) : Bool :=
  match P.info? t, P.underlying t with
  | some i, some _ => match i.zero with
    | some z => decide (aggTy P t = ty.agg) && (Nat.beq z.cells.size i.size && (Nat.beq i.size ty.n && (decide (z.cells.toList.map kndV = ty.knds) && ((ty.agg || decide ([kndV z] = ty.knds)) && decide (asD.isAggV z = ty.agg)))))
    | none => false
  | _, _ => false
def slTy (P : Program) (t e : TypeId) : Bool := match P.underlying t with | some (.slice e') => Nat.beq e e' | _ => false
end Go.Proofs.Ytbikpfccdcblfaa.Eng
/- The lifter, part 2: operations, regions, code over typed data. Definitions alone. -/
namespace Go.Proofs.Ytbikpfccdcblfaa.Eng
open Go
set_option linter.unusedVariables false

def DataL : List Ty → Type
  | [] => Unit
  | t :: ts => Data t × DataL ts
/-- What is known of a function. calm: it leaves the heap alone and hands back plain data. -/
structure TSp (Γ : Nat → Ty) where
  calm : Bool
  ps : List Ty
  rs : List Ty
  run : DataL ps → Dh Γ → (DataL rs → Dh Γ → Prop) → Prop
  /-- it turns nothing that lies there -/
  keep : Bool
abbrev TFrag (Γ : Nat → Ty) := TS → Dh Γ → (Ex → TS → Dh Γ → Prop) → Prop
/-- What is kept: slots (read as data of a type), variables; which slots' labels become which. -/
structure Cut where
  slots : List (Nat × Option (Ty × Lab))
  vars : List Nat
  mv : List (Nat × Lab)
  fr : List Nat
structure TCfg (Γ : Nat → Ty) where
  P : Program
  T : FuncId → Option (TSp Γ)
  vty : Nat → Ty
  loops : Nat → Option (TFrag Γ)
  joins : Nat → Option (TFrag Γ)
  cut : Nat → Option Cut
  cutX : Nat → Option Cut
  cutR : Option Cut
  cutN : Nat → Option Cut
  /-- functions that lead from a place to a part of it -/
  sel : List (FuncId × (List Nat × Nat))
  /-- slots whose value is frozen as soon as it is there -/
  frz : Nat → Bool
  /-- the order in which a region is walked -/
  perm : Nat → Option (List Nat)

/-! changes of the state -/
def updV (k : Nat) (f : Var → Var) (vs : List (Nat × Var)) : List (Nat × Var) := vs.map fun p => cond (Nat.beq p.1 k) (p.1, f p.2) p
/-- The part of a variable that a label speaks of is turned. -/
def onLab (g : Lab) (f : VT → VT) (vs : List (Nat × Var)) : List (Nat × Var) :=
  match g with
  | 1 :: _ :: _ => vs
  | 2 :: k :: p => updV k (fun v => match getP p v.v with | some x => (match setP p (f x) v.v with | some y => { v with v := y } | none => { v with v := staleOf v.v }) | none => { v with v := staleOf v.v }) vs
  | _ => []
/-- .. where there is one. -/
def useL (o : Option Lab) (f : Lab → TS → TS) (st : TS) (K : TS → Prop) : Prop := match o with | none => K st | some ℓ => gd (okL ℓ) (K (f ℓ st))
def TS.consume (g : Lab) (st : TS) : TS := { st.keep (A.live g) with vars := onLab g staleOf st.vars }
def A.frz (g : Lab) : A → A
  | .d t ℓ x => cond (!t.noOwn && decide (ℓ = g)) (.d (roS t x).1 ℓ (roS t x).2) (.d t ℓ x)
  | x => x
def TS.freeze (g : Lab) (st : TS) : TS := { (st.on (TV.map (A.frz g))).keep (A.live g) with vars := onLab g (fun x => match (roS x.1 x.2).1.noOwn with | true => roS x.1 x.2 | false => staleOf x) st.vars }
def A.under (g : Lab) : A → Bool
  | .d t ℓ _ => pre g ℓ
  | .pe _ _ _ ℓ _ _ _ _ => pre g ℓ
  | _ => true
/-- A label gets another name. -/
def TS.relab (g g' : Lab) (st : TS) : TS :=
  match g with
  | 1 :: _ :: _ => cond (over g g') st ((st.keep fun a => a.under g || (a.live g && a.live g')).on (TV.map (A.mv g g')))
  | _ => st
/-- All that stands under a label is let go: the label is free. -/
def TS.free (g : Lab) (st : TS) : TS := st.keep (A.live g)
/-- .. and all that leads to a variable or stands in it. -/
def TS.freeV (k : Nat) (st : TS) : TS := { (st.keep fun a => a.live [2, k] && a.noKey k) with vars := st.vars.filter fun p => !Nat.beq p.1 k }
def A.upd (g : Lab) (ty : Ty) (F : Data ty → Data ty) : A → A
  | .d t ℓ x => cond (!t.noOwn && decide (ℓ = g)) (match castTo ty ⟨t, x⟩ with | some y => .d ty ℓ (F y) | none => .sk) (.d t ℓ x)
  | .pe true e t ℓ l i p o => cond (decide (ℓ = g)) (match castTo ty ⟨.sl true e t, l⟩ with | some y => (match castTo (.sl true e t) ⟨ty, F y⟩ with | some l' => .pe true e t ℓ l' i p o | none => .sk) | none => .sk) (.pe true e t ℓ l i p o)
  | x => x
def A.exact (g : Lab) : A → Bool
  | .d t ℓ _ => decide (ℓ = g)
  | .pe _ _ _ ℓ _ _ _ _ => decide (ℓ = g)
  | _ => false
/-- What is owned under a label is written. -/
def TS.upd (g : Lab) (ty : Ty) (F : Data ty → Data ty) (st : TS) : TS := { (st.keep fun a => a.exact g || a.live g).on (TV.map (A.upd g ty F)) with vars := onLab g (fun x => match castTo ty x with | some y => ⟨ty, F y⟩ | none => staleOf x) st.vars }
def TS.put (d : Option Tmp) (v : TV) (st : TS) : TS := match d with | none => st | some d => { st with env := (d, v) :: st.env }

/-! operands -/
def argT (st : TS) : Operand → Option TV
  | .tmp t => lk t st.env
  | .const v => match constOK v with | true => some (.a (.c v)) | false => none
  | .func f => some (.clo f [] [])
  | .global _ => none
def argA (st : TS) (x : Operand) : Option A := match argT st x with | some (.a a) => some a | some (.clo k [] []) => some (.d .fn nol (some k : Option Nat)) | _ => none
def argsA (st : TS) : List Operand → Option (List A)
  | [] => some []
  | x :: xs => match argA st x, argsA st xs with
    | some a, some as => some (a :: as)
    | _, _ => none

variable {Γ : Nat → Ty}
/-- An argument of a call: what is owned is borrowed (calm), or frozen. -/
def takeA (calm : Bool) (t : Ty) (a : A) (as : List A) (st : TS) (K : Data t → List A → TS → Prop) : Prop :=
  match asD t a with
  | some (_, x) => gd t.noOwn (K x as st)
  | none => match a with
    | .d t' ℓ x => match castTo t (roS t' x) with
      | some y => gd (t.noOwn && okL ℓ) (match calm with
        | true => K y as st
        | false => gd ((as.map (A.frz ℓ)).all (A.live ℓ)) (K y (as.map (A.frz ℓ)) (st.freeze ℓ)))
      | none => False
    | _ => False
def takeL (calm : Bool) : (ts : List Ty) → List A → TS → (DataL ts → TS → Prop) → Prop
  | [], [], st, K => K () st
  | t :: ts, a :: as, st, K => takeA calm t a as st fun x as st => takeL calm ts as st fun xs st => K (x, xs) st
  | _, _, _, _ => False
def resL : (ts : List Ty) → Nat → Lab → DataL ts → List A
  | [], _, _, _ => []
  | t :: ts, i, g, x => .d t (g ++ [i]) x.1 :: resL ts (i + 1) g x.2
def tvOf : List A → TV
  | [a] => .a a
  | l => .tup l
def resT (ts : List Ty) (g : Lab) (x : DataL ts) : TV := tvOf (resL ts 0 g x)
def Dh.empty : Dh Γ := fun _ _ => none
def plainT : Ty → Bool
  | .int _ | .bool | .str => true
  | _ => false
def callT (o : Option (TSp Γ)) (d : Nat) (as : List A) (st : TS) (S : Dh Γ) (K : TV → TS → Dh Γ → Prop) : Prop :=
  match o with
  | none => False
  | some sp => match sp.calm with
    | true => gd (sp.rs.all plainT) (takeL true sp.ps as st fun xs st => sp.run xs Dh.empty fun ys _ => K (resT sp.rs [1, d] ys) st S)
    | false => match sp.keep with
      | false => takeL false sp.ps as st fun xs st => sp.run xs S fun ys S => K (resT sp.rs [1, d] ys) ((st.free [1, d]).keep (A.live [3])) S
      | true => takeL false sp.ps as st fun xs st => sp.run xs Dh.empty fun ys _ => K (resT sp.rs [1, d] ys) ((st.free [1, d]).keep (A.live [3])) S
def calmO (o : Option (TSp Γ)) : Bool := match o with | some sp => sp.calm | none => true

/-- Two truth values held against each other. -/
def boolEq (P : Program) (op : BinOp) (t : TypeId) : Value → Value → Option Bool
  | .bool a, .bool b => match P.underlying t with
    | some .bool => match op with
      | .eql => some (decide (a = b))
      | .neq => some (!decide (a = b))
      | _ => none
    | _ => none
  | _, _ => none
/-- A comparison or a sum. -/
def binT (P : Program) (op : BinOp) (t : TypeId) (x y : Operand) (a b : A) (K : A → Prop) : Prop :=
  match scal a, scal b with
  | some u, some v => match boolEq P op t u v with
    | some r => K (.d .bool nol r)
    | none => binopK P op t x y u v fun r => optP (ofV r) K
  | _, _ => match strA a, strA b with
    | some s, some u => match isIface P t, op with
      | false, .add => gd (decide (s.length + u.length ≤ 9223372036854775807)) (K (.d .str nol (s ++ u)))
      | false, .eql => K (.d .bool nol (decide (s = u)))
      | false, .neq => K (.d .bool nol (!decide (s = u)))
      | false, .lss => K (.d .bool nol (Op.bytesLess s u))
      | false, .gtr => K (.d .bool nol (Op.bytesLess u s))
      | false, .leq => K (.d .bool nol (!Op.bytesLess u s))
      | false, .geq => K (.d .bool nol (!Op.bytesLess s u))
      | _, _ => False
    | _, _ => match a, b with
      | .d ty _ u, b => match eqOK P t ty, asD ty b with
        | true, some (_, v) => match op with
          | .eql => K (.d .bool nol (eqD ty u v))
          | .neq => K (.d .bool nol (!eqD ty u v))
          | _ => False
        | _, _ => match ty, u, b with
          | .ptr _, o, .c (.pointer none) => match P.underlying t, op with
            | some (.pointer _), .eql => K (.d .bool nol (@Option.isNone Nat o))
            | some (.pointer _), .neq => K (.d .bool nol (!@Option.isNone Nat o))
            | _, _ => False
          | _, _, _ => False
      | _, _ => False
  where
  flatEq (P : Program) : Ty → List Field → Nat → Bool
    | .unit, [], _ => true
    | .prod a b, f :: fs, o => decide (f.name ≠ "_") && (Nat.beq f.offset o && (!aggTy P f.type && (sc P f.type a && flatEq P b fs (o + 1))))
    | _, _, _ => false
  sc (P : Program) (t : TypeId) : Ty → Bool
    | .int k => match P.underlying t with | some (.int k') => decide (k = k') | _ => false
    | .bool => match P.underlying t with | some .bool => true | _ => false
    | .str => match P.underlying t with | some .string => true | _ => false
    | _ => false
  eqOK (P : Program) (t : TypeId) (ty : Ty) : Bool := match ty with
    | .prod _ _ => match P.underlying t with
      | some (.struct fs) => !P.stoodInHeld t && (!P.eqGuardType P.depth t && (!isIface P t && flatEq P ty fs.toList 0))
      | _ => false
    | _ => false

def bytesD (s : List UInt8) : List Int := s.map fun b => (b.toNat : Int)
def srcB (t : Ty) (d2 : TypeDesc) (s : List UInt8) : Option (List (Data t)) :=
  match t with
  | .int .u8 => match d2 with | .string => some (bytesD s) | _ => none
  | _ => none
/-- The elements of a source of append or copy, as elements of type t. -/
def srcT (e : TypeId) (t : Ty) (d2 : TypeDesc) : A → Option (List (Data t))
  | .d (.sl o e' t') _ l => match d2 with
    | .slice _ => match castTo (.sl o e t) ⟨.sl o e' t', l⟩ with | some l => some l | none => none
    | _ => none
  | .c (.slice none 0 0) => match d2 with | .slice _ => some [] | _ => none
  | x => match strA x with
    | some s => srcB t d2 s
    | none => none
def appendT (P : Program) (T T2 : TypeId) (ty : Ty) (d : Nat) (s x : A) (st : TS) (K : TV → TS → Prop) : Prop :=
  match ty, P.underlying T2 with
  | .sl true e t, some d2 => gd (slTy P T e && (t.noOwn && (Nat.ble 1 t.n && (Nat.beq (szOf P e) t.n && (Nat.ble 1 (bytesOf P e) && zeroFits P e))))) <|
    match asD (.sl true e t) s, srcT e t d2 x with
    | some (ℓ, l), some m => gd (decide ((List.length (α := Data t) l + m.length) * bytesOf P e ≤ room)) (useL ℓ TS.consume st fun st => K (.a (.d (.sl true e t) [1, d] (List.append (α := Data t) l m))) (st.free [1, d]))
    | _, _ => False
  | _, _ => False
/-- The parts of a struct that is built, in order. -/
def headB (i : Nat) (a : Ty) (zs : List Value) (as : List (Nat × A)) : Option (Data a × List (Nat × A)) :=
  match as with
  | (j, x) :: r => match Nat.beq j i with
    | true => match a.noOwn, asD a x with
      | true, some (_, y) => some (y, r)
      | _, _ => none
    | false => match constD a (zs.take a.n) with | some y => some (y, (j, x) :: r) | none => none
  | [] => match constD a (zs.take a.n) with | some y => some (y, []) | none => none
def endB : List (Nat × A) → Option Unit
  | [] => some ()
  | _ => none
def buildT (t : Ty) : Nat → List Value → List (Nat × A) → Option (Data t) :=
  match t with
  | .unit => fun _ _ as => endB as
  | .prod a b => fun i zs as => match headB i a zs as with
    | some (x, r) => pairO (some x) (buildT b (i + 1) (zs.drop a.n) r)
    | none => none
  | _ => fun _ _ _ => none
def consO {α : Type} : Option α → Option (List α) → Option (List α)
  | some x, some l => some (x :: l)
  | _, _ => none
def buildL (t : Ty) (zs : List Value) : Nat → Nat → List (Nat × A) → Option (List (Data t))
  | 0, _, as => match endB as with | some _ => some [] | none => none
  | n + 1, i, as => match headB i t zs as with
    | some (x, r) => consO (some x) (buildL t zs n (i + 1) r)
    | none => none
def partsA (st : TS) : List (Nat × Operand) → Option (List (Nat × A))
  | [] => some []
  | (i, x) :: r => match argA st x, partsA st r with
    | some a, some as => some ((i, a) :: as)
    | _, _ => none
/-- Do the fields lie as the type says? -/
def fieldsOK (P : Program) : Ty → List Field → Nat → Bool
  | .unit, [], _ => true
  | .prod a b, f :: fs, o => Nat.beq f.offset o && (Nat.beq (szOf P f.type) a.n && ((P.info? f.type).isSome && fieldsOK P b fs (o + a.n)))
  | _, _, _ => false
def structOK (P : Program) (T : TypeId) (t : Ty) : Bool := match P.underlying T with | some (.struct fs) => fieldsOK P t fs.toList 0 | _ => false
def boundT (st : TS) (o : Option Operand) (d : Int) (K : Int → Prop) : Prop :=
  match o with
  | none => K d
  | some x => match argA st x with | some a => optP (intA a) K | none => False
def sliceT (P : Program) (T : TypeId) (a : A) (lo hi : Option Operand) (st : TS) (K : A → TS → Prop) : Prop :=
  match strA a with
  | some s => match P.underlying T with
    | some .string => boundT st lo 0 fun l => boundT st hi (s.length : Int) fun h =>
        gd (decide (0 ≤ l) && decide (l ≤ h) && decide (h ≤ (s.length : Int))) (K (.d .str nol ((s.take h.toNat).drop l.toNat)) st)
    | _ => False
  | none => match a with
    | .d (.sl o e t) ℓ l => gd (slTy P T e && Nat.beq (szOf P e) t.n && (P.info? e).isSome) <| boundT st lo 0 fun x => boundT st hi (l.length : Int) fun h =>
        gd (decide (0 ≤ x) && decide (x ≤ h) && decide (h ≤ (l.length : Int))) (match o with | true => useL (some ℓ) TS.freeze st fun st => K (.d (.sl false e t) nol ((l.take h.toNat).drop x.toNat)) st | false => K (.d (.sl false e t) nol ((l.take h.toNat).drop x.toNat)) st)
    | _ => False
def eqK (t : Ty) (x y : Data t) : Bool := eqD t x y
/-- A key's place. -/
def tfind {t v : Ty} (k : Data t) : List (Data t × Data v) → Option (Data v)
  | [] => none
  | p :: r => cond (eqD t k p.1) (some p.2) (tfind k r)
def tset {t v : Ty} (k : Data t) (x : Data v) : List (Data t × Data v) → List (Data t × Data v)
  | [] => [(k, x)]
  | p :: r => cond (eqD t k p.1) ((k, x) :: r) (p :: tset k x r)
def tdel {t v : Ty} (k : Data t) : List (Data t × Data v) → List (Data t × Data v)
  | [] => []
  | p :: r => cond (eqD t k p.1) r (p :: tdel k r)
/-- Is it a key's type? -/
def keyOK (P : Program) (kt : TypeId) (k : Ty) : Bool := match k with
  | .prod _ _ => binT.eqOK P kt k
  | k => binT.sc P kt k
def mapOK (P : Program) (T kt vt : TypeId) (k v : Ty) : Bool := match P.underlying T with
  | some (.map kt' vt') => Nat.beq kt kt' && (Nat.beq vt vt' && (keyOK P kt k && (v.noOwn && (k.noOwn && (fits P vt v && (zeroOf P vt).isSome)))))
  | _ => false
def zeroD (P : Program) (T : TypeId) (t : Ty) : Option (Data t) := match zeroOf P T with | some z => (match Nat.beq z.cells.size t.n with | true => constD t z.cells.toList | false => none) | none => none

def loadT (P : Program) (T : TypeId) (a : A) (st : TS) (K : TV → Prop) : Prop :=
  match a with
  | .pv k p o => optP (lk k st.vars) fun v => optP (getP p v.v) fun x => gd (Nat.beq o (offP p v.v.1) && fits P T x.1) (K (.a (.d x.1 (2 :: k :: p) x.2)))
  | .pe own e t ℓ l i p o => optP (l[i]?) fun y => optP (getP p ⟨t, y⟩) fun x => gd (Nat.beq o (offP p t) && fits P T x.1) (K (.a (.d x.1 nol x.2)))
  | _ => False
def staleFill (n : Nat) : A → Option ((t : Ty) × (Option Lab × Data t))
  | .d t ℓ y => match Nat.beq n t.n with | true => some ⟨t, (some ℓ, y)⟩ | false => none
  | _ => none
/-- What is written where something of type t stood. -/
def asPart (t : Ty) (x : A) : Option ((t : Ty) × (Option Lab × Data t)) :=
  match t with
  | .stale n => staleFill n x
  | t => match asD t x with | some z => some ⟨t, z⟩ | none => none
def storeT (P : Program) (T : TypeId) (a x : A) (st : TS) (K : TS → Prop) : Prop :=
  match a with
  | .pv k p o => optP (lk k st.vars) fun v => optP (getP p v.v) fun old => gd (Nat.beq o (offP p v.v.1) && Nat.beq (szOf P T) old.1.n && (P.info? T).isSome) <|
    optP (asPart old.1 x) fun y =>
    gd (Nat.beq y.1.n 1 || y.1.agg) <| optP (setP p ⟨y.1, y.2.2⟩ v.v) fun v' => match y.1.noOwn, y.2.1 with
      | false, some ℓ => gd (match ℓ with | 1 :: _ :: _ => true | _ => false) (K { ((st.free (2 :: k :: p)).relab ℓ (2 :: k :: p)) with vars := updV k (fun v => { v with v := v' }) st.vars })
      | _, _ => K { (st.free (2 :: k :: p)) with vars := updV k (fun v => { v with v := v' }) st.vars }
  | .pe true e t ℓ l i p o => optP (l[i]?) fun old => optP (getP p ⟨t, old⟩) fun part => gd (Nat.beq o (offP p t) && Nat.beq (szOf P T) part.1.n && (P.info? T).isSome && t.noOwn) <|
    gd (part.1.noOwn) <| optP (asD part.1 x) fun y => optP (setP p ⟨part.1, y.2⟩ ⟨t, old⟩) fun z => optP (castTo t z) fun z => gd (okL ℓ) (K (st.upd ℓ (.sl true e t) fun xs => List.set (α := Data t) xs i z))
  | _ => False

def fnD (f : Data .fn) : Option Nat := f
/-- A call of a function that leads to a part: which one it is, is found out. -/
def selT (T : FuncId → Option (TSp Γ)) (k : Nat) (F : List Nat → Nat → Prop) : List (FuncId × (List Nat × Nat)) → Prop
  | [] => False
  | (i, q) :: r => match Nat.beq k i with | true => gd (T i).isNone (F q.1 q.2) | false => selT T k F r
/-- One operation; d: the slot where its value goes. -/
def opT (c : TCfg Γ) (draw : Bool) (d : Nat) (op : Op) (st : TS) (S : Dh Γ) (K : TV → TS → Dh Γ → Prop) : Prop :=
  match op with
  | .move x | .assign x => optP (argT st x) fun v => K v st S
  | .pick t a b => optP (argA st t) fun x => match scal x with
    | some (.bool r) => match r with
      | true => optP (argT st a) fun v => K v st S
      | false => optP (argT st b) fun v => K v st S
    | _ => False
  | .alloc e => optP (zeroD c.P e (c.vty d)) fun x => K (.a (.pv d [] 0)) { (st.freeV d) with vars := (d, ⟨⟨c.vty d, x⟩, none⟩) :: (st.freeV d).vars } S
  | .box e x => optP (argA st x) fun a => optP (asD (c.vty d) a) fun y => gd ((c.vty d).noOwn) (K (.a (.pv d [] 0)) { (st.freeV d) with vars := (d, ⟨⟨c.vty d, y.2⟩, none⟩) :: (st.freeV d).vars } S)
  | .build t ps => gd (structOK c.P t (c.vty d) && (c.vty d).agg) <| optP (partsA st ps.toList) fun as => optP (zeroOf c.P t) fun z => gd (Nat.beq z.cells.size (c.vty d).n) <|
      optP (buildT (c.vty d) 0 z.cells.toList as) fun x => K (.a (.d (c.vty d) nol x)) st S
  | .buildSlice t n ps => match c.vty d with
    | .sl true e ty => gd (slTy c.P t e && (ty.noOwn && (Nat.ble 1 ty.n && (Nat.beq (szOf c.P e) ty.n && Nat.ble (n * szOf c.P e) 16777216)))) <|
        optP (partsA st ps.toList) fun as => optP (zeroOf c.P e) fun z => gd (Nat.beq z.cells.size ty.n) <| optP (buildL ty z.cells.toList n 0 as) fun l => K (.a (.d (.sl true e ty) [1, d] l)) (st.free [1, d]) S
    | _ => False
  | .load t a => optP (argA st a) fun p => loadT c.P t p st fun v => K v st S
  | .store t a x => optP (argA st a) fun p => optP (argA st x) fun v => storeT c.P t p v st fun st => K (.a .un) st S
  | .nilCheck x => optP (argT st x) fun v => match v with
    | .clo k xs ys => K (.clo k xs ys) st S
    | .a (.pv k p o) => K (.a (.pv k p o)) st S
    | .a (.pe own e t ℓ l i p o) => K (.a (.pe own e t ℓ l i p o)) st S
    | _ => False
  | .binOp op t x y _ => optP (argA st x) fun a => optP (argA st y) fun b => binT c.P op t x y a b fun v => K (.a v) st S
  | .unOp op _ x => optP (argA st x) fun a => match op, scal a with
    | .neg, some (.int k n) => K (.a (.d (.int k) nol (k.wrap (0 - n)))) st S
    | .xor, some (.int k n) => optP (semPure (Op.intBits .xor k (match k.signed with | true => -1 | false => k.max) n)) fun v => optP (ofV v) fun r => K (.a r) st S
    | .not, some (.bool b) => K (.a (.d .bool nol (!b))) st S
    | _, _ => False
  | .convert s t x => optP (argA st x) fun a => match c.P.underlying s, c.P.underlying t with
    | some _, some (.int k) => optP (intA a) fun n => K (.a (.d (.int k) nol (k.wrap n))) st S
    | some sd, some .string => match strA a with
      | some u => K (.a (.d .str nol u)) st S
      | none => match sd, a with
        | .slice e, .d (.sl o e' (.int .u8)) ℓ l => gd (Nat.beq e e' && (match c.P.underlying e with | some (.int .u8) => true | _ => false)) <| gd (List.all l fun n : Int => decide (0 ≤ n) && decide (n < 256)) (K (.a (.d .str nol (List.map (fun n : Int => UInt8.ofNat n.toNat) l))) st S)
        | _, _ => False
    | some _, some (.slice e) => match c.vty d with
      | .sl true e' (.int .u8) => optP (strA a) fun s => gd (Nat.beq e e' && (Nat.beq (szOf c.P e) 1 && (match c.P.underlying e with | some (.int .u8) => true | _ => false))) <| gd (decide (s.length ≤ room)) (K (.a (.d (.sl true e' (.int .u8)) [1, d] (bytesD s))) (st.free [1, d]) S)
      | _ => False
    | _, _ => False
  | .makeFunc (.func k) xs ys => optP (argsA st xs.toList) fun a => optP (argsA st ys.toList) fun b => K (.clo k a b) st S
  | .makeMap t r => match c.vty d with
    | .map true kt vt k v => gd (mapOK c.P t kt vt k v && (match r with | none => true | some x => match argA st x with | some a => (intA a).isSome | none => false)) (K (.a (.d (.map true kt vt k v) [1, d] [])) (st.free [1, d]) S)
    | _ => False
  | .makeSlice t l m => match c.vty d with
    | .sl true e ty => gd (slTy c.P t e && (ty.noOwn && (Nat.ble 1 ty.n && Nat.beq (szOf c.P e) ty.n))) <| optP (argA st l) fun a => optP (argA st m) fun b => optP (i64A a) fun n => optP (i64A b) fun m => optP (zeroD c.P e ty) fun z =>
        gd (decide (0 ≤ n) && decide (n ≤ m) && decide (m * ((bytesOf c.P e : Nat) : Int) ≤ room) && decide (m ≤ room)) (K (.a (.d (.sl true e ty) [1, d] (List.replicate n.toNat z))) (st.free [1, d]) S)
    | _ => False
  | .slice t x lo hi mx => match mx with
    | none => optP (argA st x) fun a => sliceT c.P t a lo hi st fun r st => K (.a r) st S
    | some _ => False
  | .fieldAddr t x f => optP (argA st x) fun a => optP (fieldOf c.P t f) fun fd => gd (!Nat.beq (szOf c.P fd.type) 0) <| match a with
    | .pv k p o => K (.a (.pv k (p ++ fldP f) (o + fd.offset))) st S
    | .pe own e ty ℓ l i p o => K (.a (.pe own e ty ℓ l i (p ++ fldP f) (o + fd.offset))) st S
    | _ => False
  | .field t x f => optP (argA st x) fun a => optP (fieldOf c.P t f) fun fd => match a with
    | .d ty ℓ y => optP (getP (fldP f) ⟨ty, y⟩) fun z => gd (ty.agg && (Nat.beq fd.offset (offP (fldP f) ty) && fits c.P fd.type z.1)) (K (.a (.d z.1 (ℓ ++ fldP f) z.2)) st S)
    | _ => False
  | .indexAddr t x i => optP (argA st x) fun a => optP (argA st i) fun j => optP (intA j) fun j => match a with
    | .d (.sl own e ty) ℓ l => gd (slTy c.P t e && (Nat.beq (szOf c.P e) ty.n && (c.P.info? e).isSome)) <| gd (decide (0 ≤ j) && decide (j < (l.length : Int))) (K (.a (.pe own e ty ℓ l j.toNat [] 0)) st S)
    | _ => False
  | .index t x i => optP (argA st x) fun a => optP (argA st i) fun j => optP (intA j) fun j => match c.P.underlying t, strA a with
    | some .string, some s => gd (decide (0 ≤ j) && decide (j < (s.length : Int))) (K (.a (.d (.int .u8) nol (((s.getD j.toNat 0).toNat : Nat) : Int))) st S)
    | _, _ => False
  | .lookup t m k ok => optP (argA st m) fun m => optP (argA st k) fun k => match m with
    | .d (.map _ kt vt kty vty) ℓ l => gd (mapOK c.P t kt vt kty vty) <| optP (asD kty k) fun key => match tfind key.2 l with
      | some v => K (match ok with | true => .tup [.d vty nol v, .d .bool nol true] | false => .a (.d vty nol v)) st S
      | none => optP (zeroD c.P vt vty) fun z => K (match ok with | true => .tup [.d vty nol z, .d .bool nol false] | false => .a (.d vty nol z)) st S
    | _ => False
  | .mapUpdate t m k v | .insert t m k v => optP (argA st m) fun m => optP (argA st k) fun k => optP (argA st v) fun v => match m with
    | .d (.map true kt vt kty vty) ℓ l => gd (mapOK c.P t kt vt kty vty) <| optP (asD kty k) fun key => optP (asD vty v) fun x => gd (okL ℓ) <| K (.a .un) (st.upd ℓ (.map true kt vt kty vty) fun l => tset key.2 x.2 l) S
    | _ => False
  | .extract x i => optP (argT st x) fun v => match v with
    | .tup l => optP (l[i]?) fun a => K (.a a) st S
    | _ => False
  | .call ⟨.builtin b, xs, ts⟩ => optP (argsA st xs.toList) fun as => match b, ts.toList, as with
    | .len, [t], [x] => match strA x, c.P.underlying t with
      | some s, some .string => K (.a (.d (.int .i64) nol ((s.length : Nat) : Int))) st S
      | none, some (.slice _) => match x with
        | .d (.sl _ _ _) _ l => K (.a (.d (.int .i64) nol ((l.length : Nat) : Int))) st S
        | .c (.slice none 0 0) => K (.a (.d (.int .i64) nol (0 : Int))) st S
        | _ => False
      | none, some (.map _ _) => match x with
        | .d (.map _ _ _ _ _) _ l => K (.a (.d (.int .i64) nol ((l.length : Nat) : Int))) st S
        | _ => False
      | _, _ => False
    | .max, _, [x, y] => optP (scal x) fun u => optP (scal y) fun v => maxK true (fun r => optP (ofV r) fun a => K (.a a) st S) [u, v]
    | .min, _, [x, y] => optP (scal x) fun u => optP (scal y) fun v => maxK false (fun r => optP (ofV r) fun a => K (.a a) st S) [u, v]
    | .append, [t, t2], [s, x] => appendT c.P t t2 (c.vty d) d s x st fun v st => K v st S
    | .delete, [t, _], [m, k] => match m with
      | .d (.map true kt vt kty vty) ℓ l => gd (mapOK c.P t kt vt kty vty) <| optP (asD kty k) fun key => gd (okL ℓ) <| K (.tup []) (st.upd ℓ (.map true kt vt kty vty) fun l => tdel key.2 l) S
      | _ => False
    | _, _, _ => False
  | .call ⟨.value f, xs, _⟩ => optP (argsA st xs.toList) fun as => match f with
    | .func k => callT (c.T k) d as st S K
    | f => optP (argT st f) fun fv => match fv with
      | .clo k a b => gd (!draw || calmO (c.T k)) (callT (c.T k) d (a ++ as ++ b) st S K)
      | .a (.d .fn _ f) => optP (fnD f) fun k => match as with
        | [.pv key p o] => selT c.T k (fun q off => K (.a (.pv key (p ++ q) (o + off))) st S) c.sel
        | [.pe own e t ℓ l i p o] => selT c.T k (fun q off => K (.a (.pe own e t ℓ l i (p ++ q) (o + off))) st S) c.sel
        | _ => False
      | _ => False
  | _ => False

/-! regions and code -/
def dstOf (o : Oper) : Nat := match o.dst with | some d => d | none => 0
def frSlots : List Nat → TS → TS
  | [], st => st
  | s :: r, st => frSlots r (match lk s st.env with | some (.a (.d t ℓ _)) => cond (t.noOwn || !okL ℓ) st (st.freeze ℓ) | _ => st)
def putK (z : Nat → Bool) (n : Nat) (dst : Option Tmp) (v : TV) (st : TS) (K : TS → Prop) : Prop := match dst with
  | none => K st
  | some d => gd (Nat.ble (d + 1) n) (match z d with | true => K (frSlots [d] { st with env := (d, v) :: st.env }) | false => K { st with env := (d, v) :: st.env })
/-- Behind a guard that was read. -/
def guardT (c : TCfg Γ) (n : Nat) (draw : Bool) (o : Oper) (d : Nat) (want : Bool) (s : Option Value) (st : TS) (S : Dh Γ) (K : TS → Dh Γ → Prop) : Prop :=
  match s with
  | some (.bool r) => match r with
    | true => match want with
      | true => opT c draw (dstOf o) o.op { st with env := (d, .a (.c (.bool true))) :: st.env } S fun v st S => putK c.frz n o.dst v st fun st => K st S
      | false => putK c.frz n o.dst (.a .un) { st with env := (d, .a (.c (.bool true))) :: st.env } fun st => K st S
    | false => match want with
      | true => putK c.frz n o.dst (.a .un) { st with env := (d, .a (.c (.bool false))) :: st.env } fun st => K st S
      | false => opT c draw (dstOf o) o.op { st with env := (d, .a (.c (.bool false))) :: st.env } S fun v st S => putK c.frz n o.dst v st fun st => K st S
  | _ => False
def operT (c : TCfg Γ) (n : Nat) (draw : Bool) (ops : Array Oper) (o : Oper) (st : TS) (S : Dh Γ) (K : TS → Dh Γ → Prop) : Prop :=
  match gslot ops o with
  | none => False
  | some none => opT c draw (dstOf o) o.op st S fun v st S => putK c.frz n o.dst v st fun st => K st S
  | some (some (d, want)) => match lk d st.env with
    | some (.a .un) => putK c.frz n o.dst (.a .un) st fun st => K st S
    | some (.a x) => guardT c n draw o d want (scal x) st S K
    | _ => False
def opersT (c : TCfg Γ) (n : Nat) (draw : Bool) (ops : Array Oper) : List Oper → TS → Dh Γ → (TS → Dh Γ → Prop) → Prop
  | [], st, S, K => K st S
  | o :: os, st, S, K => operT c n draw ops o st S fun st S => opersT c n draw ops os st S K

/-- A slot's label is renamed to a slot's label. -/
def relabS (g g' : Lab) (st : TS) : TS := match g' with
  | 1 :: _ :: _ => st.relab g g'
  | _ => st
def mvSlots : List (Nat × Lab) → TS → TS
  | [], st => st
  | (s, g) :: r, st => mvSlots r (match lk s st.env with | some (.a (.d t ℓ _)) => cond (t.noOwn) st (relabS ℓ g st) | _ => st)
def A.inKeys (ks : List Nat) : A → Bool
  | .pv k _ _ => ks.any fun x => Nat.beq k x
  | _ => true
def normT (o : Option (Ty × Lab)) (v : TV) : TV :=
  match o, v with
  | some (ty, g), .a a => match asD ty a with
    | some (ℓ, x) => .a (.d ty (match ty.noOwn, ℓ with | false, some ℓ => ℓ | false, none => g | _, _ => nol) x)
    | none => .a a
  | _, v => v
def keepS (env : TEnv) : List (Nat × Option (Ty × Lab)) → TEnv
  | [] => []
  | (t, o) :: r => match lk t env with | some v => (t, normT o v) :: keepS env r | none => keepS env r
def keepV (vars : List (Nat × Var)) : List Nat → List (Nat × Var)
  | [] => []
  | k :: r => match lk k vars with | some v => (k, v) :: keepV vars r | none => keepV vars r
def Cut.on (u : Cut) (st : TS) : TS := ⟨keepS ((mvSlots u.mv (frSlots u.fr st)).keep (A.inKeys u.vars)).env u.slots, ((mvSlots u.mv (frSlots u.fr st)).keep (A.inKeys u.vars)).low, keepV ((mvSlots u.mv (frSlots u.fr st)).keep (A.inKeys u.vars)).vars u.vars⟩
def cutO (u : Option Cut) (st : TS) : TS := match u with | some u => u.on st | none => st
def cutAtT (c : TCfg Γ) (b : Code) (st : TS) : TS := match firstR b with | none => st | some i => cutO (c.cut i) st
def cutEndT (c : TCfg Γ) (b : Code) (st : TS) : TS := match firstR b with | none => st | some i => cutO (c.cutN i) st
def fragAt (t : Nat → Option (TFrag Γ)) (b : Code) : Option (TFrag Γ) := match firstR b with | none => none | some i => t i
def endsT (c : TCfg Γ) (b : Code) (K : Ex → TS → Dh Γ → Prop) : Ex → TS → Dh Γ → Prop
  | .normal, st, S => K .normal (cutEndT c b st) S
  | .exit i, st, S => K (.exit i) st S
  | .ret, st, S => K .ret st S
def roundT (rec : TS → Dh Γ → Prop) (K : Ex → TS → Dh Γ → Prop) : Ex → TS → Dh Γ → Prop
  | .normal, st, S => rec st S
  | .exit i, st, S => K (.exit i) st S
  | .ret, st, S => K .ret st S
def loopT (cf : TS → TS) (step : TFrag Γ) : Nat → TFrag Γ
  | 0, _, _, _ => False
  | m + 1, st, S, K => step st S (roundT (fun st S => loopT cf step m (cf st) S K) K)
theorem loopT_succ (cf : TS → TS) (step : TFrag Γ) (m : Nat) (st : TS) (S : Dh Γ) (K : Ex → TS → Dh Γ → Prop) :
    loopT cf step (m + 1) st S K = step st S (roundT (fun st S => loopT cf step m (cf st) S K) K) := rfl
def evT (c : TCfg Γ) (n : Nat) (code : Code) : TFrag Γ :=
  match code with
  | .skip => fun st S K => K .normal st S
  | .region id ops draw => fun st S K => opersT c n draw ops (lineOf (c.perm id) ops) st S fun st S => K .normal st S
  | .seq a b => fun st S K => evT c n a st S fun ex st S => match ex with
    | .normal => match fragAt c.joins b with
      | some j => j (cutAtT c b st) S K
      | none => evT c n b (cutAtT c b st) S K
    | .exit i => K (.exit i) st S
    | .ret => K .ret st S
  | .cond t a b => fun st S K => match argA st t with
    | some x => match scal x with
      | some (.bool r) => match r with
        | true => evT c n a st S K
        | false => evT c n b st S K
      | _ => False
    | none => False
  | .block id b => fun st S K => evT c n b st S fun ex st S => match ex with
    | .normal => K .normal st S
    | .exit j => match Nat.beq j id with
      | true => K .normal st S
      | false => K (.exit j) st S
    | .ret => K .ret st S
  | .loop b => fun st S K => match fragAt c.loops b with
    | some l => l (cutAtT c b st) S K
    | none => loopT (cutAtT c b) (fun st S K => evT c n b st S K) big (cutAtT c b st) S K
  | .label _ => fun st S K => K .normal st S
  | .exit id => fun st S K => K (.exit id) (cutO (c.cutX id) st) S
  | .ret => fun st S K => K .ret (cutO c.cutR st) S
  | .scope b => fun st S K => evT c n b st S K
  | .rangeFunc .. | .goto _ | .refuse _ => fun _ _ _ => False
  termination_by structural code

/-! a function -/
/-- A result as data: what is owned is frozen. -/
def giveA (t : Ty) (a : A) (K : Data t → Prop) : Prop :=
  match asD t a with
  | some (_, x) => gd t.noOwn (K x)
  | none => match a with
    | .d t' ℓ x => match castTo t (roS t' x) with
      | some y => gd (t.noOwn && okL ℓ) (K y)
      | none => False
    | _ => False
def giveT (t : Ty) (v : TV) (K : Data t → Prop) : Prop := match v with | .a a => giveA t a K | _ => False
def retT (P : Program) (st : TS) : List ResultVar → (ts : List Ty) → (DataL ts → Prop) → Prop
  | [], [], K => K ()
  | .tmp t :: rs, ty :: ts, K => optP (lk t st.env) fun v => giveT ty v fun x => retT P st rs ts fun xs => K (x, xs)
  | .cell b t :: rs, ty :: ts, K => optP (lk b st.env) fun p => match p with
    | .a p => loadT P t p st fun v => giveT ty v fun x => retT P st rs ts fun xs => K (x, xs)
    | _ => False
  | _, _, _ => False
def paramsL : Nat → (ts : List Ty) → DataL ts → TEnv
  | _, [], _ => []
  | i, t :: ts, x => (i, .a (.d t [1, i] x.1)) :: paramsL (i + 1) ts x.2
def fnT (c : TCfg Γ) (fn : Func) (ps rs : List Ty) (xs : DataL ps) (S : Dh Γ) (K : DataL rs → Dh Γ → Prop) : Prop :=
  match fn.body with
  | none => False
  | some b => gd (Nat.ble ps.length fn.ntmps) (evT c fn.ntmps b ⟨paramsL 0 ps xs, [], []⟩ S fun ex st S => match ex with
    | .exit _ => False
    | _ => retT c.P st fn.results.toList rs fun ys => K ys S)
end Go.Proofs.Ytbikpfccdcblfaa.Eng
/- The lifter, part 3: how typed data lie in the abstract heap. -/
namespace Go.Proofs.Ytbikpfccdcblfaa.Eng
open Go
set_option linter.unusedVariables false
set_option linter.unusedSimpArgs false

abbrev nth {α : Type} (l : List α) (i : Nat) : Option α := l[i]?
def ofC (t : Ty) (vs : List Value) : Value := match t.agg with | true => .agg ⟨vs⟩ | false => vs.headD undef
def fnV : Option Nat → Value
  | none => .nilFunc
  | some k => .func (.func k) #[] #[]
/-- Blocks' labels: 0 :: ℓ owned under ℓ; [5, k] a variable's own block; 6 :: _ an object's; fz frozen; nol nobody's; 10 :: _ the caller's. -/
def RepD (ω : Nat → Lab) (H : Hp) : (t : Ty) → Lab → Data t → List Value → Prop
  | .int k, _, n, vs => vs = [.int k n]
  | .bool, _, b, vs => vs = [.bool b]
  | .str, _, s, vs => vs = [.string (mkS s)]
  | .unit, _, _, vs => vs = []
  | .fn, _, k, vs => vs = [fnV k]
  | .ptr _, _, o, vs => vs = [.pointer (Option.map (fun b : Nat => ⟨b, 0, none⟩) o)]
  | .stale n, _, _, vs => vs.length = n ∧ ∀ v ∈ vs, oneCell v = true
  | .sl own e t, ℓ, l, vs => ∃ (a : Option Addr) (k : Nat), vs = [.slice a (List.length (α := Data t) l) k] ∧ t.noOwn = true ∧ ((a = none ∧ l = [] ∧ k = 0) ∨ (own = false ∧ l = []) ∨
      ∃ (b off : Nat) (w : Bool) (e' : TypeId) (cs : List Value), a = some ⟨b, off, none⟩ ∧ H.obj b = some (.cells w e' cs) ∧ off + List.length (α := Data t) l * t.n ≤ cs.length ∧
        (∀ (i : Nat) (y : Data t), nth (α := Data t) l i = some y → RepD ω H t [] y ((cs.drop (off + i * t.n)).take t.n)) ∧
        ((own = true ∧ w = true ∧ e' = e ∧ k = t.n ∧ 1 ≤ t.n ∧ off = 0 ∧ cs.length = List.length (α := Data t) l * t.n ∧ ω b = 0 :: ℓ) ∨ (own = false ∧ ω b = fz)))
  | .map own kt vt k v, ℓ, l, vs => ∃ (mo : Option Nat), vs = [.map mo] ∧ k.noOwn = true ∧ v.noOwn = true ∧ ((own = false ∧ mo = none ∧ l = []) ∨ ∃ (m : Nat) (es : List (Value × Value)), mo = some m ∧ H.obj m = some (.map kt es) ∧ es.length = List.length (α := Data k × Data v) l ∧
      (∀ (i : Nat) (p : Data k × Data v), nth (α := Data k × Data v) l i = some p → ∃ ks ws, es[i]? = some (ofC k ks, ofC v ws) ∧ RepD ω H k [] p.1 ks ∧ RepD ω H v [] p.2 ws) ∧
      ((own = true ∧ ω m = 0 :: ℓ) ∨ (own = false ∧ ω m = fz)))
  | .prod a b, ℓ, x, vs => ∃ v1 v2, vs = v1 ++ v2 ∧ RepD ω H a (ℓ ++ [0]) x.1 v1 ∧ RepD ω H b (ℓ ++ [1]) x.2 v2
def ARep (ω : Nat → Lab) (H : Hp) : A → Value → Prop
  | .d t ℓ x, u => ∃ vs, RepD ω H t ℓ x vs ∧ u = ofC t vs
  | .c v, u => u = v ∧ constOK v = true
  | .pv k p o, u => ∃ b, ω b = [5, k] ∧ u = .pointer (some ⟨b, o, none⟩)
  | .pe own e t ℓ l i p o, u => ∃ (b off k : Nat), RepD ω H (.sl own e t) ℓ l [.slice (some ⟨b, off, none⟩) (List.length (α := Data t) l) k] ∧ i < l.length ∧ u = .pointer (some ⟨b, off + i * t.n + o, none⟩)
  | .un, u => u = undef
  | .sk, u => True
def All2 {α β : Type} (R : α → β → Prop) : List α → List β → Prop
  | [], [] => True
  | a :: as, b :: bs => R a b ∧ All2 R as bs
  | _, _ => False
def TRep (ω : Nat → Lab) (H : Hp) : TV → Value → Prop
  | .a x, u => ARep ω H x u
  | .tup l, u => ∃ us, u = .tuple ⟨us⟩ ∧ All2 (ARep ω H) l us
  | .clo k xs ys, u => ∃ us ws, u = .func (.func k) ⟨us⟩ ⟨ws⟩ ∧ All2 (ARep ω H) xs us ∧ All2 (ARep ω H) ys ws
theorem All2.len {α β : Type} {R : α → β → Prop} : ∀ {l : List α} {m : List β}, All2 R l m → l.length = m.length
  | [], [], _ => rfl
  | _ :: _, _ :: _, h => by simp [All2.len h.2]
  | [], _ :: _, h => h.elim
  | _ :: _, [], h => h.elim
theorem All2.get {α β : Type} {R : α → β → Prop} : ∀ {l : List α} {m : List β}, All2 R l m → ∀ {i : Nat} {a : α}, l[i]? = some a → ∃ b, m[i]? = some b ∧ R a b
  | [], [], _, i, a, h => by simp at h
  | x :: l, y :: m, hr, i, a, h => by
    cases i with
    | zero => simp at h; subst h; exact ⟨y, rfl, hr.1⟩
    | succ i => exact All2.get hr.2 (i := i) (by simpa using h)
  | [], _ :: _, h, _, _, _ => h.elim
  | _ :: _, [], h, _, _, _ => h.elim
theorem All2.mono {α β : Type} {R Q : α → β → Prop} : ∀ {l : List α} {m : List β}, All2 R l m → (∀ a ∈ l, ∀ b, R a b → Q a b) → All2 Q l m
  | [], [], _, _ => trivial
  | x :: l, y :: m, h, k => ⟨k x List.mem_cons_self y h.1, All2.mono h.2 fun a ha => k a (List.mem_cons_of_mem _ ha)⟩
  | [], _ :: _, h, _ => h.elim
  | _ :: _, [], h, _ => h.elim
theorem All2.map {α β γ : Type} {R : α → β → Prop} {Q : γ → β → Prop} {f : α → γ} : ∀ {l : List α} {m : List β}, All2 R l m → (∀ a b, R a b → Q (f a) b) → All2 Q (l.map f) m
  | [], [], _, _ => trivial
  | x :: l, y :: m, h, k => ⟨k x y h.1, All2.map h.2 k⟩
  | [], _ :: _, h, _ => h.elim
  | _ :: _, [], h, _ => h.elim
theorem All2.append {α β : Type} {R : α → β → Prop} : ∀ {l l' : List α} {m m' : List β}, All2 R l m → All2 R l' m' → All2 R (l ++ l') (m ++ m')
  | [], _, [], _, _, h => h
  | _ :: _, _, _ :: _, _, h, k => ⟨h.1, All2.append h.2 k⟩
  | [], _, _ :: _, _, h, _ => h.elim
  | _ :: _, _, [], _, h, _ => h.elim

theorem agg_n {t : Ty} (h : t.agg = false) : (∃ n, t = .stale n) ∨ t.n = 1 := by cases t <;> simp_all [Ty.agg, Ty.n]
variable {ω ω' : Nat → Lab} {H H' : Hp}
theorem RepD.len : ∀ {t : Ty} {ℓ : Lab} {x : Data t} {vs : List Value}, RepD ω H t ℓ x vs → vs.length = t.n
  | .int _, _, _, _, h => by cases h; rfl
  | .bool, _, _, _, h => by cases h; rfl
  | .str, _, _, _, h => by cases h; rfl
  | .unit, _, _, _, h => by cases h; rfl
  | .fn, _, _, _, h => by cases h; rfl
  | .ptr _, _, _, _, h => by cases h; rfl
  | .stale _, _, _, _, h => h.1
  | .sl .., _, _, _, h => by obtain ⟨_, _, rfl, _⟩ := h; rfl
  | .map .., _, _, _, h => by obtain ⟨_, rfl, _⟩ := h; rfl
  | .prod a b, _, _, _, h => by
    obtain ⟨v1, v2, rfl, h1, h2⟩ := h
    simp [Ty.n, h1.len, h2.len]
theorem RepD.one : ∀ {t : Ty} {ℓ : Lab} {x : Data t} {vs : List Value}, RepD ω H t ℓ x vs → ∀ v ∈ vs, oneCell v = true
  | .int _, _, _, _, h => by cases h; simp [oneCell]
  | .bool, _, _, _, h => by cases h; simp [oneCell]
  | .str, _, _, _, h => by cases h; simp [oneCell]
  | .unit, _, _, _, h => by cases h; simp
  | .fn, _, x, _, h => by cases h; intro v hv; rw [List.mem_singleton] at hv; subst hv; unfold fnV; cases (show Option Nat from x) <;> rfl
  | .ptr _, _, _, _, h => by cases h; simp [oneCell]
  | .stale _, _, _, _, h => h.2
  | .sl .., _, _, _, h => by obtain ⟨_, _, rfl, _⟩ := h; simp [oneCell]
  | .map .., _, _, _, h => by obtain ⟨_, rfl, _⟩ := h; simp [oneCell]
  | .prod a b, _, _, _, h => by
    obtain ⟨v1, v2, rfl, h1, h2⟩ := h
    intro v hv
    rcases List.mem_append.1 hv with hv | hv
    · exact h1.one v hv
    · exact h2.one v hv
/-- The same data elsewhere, under another label. -/
theorem RepD.move (hz : ∀ b, ω b = fz → ω' b = fz ∧ H'.obj b = H.obj b) : ∀ {t : Ty} {ℓ ℓ' : Lab} {x : Data t} {vs : List Value},
    (t.noOwn = true ∨ ∀ q b, ω b = 0 :: (ℓ ++ q) → ω' b = 0 :: (ℓ' ++ q) ∧ H'.obj b = H.obj b) → RepD ω H t ℓ x vs → RepD ω' H' t ℓ' x vs
  | .int _, _, _, _, _, _, h => h
  | .bool, _, _, _, _, _, h => h
  | .str, _, _, _, _, _, h => h
  | .unit, _, _, _, _, _, h => h
  | .fn, _, _, _, _, _, h => h
  | .ptr _, _, _, _, _, _, h => h
  | .stale _, _, _, _, _, _, h => h
  | .sl own e t, ℓ, ℓ', l, _, hl, ⟨a, k, h1, h2, h3⟩ => by
    refine ⟨a, k, h1, h2, ?_⟩
    rcases h3 with h3 | h3 | ⟨b, off, w, e', cs, g1, g2, g3, g4, g5⟩
    · exact .inl h3
    · exact .inr (.inl h3)
    · rcases g5 with ⟨rfl, r⟩ | ⟨rfl, g5⟩
      · have := hl.resolve_left (by simp [Ty.noOwn]) [] b (by rw [List.append_nil]; exact r.2.2.2.2.2.2)
        rw [List.append_nil] at this
        exact .inr (.inr ⟨b, off, w, e', cs, g1, by rw [this.2]; exact g2, g3, fun i y hy => RepD.move hz (.inl h2) (g4 i y hy), .inl ⟨rfl, r.1, r.2.1, r.2.2.1, r.2.2.2.1, r.2.2.2.2.1, r.2.2.2.2.2.1, this.1⟩⟩)
      · have := hz b g5
        exact .inr (.inr ⟨b, off, w, e', cs, g1, by rw [this.2]; exact g2, g3, fun i y hy => RepD.move hz (.inl h2) (g4 i y hy), .inr ⟨rfl, this.1⟩⟩)
  | .map own kt vt k v, ℓ, ℓ', l, _, hl, ⟨mo, h1, h4, h5, h⟩ => by
    refine ⟨mo, h1, h4, h5, ?_⟩
    rcases h with h | ⟨m, es, g1, g2, g3, g4, g5⟩
    · exact .inl h
    · refine .inr ⟨m, es, g1, ?_, g3, fun i p hp => let ⟨ks, ws, a, b, c⟩ := g4 i p hp; ⟨ks, ws, a, RepD.move hz (.inl h4) b, RepD.move hz (.inl h5) c⟩, ?_⟩
      · rcases g5 with ⟨rfl, g5⟩ | ⟨rfl, g5⟩
        · have := hl.resolve_left (by simp [Ty.noOwn]) [] m (by rw [List.append_nil]; exact g5)
          rw [this.2]; exact g2
        · rw [(hz m g5).2]; exact g2
      · rcases g5 with ⟨rfl, g5⟩ | ⟨rfl, g5⟩
        · have := hl.resolve_left (by simp [Ty.noOwn]) [] m (by rw [List.append_nil]; exact g5)
          rw [List.append_nil] at this
          exact .inl ⟨rfl, this.1⟩
        · exact .inr ⟨rfl, (hz m g5).1⟩
  | .prod a b, ℓ, ℓ', x, _, hl, ⟨v1, v2, h1, h2, h3⟩ => by
    refine ⟨v1, v2, h1, RepD.move hz ?_ h2, RepD.move hz ?_ h3⟩
    · rcases hl with hl | hl
      · simp only [Ty.noOwn, Bool.and_eq_true] at hl; exact .inl hl.1
      · exact .inr fun q b hb => by have := hl (0 :: q) b (by simpa using hb); simpa using this
    · rcases hl with hl | hl
      · simp only [Ty.noOwn, Bool.and_eq_true] at hl; exact .inl hl.2
      · exact .inr fun q b hb => by have := hl (1 :: q) b (by simpa using hb); simpa using this
/-- Without anything owned the label does not matter. -/
theorem RepD.any {t : Ty} {ℓ ℓ' : Lab} {x : Data t} {vs : List Value} (hn : t.noOwn = true) (h : RepD ω H t ℓ x vs) : RepD ω H t ℓ' x vs :=
  RepD.move (fun b hb => ⟨hb, rfl⟩) (.inl hn) h
theorem RepD.ofC_cells {t : Ty} {ℓ : Lab} {x : Data t} {vs : List Value} (h : RepD ω H t ℓ x vs) (hs : ∀ n, t ≠ .stale n) : (ofC t vs).cells.toList = vs := by
  unfold ofC
  cases e : t.agg with
  | true => rfl
  | false =>
    have hl := h.len
    rcases agg_n e with ⟨n, e2⟩ | e2
    · exact absurd e2 (hs n)
    · rw [e2] at hl
      match vs, hl with
      | [v], _ =>
        have := h.one v (by simp)
        cases v <;> first | rfl | cases this
/-- What was owned is frozen. -/
theorem RepD.froze (hz : ∀ b, ω b = fz → ω' b = fz ∧ H'.obj b = H.obj b) : ∀ {t : Ty} {ℓ ℓ' : Lab} {x : Data t} {vs : List Value},
    (∀ q b, ω b = 0 :: (ℓ ++ q) → ω' b = fz ∧ H'.obj b = H.obj b) → (roS t x).1.noOwn = true → RepD ω H t ℓ x vs → RepD ω' H' (roS t x).1 ℓ' (roS t x).2 vs
  | .int _, _, _, _, _, _, _, h => h
  | .bool, _, _, _, _, _, _, h => h
  | .str, _, _, _, _, _, _, h => h
  | .unit, _, _, _, _, _, _, h => h
  | .fn, _, _, _, _, _, _, h => h
  | .ptr _, _, _, _, _, _, _, h => h
  | .stale _, _, _, _, _, _, _, h => h
  | .map own kt vt k v, ℓ, ℓ', l, _, hl, _, ⟨mo, h1, h4, h5, h⟩ => by
    refine ⟨mo, h1, h4, h5, ?_⟩
    rcases h with ⟨_, h⟩ | ⟨m, es, g1, g2, g3, g4, g5⟩
    · exact .inl ⟨rfl, h⟩
    · rcases g5 with ⟨rfl, g5⟩ | ⟨rfl, g5⟩
      · have := hl [] m (by rw [List.append_nil]; exact g5)
        exact .inr ⟨m, es, g1, by rw [this.2]; exact g2, g3, fun i p hp => let ⟨ks, ws, a, b, c⟩ := g4 i p hp; ⟨ks, ws, a, RepD.move hz (.inl h4) b, RepD.move hz (.inl h5) c⟩, .inr ⟨rfl, this.1⟩⟩
      · have := hz m g5
        exact .inr ⟨m, es, g1, by rw [this.2]; exact g2, g3, fun i p hp => let ⟨ks, ws, a, b, c⟩ := g4 i p hp; ⟨ks, ws, a, RepD.move hz (.inl h4) b, RepD.move hz (.inl h5) c⟩, .inr ⟨rfl, this.1⟩⟩
  | .sl own e t, ℓ, ℓ', l, _, hl, _, ⟨a, k, h1, h2, h3⟩ => by
    refine ⟨a, k, h1, h2, ?_⟩
    rcases h3 with h3 | h3 | ⟨b, off, w, e', cs, g1, g2, g3, g4, g5⟩
    · exact .inl h3
    · exact .inr (.inl ⟨rfl, h3.2⟩)
    · rcases g5 with ⟨rfl, r⟩ | ⟨rfl, g5⟩
      · have := hl [] b (by rw [List.append_nil]; exact r.2.2.2.2.2.2)
        exact .inr (.inr ⟨b, off, w, e', cs, g1, by rw [this.2]; exact g2, g3, fun i y hy => RepD.move hz (.inl h2) (g4 i y hy), .inr ⟨rfl, this.1⟩⟩)
      · have := hz b g5
        exact .inr (.inr ⟨b, off, w, e', cs, g1, by rw [this.2]; exact g2, g3, fun i y hy => RepD.move hz (.inl h2) (g4 i y hy), .inr ⟨rfl, this.1⟩⟩)
  | .prod a b, ℓ, ℓ', x, _, hl, hn, ⟨v1, v2, h1, h2, h3⟩ => by
    simp only [roS, Ty.noOwn, Bool.and_eq_true] at hn
    exact ⟨v1, v2, h1, RepD.froze hz (fun q b hb => hl (0 :: q) b (by simpa using hb)) hn.1 h2, RepD.froze hz (fun q b hb => hl (1 :: q) b (by simpa using hb)) hn.2 h3⟩

/-! parts -/
theorem RepD.part : ∀ {p : List Nat} {v x : VT} {ℓ : Lab} {vs : List Value}, getP p v = some x → RepD ω H v.1 ℓ v.2 vs → RepD ω H x.1 (ℓ ++ p) x.2 ((vs.drop (offP p v.1)).take x.1.n) ∧ offP p v.1 + x.1.n ≤ v.1.n
  | [], v, x, ℓ, vs, h, hr => by
    simp only [getP, Option.some.injEq] at h
    subst h
    have := hr.len
    simp only [offP, List.append_nil, List.drop_zero, Nat.zero_add, Nat.le_refl, and_true]
    rw [← this, List.take_length]
    exact hr
  | s :: p, ⟨.prod a b, y⟩, x, ℓ, vs, h, hr => by
    obtain ⟨v1, v2, rfl, h1, h2⟩ := hr
    have l1 := h1.len
    have l2 := h2.len
    simp only [getP] at h
    match s, h with
    | 0, h =>
      obtain ⟨g1, g2⟩ := RepD.part (v := ⟨a, y.1⟩) h h1
      simp only at g2
      refine ⟨?_, by simp only [offP, Ty.n]; omega⟩
      simp only [offP]
      rw [List.drop_append_of_le_length (by omega), List.take_append_of_le_length (by simp; omega)]
      simpa using g1
    | 1, h =>
      obtain ⟨g1, g2⟩ := RepD.part (v := ⟨b, y.2⟩) h h2
      simp only at g2
      refine ⟨?_, by simp only [offP, Ty.n]; omega⟩
      simp only [offP]
      rw [List.drop_append, List.drop_eq_nil_of_le (by omega), List.nil_append, show a.n + offP p b - v1.length = offP p b by omega]
      simpa using g1
    | s + 2, h => simp at h
  | _ :: _, ⟨.int _, _⟩, _, _, _, h, _ => by simp [getP] at h
  | _ :: _, ⟨.bool, _⟩, _, _, _, h, _ => by simp [getP] at h
  | _ :: _, ⟨.str, _⟩, _, _, _, h, _ => by simp [getP] at h
  | _ :: _, ⟨.unit, _⟩, _, _, _, h, _ => by simp [getP] at h
  | _ :: _, ⟨.fn, _⟩, _, _, _, h, _ => by simp [getP] at h
  | _ :: _, ⟨.ptr _, _⟩, _, _, _, h, _ => by simp [getP] at h
  | _ :: _, ⟨.stale _, _⟩, _, _, _, h, _ => by simp [getP] at h
  | _ :: _, ⟨.sl .., _⟩, _, _, _, h, _ => by simp [getP] at h
  | _ :: _, ⟨.map .., _⟩, _, _, _, h, _ => by simp [getP] at h
end Go.Proofs.Ytbikpfccdcblfaa.Eng
/- The lifter, part 4: what a state says of the abstract heap, and how it turns. -/
namespace Go.Proofs.Ytbikpfccdcblfaa.Eng
open Go
set_option linter.unusedVariables false
set_option linter.unusedSimpArgs false

/-! labels -/
theorem pre_app : ∀ (g q : Lab), pre g (g ++ q) = true
  | [], _ => by simp [pre]
  | a :: g, q => by simp [pre, pre_app g q]
theorem pre_elim : ∀ {g l : Lab}, pre g l = true → l = g ++ rest g l
  | [], l, _ => by simp [rest]
  | a :: g, [], h => by simp [pre] at h
  | a :: g, b :: l, h => by
    simp only [pre, Bool.and_eq_true] at h
    have e : a = b := Nat.eq_of_beq_eq_true h.1
    subst e
    simp only [rest, List.cons_append]
    rw [← pre_elim h.2]
theorem rest_app : ∀ (g q : Lab), rest g (g ++ q) = q
  | [], _ => by simp [rest]
  | a :: g, q => by simp [rest, rest_app g q]
theorem pre_app_cases : ∀ {g l q : Lab}, pre g (l ++ q) = true → pre g l = true ∨ pre l g = true
  | [], l, _, _ => .inl (by simp [pre])
  | a :: g, [], _, _ => .inr (by simp [pre])
  | a :: g, b :: l, q, h => by
    simp only [List.cons_append, pre, Bool.and_eq_true] at h
    have e : a = b := Nat.eq_of_beq_eq_true h.1
    subst e
    rcases pre_app_cases h.2 with h' | h'
    · exact .inl (by simp [pre, h'])
    · exact .inr (by simp [pre, h'])
theorem over_false {g l : Lab} (h : over g l = false) (q : Lab) : pre g (l ++ q) = false := by
  cases e : pre g (l ++ q) with
  | false => rfl
  | true =>
    simp only [over, Bool.or_eq_false_iff] at h
    rcases pre_app_cases e with h' | h'
    · rw [h.1] at h'; cases h'
    · rw [h.2] at h'; cases h'
def inR (g l : Lab) : Bool := match l with | 0 :: q => pre g q | _ => false
theorem inR_own (g q : Lab) : inR g (0 :: q) = pre g q := rfl
theorem inR_elim {g l : Lab} (h : inR g l = true) : ∃ q, l = 0 :: (g ++ q) := by
  unfold inR at h
  split at h
  · exact ⟨_, by rw [← pre_elim h]⟩
  · cases h

/-! what a state says -/
variable {Γ : Nat → Ty}
structure Own (ω : Nat → Lab) (H : Hp) : Prop where
  inj : ∀ b b', ω b = ω b' → ω b ≠ fz → ω b ≠ nol → b = b'
  out : ∀ b, H.next ≤ b → ω b = nol
structure EnvR (ω : Nat → Lab) (H : Hp) (env : TEnv) (σ : Env) : Prop where
  get : ∀ t v, lk t env = some v → ∃ u, look t σ = some u ∧ TRep ω H v u
def VarR (ω : Nat → Lab) (H : Hp) (k : Nat) (v : VT) : Prop := ∃ b e cs, ω b = [5, k] ∧ H.obj b = some (.cells true e cs) ∧ RepD ω H v.1 [2, k] v.2 cs
def VarsR (ω : Nat → Lab) (H : Hp) (vs : List (Nat × Var)) : Prop := ∀ k v, lk k vs = some v → VarR ω H k v.v
def DynR (ω : Nat → Lab) (H : Hp) (S : Dh Γ) : Prop := ∀ c id x, S c id = some x → ω id = [6, c, id] ∧ ∃ e cs, H.obj id = some (.cells true e cs) ∧ RepD ω H (Γ c) [3, c, id] x cs
structure TInv (ω : Nat → Lab) (st : TS) (S : Dh Γ) (σ lσ : Env) (H : Hp) : Prop where
  env : EnvR ω H st.env σ
  low : EnvR ω H st.low lσ
  vars : VarsR ω H st.vars
  dyn : DynR ω H S
  own : Own ω H
def foreign : Lab → Bool
  | 10 :: _ => true
  | _ => false
/-- What the caller has is as it was. -/
structure Frm (ω0 : Nat → Lab) (H0 : Hp) (ω : Nat → Lab) (H : Hp) : Prop where
  next : H0.next ≤ H.next
  keep : ∀ b, (ω0 b = fz ∨ foreign (ω0 b) = true) → ω b = ω0 b ∧ H.obj b = H0.obj b
  back : ∀ b, foreign (ω b) = true → ω0 b = ω b

/-- Outside the region g (and but for what X names) nothing is turned. -/
structure Turn (g X : Lab) (ω : Nat → Lab) (H : Hp) (ω' : Nat → Lab) (H' : Hp) : Prop where
  same : ∀ b, ω b ≠ nol → inR g (ω b) = false → ω' b = ω b ∧ (ω b ≠ X → H'.obj b = H.obj b)
  mark : X = nol ∨ ∃ k, X = [5, k]
  /-- no label comes up that leads outside -/
  fresh : ∀ b, ω' b ≠ ω b → foreign (ω' b) = false
  next : H.next ≤ H'.next
variable {ω ω' : Nat → Lab} {H H' : Hp} {g X : Lab} {st : TS} {S : Dh Γ} {σ lσ : Env}
theorem Turn.hz (h : Turn g X ω H ω' H') : ∀ b, ω b = fz → ω' b = fz ∧ H'.obj b = H.obj b := fun b hb => by
  have h1 := h.same b (by rw [hb]; decide) (by rw [hb]; rfl)
  refine ⟨h1.1.trans hb, h1.2 ?_⟩
  rw [hb]
  rcases h.mark with rfl | ⟨k, rfl⟩
  · decide
  · intro e; cases e
theorem Turn.live (h : Turn g X ω H ω' H') {l : Lab} (ho : over g l = false) : ∀ q b, ω b = 0 :: (l ++ q) → ω' b = 0 :: (l ++ q) ∧ H'.obj b = H.obj b := fun q b hb => by
  have h1 := h.same b (by rw [hb]; intro e; cases e) (by rw [hb]; exact over_false ho q)
  refine ⟨h1.1.trans hb, h1.2 ?_⟩
  rw [hb]
  rcases h.mark with rfl | ⟨k, rfl⟩
  · intro e; cases e
  · intro e; cases e
theorem RepD.turn (h : Turn g X ω H ω' H') {t : Ty} {l : Lab} {x : Data t} {vs : List Value} (ho : (t.noOwn || !over g l) = true) (hr : RepD ω H t l x vs) : RepD ω' H' t l x vs := by
  refine hr.move h.hz ?_
  simp only [Bool.or_eq_true, Bool.not_eq_true'] at ho
  rcases ho with ho | ho
  · exact .inl ho
  · exact .inr (h.live ho)
theorem ARep.turn (h : Turn g X ω H ω' H') {a : A} {u : Value} (ha : a.live g = true) (hr : ARep ω H a u) : ARep ω' H' a u := by
  cases a with
  | d t l x => obtain ⟨vs, h1, h2⟩ := hr; exact ⟨vs, h1.turn h ha, h2⟩
  | c v => exact hr
  | pv k p o =>
    obtain ⟨b, h1, h2⟩ := hr
    exact ⟨b, (h.same b (by rw [h1]; intro e; cases e) (by rw [h1]; rfl)).1.trans h1, h2⟩
  | pe own e t l xs i p o =>
    obtain ⟨b, off, k, h1, h2, h3⟩ := hr
    refine ⟨b, off, k, h1.turn h ?_, h2, h3⟩
    cases own with
    | false => simp [Ty.noOwn]
    | true => simpa [Ty.noOwn, A.live] using ha
  | un => exact hr
  | sk => exact hr
theorem All2.turn (h : Turn g X ω H ω' H') {l : List A} {us : List Value} (ha : l.all (A.live g) = true) (hr : All2 (ARep ω H) l us) : All2 (ARep ω' H') l us :=
  All2.mono hr fun a hm b hb => hb.turn h (List.all_eq_true.1 ha a hm)
theorem TRep.keep {f : A → Bool} (hf : ∀ a u, f a = true → ARep ω H a u → ARep ω' H' a u) {v : TV} {u : Value} (h : TRep ω H v u) : TRep ω' H' (v.keep f) u := by
  unfold TV.keep
  cases e : v.all f with
  | false => exact trivial
  | true =>
    rw [cond_true]
    cases v with
    | a x => exact hf x u e h
    | tup l => obtain ⟨us, h1, h2⟩ := h; exact ⟨us, h1, All2.mono h2 fun a hm b => hf a b (List.all_eq_true.1 e a hm)⟩
    | clo k xs ys =>
      obtain ⟨us, ws, h1, h2, h3⟩ := h
      simp only [TV.all, Bool.and_eq_true] at e
      exact ⟨us, ws, h1, All2.mono h2 fun a hm b => hf a b (List.all_eq_true.1 e.1 a hm), All2.mono h3 fun a hm b => hf a b (List.all_eq_true.1 e.2 a hm)⟩
theorem TRep.map {f : A → A} (hf : ∀ a u, ARep ω H a u → ARep ω' H' (f a) u) {v : TV} {u : Value} (h : TRep ω H v u) : TRep ω' H' (v.map f) u := by
  cases v with
  | a x => exact hf x u h
  | tup l => obtain ⟨us, h1, h2⟩ := h; exact ⟨us, h1, All2.map h2 hf⟩
  | clo k xs ys => obtain ⟨us, ws, h1, h2, h3⟩ := h; exact ⟨us, ws, h1, All2.map h2 hf, All2.map h3 hf⟩
theorem lk_on (f : TV → TV) (t : Nat) : ∀ (e : TEnv), lk t (onEnv f e) = (lk t e).map f
  | [] => rfl
  | (u, v) :: e => by
    simp only [onEnv, List.map_cons, lk]
    cases h : Nat.beq t u with
    | true => rfl
    | false => exact lk_on f t e
theorem EnvR.on {f : TV → TV} {env : TEnv} (h : EnvR ω H env σ) (hf : ∀ v u, TRep ω H v u → TRep ω' H' (f v) u) : EnvR ω' H' (onEnv f env) σ := ⟨fun t v hv => by
  rw [lk_on] at hv
  cases e : lk t env with
  | none => rw [e] at hv; cases hv
  | some v0 =>
    rw [e] at hv
    cases hv
    obtain ⟨u, h1, h2⟩ := h.get t v0 e
    exact ⟨u, h1, hf _ _ h2⟩⟩
theorem EnvR.turn (h : Turn g X ω H ω' H') {env : TEnv} (he : EnvR ω H env σ) : EnvR ω' H' (onEnv (TV.keep (A.live g)) env) σ := he.on fun v u hr => hr.keep fun a u ha hr => hr.turn h ha
theorem VarR.turn (h : Turn g X ω H ω' H') {k : Nat} {v : VT} (ho : over g [2, k] = false) (hX : X ≠ [5, k]) (hr : VarR ω H k v) : VarR ω' H' k v := by
  obtain ⟨b, e, cs, h1, h2, h3⟩ := hr
  have := h.same b (by rw [h1]; intro e; cases e) (by rw [h1]; rfl)
  exact ⟨b, e, cs, this.1.trans h1, by rw [this.2 (by rw [h1]; exact fun e => hX e.symm)]; exact h2, h3.turn h (by simp [ho])⟩
theorem DynR.turn (h : Turn g X ω H ω' H') (hg : okL g = true) (hr : DynR ω H S) : DynR ω' H' S := by
  intro c id x hx
  obtain ⟨h1, e, cs, h2, h3⟩ := hr c id x hx
  have := h.same id (by rw [h1]; intro e; cases e) (by rw [h1]; rfl)
  have hne : ω id ≠ X := by
    rw [h1]
    rcases h.mark with rfl | ⟨k, rfl⟩ <;> (intro e; cases e)
  refine ⟨this.1.trans h1, e, cs, by rw [this.2 hne]; exact h2, h3.turn h ?_⟩
  have : over g [3, c, id] = false := by
    unfold okL at hg
    split at hg
    · rfl
    · rfl
    · cases hg
  simp [this]
theorem Frm.refl (ω : Nat → Lab) (H : Hp) : Frm ω H ω H := ⟨Nat.le_refl _, fun _ _ => ⟨rfl, rfl⟩, fun _ _ => rfl⟩
theorem Frm.turn {ω0 : Nat → Lab} {H0 : Hp} (hf : Frm ω0 H0 ω H) (h : Turn g X ω H ω' H') : Frm ω0 H0 ω' H' := by
  refine ⟨Nat.le_trans hf.next h.next, fun b hb => ?_, fun b hb => ?_⟩
  · obtain ⟨h1, h2⟩ := hf.keep b hb
    have hn : ω b ≠ nol ∧ inR g (ω b) = false ∧ ω b ≠ X := by
      rw [h1]
      rcases hb with hb | hb
      · rw [hb]
        refine ⟨by decide, rfl, ?_⟩
        rcases h.mark with rfl | ⟨k, rfl⟩ <;> (intro e; cases e)
      · unfold foreign at hb
        split at hb
        · rename_i e
          rw [e]
          refine ⟨(by intro e; cases e), rfl, ?_⟩
          rcases h.mark with rfl | ⟨k, rfl⟩ <;> (intro e; cases e)
        · cases hb
    have := h.same b hn.1 hn.2.1
    exact ⟨this.1.trans h1, (this.2 hn.2.2).trans h2⟩
  · by_cases e : ω' b = ω b
    · rw [e] at hb ⊢; exact hf.back b hb
    · have := h.fresh b e; rw [this] at hb; cases hb

/-! a label is let go -/
def unlab (g : Lab) (ω : Nat → Lab) (b : Nat) : Lab := if inR g (ω b) = true then nol else ω b
theorem unlab_own (g : Lab) (h : Own ω H) : Own (unlab g ω) H := by
  refine ⟨fun b b' e h1 h2 => ?_, fun b hb => ?_⟩
  · unfold unlab at e h1 h2
    split at e
    · rename_i h3; rw [if_pos h3] at h2; exact absurd rfl h2
    · rename_i h3
      rw [if_neg h3] at h1 h2
      split at e
      · exact absurd e h2
      · exact h.inj b b' e h1 h2
  · unfold unlab
    split
    · rfl
    · exact h.out b hb
theorem unlab_turn (g : Lab) (ω : Nat → Lab) (H : Hp) : Turn g nol ω H (unlab g ω) H :=
  ⟨fun b _ hb => ⟨by unfold unlab; rw [if_neg (by rw [hb]; decide)], fun _ => rfl⟩, .inl rfl, fun b hb => by
    unfold unlab at hb ⊢
    split
    · rfl
    · rename_i h; rw [if_neg h] at hb; exact absurd rfl hb, Nat.le_refl _⟩
theorem unlab_free (g : Lab) (ω : Nat → Lab) (b : Nat) : inR g (unlab g ω b) = false := by
  unfold unlab
  split
  · rfl
  · rename_i h; simpa using h
theorem over_slot {d : Nat} {q : Lab} {k : Nat} : over (1 :: q) [2, k] = false := rfl
theorem TInv.free (h : TInv ω st S σ lσ H) {d : Nat} {q : Lab} : TInv (unlab (1 :: d :: q) ω) (st.free (1 :: d :: q)) S σ lσ H :=
  have ht := unlab_turn (1 :: d :: q) ω H
  ⟨h.env.turn ht, h.low.turn ht, fun k v hv => (h.vars k v hv).turn ht rfl (by intro e; cases e), h.dyn.turn ht rfl, unlab_own _ h.own⟩
end Go.Proofs.Ytbikpfccdcblfaa.Eng
/- The lifter, part 5: parts replaced; labels consumed, frozen, renamed, written; new blocks. -/
namespace Go.Proofs.Ytbikpfccdcblfaa.Eng
open Go
set_option linter.unusedVariables false
set_option linter.unusedSimpArgs false

theorem nbeq_ne {a b : Nat} (h : a ≠ b) : Nat.beq a b = false := by
  cases e : Nat.beq a b with
  | false => rfl
  | true => exact absurd (Nat.eq_of_beq_eq_true e) h
theorem setL_left : ∀ (ws v1 v2 : List Value) (o : Nat), o + ws.length ≤ v1.length → setL (v1 ++ v2) o ws = setL v1 o ws ++ v2
  | [], _, _, _, _ => rfl
  | w :: ws, v1, v2, o, h => by
    simp only [List.length_cons] at h
    simp only [setL]
    rw [List.set_append_left _ _ (by omega)]
    exact setL_left ws (v1.set o w) v2 (o + 1) (by simp; omega)
theorem setL_right : ∀ (ws v1 v2 : List Value) (o : Nat), setL (v1 ++ v2) (v1.length + o) ws = v1 ++ setL v2 o ws
  | [], _, _, _ => rfl
  | w :: ws, v1, v2, o => by
    simp only [setL]
    rw [List.set_append_right _ _ (by omega), show v1.length + o - v1.length = o by omega, Nat.add_assoc]
    exact setL_right ws v1 (v2.set o w) (o + 1)
theorem setL_all (ws vs : List Value) (h : ws.length = vs.length) : setL vs 0 ws = ws := by
  apply List.ext_getElem?
  intro i
  rw [setL_get]
  by_cases hi : i < ws.length
  · rw [if_pos (by omega)]; simp
  · rw [if_neg (by omega), List.getElem?_eq_none (by omega), List.getElem?_eq_none (by omega)]
variable {Γ : Nat → Ty} {ω ω' : Nat → Lab} {H H' : Hp} {g X : Lab} {st : TS} {S : Dh Γ} {σ lσ : Env}
theorem setP_bound : ∀ {p : List Nat} {y v v' : VT}, setP p y v = some v' → offP p v.1 + y.1.n ≤ v.1.n ∧ v'.1.n = v.1.n ∧ v'.1.agg = v.1.agg
  | [], y, v, v', h => by
    simp only [setP] at h
    split at h
    · rename_i e
      cases h
      simp only [Bool.and_eq_true] at e
      have := Nat.eq_of_beq_eq_true e.1
      refine ⟨by simp [offP]; omega, this, ?_⟩
      have e2 := e.2
      cases h1 : y.1.agg <;> cases h2 : v.1.agg <;> simp_all
    · cases h
  | s :: p, y, ⟨.prod a b, x⟩, v', h => by
    simp only [setP] at h
    match s, h with
    | 0, h =>
      simp only at h
      split at h
      · rename_i z hz
        cases h
        obtain ⟨h1, h2, h3⟩ := setP_bound hz
        simp only at h1 h2
        exact ⟨by simp only [offP, Ty.n]; omega, by simp only [Ty.n]; omega, rfl⟩
      · cases h
    | 1, h =>
      simp only at h
      split at h
      · rename_i z hz
        cases h
        obtain ⟨h1, h2, h3⟩ := setP_bound hz
        simp only at h1 h2
        exact ⟨by simp only [offP, Ty.n]; omega, by simp only [Ty.n]; omega, rfl⟩
      · cases h
    | s + 2, h => simp at h
  | _ :: _, _, ⟨.int _, _⟩, _, h => by simp [setP] at h
  | _ :: _, _, ⟨.bool, _⟩, _, h => by simp [setP] at h
  | _ :: _, _, ⟨.str, _⟩, _, h => by simp [setP] at h
  | _ :: _, _, ⟨.unit, _⟩, _, h => by simp [setP] at h
  | _ :: _, _, ⟨.fn, _⟩, _, h => by simp [setP] at h
  | _ :: _, _, ⟨.ptr _, _⟩, _, h => by simp [setP] at h
  | _ :: _, _, ⟨.stale _, _⟩, _, h => by simp [setP] at h
  | _ :: _, _, ⟨.sl .., _⟩, _, h => by simp [setP] at h
  | _ :: _, _, ⟨.map .., _⟩, _, h => by simp [setP] at h
theorem RepD.setP (hz : ∀ b, ω b = fz → ω' b = fz ∧ H'.obj b = H.obj b) : ∀ {p : List Nat} {y v v' : VT} {l : Lab} {vs ws : List Value}, Eng.setP p y v = some v' → RepD ω H v.1 l v.2 vs → RepD ω' H' y.1 (l ++ p) y.2 ws →
    (v.1.noOwn = true ∨ ∀ q b, ω b = 0 :: (l ++ q) → pre p q = false → ω' b = ω b ∧ H'.obj b = H.obj b) → RepD ω' H' v'.1 l v'.2 (setL vs (offP p v.1) ws)
  | [], y, v, v', l, vs, ws, h, hr, hy, hq => by
    have hb := setP_bound h
    simp only [Eng.setP] at h
    split at h
    · cases h
      rw [List.append_nil] at hy
      rw [show offP [] v.1 = 0 from rfl, setL_all _ _ (by rw [hy.len, hr.len]; exact hb.2.1)]
      exact hy
    · cases h
  | s :: p, y, ⟨.prod a b, x⟩, v', l, vs, ws, h, hr, hy, hq => by
    have hwl := hy.len
    simp only [Eng.setP] at h
    obtain ⟨v1, v2, rfl, h1, h2⟩ := hr
    have l1 := h1.len
    have l2 := h2.len
    match s, h with
    | 0, h =>
      simp only at h
      split at h
      · rename_i z hzz
        cases h
        have hb := setP_bound hzz
        simp only at hb
        refine ⟨setL v1 (offP p a) ws, v2, ?_, ?_, ?_⟩
        · simp only [offP]; exact setL_left ws v1 v2 _ (by omega)
        · exact RepD.setP hz (v := ⟨a, x.1⟩) hzz h1 (by simpa using hy) (hq.imp (fun hn => by simp only [Ty.noOwn, Bool.and_eq_true] at hn; exact hn.1) fun hq q b hb hp => hq (0 :: q) b (by simpa using hb) (by simpa [pre] using hp))
        · exact h2.move hz (hq.imp (fun hn => by simp only [Ty.noOwn, Bool.and_eq_true] at hn; exact hn.2) fun hq q b hb => by
            have := hq (1 :: q) b (by simpa using hb) (by simp [pre])
            exact ⟨this.1.trans hb, this.2⟩)
      · cases h
    | 1, h =>
      simp only at h
      split at h
      · rename_i z hzz
        cases h
        have hb := setP_bound hzz
        simp only at hb
        refine ⟨v1, setL v2 (offP p b) ws, ?_, ?_, ?_⟩
        · simp only [offP]; rw [← l1]; exact setL_right ws v1 v2 _
        · exact h1.move hz (hq.imp (fun hn => by simp only [Ty.noOwn, Bool.and_eq_true] at hn; exact hn.1) fun hq q b hb => by
            have := hq (0 :: q) b (by simpa using hb) (by simp [pre])
            exact ⟨this.1.trans hb, this.2⟩)
        · exact RepD.setP hz (v := ⟨b, x.2⟩) hzz h2 (by simpa using hy) (hq.imp (fun hn => by simp only [Ty.noOwn, Bool.and_eq_true] at hn; exact hn.2) fun hq q b hb hp => hq (1 :: q) b (by simpa using hb) (by simpa [pre] using hp))
      · cases h
    | s + 2, h => simp at h
  | _ :: _, _, ⟨.int _, _⟩, _, _, _, _, h, _, _, _ => by simp [Eng.setP] at h
  | _ :: _, _, ⟨.bool, _⟩, _, _, _, _, h, _, _, _ => by simp [Eng.setP] at h
  | _ :: _, _, ⟨.str, _⟩, _, _, _, _, h, _, _, _ => by simp [Eng.setP] at h
  | _ :: _, _, ⟨.unit, _⟩, _, _, _, _, h, _, _, _ => by simp [Eng.setP] at h
  | _ :: _, _, ⟨.fn, _⟩, _, _, _, _, h, _, _, _ => by simp [Eng.setP] at h
  | _ :: _, _, ⟨.ptr _, _⟩, _, _, _, _, h, _, _, _ => by simp [Eng.setP] at h
  | _ :: _, _, ⟨.stale _, _⟩, _, _, _, _, h, _, _, _ => by simp [Eng.setP] at h
  | _ :: _, _, ⟨.sl .., _⟩, _, _, _, _, h, _, _, _ => by simp [Eng.setP] at h
  | _ :: _, _, ⟨.map .., _⟩, _, _, _, _, h, _, _, _ => by simp [Eng.setP] at h

/-! nothing is turned, something is added -/
structure Grow (ω : Nat → Lab) (H : Hp) (ω' : Nat → Lab) (H' : Hp) : Prop where
  same : ∀ b, ω b ≠ nol → ω' b = ω b ∧ H'.obj b = H.obj b
  fresh : ∀ b, ω' b ≠ ω b → foreign (ω' b) = false
  next : H.next ≤ H'.next
theorem Grow.hz (h : Grow ω H ω' H') : ∀ b, ω b = fz → ω' b = fz ∧ H'.obj b = H.obj b := fun b hb => by
  have := h.same b (by rw [hb]; decide)
  exact ⟨this.1.trans hb, this.2⟩
theorem RepD.grow (h : Grow ω H ω' H') {t : Ty} {l : Lab} {x : Data t} {vs : List Value} (hr : RepD ω H t l x vs) : RepD ω' H' t l x vs :=
  hr.move h.hz (.inr fun q b hb => by
    have := h.same b (by rw [hb]; intro e; cases e)
    exact ⟨this.1.trans hb, this.2⟩)
theorem ARep.grow (h : Grow ω H ω' H') {a : A} {u : Value} (hr : ARep ω H a u) : ARep ω' H' a u := by
  cases a with
  | d t l x => obtain ⟨vs, h1, h2⟩ := hr; exact ⟨vs, h1.grow h, h2⟩
  | c v => exact hr
  | pv k p o => obtain ⟨b, h1, h2⟩ := hr; exact ⟨b, (h.same b (by rw [h1]; intro e; cases e)).1.trans h1, h2⟩
  | pe own e t l xs i p o => obtain ⟨b, off, k, h1, h2, h3⟩ := hr; exact ⟨b, off, k, h1.grow h, h2, h3⟩
  | un => exact hr
  | sk => exact hr
theorem TRep.grow (h : Grow ω H ω' H') {v : TV} {u : Value} (hr : TRep ω H v u) : TRep ω' H' v u := by
  cases v with
  | a x => exact ARep.grow h hr
  | tup l => obtain ⟨us, h1, h2⟩ := hr; exact ⟨us, h1, All2.mono h2 fun a _ b hb => hb.grow h⟩
  | clo k xs ys => obtain ⟨us, ws, h1, h2, h3⟩ := hr; exact ⟨us, ws, h1, All2.mono h2 fun a _ b hb => hb.grow h, All2.mono h3 fun a _ b hb => hb.grow h⟩
theorem VarR.grow (h : Grow ω H ω' H') {k : Nat} {v : VT} (hr : VarR ω H k v) : VarR ω' H' k v := by
  obtain ⟨b, e, cs, h1, h2, h3⟩ := hr
  have := h.same b (by rw [h1]; intro e; cases e)
  exact ⟨b, e, cs, this.1.trans h1, by rw [this.2]; exact h2, h3.grow h⟩
theorem EnvR.grow (h : Grow ω H ω' H') {env : TEnv} (he : EnvR ω H env σ) : EnvR ω' H' env σ := ⟨fun t v hv => let ⟨u, a, b⟩ := he.get t v hv; ⟨u, a, b.grow h⟩⟩
theorem DynR.grow (h : Grow ω H ω' H') (hr : DynR ω H S) : DynR ω' H' S := by
  intro c id x hx
  obtain ⟨h1, e, cs, h2, h3⟩ := hr c id x hx
  have := h.same id (by rw [h1]; intro e; cases e)
  exact ⟨this.1.trans h1, e, cs, by rw [this.2]; exact h2, h3.grow h⟩
theorem Frm.grow {ω0 : Nat → Lab} {H0 : Hp} (hf : Frm ω0 H0 ω H) (h : Grow ω H ω' H') : Frm ω0 H0 ω' H' := by
  refine ⟨Nat.le_trans hf.next h.next, fun b hb => ?_, fun b hb => ?_⟩
  · obtain ⟨h1, h2⟩ := hf.keep b hb
    have := h.same b (by
      rw [h1]
      rcases hb with hb | hb
      · rw [hb]; decide
      · intro e; rw [e] at hb; cases hb)
    exact ⟨this.1.trans h1, this.2.trans h2⟩
  · by_cases e : ω' b = ω b
    · rw [e] at hb ⊢; exact hf.back b hb
    · have := h.fresh b e; rw [this] at hb; cases hb
theorem TInv.grow (h : TInv ω st S σ lσ H) (hg : Grow ω H ω' H') (ho : Own ω' H') : TInv ω' st S σ lσ H' :=
  ⟨h.env.grow hg, h.low.grow hg, fun k v hv => (h.vars k v hv).grow hg, h.dyn.grow hg, ho⟩
/-- A new block with a label of its own. -/
def lab1 (L : Lab) (n : Nat) (ω : Nat → Lab) (b : Nat) : Lab := if b = n then L else ω b
theorem grow_new (ho : Own ω H) {L : Lab} (hL : foreign L = false) (ob : AObj) : Grow ω H (lab1 L H.next ω) (H.new ob) := by
  refine ⟨fun b hb => ?_, fun b hb => ?_, Nat.le_succ _⟩
  · have hne : b ≠ H.next := fun e => hb (ho.out b (by omega))
    unfold lab1
    simp [Hp.new, hne]
  · unfold lab1 at hb ⊢
    split
    · exact hL
    · rename_i h; rw [if_neg h] at hb; exact absurd rfl hb
theorem own_new (ho : Own ω H) {L : Lab} (hL : ∀ b, ω b ≠ L) (ob : AObj) : Own (lab1 L H.next ω) (H.new ob) := by
  refine ⟨fun b b' e h1 h2 => ?_, fun b hb => ?_⟩
  · unfold lab1 at e h1 h2
    split at e
    · split at e
      · omega
      · exact absurd e.symm (hL b')
    · split at e
      · exact absurd e (hL b)
      · rename_i h3 h4
        rw [if_neg h3] at h1 h2
        exact ho.inj b b' e h1 h2
  · have hb' : H.next + 1 ≤ b := hb
    unfold lab1
    rw [if_neg (by omega)]
    exact ho.out b (by omega)

/-! a label is consumed: what stood under it may be turned at will -/
theorem lk_updV (k k' : Nat) (f : Var → Var) : ∀ (vs : List (Nat × Var)), lk k' (updV k f vs) = if k' = k then (lk k' vs).map f else lk k' vs
  | [] => by simp [updV, lk]
  | (j, v) :: vs => by
    have ih := lk_updV k k' f vs
    simp only [updV, List.map_cons] at ih ⊢
    by_cases h1 : j = k
    · subst h1
      rw [Nat.beq_refl]
      simp only [cond_true, lk]
      by_cases h2 : k' = j
      · subst h2; rw [Nat.beq_refl]; simp
      · rw [nbeq_ne h2]; simp only [cond_false]; rw [ih]
    · rw [nbeq_ne h1]
      simp only [cond_false, lk]
      by_cases h2 : k' = j
      · subst h2; rw [Nat.beq_refl]; simp [h1]
      · rw [nbeq_ne h2]; simp only [cond_false]; rw [ih]
theorem over_vars {k k' : Nat} (p : List Nat) (h : k' ≠ k) : over (2 :: k :: p) [2, k'] = false := by
  simp only [over, pre, Bool.and_true, Bool.or_eq_false_iff]
  have h1 : Nat.beq 2 2 = true := rfl
  have h2 : Nat.beq k k' = false := nbeq_ne (fun e => h e.symm)
  have h3 : Nat.beq k' k = false := nbeq_ne h
  simp [h1, h2, h3]
theorem RepD.stale (x : VT) {l : Lab} {vs : List Value} (h : RepD ω H x.1 l x.2 vs) : RepD ω' H' (staleOf x).1 l (staleOf x).2 vs := ⟨h.len, h.one⟩
/-- The variables, where those that the label speaks of are turned by f. -/
theorem VarsR.onLab {vs : List (Nat × Var)} (hv : VarsR ω H vs) (ht : Turn g X ω H ω' H') (hg : okL g = true) (hX : X = nol) (f : VT → VT)
    (hf : ∀ (x : VT) ws, RepD ω H x.1 g x.2 ws → RepD ω' H' (f x).1 g (f x).2 ws) : VarsR ω' H' (Eng.onLab g f vs) := by
  unfold okL at hg
  split at hg
  · intro k v h
    exact (hv k v h).turn ht rfl (by rw [hX]; intro e; cases e)
  · rename_i k p
    intro k' v h
    simp only [Eng.onLab] at h
    rw [lk_updV] at h
    split at h
    · rename_i e
      subst e
      cases e2 : lk k' vs with
      | none => rw [e2] at h; cases h
      | some v0 =>
        rw [e2] at h
        cases h
        obtain ⟨b, e, cs, h1, h2, h3⟩ := hv k' v0 e2
        have hb := ht.same b (by rw [h1]; intro e; cases e) (by rw [h1]; rfl)
        have hob : H'.obj b = H.obj b := hb.2 (by rw [h1, hX]; intro e; cases e)
        have stale : VarR ω' H' k' (staleOf v0.v) := ⟨b, e, cs, hb.1.trans h1, by rw [hob]; exact h2, h3.stale⟩
        dsimp only
        cases hx : getP p v0.v with
        | none => exact stale
        | some x =>
          dsimp only
          cases hy : Eng.setP p (f x) v0.v with
          | none => exact stale
          | some y =>
            dsimp only
            obtain ⟨g1, g2⟩ := RepD.part hx h3
            refine ⟨b, e, cs, hb.1.trans h1, by rw [hob]; exact h2, ?_⟩
            have h4 := RepD.setP ht.hz (p := p) hy h3 (hf x _ g1) (.inr fun q b' hb' hp => by
              have := ht.same b' (by rw [hb']; intro e; cases e) (by
                rw [hb']
                show pre (2 :: k' :: p) ([2, k'] ++ q) = false
                simp only [List.cons_append, List.nil_append, pre]
                simp [hp])
              exact ⟨this.1, this.2 (by rw [hb', hX]; intro e; cases e)⟩)
            have e3 : setL cs (offP p v0.v.1) ((cs.drop (offP p v0.v.1)).take x.1.n) = cs := by
              have hl := h3.len
              apply List.ext_getElem?
              intro i
              rw [setL_get]
              split
              · rename_i hc
                simp only [List.length_take, List.length_drop] at hc
                rw [List.getElem?_take, if_pos (by omega), List.getElem?_drop]
                congr 1
                omega
              · rfl
            rw [e3] at h4
            exact h4
    · exact (hv k' v h).turn ht (over_vars p ‹_›) (by rw [hX]; intro e; cases e)
  · cases hg
end Go.Proofs.Ytbikpfccdcblfaa.Eng
/- The lifter, part 6: labels consumed, frozen, renamed, written: the state behind it. -/
namespace Go.Proofs.Ytbikpfccdcblfaa.Eng
open Go
set_option linter.unusedVariables false
set_option linter.unusedSimpArgs false
variable {Γ : Nat → Ty} {ω ω' : Nat → Lab} {H H' : Hp} {g X : Lab} {st : TS} {S : Dh Γ} {σ lσ : Env}

theorem TInv.consume (h : TInv ω st S σ lσ H) (ht : Turn g nol ω H ω' H') (hg : okL g = true) (ho : Own ω' H') : TInv ω' (st.consume g) S σ lσ H' :=
  ⟨h.env.turn ht, h.low.turn ht, h.vars.onLab ht hg rfl staleOf fun x ws hr => hr.stale x, h.dyn.turn ht hg, ho⟩

theorem TV.map_all (f : A → Bool) (m : A → A) (v : TV) : (v.map m).all f = v.all fun a => f (m a) := by
  cases v with
  | a x => rfl
  | tup l => simp only [TV.map, TV.all, List.all_map]; rfl
  | clo k xs ys => simp only [TV.map, TV.all, List.all_map]; rfl
theorem TRep.mapKeep {f : A → Bool} {m : A → A} (hf : ∀ a u, f (m a) = true → ARep ω H a u → ARep ω' H' (m a) u) {v : TV} {u : Value} (h : TRep ω H v u) : TRep ω' H' ((v.map m).keep f) u := by
  unfold TV.keep
  rw [TV.map_all]
  cases e : v.all fun a => f (m a) with
  | false => exact trivial
  | true =>
    rw [cond_true]
    have al : ∀ {l : List A} {us : List Value}, (l.all fun a => f (m a)) = true → All2 (ARep ω H) l us → All2 (ARep ω' H') (l.map m) us := fun hl h2 =>
      All2.map (R := fun a b => ARep ω H a b ∧ f (m a) = true) (All2.mono h2 fun a hm b hb => ⟨hb, List.all_eq_true.1 hl a hm⟩) fun a b hb => hf a b hb.2 hb.1
    cases v with
    | a x => exact hf x u e h
    | tup l => obtain ⟨us, h1, h2⟩ := h; exact ⟨us, h1, al e h2⟩
    | clo k xs ys =>
      obtain ⟨us, ws, h1, h2, h3⟩ := h
      simp only [TV.all, Bool.and_eq_true] at e
      exact ⟨us, ws, h1, al e.1 h2, al e.2 h3⟩
theorem TRep.keepMap {f : A → Bool} {m : A → A} (hs : m .sk = .sk) (hf : ∀ a u, f a = true → ARep ω H a u → ARep ω' H' (m a) u) {v : TV} {u : Value} (h : TRep ω H v u) : TRep ω' H' ((v.keep f).map m) u := by
  unfold TV.keep
  cases e : v.all f with
  | false =>
    rw [cond_false]
    show ARep ω' H' (m .sk) u
    rw [hs]
    exact trivial
  | true =>
    rw [cond_true]
    have al : ∀ {l : List A} {us : List Value}, l.all f = true → All2 (ARep ω H) l us → All2 (ARep ω' H') (l.map m) us := fun hl h2 =>
      All2.map (R := fun a b => ARep ω H a b ∧ f a = true) (All2.mono h2 fun a hm b hb => ⟨hb, List.all_eq_true.1 hl a hm⟩) fun a b hb => hf a b hb.2 hb.1
    cases v with
    | a x => exact hf x u e h
    | tup l => obtain ⟨us, h1, h2⟩ := h; exact ⟨us, h1, al e h2⟩
    | clo k xs ys =>
      obtain ⟨us, ws, h1, h2, h3⟩ := h
      simp only [TV.all, Bool.and_eq_true] at e
      exact ⟨us, ws, h1, al e.1 h2, al e.2 h3⟩
theorem onEnv_on (f h : TV → TV) (e : TEnv) : onEnv f (onEnv h e) = onEnv (fun v => f (h v)) e := by simp [onEnv, List.map_map, Function.comp_def]

/-! frozen -/
def frozeL (g : Lab) (ω : Nat → Lab) (b : Nat) : Lab := if inR g (ω b) = true then fz else ω b
theorem frozeL_turn (g : Lab) (ω : Nat → Lab) (H : Hp) : Turn g nol ω H (frozeL g ω) H :=
  ⟨fun b _ hb => ⟨by unfold frozeL; rw [if_neg (by rw [hb]; decide)], fun _ => rfl⟩, .inl rfl, fun b hb => by
    unfold frozeL at hb ⊢
    split
    · rfl
    · rename_i h; rw [if_neg h] at hb; exact absurd rfl hb, Nat.le_refl _⟩
theorem frozeL_own (g : Lab) (h : Own ω H) : Own (frozeL g ω) H := by
  refine ⟨fun b b' e h1 h2 => ?_, fun b hb => ?_⟩
  · unfold frozeL at e h1 h2
    split at e
    · rename_i h3; rw [if_pos h3] at h1; exact absurd rfl h1
    · rename_i h3
      rw [if_neg h3] at h1 h2
      split at e
      · exact absurd e h1
      · exact h.inj b b' e h1 h2
  · unfold frozeL
    rw [if_neg (by rw [h.out b hb]; intro e; cases e)]
    exact h.out b hb
theorem frozeL_in {q : Lab} {b : Nat} (h : ω b = 0 :: (g ++ q)) : frozeL g ω b = fz := by
  unfold frozeL
  rw [if_pos (by rw [h]; exact pre_app g q)]
theorem RepD.frozen {t : Ty} {l' : Lab} {x : Data t} {vs : List Value} (hn : (roS t x).1.noOwn = true) (h : RepD ω H t g x vs) : RepD (frozeL g ω) H (roS t x).1 l' (roS t x).2 vs :=
  RepD.froze (frozeL_turn g ω H).hz (fun q b hb => ⟨frozeL_in hb, rfl⟩) hn h
theorem roS_n : ∀ (t : Ty) (x : Data t), (roS t x).1.n = t.n ∧ (roS t x).1.agg = t.agg
  | .int _, _ => ⟨rfl, rfl⟩
  | .bool, _ => ⟨rfl, rfl⟩
  | .str, _ => ⟨rfl, rfl⟩
  | .unit, _ => ⟨rfl, rfl⟩
  | .fn, _ => ⟨rfl, rfl⟩
  | .ptr _, _ => ⟨rfl, rfl⟩
  | .stale _, _ => ⟨rfl, rfl⟩
  | .map .., _ => ⟨rfl, rfl⟩
  | .sl .., _ => ⟨rfl, rfl⟩
  | .prod a b, x => ⟨by simp only [roS, Ty.n, (roS_n a x.1).1, (roS_n b x.2).1], rfl⟩
theorem ofC_agg {t t' : Ty} (h : t.agg = t'.agg) (vs : List Value) : ofC t vs = ofC t' vs := by unfold ofC; rw [h]
theorem ARep.frz {a : A} {u : Value} (hl : (a.frz g).live g = true) (h : ARep ω H a u) : ARep (frozeL g ω) H (a.frz g) u := by
  have ht := frozeL_turn g ω H
  cases a with
  | d t l x =>
    have E : A.frz g (.d t l x) = cond (!t.noOwn && decide (l = g)) (.d (roS t x).1 l (roS t x).2) (.d t l x) := rfl
    rw [E] at hl ⊢
    cases e : (!t.noOwn && decide (l = g)) with
    | false => rw [e] at hl; rw [cond_false] at hl ⊢; exact h.turn ht hl
    | true =>
      rw [e] at hl
      rw [cond_true] at hl ⊢
      simp only [Bool.and_eq_true, decide_eq_true_eq] at e
      have e2 := e.2
      subst e2
      obtain ⟨vs, h1, h2⟩ := h
      refine ⟨vs, h1.frozen ?_, h2.trans (ofC_agg (roS_n t x).2.symm vs)⟩
      simp only [A.live, Bool.or_eq_true] at hl
      rcases hl with hl | hl
      · exact hl
      · simp only [over, Bool.not_eq_true', Bool.or_eq_false_iff] at hl
        have := pre_app l []
        rw [List.append_nil] at this
        rw [this] at hl
        exact absurd hl.1 (by decide)
  | c v => exact h
  | pv k p o => exact ARep.turn ht hl h
  | pe own e t l xs i p o => exact ARep.turn ht hl h
  | un => exact h
  | sk => exact h
/-- What is frozen, taken as a value of its own. -/
theorem TInv.freeze (h : TInv ω st S σ lσ H) (hg : okL g = true) : TInv (frozeL g ω) (st.freeze g) S σ lσ H := by
  have ht := frozeL_turn g ω H
  refine ⟨?_, ?_, ?_, h.dyn.turn ht hg, frozeL_own g h.own⟩
  · show EnvR _ _ (onEnv _ (onEnv _ st.env)) σ
    rw [onEnv_on]
    exact h.env.on fun v u hr => hr.mapKeep fun a u hl hr => hr.frz hl
  · show EnvR _ _ (onEnv _ (onEnv _ st.low)) lσ
    rw [onEnv_on]
    exact h.low.on fun v u hr => hr.mapKeep fun a u hl hr => hr.frz hl
  · refine h.vars.onLab ht hg rfl _ fun x ws hr => ?_
    cases e : (roS x.1 x.2).1.noOwn with
    | true => exact hr.frozen e
    | false => exact hr.stale x

/-! written -/
theorem castTo_vt {t : Ty} {x : VT} {y : Data t} (h : castTo t x = some y) : x = ⟨t, y⟩ := by
  obtain ⟨tx, xx⟩ := x
  unfold castTo at h
  split at h
  · rename_i e
    dsimp only at e
    subst e
    cases h
    rfl
  · cases h
theorem ARep.upd (ht : Turn g nol ω H ω' H') {ty : Ty} {F : Data ty → Data ty} (hy : ∀ (x : Data ty) vs, RepD ω H ty g x vs → RepD ω' H' ty g (F x) vs) {a : A} {u : Value} (hl : (a.exact g || a.live g) = true) (h : ARep ω H a u) : ARep ω' H' (a.upd g ty F) u := by
  cases a with
  | d t l x =>
    have E : A.upd g ty F (.d t l x) = cond (!t.noOwn && decide (l = g)) (match castTo ty ⟨t, x⟩ with | some y => .d ty l (F y) | none => .sk) (.d t l x) := rfl
    rw [E]
    cases e : (!t.noOwn && decide (l = g)) with
    | false =>
      rw [cond_false]
      refine h.turn ht ?_
      simp only [A.exact, A.live, Bool.or_eq_true] at hl ⊢
      simp only [Bool.and_eq_false_iff, Bool.not_eq_false'] at e
      rcases e with e | e
      · exact .inl e
      · rcases hl with hl | hl
        · rw [e] at hl; cases hl
        · exact hl
    | true =>
      rw [cond_true]
      simp only [Bool.and_eq_true, decide_eq_true_eq] at e
      have e2 := e.2
      subst e2
      cases e3 : castTo ty ⟨t, x⟩ with
      | none => exact trivial
      | some y =>
        have := castTo_vt e3
        cases this
        obtain ⟨vs, h1, h2⟩ := h
        exact ⟨vs, hy _ vs h1, h2⟩
  | c v => exact h
  | pv k p o => exact ARep.turn ht (by rfl) h
  | pe own e t l xs i p o =>
    cases own with
    | false => exact h.turn ht (by rfl)
    | true =>
      have E : A.upd g ty F (.pe true e t l xs i p o) = cond (decide (l = g)) (match castTo ty ⟨.sl true e t, xs⟩ with | some y => (match castTo (.sl true e t) ⟨ty, F y⟩ with | some l' => .pe true e t l l' i p o | none => .sk) | none => .sk) (.pe true e t l xs i p o) := rfl
      rw [E]
      by_cases e1 : l = g
      · subst e1
        rw [decide_eq_true rfl, cond_true]
        cases e2 : castTo ty ⟨.sl true e t, xs⟩ with
        | none => exact trivial
        | some y =>
          have := castTo_vt e2
          cases this
          dsimp only
          cases e3 : castTo (.sl true e t) ⟨.sl true e t, F xs⟩ with
          | none => exact trivial
          | some l' =>
            have := castTo_vt e3
            cases this
            dsimp only
            obtain ⟨b, off, k, h1, h2, h3⟩ := h
            have h4 := hy _ _ h1
            obtain ⟨a', k', q1, q2, q3⟩ := id h4
            have hlen : List.length (α := Data t) xs = List.length (α := Data t) (F xs) := by
              have := congrArg (fun l => match l with | [Value.slice _ n _] => n | _ => 0) q1
              exact this
            refine ⟨b, off, k, ?_, ?_, h3⟩
            · rw [hlen] at h4; exact h4
            · exact Nat.lt_of_lt_of_eq h2 hlen
      · rw [decide_eq_false e1, cond_false]
        refine h.turn ht ?_
        simp only [A.exact, Bool.or_eq_true, decide_eq_true_eq] at hl
        exact hl.resolve_left e1
  | un => exact h
  | sk => exact h
theorem TInv.upd (h : TInv ω st S σ lσ H) (ht : Turn g nol ω H ω' H') (hg : okL g = true) (ho : Own ω' H') {ty : Ty} {F : Data ty → Data ty} (hy : ∀ (x : Data ty) vs, RepD ω H ty g x vs → RepD ω' H' ty g (F x) vs) : TInv ω' (st.upd g ty F) S σ lσ H' := by
  refine ⟨?_, ?_, ?_, h.dyn.turn ht hg, ho⟩
  · show EnvR _ _ (onEnv _ (onEnv _ st.env)) σ
    rw [onEnv_on]
    exact h.env.on fun v u hr => hr.keepMap rfl fun a u hl hr => hr.upd ht hy hl
  · show EnvR _ _ (onEnv _ (onEnv _ st.low)) lσ
    rw [onEnv_on]
    exact h.low.on fun v u hr => hr.keepMap rfl fun a u hl hr => hr.upd ht hy hl
  · refine h.vars.onLab ht hg rfl _ fun x ws hr => ?_
    cases e : castTo ty x with
    | none => exact hr.stale x
    | some y =>
      have := castTo_vt e
      subst this
      exact hy _ ws hr

/-! another name -/
def renL (g g' : Lab) (ω : Nat → Lab) (b : Nat) : Lab := if inR g (ω b) = true then 0 :: (g' ++ rest g (ω b).tail) else ω b
theorem renL_in {g' q : Lab} {b : Nat} (h : ω b = 0 :: (g ++ q)) : renL g g' ω b = 0 :: (g' ++ q) := by
  unfold renL
  rw [if_pos (by rw [h]; exact pre_app g q), h]
  simp [rest_app]
theorem renL_out {g' : Lab} {b : Nat} (h : inR g (ω b) = false) : renL g g' ω b = ω b := by
  unfold renL
  rw [if_neg (by rw [h]; decide)]
theorem renL_own {g' : Lab} (h : Own ω H) (hf : ∀ b, inR g' (ω b) = false) : Own (renL g g' ω) H := by
  refine ⟨fun b b' e h1 h2 => ?_, fun b hb => ?_⟩
  · cases e1 : inR g (ω b) with
    | true =>
      obtain ⟨q, hq⟩ := inR_elim e1
      rw [renL_in hq] at e
      cases e2 : inR g (ω b') with
      | true =>
        obtain ⟨q', hq'⟩ := inR_elim e2
        rw [renL_in hq'] at e
        simp only [List.cons.injEq, List.append_cancel_left_eq, true_and] at e
        subst e
        exact h.inj b b' (hq.trans hq'.symm) (by rw [hq]; intro e; cases e) (by rw [hq]; intro e; cases e)
      | false =>
        rw [renL_out e2] at e
        have := hf b'
        rw [← e, inR_own, pre_app] at this
        cases this
    | false =>
      rw [renL_out e1] at e h1 h2
      cases e2 : inR g (ω b') with
      | true =>
        obtain ⟨q', hq'⟩ := inR_elim e2
        rw [renL_in hq'] at e
        have := hf b
        rw [e, inR_own, pre_app] at this
        cases this
      | false =>
        rw [renL_out e2] at e
        exact h.inj b b' e h1 h2
  · rw [renL_out (by rw [h.out b hb]; rfl)]
    exact h.out b hb
theorem renL_frm {g' : Lab} {ω0 : Nat → Lab} {H0 : Hp} (h : Frm ω0 H0 ω H) : Frm ω0 H0 (renL g g' ω) H := by
  refine ⟨h.next, fun b hb => ?_, fun b hb => ?_⟩
  · obtain ⟨h1, h2⟩ := h.keep b hb
    refine ⟨?_, h2⟩
    rw [renL_out]
    · exact h1
    · rw [h1]
      rcases hb with hb | hb
      · rw [hb]; rfl
      · unfold foreign at hb
        split at hb
        · rename_i e; rw [e]; rfl
        · cases hb
  · cases e1 : inR g (ω b) with
    | true =>
      obtain ⟨q, hq⟩ := inR_elim e1
      rw [renL_in hq] at hb
      cases hb
    | false => rw [renL_out e1] at hb ⊢; exact h.back b hb
theorem RepD.ren {g' : Lab} {t : Ty} {l : Lab} {x : Data t} {vs : List Value} (hl : (t.noOwn || (pre g l || !over g l)) = true) (h : RepD ω H t l x vs) : RepD (renL g g' ω) H t (mvL g g' l) x vs := by
  refine h.move (fun b hb => ⟨by rw [renL_out (by rw [hb]; rfl)]; exact hb, rfl⟩) ?_
  simp only [Bool.or_eq_true, Bool.not_eq_true'] at hl
  rcases hl with hl | hl | hl
  · exact .inl hl
  · refine .inr fun q b hb => ⟨?_, rfl⟩
    have e := pre_elim hl
    unfold mvL
    rw [hl, cond_true]
    rw [e, List.append_assoc] at hb
    rw [renL_in hb, List.append_assoc]
  · refine .inr fun q b hb => ⟨?_, rfl⟩
    have e : pre g l = false := by simp only [over, Bool.or_eq_false_iff] at hl; exact hl.1
    unfold mvL
    rw [e, cond_false, renL_out (by rw [hb]; exact over_false hl q)]
    exact hb
theorem ARep.ren {g' : Lab} {a : A} {u : Value} (hl : (a.under g || a.live g) = true) (h : ARep ω H a u) : ARep (renL g g' ω) H (a.mv g g') u := by
  cases a with
  | d t l x =>
    obtain ⟨vs, h1, h2⟩ := h
    refine ⟨vs, h1.ren ?_, h2⟩
    simp only [A.under, A.live, Bool.or_eq_true] at hl ⊢
    rcases hl with hl | hl | hl
    · exact .inr (.inl hl)
    · exact .inl hl
    · exact .inr (.inr hl)
  | c v => exact h
  | pv k p o => obtain ⟨b, h1, h2⟩ := h; exact ⟨b, by rw [renL_out (by rw [h1]; rfl)]; exact h1, h2⟩
  | pe own e t l xs i p o =>
    obtain ⟨b, off, k, h1, h2, h3⟩ := h
    refine ⟨b, off, k, h1.ren ?_, h2, h3⟩
    cases own with
    | false => rfl
    | true =>
      simp only [A.under, A.live, Bool.not_true, Bool.false_or, Bool.or_eq_true] at hl
      simp only [Ty.noOwn, Bool.not_true, Bool.false_or, Bool.or_eq_true]
      exact hl
  | un => exact h
  | sk => exact h
theorem EnvR.ren {g' : Lab} {env : TEnv} {f : A → Bool} (hf : ∀ a, f a = true → (a.under g || a.live g) = true) (h : EnvR ω H env σ) : EnvR (renL g g' ω) H (onEnv (TV.map (A.mv g g')) (onEnv (TV.keep f) env)) σ := by
  rw [onEnv_on]
  exact h.on fun v u hr => hr.keepMap rfl fun a u hl hr => hr.ren (hf a hl)
theorem VarsR.ren {g' : Lab} {d : Nat} {q : Lab} {vs : List (Nat × Var)} (h : VarsR ω H vs) : VarsR (renL (1 :: d :: q) g' ω) H vs := by
  intro k v hk
  obtain ⟨b, e, cs, h1, h2, h3⟩ := h k v hk
  have := h3.ren (g := 1 :: d :: q) (g' := g') (by rw [show over (1 :: d :: q) [2, k] = false from rfl]; simp)
  exact ⟨b, e, cs, by rw [renL_out (by rw [h1]; rfl)]; exact h1, h2, this⟩
theorem DynR.ren {g' : Lab} {d : Nat} {q : Lab} (h : DynR ω H S) : DynR (renL (1 :: d :: q) g' ω) H S := by
  intro c id x hx
  obtain ⟨h1, e, cs, h2, h3⟩ := h c id x hx
  have := h3.ren (g := 1 :: d :: q) (g' := g') (by rw [show over (1 :: d :: q) [3, c, id] = false from rfl]; simp)
  exact ⟨by rw [renL_out (by rw [h1]; rfl)]; exact h1, e, cs, h2, this⟩
end Go.Proofs.Ytbikpfccdcblfaa.Eng
/- The lifter, part 7: operands; reading and writing. -/
namespace Go.Proofs.Ytbikpfccdcblfaa.Eng
open Go
set_option linter.unusedVariables false
set_option linter.unusedSimpArgs false
variable {Γ : Nat → Ty} {ω ω' : Nat → Lab} {H H' : Hp} {g X : Lab} {st : TS} {S : Dh Γ} {σ lσ : Env} {P : Program}

theorem argT_ok (h : TInv ω st S σ lσ H) {G : Nat} {x : Operand} {v : TV} (hx : argT st x = some v) : ∃ u, arg G σ x = some u ∧ TRep ω H v u := by
  cases x with
  | tmp t => exact h.env.get t v hx
  | const w =>
    simp only [argT] at hx
    split at hx
    · rename_i e
      cases hx
      exact ⟨w, by simp only [arg, e], rfl, e⟩
    · cases hx
  | func f => cases hx; exact ⟨_, rfl, [], [], rfl, trivial, trivial⟩
  | global _ => cases hx
theorem argA_ok (h : TInv ω st S σ lσ H) {G : Nat} {x : Operand} {a : A} (hx : argA st x = some a) : ∃ u, arg G σ x = some u ∧ ARep ω H a u := by
  unfold argA at hx
  split at hx
  · rename_i b hb
    cases hx
    exact argT_ok h hb
  · rename_i k hb
    cases hx
    obtain ⟨u, h1, us, ws, rfl, h2, h3⟩ := argT_ok (G := G) h hb
    cases us with
    | cons _ _ => exact h2.elim
    | nil =>
      cases ws with
      | cons _ _ => exact h3.elim
      | nil => exact ⟨_, h1, _, rfl, rfl⟩
  · cases hx
theorem argsA_ok (h : TInv ω st S σ lσ H) {G : Nat} : ∀ {xs : List Operand} {as : List A}, argsA st xs = some as → ∃ us, argsL (arg G σ) xs = some us ∧ All2 (ARep ω H) as us
  | [], as, hx => by cases hx; exact ⟨[], rfl, trivial⟩
  | x :: xs, as, hx => by
    simp only [argsA] at hx
    split at hx
    · rename_i a as' h1 h2
      cases hx
      obtain ⟨u, q1, q2⟩ := argA_ok h (G := G) h1
      obtain ⟨us, q3, q4⟩ := argsA_ok h (G := G) h2
      exact ⟨u :: us, by simp only [argsL, q1, q3], q2, q4⟩
    · cases hx
theorem scal_ok {a : A} {u v : Value} (h : ARep ω H a u) (hs : scal a = some v) : u = v := by
  unfold scal at hs
  split at hs <;> cases hs
  · obtain ⟨vs, h1, h2⟩ := h; cases h1; exact h2
  · obtain ⟨vs, h1, h2⟩ := h; cases h1; exact h2
  · exact h.1
  · exact h.1
theorem scal_plain {a : A} {v : Value} (hs : scal a = some v) : (∃ k n, v = .int k n) ∨ ∃ b, v = .bool b := by
  unfold scal at hs
  split at hs <;> cases hs
  · exact .inl ⟨_, _, rfl⟩
  · exact .inr ⟨_, rfl⟩
  · exact .inl ⟨_, _, rfl⟩
  · exact .inr ⟨_, rfl⟩
theorem strA_ok {a : A} {u : Value} {s : List UInt8} (h : ARep ω H a u) (hs : strA a = some s) : u = .string (mkS s) := by
  unfold strA at hs
  split at hs <;> cases hs
  · obtain ⟨vs, h1, h2⟩ := h; cases h1; exact h2
  · exact h.1
theorem intA_ok {a : A} {u : Value} {n : Int} (h : ARep ω H a u) (hs : intA a = some n) : ∃ k, u = .int k n := by
  unfold intA at hs
  split at hs <;> cases hs
  · obtain ⟨vs, h1, h2⟩ := h; cases h1; exact ⟨_, h2⟩
  · exact ⟨_, h.1⟩
theorem ofV_ok {v : Value} {a : A} (h : ofV v = some a) : ARep ω H a v := by
  unfold ofV at h
  split at h <;> cases h
  · exact ⟨_, rfl, rfl⟩
  · exact ⟨_, rfl, rfl⟩
  · exact ⟨_, rfl, rfl⟩
theorem castTo_ok {t t' : Ty} {x : Data t'} {y : Data t} (h : castTo t ⟨t', x⟩ = some y) : ∃ e : t' = t, y = e ▸ x := by
  unfold castTo at h
  split at h
  · rename_i e; cases h; exact ⟨e, rfl⟩
  · cases h
theorem constD_ok : ∀ {t : Ty} {vs : List Value} {x : Data t} {l : Lab}, constD t vs = some x → RepD ω H t l x vs
  | .int k, vs, x, l, h => by
    have h : constI k vs = some x := h
    unfold constI at h
    split at h
    · split at h
      · rename_i e; cases h; rw [← of_decide_eq_true e]; exact rfl
      · cases h
    · cases h
  | .bool, vs, x, l, h => by
    have h : constB vs = some x := h
    unfold constB at h
    split at h <;> cases h
    exact rfl
  | .str, vs, x, l, h => by
    have h : constS vs = some x := h
    unfold constS at h
    split at h <;> cases h
    exact rfl
  | .unit, vs, x, l, h => by
    have h : constU vs = some x := h
    unfold constU at h
    split at h <;> cases h
    exact rfl
  | .ptr _, vs, x, l, h => by
    have h : constP vs = some x := h
    unfold constP at h
    split at h <;> cases h
    exact rfl
  | .fn, vs, x, l, h => by
    have h : constF vs = some x := h
    unfold constF at h
    split at h <;> cases h
    exact rfl
  | .stale _, vs, x, l, h => by cases h
  | .map own kt vt k v, vs, x, l, h => by
    have h : constM (Data k × Data v) (!own && (k.noOwn && v.noOwn)) vs = some x := h
    unfold constM at h
    split at h
    · split at h
      · rename_i e
        cases h
        simp only [Bool.and_eq_true, Bool.not_eq_true'] at e
        exact ⟨none, rfl, e.2.1, e.2.2, .inl ⟨e.1, rfl, rfl⟩⟩
      · cases h
    · cases h
  | .sl own e t, vs, x, l, h => by
    have h : constL (Data t) t.noOwn vs = some x := h
    unfold constL at h
    split at h
    · split at h
      · rename_i e; cases h; exact ⟨none, 0, rfl, e, .inl ⟨rfl, rfl, rfl⟩⟩
      · cases h
    · cases h
  | .prod a b, vs, x, l, h => by
    have h : pairO (constD a (vs.take a.n)) (constD b (vs.drop a.n)) = some x := h
    unfold pairO at h
    split at h
    · rename_i h1 h2
      cases h
      exact ⟨_, _, (List.take_append_drop a.n vs).symm, constD_ok h1, constD_ok h2⟩
    · cases h
theorem constD_agg {t : Ty} {v : Value} {x : Data t} (hc : constOK v = true) (h : constD t v.cells.toList = some x) (ha : Bool.xor t.agg (asD.isAggV v) = false) : v = ofC t v.cells.toList := by
  unfold ofC
  cases v <;> cases e : t.agg <;> simp_all [asD.isAggV, Value.cells, constOK, plainV]
/-- An atom read as data. -/
theorem asD_ok {t : Ty} {a : A} {u : Value} {o : Option Lab} {x : Data t} (h : ARep ω H a u) (hs : asD t a = some (o, x)) : ∃ vs, (∀ l, (∀ l', o = some l' → l' = l) → RepD ω H t l x vs) ∧ u = ofC t vs := by
  unfold asD at hs
  split at hs
  · rename_i t' l y
    split at hs
    · rename_i z hz
      cases hs
      obtain ⟨e, rfl⟩ := castTo_ok hz
      subst e
      obtain ⟨vs, h1, h2⟩ := h
      exact ⟨vs, fun l2 hl => by rw [← hl l rfl]; exact h1, h2⟩
    · cases hs
  · rename_i v
    split at hs
    · cases hs
    · rename_i e
      split at hs
      · rename_i y hy
        cases hs
        exact ⟨_, fun l _ => constD_ok hy, h.1.trans (constD_agg h.2 hy e)⟩
      · cases hs
  · cases hs

/-! reading -/
def kindOK : Knd → Value → Prop
  | .int k, v => ∃ n, v = .int k n
  | .bool, v => ∃ b, v = .bool b
  | .str, v => ∃ s, v = .string s
  | .ptr, v => ∃ p, v = .pointer p
  | .sl, v => ∃ a n k, v = .slice a n k
  | .map, v => ∃ m, v = .map m
  | .fn, v => oneCell v = true
  | .other, v => oneCell v = true
theorem All2.replicate {α β : Type} {R : α → β → Prop} {a : α} : ∀ {l : List β}, (∀ b ∈ l, R a b) → All2 R (List.replicate l.length a) l
  | [], _ => trivial
  | b :: l, h => ⟨h b List.mem_cons_self, All2.replicate fun b hb => h b (List.mem_cons_of_mem _ hb)⟩
theorem RepD.kinds : ∀ {t : Ty} {l : Lab} {x : Data t} {vs : List Value}, RepD ω H t l x vs → All2 kindOK t.knds vs
  | .int _, _, _, _, h => by cases h; exact ⟨⟨_, rfl⟩, trivial⟩
  | .bool, _, _, _, h => by cases h; exact ⟨⟨_, rfl⟩, trivial⟩
  | .str, _, _, _, h => by cases h; exact ⟨⟨_, rfl⟩, trivial⟩
  | .unit, _, _, _, h => by cases h; exact trivial
  | .fn, _, x, _, h => by cases h; exact ⟨by show oneCell (fnV x) = true; unfold fnV; cases (show Option Nat from x) <;> rfl, trivial⟩
  | .ptr _, _, _, _, h => by cases h; exact ⟨⟨_, rfl⟩, trivial⟩
  | .stale n, _, _, vs, h => by
    have := All2.replicate (R := kindOK) (a := .other) (l := vs) h.2
    rw [h.1] at this
    exact this
  | .sl .., _, _, _, h => by obtain ⟨_, _, rfl, _⟩ := h; exact ⟨⟨_, _, _, rfl⟩, trivial⟩
  | .map .., _, _, _, h => by obtain ⟨_, rfl, _⟩ := h; exact ⟨⟨_, rfl⟩, trivial⟩
  | .prod a b, _, _, _, h => by
    obtain ⟨v1, v2, rfl, h1, h2⟩ := h
    exact All2.append h1.kinds h2.kinds
theorem getK_intro {b o : Nat} {z v : Value} {K : Value → Prop} (hk : kindOK (kndV z) v) (h1 : oneCell v = true) (hc : H.cell b o = some v) (h : K v) : getK H b o z K := by
  cases z <;> simp only [kndV, kindOK] at hk <;> unfold getK <;> first
    | (obtain ⟨n, rfl⟩ := hk; exact ⟨n, hc, h⟩)
    | (obtain ⟨a, n, k, rfl⟩ := hk; exact ⟨a, n, k, hc, h⟩)
    | exact ⟨v, hc, h1, h⟩
theorem getsK_intro {b : Nat} : ∀ {zs : List Value} {o : Nat} {vs : List Value} {K : List Value → Prop}, All2 kindOK (zs.map kndV) vs → (∀ v ∈ vs, oneCell v = true) → (∀ (i : Nat) (v : Value), vs[i]? = some v → H.cell b (o + i) = some v) → K vs → getsK H b o zs K
  | [], o, [], K, _, _, _, h => h
  | z :: zs, o, v :: vs, K, hk, h1, hc, h => by
    refine getK_intro hk.1 (h1 v List.mem_cons_self) (hc 0 v rfl) ?_
    exact getsK_intro (K := fun us => K (v :: us)) hk.2 (fun u hu => h1 u (List.mem_cons_of_mem _ hu)) (fun i u hu => by rw [show o + 1 + i = o + (i + 1) by omega]; exact hc (i + 1) u (by simpa using hu)) h
  | [], _, _ :: _, _, h, _, _, _ => h.elim
  | _ :: _, _, [], _, h, _, _, _ => h.elim
theorem fits_elim {T : TypeId} {t : Ty} (h : fits P T t = true) : ∃ i z d, P.info? T = some i ∧ P.underlying T = some d ∧ i.zero = some z ∧ aggTy P T = t.agg ∧ z.cells.size = i.size ∧ i.size = t.n ∧ z.cells.toList.map kndV = t.knds ∧ (t.agg = false → [kndV z] = t.knds) ∧ asD.isAggV z = t.agg := by
  unfold fits at h
  split at h
  · rename_i i d h1 h2
    split at h
    · rename_i z hz
      simp only [Bool.and_eq_true, decide_eq_true_eq] at h
      exact ⟨i, z, d, h1, h2, hz, h.1, Nat.eq_of_beq_eq_true h.2.1, Nat.eq_of_beq_eq_true h.2.2.1, h.2.2.2.1, fun e => by have := h.2.2.2.2.1; rw [e] at this; simpa using this, h.2.2.2.2.2⟩
    · cases h
  · cases h
theorem loadK_intro {T : TypeId} {t : Ty} (hf : fits P T t = true) {l : Lab} {x : Data t} {vs : List Value} (hr : RepD ω H t l x vs) {b o : Nat} (hc : ∀ (i : Nat) (v : Value), vs[i]? = some v → H.cell b (o + i) = some v) {K : Value → Prop} (hk : K (ofC t vs)) :
    loadK P H b o T K := by
  obtain ⟨i, z, d, h1, h2, h3, h4, h5, h6, h7, h8, h9⟩ := fits_elim hf
  have hkn := hr.kinds
  unfold loadK
  rw [h1, h2]
  dsimp only
  rw [h3]
  dsimp only
  rw [h4]
  cases e : t.agg with
  | true =>
    dsimp only
    rw [h5, Nat.beq_refl]
    dsimp only
    rw [← h7] at hkn
    refine getsK_intro hkn hr.one hc ?_
    rw [show ofC t vs = .agg ⟨vs⟩ by unfold ofC; rw [e]] at hk
    exact hk
  | false =>
    dsimp only
    have ek : ofC t vs = vs.headD undef := by unfold ofC; rw [e]
    rw [ek] at hk
    rw [← h8 e] at hkn
    match vs, hkn with
    | [v], hkn =>
      exact getK_intro hkn.1 (hr.one v (by simp)) (hc 0 v rfl) hk
/-- The cells of a part. -/
theorem part_cells {b : Nat} {w : Bool} {e : TypeId} {cs : List Value} (hb : H.obj b = some (.cells w e cs)) {o n : Nat} (i : Nat) (v : Value) (hv : ((cs.drop o).take n)[i]? = some v) : H.cell b (o + i) = some v := by
  unfold Hp.cell
  rw [hb]
  rw [List.getElem?_take] at hv
  split at hv
  · rw [List.getElem?_drop] at hv; exact hv
  · cases hv
theorem ofC_cells {t : Ty} {l : Lab} {x : Data t} {vs : List Value} (h : RepD ω H t l x vs) (hn : t.n = 1 ∨ t.agg = true) : (ofC t vs).cells.toList = vs := by
  unfold ofC
  cases e : t.agg with
  | true => rfl
  | false =>
    have hl := h.len
    rw [hn.resolve_right (by rw [e]; decide)] at hl
    match vs, hl with
    | [v], _ =>
      have := h.one v (by simp)
      cases v <;> first | rfl | cases this
theorem allOne_intro : ∀ {vs : List Value} {p : Prop}, (∀ v ∈ vs, oneCell v = true) → p → allOne vs p
  | [], _, _, h => h
  | v :: vs, p, h1, h => gd_iff.2 ⟨h1 v List.mem_cons_self, allOne_intro (fun u hu => h1 u (List.mem_cons_of_mem _ hu)) h⟩
theorem optP_intro {α : Type} {o : Option α} {x : α} {f : α → Prop} (h : o = some x) (hf : f x) : optP o f := by subst h; exact hf
end Go.Proofs.Ytbikpfccdcblfaa.Eng
/- The lifter, part 8: operations that leave the heap alone. -/
namespace Go.Proofs.Ytbikpfccdcblfaa.Eng
open Go
set_option linter.unusedVariables false
set_option linter.unusedSimpArgs false
variable {Γ : Nat → Ty} {ω ω' : Nat → Lab} {H H' : Hp} {g X : Lab} {st : TS} {S : Dh Γ} {σ lσ : Env} {P : Program}

theorem mkS_append (s u : List UInt8) : mkS s ++ mkS u = mkS (s ++ u) := by
  apply ByteArray.ext
  simp [mkS]
theorem mkS_size (s : List UInt8) : (mkS s).size = s.length := rfl
theorem mkS_eq (s u : List UInt8) : decide (mkS s = mkS u) = decide (s = u) :=
  decide_eq_decide.2 ⟨fun h => by have := congrArg (fun b => b.data.toList) h; exact this, fun h => by rw [h]⟩
theorem mkS_extract (s : List UInt8) (a b : Nat) : (mkS s).extract a b = mkS ((s.take b).drop a) := by
  apply ByteArray.ext
  simp [mkS, List.drop_take]

/-! equality -/
theorem eqV_int {D : Nat} {T : TypeId} {k : IntKind} (hu : P.underlying T = some (.int k)) (a b : Int) : eqV P (D + 1) T (.int k a) (.int k b) = some (decide (a = b)) := by
  unfold eqV; rw [hu]; simp
theorem eqV_bool {D : Nat} {T : TypeId} (hu : P.underlying T = some .bool) (a b : Bool) : eqV P (D + 1) T (.bool a) (.bool b) = some (decide (a = b)) := by
  unfold eqV; rw [hu]
theorem eqV_str {D : Nat} {T : TypeId} (hu : P.underlying T = some .string) (a b : List UInt8) : eqV P (D + 1) T (.string (mkS a)) (.string (mkS b)) = some (decide (a = b)) := by
  unfold eqV; rw [hu]; dsimp only; rw [mkS_eq]
theorem eqV_agg {D : Nat} {T : TypeId} {fs : Array Field} (hu : P.underlying T = some (.struct fs)) (hs : P.stoodInHeld T = false) (a b : List Value) : eqV P (D + 1) T (.agg ⟨a⟩) (.agg ⟨b⟩) = eqV.eqFields P D a b fs.toList := by
  unfold eqV; rw [hu, hs]
theorem eqV_ptr {D : Nat} {T : TypeId} {e : TypeId} (hu : P.underlying T = some (.pointer e)) (a : Option Nat) : eqV P (D + 1) T (.pointer (Option.map (fun b : Nat => (⟨b, 0, none⟩ : Addr)) a)) (.pointer none) = some a.isNone := by
  unfold eqV; rw [hu]; dsimp only; cases a <;> rfl
theorem scalarEq {D : Nat} {T : TypeId} {t : Ty} (h : binT.sc P T t = true) {x y : Data t} {l l' : Lab} {vs ws : List Value} (hx : RepD ω H t l x vs) (hy : RepD ω H t l' y ws) : eqV P (D + 1) T (ofC t vs) (ofC t ws) = some (eqD t x y) := by
  unfold binT.sc at h
  cases t with
  | int k =>
    cases hx; cases hy
    dsimp only at h
    split at h
    · rename_i k' hu
      have e := of_decide_eq_true h
      subst e
      exact eqV_int hu x y
    · cases h
  | bool =>
    cases hx; cases hy
    dsimp only at h
    split at h
    · rename_i hu
      exact eqV_bool hu x y
    · cases h
  | str =>
    cases hx; cases hy
    dsimp only at h
    split at h
    · rename_i hu
      exact eqV_str hu x y
    · cases h
  | _ => cases h
theorem scalar_n {T : TypeId} {t : Ty} (h : binT.sc P T t = true) : t.n = 1 ∧ t.agg = false := by
  cases t <;> first | exact ⟨rfl, rfl⟩ | cases h
theorem fieldsEq {D : Nat} : ∀ {t : Ty} {fs : List Field} {o : Nat}, binT.flatEq P t fs o = true → ∀ {x y : Data t} {l l' : Lab} {vs ws : List Value} (p q : List Value), p.length = o → q.length = o → RepD ω H t l x vs → RepD ω H t l' y ws →
    eqV.eqFields P (D + 1) (p ++ vs) (q ++ ws) fs = some (eqD t x y)
  | .unit, [], o, h, x, y, l, l', vs, ws, p, q, _, _, _, _ => by simp [eqV.eqFields, eqD]
  | .prod a b, f :: fs, o, h, x, y, l, l', vs, ws, p, q, hp, hq, hx, hy => by
    simp only [binT.flatEq, Bool.and_eq_true, Bool.not_eq_true'] at h
    obtain ⟨h1, h2, h3, h4, h5⟩ := h
    obtain ⟨v1, v2, rfl, x1, x2⟩ := hx
    obtain ⟨w1, w2, rfl, y1, y2⟩ := hy
    obtain ⟨n1, a1⟩ := scalar_n h4
    have lv := x1.len
    have lw := y1.len
    rw [n1] at lv lw
    match v1, lv, w1, lw with
    | [v], _, [w], _ =>
      have e := scalarEq (D := D) h4 x1 y1
      have ih := fieldsEq (D := D) h5 (p ++ [v]) (q ++ [w]) (by simp [hp]) (by simp [hq]) x2 y2
      have ho : f.offset = o := Nat.eq_of_beq_eq_true h2
      have ev : ofC a [v] = v := by unfold ofC; rw [a1]; rfl
      have ew : ofC a [w] = w := by unfold ofC; rw [a1]; rfl
      rw [ev, ew] at e
      simp only [List.append_assoc, List.singleton_append] at ih
      have g1 : (p ++ ([v] ++ v2))[f.offset]? = some v := by rw [ho, ← hp]; simp
      have g2 : (q ++ ([w] ++ w2))[f.offset]? = some w := by rw [ho, ← hq]; simp
      unfold eqV.eqFields
      rw [h1, h3, g1, g2]
      dsimp only
      rw [e]
      simp only [List.singleton_append]
      rw [ih]
      simp [eqD]
  | .unit, _ :: _, _, h, _, _, _, _, _, _, _, _, _, _, _, _ => by cases h
  | .prod _ _, [], _, h, _, _, _, _, _, _, _, _, _, _, _, _ => by cases h
  | .int _, _, _, h, _, _, _, _, _, _, _, _, _, _, _, _ => by cases h
  | .bool, _, _, h, _, _, _, _, _, _, _, _, _, _, _, _ => by cases h
  | .str, _, _, h, _, _, _, _, _, _, _, _, _, _, _, _ => by cases h
  | .fn, _, _, h, _, _, _, _, _, _, _, _, _, _, _, _ => by cases h
  | .ptr _, _, _, h, _, _, _, _, _, _, _, _, _, _, _, _ => by cases h
  | .stale _, _, _, h, _, _, _, _, _, _, _, _, _, _, _, _ => by cases h
  | .sl .., _, _, h, _, _, _, _, _, _, _, _, _, _, _, _ => by cases h
  | .map .., _, _, h, _, _, _, _, _, _, _, _, _, _, _, _ => by cases h
theorem eqOK_elim {T : TypeId} {t : Ty} (h : binT.eqOK P T t = true) : ∃ a b fs, t = .prod a b ∧ P.underlying T = some (.struct fs) ∧ P.stoodInHeld T = false ∧ P.eqGuardType P.depth T = false ∧ isIface P T = false ∧ binT.flatEq P t fs.toList 0 = true := by
  unfold binT.eqOK at h
  split at h
  · split at h
    · rename_i fs hu
      simp only [Bool.and_eq_true, Bool.not_eq_true'] at h
      exact ⟨_, _, fs, rfl, hu, h.1, h.2.1, h.2.2.1, h.2.2.2⟩
    · cases h
  · cases h
theorem structEq {D : Nat} {T : TypeId} {t : Ty} (h : binT.eqOK P T t = true) {x y : Data t} {l l' : Lab} {vs ws : List Value} (hx : RepD ω H t l x vs) (hy : RepD ω H t l' y ws) : eqV P (D + 2) T (ofC t vs) (ofC t ws) = some (eqD t x y) := by
  obtain ⟨a, b, fs, rfl, h1, h2, h3, h4, h5⟩ := eqOK_elim h
  have := fieldsEq (D := D) h5 [] [] rfl rfl hx hy
  exact (eqV_agg h1 h2 vs ws).trans this
theorem boolEq_ok {op : BinOp} {T : TypeId} {u v : Value} {r : Bool} (h : boolEq P op T u v = some r) {x y : Operand} {K : Value → Prop} (hk : K (.bool r)) : binopK P op T x y u v K := by
  unfold boolEq at h
  split at h
  · rename_i a b
    split at h
    · rename_i hu
      have hi : isIface P T = false := by unfold isIface; rw [hu]
      have he : eqV P 5 T (.bool a) (.bool b) = some (decide (a = b)) := by unfold eqV; rw [hu]
      unfold binopK
      rw [hi]
      cases op <;> first | (cases h; done) | skip
      · cases h
        show optP (eqV P 5 T (.bool a) (.bool b)) _
        rw [he]
        exact hk
      · cases h
        show optP (eqV P 5 T (.bool a) (.bool b)) _
        rw [he]
        exact hk
    · cases h
  · cases h
theorem binT_ok {op : BinOp} {T : TypeId} {x y : Operand} {a b : A} {u v : Value} (ha : ARep ω H a u) (hb : ARep ω H b v) {K : A → Prop} {KH : Value → Prop} (hk : ∀ r w, K r → ARep ω H r w → KH w) (h : binT P op T x y a b K) : binopK P op T x y u v KH := by
  unfold binT at h
  split at h
  · rename_i u' v' h1 h2
    rw [scal_ok ha h1, scal_ok hb h2]
    split at h
    · rename_i r hr
      exact boolEq_ok hr (hk _ _ h ⟨_, rfl, rfl⟩)
    obtain ⟨w, k1, k2⟩ := binopK_D1 P op T x y u' v' _ h
    obtain ⟨r, q1, q2⟩ := optP_elim k1
    exact k2 KH (hk r w q2 (ofV_ok q1))
  · split at h
    · rename_i s t h1 h2
      rw [strA_ok ha h1, strA_ok hb h2]
      unfold binopK
      split at h <;> rename_i hi <;> (try rw [hi]) <;> (try dsimp only)
      · obtain ⟨q1, q2⟩ := gd_elim h
        show gd _ (KH (.string (mkS s ++ mkS t)))
        rw [mkS_append]
        exact gd_iff.2 ⟨q1, hk _ _ q2 ⟨_, rfl, rfl⟩⟩
      · show KH (.bool (decide (mkS s = mkS t)))
        rw [mkS_eq]
        exact hk _ _ h ⟨_, rfl, rfl⟩
      · show KH (.bool (!decide (mkS s = mkS t)))
        rw [mkS_eq]
        exact hk _ _ h ⟨_, rfl, rfl⟩
      · exact hk _ _ h ⟨_, rfl, rfl⟩
      · exact hk _ _ h ⟨_, rfl, rfl⟩
      · exact hk _ _ h ⟨_, rfl, rfl⟩
      · exact hk _ _ h ⟨_, rfl, rfl⟩
      · exact h.elim
    · split at h
      · rename_i ty l p b' _
        split at h
        · rename_i o w h1 h2
          obtain ⟨vs, g1, g2⟩ := ha
          obtain ⟨ws, g3, g4⟩ := asD_ok hb h2
          obtain ⟨a1, b1, fs, e, i1, i2, i3, i4, i5⟩ := eqOK_elim h1
          have g3' := g3 (o.getD nol) (fun l' hl => by rw [hl]; rfl)
          have he := structEq (D := 3) h1 g1 g3'
          rw [g2, g4]
          subst e
          have e1 : ofC (.prod a1 b1) vs = .agg ⟨vs⟩ := rfl
          have e2 : ofC (.prod a1 b1) ws = .agg ⟨ws⟩ := rfl
          rw [e1, e2] at he ⊢
          unfold binopK
          rw [i4]
          dsimp only
          split at h
          · show (match binK.eqSafe P (.agg ⟨vs⟩) (.agg ⟨ws⟩) T with | true => optP (eqV P 5 T _ _) fun r => KH (.bool r) | false => False)
            rw [show binK.eqSafe P (.agg ⟨vs⟩) (.agg ⟨ws⟩) T = true by simp [binK.eqSafe, i3]]
            exact optP_intro he (hk _ _ h ⟨_, rfl, rfl⟩)
          · show (match binK.eqSafe P (.agg ⟨vs⟩) (.agg ⟨ws⟩) T with | true => optP (eqV P 5 T _ _) fun r => KH (.bool (!r)) | false => False)
            rw [show binK.eqSafe P (.agg ⟨vs⟩) (.agg ⟨ws⟩) T = true by simp [binK.eqSafe, i3]]
            exact optP_intro he (hk _ _ h ⟨_, rfl, rfl⟩)
          · exact h.elim
        · split at h
          · rename_i c _ _
            obtain ⟨vs, g1, g2⟩ := ha
            cases g1
            rw [g2, hb.1]
            split at h
            · rename_i c' _ hu
              unfold binopK isIface
              rw [hu]
              dsimp only
              exact optP_intro (eqV_ptr (D := 4) hu _) (hk _ _ h ⟨_, rfl, rfl⟩)
            · rename_i c' _ hu
              unfold binopK isIface
              rw [hu]
              dsimp only
              exact optP_intro (eqV_ptr (D := 4) hu _) (hk _ _ h ⟨_, rfl, rfl⟩)
            · exact h.elim
          · exact h.elim
      · exact h.elim
end Go.Proofs.Ytbikpfccdcblfaa.Eng
/- The lifter, part 9: new blocks, new variables; parts of structs and of slices. -/
namespace Go.Proofs.Ytbikpfccdcblfaa.Eng
open Go
set_option linter.unusedVariables false
set_option linter.unusedSimpArgs false
variable {Γ : Nat → Ty} {ω ω' ω0 : Nat → Lab} {H H' H0 : Hp} {g X : Lab} {st : TS} {S : Dh Γ} {σ lσ : Env} {P : Program}

theorem RepD.free {d : Nat} {q : Lab} {t : Ty} {l : Lab} {x : Data t} {vs : List Value} (hn : t.noOwn = true) (h : RepD ω H t l x vs) : RepD (unlab (1 :: d :: q) ω) H t l x vs :=
  h.turn (unlab_turn (1 :: d :: q) ω H) (by rw [hn]; rfl)
theorem lab1_new (L : Lab) (n : Nat) (ω : Nat → Lab) : lab1 L n ω n = L := by simp [lab1]
/-- A row of the call's own. -/
theorem fresh_own (h : TInv ω st S σ lσ H) (hf : Frm ω0 H0 ω H) {d : Nat} {e : TypeId} {t : Ty} {l : List (Data t)} {cs : List Value} (hn : t.noOwn = true) (h1 : 1 ≤ t.n) (hl : cs.length = l.length * t.n)
    (hc : ∀ (i : Nat) (y : Data t), l[i]? = some y → RepD ω H t [] y ((cs.drop (i * t.n)).take t.n)) :
    ∃ ω', TInv ω' (st.free [1, d]) S σ lσ (H.new (.cells true e cs)) ∧ ARep ω' (H.new (.cells true e cs)) (.d (.sl true e t) [1, d] l) (.slice (some ⟨H.next, 0, none⟩) l.length t.n) ∧ Frm ω0 H0 ω' (H.new (.cells true e cs)) := by
  have hu : TInv (unlab [1, d] ω) (st.free [1, d]) S σ lσ H := h.free
  have hfree := unlab_free [1, d] ω
  have hg := grow_new hu.own (L := [0, 1, d]) rfl (.cells true e cs)
  have ho := own_new hu.own (L := [0, 1, d]) (fun b hb => by
    have := hfree b
    rw [hb, inR_own] at this
    exact absurd this (by simp [pre])) (.cells true e cs)
  refine ⟨_, hu.grow hg ho, ?_, (hf.turn (unlab_turn [1, d] ω H)).grow hg⟩
  refine ⟨_, ⟨some ⟨H.next, 0, none⟩, t.n, rfl, hn, .inr (.inr ⟨H.next, 0, true, e, cs, rfl, by simp [Hp.new], ?_, fun i y hy => ?_, .inl ⟨rfl, rfl, rfl, rfl, h1, rfl, hl, lab1_new _ _ _⟩⟩)⟩, rfl⟩
  · rw [Nat.zero_add]; exact Nat.le_of_eq hl.symm
  · rw [Nat.zero_add]; exact ((hc i y hy).free hn).grow hg
/-- A map of the call's own. -/
theorem fresh_map (h : TInv ω st S σ lσ H) (hf : Frm ω0 H0 ω H) {d : Nat} {kt vt : TypeId} {k v : Ty} (hk : k.noOwn = true) (hv : v.noOwn = true) :
    ∃ ω', TInv ω' (st.free [1, d]) S σ lσ (H.new (.map kt [])) ∧ ARep ω' (H.new (.map kt [])) (.d (.map true kt vt k v) [1, d] []) (.map (some H.next)) ∧ Frm ω0 H0 ω' (H.new (.map kt [])) := by
  have hu : TInv (unlab [1, d] ω) (st.free [1, d]) S σ lσ H := h.free
  have hfree := unlab_free [1, d] ω
  have hg := grow_new hu.own (L := [0, 1, d]) rfl (.map kt [])
  have ho := own_new hu.own (L := [0, 1, d]) (fun b hb => by
    have := hfree b
    rw [hb, inR_own] at this
    exact absurd this (by simp [pre])) (.map kt [])
  refine ⟨_, hu.grow hg ho, ?_, (hf.turn (unlab_turn [1, d] ω H)).grow hg⟩
  refine ⟨_, ⟨some H.next, rfl, hk, hv, .inr ⟨H.next, [], rfl, by simp [Hp.new], rfl, fun i p hp => ?_, .inl ⟨rfl, lab1_new _ _ _⟩⟩⟩, rfl⟩
  simp [nth] at hp

/-! variables -/
def unvar (d : Nat) (ω : Nat → Lab) (b : Nat) : Lab := if inR [2, d] (ω b) = true ∨ ω b = [5, d] then nol else ω b
theorem lk_filter (d k : Nat) : ∀ (vs : List (Nat × Var)), lk k (vs.filter fun p => !Nat.beq p.1 d) = if k = d then none else lk k vs
  | [] => by simp [lk]
  | (j, v) :: vs => by
    have ih := lk_filter d k vs
    by_cases h1 : j = d
    · subst h1
      rw [List.filter_cons_of_neg (by simp [Nat.beq_refl]), ih]
      by_cases h2 : k = j
      · simp [h2]
      · simp only [if_neg h2, lk]; rw [nbeq_ne h2]; rfl
    · rw [List.filter_cons_of_pos (by simp [nbeq_ne h1])]
      simp only [lk]
      by_cases h2 : k = j
      · subst h2; rw [Nat.beq_refl]; simp [h1]
      · rw [nbeq_ne h2]; simp only [cond_false]; exact ih
theorem RepD.unvar {d : Nat} {t : Ty} {l : Lab} {x : Data t} {vs : List Value} (hl : (t.noOwn || !over [2, d] l) = true) (h : RepD ω H t l x vs) : RepD (Eng.unvar d ω) H t l x vs := by
  refine h.move (fun b hb => ⟨?_, rfl⟩) ?_
  · unfold Eng.unvar
    rw [if_neg]
    · exact hb
    · rw [hb]; intro e; rcases e with e | e <;> cases e
  · simp only [Bool.or_eq_true, Bool.not_eq_true'] at hl
    rcases hl with hl | hl
    · exact .inl hl
    · refine .inr fun q b hb => ⟨?_, rfl⟩
      unfold Eng.unvar
      rw [if_neg]
      · exact hb
      · rw [hb]
        intro e
        rcases e with e | e
        · rw [inR_own, over_false hl q] at e; cases e
        · cases e
theorem ARep.unvar {d : Nat} {a : A} {u : Value} (h1 : a.live [2, d] = true) (h2 : a.noKey d = true) (h : ARep ω H a u) : ARep (Eng.unvar d ω) H a u := by
  cases a with
  | d t l x => obtain ⟨vs, g1, g2⟩ := h; exact ⟨vs, g1.unvar h1, g2⟩
  | c v => exact h
  | pv k p o =>
    obtain ⟨b, g1, g2⟩ := h
    refine ⟨b, ?_, g2⟩
    unfold Eng.unvar
    rw [if_neg]
    · exact g1
    · rw [g1]
      intro e
      rcases e with e | e
      · cases e
      · simp only [List.cons.injEq, and_true, true_and] at e
        simp only [A.noKey, Bool.not_eq_true'] at h2
        rw [e, Nat.beq_refl] at h2
        cases h2
  | pe own e t l xs i p o =>
    obtain ⟨b, off, k, g1, g2, g3⟩ := h
    refine ⟨b, off, k, g1.unvar ?_, g2, g3⟩
    cases own with
    | false => rfl
    | true => exact h1
  | un => exact h
  | sk => exact h
theorem unvar_own (d : Nat) (h : Own ω H) : Own (unvar d ω) H := by
  refine ⟨fun b b' e h1 h2 => ?_, fun b hb => ?_⟩
  · unfold unvar at e h1 h2
    split at e
    · rename_i h3; rw [if_pos h3] at h2; exact absurd rfl h2
    · rename_i h3
      rw [if_neg h3] at h1 h2
      split at e
      · exact absurd e h2
      · exact h.inj b b' e h1 h2
  · unfold unvar
    split
    · rfl
    · exact h.out b hb
theorem unvar_frm (d : Nat) (hf : Frm ω0 H0 ω H) : Frm ω0 H0 (unvar d ω) H := by
  refine ⟨hf.next, fun b hb => ?_, fun b hb => ?_⟩
  · obtain ⟨h1, h2⟩ := hf.keep b hb
    refine ⟨?_, h2⟩
    unfold unvar
    rw [if_neg]
    · exact h1
    · rw [h1]
      intro e
      rcases hb with hb | hb
      · rw [hb] at e; rcases e with e | e <;> cases e
      · unfold foreign at hb
        split at hb
        · rename_i e2; rw [e2] at e; rcases e with e | e <;> cases e
        · cases hb
  · unfold unvar at hb ⊢
    split at hb
    · cases hb
    · rename_i h3; rw [if_neg h3]; exact hf.back b hb
theorem TInv.unvar (h : TInv ω st S σ lσ H) (d : Nat) : TInv (Eng.unvar d ω) (st.freeV d) S σ lσ H := by
  refine ⟨?_, ?_, ?_, ?_, unvar_own d h.own⟩
  · exact h.env.on fun v u hr => hr.keep fun a u ha hr => by
      simp only [Bool.and_eq_true] at ha
      exact hr.unvar ha.1 ha.2
  · exact h.low.on fun v u hr => hr.keep fun a u ha hr => by
      simp only [Bool.and_eq_true] at ha
      exact hr.unvar ha.1 ha.2
  · intro k v hk
    have hk : lk k (st.vars.filter fun p => !Nat.beq p.1 d) = some v := hk
    rw [lk_filter] at hk
    split at hk
    · cases hk
    · rename_i hne
      obtain ⟨b, e, cs, h1, h2, h3⟩ := h.vars k v hk
      refine ⟨b, e, cs, ?_, h2, h3.unvar ?_⟩
      · unfold Eng.unvar
        rw [if_neg]
        · exact h1
        · rw [h1]
          intro e
          rcases e with e | e
          · cases e
          · simp only [List.cons.injEq, and_true, true_and] at e
            exact hne e
      · rw [over_vars [] hne]; simp
  · intro c id x hx
    obtain ⟨h1, e, cs, h2, h3⟩ := h.dyn c id x hx
    refine ⟨?_, e, cs, h2, h3.unvar ?_⟩
    · unfold Eng.unvar
      rw [if_neg]
      · exact h1
      · rw [h1]; intro e; rcases e with e | e <;> cases e
    · rw [show over [2, d] [3, c, id] = false from rfl]; simp
theorem unvar_free (d : Nat) (ω : Nat → Lab) (b : Nat) : unvar d ω b ≠ [5, d] ∧ inR [2, d] (unvar d ω b) = false := by
  unfold unvar
  split
  · exact ⟨(by intro e; cases e), rfl⟩
  · rename_i h
    exact ⟨fun e => h (.inr e), by cases e : inR [2, d] (ω b) with | false => rfl | true => exact absurd (.inl e) h⟩
/-- A variable of the call's own. -/
theorem fresh_var (h : TInv ω st S σ lσ H) (hf : Frm ω0 H0 ω H) {d : Nat} {e : TypeId} {t : Ty} {x : Data t} {cs : List Value} (hx : t.noOwn = true ∧ RepD ω H t [2, d] x cs ∨ ∀ ω H, RepD ω H t [2, d] x cs) :
    ∃ ω', TInv ω' { (st.freeV d) with vars := (d, ⟨⟨t, x⟩, none⟩) :: (st.freeV d).vars } S σ lσ (H.new (.cells true e cs)) ∧ ARep ω' (H.new (.cells true e cs)) (.pv d [] 0) (.pointer (some ⟨H.next, 0, none⟩)) ∧ Frm ω0 H0 ω' (H.new (.cells true e cs)) := by
  have hu := h.unvar d
  have hfree := unvar_free d ω
  have hg := grow_new hu.own (L := [5, d]) rfl (.cells true e cs)
  have ho := own_new hu.own (L := [5, d]) (fun b => (hfree b).1) (.cells true e cs)
  have hi := hu.grow hg ho
  refine ⟨_, ⟨hi.env, hi.low, ?_, hi.dyn, ho⟩, ⟨H.next, lab1_new _ _ _, rfl⟩, (unvar_frm d hf).grow hg⟩
  intro k v hk
  simp only [lk] at hk
  by_cases hkd : k = d
  · subst hkd
    rw [Nat.beq_refl] at hk
    simp only [cond_true, Option.some.injEq] at hk
    subst hk
    refine ⟨H.next, e, cs, lab1_new _ _ _, by simp [Hp.new], ?_⟩
    rcases hx with ⟨hn, hx⟩ | hx
    · exact (hx.unvar (by rw [hn]; rfl)).grow hg
    · exact hx _ _
  · rw [nbeq_ne hkd] at hk
    exact hi.vars k v hk

/-! parts of structs -/
theorem setL_prefix (ws zs : List Value) (h : ws.length ≤ zs.length) : setL zs 0 ws = ws ++ zs.drop ws.length := by
  have := setL_left ws (zs.take ws.length) (zs.drop ws.length) 0 (by simp; omega)
  rw [List.take_append_drop] at this
  rw [this, setL_all ws (zs.take ws.length) (by rw [List.length_take]; omega)]
theorem setL_at (p ws zs : List Value) (h : ws.length ≤ zs.length) : setL (p ++ zs) p.length ws = (p ++ ws) ++ zs.drop ws.length := by
  have := setL_right ws p zs 0
  rw [Nat.add_zero] at this
  rw [this, setL_prefix ws zs h, List.append_assoc]
theorem pairO_elim {α β : Type} {o : Option α} {q : Option β} {r : α × β} (h : pairO o q = some r) : o = some r.1 ∧ q = some r.2 := by
  unfold pairO at h
  split at h
  · cases h; exact ⟨rfl, rfl⟩
  · cases h
theorem noOwn_n {t : Ty} (h : t.noOwn = true) : t.n = 1 ∨ t.agg = true := by
  cases t <;> first | exact .inl rfl | exact .inr rfl | cases h
theorem asD_cells {t : Ty} (hn : t.noOwn = true) {a : A} {u : Value} {o : Option Lab} {x : Data t} (h : ARep ω H a u) (hs : asD t a = some (o, x)) : ∃ vs, RepD ω H t [] x vs ∧ u = ofC t vs ∧ u.cells.toList = vs := by
  obtain ⟨vs, h1, h2⟩ := asD_ok h hs
  have h3 := (h1 (o.getD nol) (fun l' hl => by rw [hl]; rfl)).any (ℓ' := []) hn
  exact ⟨vs, h3, h2, by rw [h2]; exact ofC_cells h3 (noOwn_n hn)⟩
def PartsR (ω : Nat → Lab) (H : Hp) : List (Nat × A) → List (Nat × Value) → Prop := All2 fun a v => a.1 = v.1 ∧ ARep ω H a.2 v.2
theorem headB_ok {place : Nat → Option (Nat × Nat)} {i : Nat} {a : Ty} {zs : List Value} {as r : List (Nat × A)} {x : Data a} (h : headB i a zs as = some (x, r)) {vs : List (Nat × Value)} (ha : PartsR ω H as vs) {o : Nat} (hp : place i = some (o, a.n)) {p : List Value} (hpl : p.length = o) (hz : a.n ≤ zs.length) :
    ∃ ws vs', fillL place (p ++ zs) vs = fillL place ((p ++ ws) ++ zs.drop a.n) vs' ∧ PartsR ω H r vs' ∧ ∀ l, RepD ω H a l x ws := by
  have zero : ∀ {y : Data a}, constD a (zs.take a.n) = some y → fillL place (p ++ zs) vs = fillL place ((p ++ zs.take a.n) ++ zs.drop a.n) vs ∧ ∀ l, RepD ω H a l y (zs.take a.n) := fun hy =>
    ⟨by rw [List.append_assoc, List.take_append_drop], fun l => constD_ok hy⟩
  unfold headB at h
  split at h
  · rename_i j y r'
    split at h
    · rename_i hj
      have hj := Nat.eq_of_beq_eq_true hj
      subst hj
      split at h
      · rename_i o' y' hn hy
        cases h
        cases vs with
        | nil => exact ha.elim
        | cons v vs =>
          obtain ⟨jv, v⟩ := v
          obtain ⟨⟨e1, e2⟩, e3⟩ := ha
          have e1 : j = jv := e1
          have e2 : ARep ω H y v := e2
          subst e1
          obtain ⟨ws, r1, r2, r3⟩ := asD_cells hn e2 hy
          have hl := r1.len
          have hsz : v.cells.size = a.n := by rw [← hl, ← r3]; rfl
          refine ⟨ws, vs, ?_, e3, fun l => r1.any hn⟩
          conv => lhs; unfold fillL
          simp only [hp, hsz, Nat.beq_refl, show Nat.ble (o + a.n) (p ++ zs).length = true from Nat.ble_eq_true_of_le (by simp; omega), Bool.and_true]
          rw [r3, ← hpl, setL_at p ws zs (by omega), hl]
      · cases h
    · split at h
      · rename_i y' hy
        cases h
        exact ⟨_, vs, (zero hy).1, ha, (zero hy).2⟩
      · cases h
  · split at h
    · rename_i y' hy
      cases h
      exact ⟨_, vs, (zero hy).1, ha, (zero hy).2⟩
    · cases h
theorem buildT_ok {place : Nat → Option (Nat × Nat)} (t : Ty) : ∀ {fs : List Field} {o i : Nat} {zs : List Value} {as : List (Nat × A)} {vs : List (Nat × Value)} {x : Data t} (p : List Value), buildT t i zs as = some x → fieldsOK P t fs o = true →
    (∀ j f, fs[j]? = some f → place (i + j) = some (f.offset, szOf P f.type)) → zs.length = t.n → p.length = o → PartsR ω H as vs → ∃ cs, fillL place (p ++ zs) vs = some (p ++ cs) ∧ ∀ l, RepD ω H t l x cs := by
  induction t with
  | unit =>
    intro fs o i zs as vs x p h hf hp hz hpl ha
    have h : endB as = some x := h
    unfold endB at h
    split at h
    · cases vs with
      | nil =>
        have : zs = [] := List.eq_nil_of_length_eq_zero hz
        subst this
        exact ⟨[], rfl, fun _ => rfl⟩
      | cons v vs => exact ha.elim
    · cases h
  | prod a b iha ihb =>
    intro fs o i zs as vs x p h hf hp hz hpl ha
    cases fs with
    | nil => simp [fieldsOK] at hf
    | cons f fs =>
      simp only [fieldsOK, Bool.and_eq_true] at hf
      obtain ⟨f1, f2, f0, f3⟩ := hf
      have f1 := Nat.eq_of_beq_eq_true f1
      have f2 := Nat.eq_of_beq_eq_true f2
      simp only [Ty.n] at hz
      have pl0 := hp 0 f rfl
      rw [Nat.add_zero, f1, f2] at pl0
      have h : (match headB i a zs as with
        | some (x, r) => pairO (some x) (buildT b (i + 1) (zs.drop a.n) r)
        | none => none) = some x := h
      cases hh : headB i a zs as with
      | none => rw [hh] at h; cases h
      | some q =>
        rw [hh] at h
        obtain ⟨y, r⟩ := q
        obtain ⟨h1, h2⟩ := pairO_elim h
        obtain ⟨ws, vs', g1, g2, g3⟩ := headB_ok hh ha pl0 hpl (by omega)
        have hl := (g3 []).len
        obtain ⟨cs, g4, g5⟩ := ihb (p ++ ws) h2 f3 (fun j f' hj => by
          have := hp (j + 1) f' (by simpa using hj)
          rw [show i + 1 + j = i + (j + 1) by omega]
          exact this) (by simp; omega) (by simp; omega) g2
        cases h1
        exact ⟨ws ++ cs, by rw [g1, g4, List.append_assoc], fun l => ⟨ws, cs, rfl, g3 _, g5 _⟩⟩
  | _ => intro fs o i zs as vs x p h; cases h
end Go.Proofs.Ytbikpfccdcblfaa.Eng
/- The lifter, part 10: operations of several operands that make something. -/
namespace Go.Proofs.Ytbikpfccdcblfaa.Eng
open Go
set_option linter.unusedVariables false
set_option linter.unusedSimpArgs false
variable {Γ : Nat → Ty} {ω ω' ω0 : Nat → Lab} {H H' H0 : Hp} {g X : Lab} {st : TS} {S : Dh Γ} {σ lσ : Env} {P : Program}

theorem consO_elim {α : Type} {o : Option α} {q : Option (List α)} {r : List α} (h : consO o q = some r) : ∃ x l, o = some x ∧ q = some l ∧ r = x :: l := by
  unfold consO at h
  split at h
  · cases h; exact ⟨_, _, rfl, rfl, rfl⟩
  · cases h
theorem zerosN_succ (z : Value) (n : Nat) : zerosN z (n + 1) = z.cells.toList ++ zerosN z n := by
  unfold zerosN
  rw [List.replicate_succ, List.flatten_cons]
theorem headB_more {i : Nat} {a : Ty} {zs more : List Value} {as : List (Nat × A)} (h : zs.length = a.n) : headB i a (zs ++ more) as = headB i a zs as := by
  have e : (zs ++ more).take a.n = zs.take a.n := by rw [List.take_append_of_le_length (by omega)]
  unfold headB
  rw [e]
theorem buildL_ok {t : Ty} {z : Value} (hz : z.cells.size = t.n) : ∀ (n : Nat) {i : Nat} {as : List (Nat × A)} {vs : List (Nat × Value)} {l : List (Data t)} (p : List Value), buildL t z.cells.toList n i as = some l → p.length = i * t.n → PartsR ω H as vs →
    ∃ cs, fillL (fun i => some (i * t.n, t.n)) (p ++ zerosN z n) vs = some (p ++ cs) ∧ l.length = n ∧ cs.length = n * t.n ∧ ∀ (j : Nat) (y : Data t), l[j]? = some y → RepD ω H t [] y ((cs.drop (j * t.n)).take t.n)
  | 0, i, as, vs, l, p, h, hp, ha => by
    simp only [buildL] at h
    split at h
    · rename_i u hu
      cases h
      unfold endB at hu
      split at hu
      · cases vs with
        | nil => exact ⟨[], by simp [zerosN, fillL], rfl, by simp, fun j y hy => by simp at hy⟩
        | cons v vs => exact ha.elim
      · cases hu
    · cases h
  | n + 1, i, as, vs, l, p, h, hp, ha => by
    simp only [buildL] at h
    have hzl : z.cells.toList.length = t.n := hz
    split at h
    · rename_i x r hh
      obtain ⟨y, l', e1, e2, e3⟩ := consO_elim h
      cases e1
      subst e3
      have hh' : headB i t (zerosN z (n + 1)) as = some (x, r) := by rw [zerosN_succ, headB_more hzl]; exact hh
      obtain ⟨ws, vs', g1, g2, g3⟩ := headB_ok (place := fun i => some (i * t.n, t.n)) hh' ha rfl hp (by rw [zerosN_succ, List.length_append]; omega)
      have hl := (g3 []).len
      have ed : (zerosN z (n + 1)).drop t.n = zerosN z n := by rw [zerosN_succ, ← hzl, List.drop_left]
      rw [ed] at g1
      obtain ⟨cs, q1, q2, q3, q4⟩ := buildL_ok hz n (p ++ ws) e2 (by rw [List.length_append, hp, hl, Nat.succ_mul]) g2
      refine ⟨ws ++ cs, by rw [g1, q1, List.append_assoc], by simp [q2], by rw [List.length_append, hl, q3, Nat.succ_mul, Nat.add_comm], fun j y hy => ?_⟩
      cases j with
      | zero =>
        simp only [List.getElem?_cons_zero, Option.some.injEq] at hy
        subst hy
        rw [Nat.zero_mul, List.drop_zero, List.take_append_of_le_length (by omega), ← hl, List.take_length]
        exact g3 []
      | succ j =>
        rw [Nat.succ_mul, Nat.add_comm, ← hl, List.drop_append, List.drop_eq_nil_of_le (by omega), List.nil_append, show ws.length + j * ws.length - ws.length = j * ws.length by omega, hl]
        exact q4 j y (by simpa using hy)
    · cases h
theorem partsA_ok (h : TInv ω st S σ lσ H) {G : Nat} : ∀ {xs : List (Nat × Operand)} {as : List (Nat × A)}, partsA st xs = some as → ∃ vs, partsL (arg G σ) xs = some vs ∧ PartsR ω H as vs
  | [], as, hx => by cases hx; exact ⟨[], rfl, trivial⟩
  | (i, x) :: xs, as, hx => by
    simp only [partsA] at hx
    split at hx
    · rename_i a as' h1 h2
      cases hx
      obtain ⟨u, q1, q2⟩ := argA_ok h (G := G) h1
      obtain ⟨vs, q3, q4⟩ := partsA_ok h (G := G) h2
      exact ⟨(i, u) :: vs, by simp only [partsL, q1, q3], ⟨rfl, q2⟩, q4⟩
    · cases hx

/-! structs -/
theorem placesL_get : ∀ {fs : List Field} {l : List (Nat × Nat)}, placesL P fs = some l → ∀ (j : Nat) (f : Field), fs[j]? = some f → l[j]? = some (f.offset, szOf P f.type)
  | [], l, h, j, f, hj => by simp at hj
  | g :: fs, l, h, j, f, hj => by
    simp only [placesL] at h
    split at h
    · rename_i i r h1 h2
      cases h
      cases j with
      | zero => simp at hj; subst hj; simp [szOf, h1]
      | succ j => simpa using placesL_get h2 j f (by simpa using hj)
    · cases h
theorem places_ok : ∀ {fs : List Field} {t : Ty} {o : Nat}, fieldsOK P t fs o = true → ∃ l, placesL P fs = some l
  | [], _, _, _ => ⟨[], rfl⟩
  | f :: fs, t, o, h => by
    cases t with
    | prod a b =>
      simp only [fieldsOK, Bool.and_eq_true] at h
      obtain ⟨l, hl⟩ := places_ok h.2.2.2
      have := h.2.2.1
      cases e : P.info? f.type with
      | none => rw [e] at this; cases this
      | some i => exact ⟨(f.offset, i.size) :: l, by simp only [placesL, e, hl]⟩
    | _ => simp [fieldsOK] at h

/-! what stands behind an operation -/
def Aft (ω0 : Nat → Lab) (H0 : Hp) (σ lσ : Env) (K : TV → TS → Dh Γ → Prop) (KH : Value → Hp → Prop) : Prop :=
  ∀ v st S u H ω, K v st S → TInv ω st S σ lσ H → TRep ω H v u → Frm ω0 H0 ω H → KH u H
variable {K : TV → TS → Dh Γ → Prop} {KH : Value → Hp → Prop} {c : TCfg Γ} {cH : Cfg} {d : Nat}
theorem alloc_ok (hP : cH.P = c.P) (hi : TInv ω st S σ lσ H) (hf : Frm ω0 H0 ω H) (hk : Aft ω0 H0 σ lσ K KH) {draw : Bool} {e : TypeId} (h : opT c draw d (.alloc e) st S K) : opK cH draw (.alloc e) (arg cH.G σ) H KH := by
  obtain ⟨x, h1, h2⟩ := optP_elim h
  unfold zeroD at h1
  split at h1
  · rename_i z hz
    split at h1
    · rename_i hn
      obtain ⟨ω', q1, q2, q3⟩ := fresh_var (e := e) hi hf (d := d) (cs := z.cells.toList) (.inr fun ω H => constD_ok h1)
      exact optP_intro (by rw [hP]; exact hz) (hk _ _ _ _ _ _ h2 q1 q2 q3)
    · cases h1
  · cases h1
theorem box_ok' (hi : TInv ω st S σ lσ H) (hf : Frm ω0 H0 ω H) (hk : Aft ω0 H0 σ lσ K KH) {draw : Bool} {e : TypeId} {x : Operand} (h : opT c draw d (.box e x) st S K) : opK cH draw (.box e x) (arg cH.G σ) H KH := by
  obtain ⟨a, h1, h2⟩ := optP_elim h
  obtain ⟨y, h3, h4⟩ := optP_elim h2
  obtain ⟨hn, h5⟩ := gd_elim h4
  obtain ⟨u, q1, q2⟩ := argA_ok hi (G := cH.G) h1
  obtain ⟨vs, r1, r2, r3⟩ := asD_cells hn q2 (o := y.1) (x := y.2) h3
  obtain ⟨ω', p1, p2, p3⟩ := fresh_var (e := e) hi hf (d := d) (cs := vs) (.inl ⟨hn, r1.any hn⟩)
  refine optP_intro q1 ?_
  rw [r3]
  exact allOne_intro r1.one (hk _ _ _ _ _ _ h5 p1 p2 p3)
theorem build_ok' (hP : cH.P = c.P) (hi : TInv ω st S σ lσ H) (hf : Frm ω0 H0 ω H) (hk : Aft ω0 H0 σ lσ K KH) {draw : Bool} {t : TypeId} {ps : Array (Nat × Operand)} (h : opT c draw d (.build t ps) st S K) : opK cH draw (.build t ps) (arg cH.G σ) H KH := by
  obtain ⟨h0, h⟩ := gd_elim h
  obtain ⟨as, h1, h⟩ := optP_elim h
  obtain ⟨z, h2, h⟩ := optP_elim h
  obtain ⟨h3, h⟩ := gd_elim h
  obtain ⟨x, h4, h⟩ := optP_elim h
  simp only [Bool.and_eq_true] at h0
  obtain ⟨h0, ha⟩ := h0
  obtain ⟨vs, q1, q2⟩ := partsA_ok hi (G := cH.G) h1
  unfold structOK at h0
  split at h0
  · rename_i fs hu
    obtain ⟨l, hl⟩ := places_ok h0
    have hpl : places cH.P t = some fun i => l[i]? := by rw [hP]; simp only [places, hu, hl]
    obtain ⟨cs, r1, r2⟩ := buildT_ok (place := fun i => l[i]?) (c.vty d) [] h4 h0 (fun j f hj => by
      show l[0 + j]? = _
      rw [Nat.zero_add]
      exact placesL_get hl j f hj) (Nat.eq_of_beq_eq_true h3) rfl q2
    refine optP_intro q1 (optP_intro (by rw [hP]; exact h2) (optP_intro hpl (optP_intro r1 ?_)))
    refine hk _ _ _ _ _ _ h hi ⟨cs, r2 _, ?_⟩ hf
    unfold ofC
    rw [ha]
    rfl
  · cases h0
theorem slTy_elim {T e : TypeId} (h : slTy P T e = true) : P.underlying T = some (.slice e) := by
  unfold slTy at h
  split at h
  · rename_i e' hu; rw [hu, Nat.eq_of_beq_eq_true h]
  · cases h
theorem buildSliceT_ok (hP : cH.P = c.P) (hi : TInv ω st S σ lσ H) (hf : Frm ω0 H0 ω H) (hk : Aft ω0 H0 σ lσ K KH) {draw : Bool} {t : TypeId} {n : Nat} {ps : Array (Nat × Operand)} (h : opT c draw d (.buildSlice t n ps) st S K) : opK cH draw (.buildSlice t n ps) (arg cH.G σ) H KH := by
  simp only [opT] at h
  split at h
  · rename_i e ty hv
    obtain ⟨h0, h⟩ := gd_elim h
    obtain ⟨as, h1, h⟩ := optP_elim h
    obtain ⟨z, h2, h⟩ := optP_elim h
    obtain ⟨h3, h⟩ := gd_elim h
    obtain ⟨l, h4, h⟩ := optP_elim h
    simp only [Bool.and_eq_true] at h0
    obtain ⟨a1, a2, a3, a4, a5⟩ := h0
    obtain ⟨vs, q1, q2⟩ := partsA_ok hi (G := cH.G) h1
    have hz := Nat.eq_of_beq_eq_true h3
    have hs := Nat.eq_of_beq_eq_true a4
    obtain ⟨cs, r1, r2, r3, r4⟩ := buildL_ok hz n [] h4 (by simp) q2
    obtain ⟨ω', p1, p2, p3⟩ := fresh_own (e := e) (d := d) hi hf a2 (Nat.le_of_ble_eq_true a3) (l := l) (cs := cs) (by rw [r3, r2]) r4
    refine optP_intro q1 ?_
    rw [hP, slTy_elim a1]
    dsimp only
    refine optP_intro h2 (gd_iff.2 ⟨by rw [hs]; exact h3, gd_iff.2 ⟨a5, ?_⟩⟩)
    rw [hs]
    refine optP_intro r1 (allOne_intro ?_ ?_)
    · intro v hv
      obtain ⟨i, hi2⟩ := List.getElem?_of_mem hv
      have hil : i < cs.length := (List.getElem?_eq_some_iff.1 hi2).1
      have h1n := Nat.le_of_ble_eq_true a3
      have hj : i / ty.n < n := by rw [r3] at hil; exact Nat.div_lt_of_lt_mul (by rw [Nat.mul_comm]; exact hil)
      have hy : l[i / ty.n]? = some l[i / ty.n] := by simp [r2, hj]
      refine (r4 _ _ hy).one v ?_
      have hm : i / ty.n * ty.n + i % ty.n = i := by rw [Nat.mul_comm]; exact Nat.div_add_mod i ty.n
      refine List.mem_of_getElem? (i := i % ty.n) ?_
      rw [List.getElem?_take, if_pos (Nat.mod_lt _ h1n), List.getElem?_drop, hm]
      exact hi2
    · rw [← r2]
      exact hk _ _ _ _ _ _ h p1 p2 p3
  · exact h.elim
end Go.Proofs.Ytbikpfccdcblfaa.Eng
