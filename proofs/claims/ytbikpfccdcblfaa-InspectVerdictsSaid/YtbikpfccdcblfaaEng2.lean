/- The engine, part 2: operations, regions, code: what they ask of a continuation. Definitions alone. -/
import Derived.Test.YtbikpfccdcblfaaEng1
namespace Go.Proofs.Ytbikpfccdcblfaa.Eng
open Go

/-- What is known of a function: what a call asks of its continuation. quiet: it leaves the heap alone. -/
structure Sp where
  quiet : Bool
  run : List Value → Hp → (Value → Hp → Prop) → Prop

inductive Ex where
  | normal
  | exit (id : Nat)
  | ret

abbrev Frag := Env → Hp → (Ex → Env → Hp → Prop) → Prop

structure Cfg where
  P : Program
  G : Nat
  T : FuncId → Option Sp
  loops : Nat → Option Frag
  joins : Nat → Option Frag
  /-- what is kept: at a fragment's first region; at an exit; at a return; at a joined fragment's end -/
  cut : Nat → Option (List Nat)
  cutX : Nat → Option (List Nat)
  cutR : Option (List Nat)
  cutN : Nat → Option (List Nat)

def big : Nat := 18446744073709551616

def lenK (P : Program) (t : TypeId) (x : Value) (H : Hp) (K : Value → Prop) : Prop :=
  match P.underlying t, x with
  | some .string, .string s => K (.int .i64 (s.size : Nat))
  | some (.array n _), _ => K (.int .i64 (n : Nat))
  | some (.slice _), .slice _ n _ => K (.int .i64 (n : Nat))
  | some (.map _ _), .map none => K (.int .i64 0)
  | some (.map _ _), .map (some r) => ∃ kt es, H.isMap r kt es ∧ K (.int .i64 (es.length : Nat))
  | _, _ => False
def maxK (big' : Bool) (K : Value → Prop) : List Value → Prop
  | [.int k x, .int _ y] => K (.int k (match big' with | true => max x y | false => min x y))
  | _ => False

def builtinK (P : Program) (b : Builtin) (ts : List TypeId) (vs : List Value) (H : Hp) (K : Value → Hp → Prop) : Prop :=
  match b, ts, vs with
  | .len, [t], [x] => lenK P t x H fun v => K v H
  | .append, [t, t2], [s, x] => appendK P t t2 s x H K
  | .copy, [t, t2], [d, s] => copyK P t t2 d s H K
  | .max, _, vs => maxK true (fun v => K v H) vs
  | .min, _, vs => maxK false (fun v => K v H) vs
  | .delete, [t, _], [m, k] => deleteK P t m k H (K (.tuple #[]))
  | _, _, _ => False

/-- One operation. draw: its region draws its order: then only calls that leave the heap alone are let through a value. -/
def opK (c : Cfg) (draw : Bool) (op : Op) (E : Operand → Option Value) (H : Hp) (K : Value → Hp → Prop) : Prop :=
  match op with
  | .move x | .assign x => optP (E x) fun v => K v H
  | .pick t a b => match E t with
    | some (.bool true) => optP (E a) fun v => K v H
    | some (.bool false) => optP (E b) fun v => K v H
    | _ => False
  | .alloc e => optP (zeroOf c.P e) fun z => K (.pointer (some ⟨H.next, 0, none⟩)) (H.new (.cells true e z.cells.toList))
  | .box e x => optP (E x) fun v => allOne v.cells.toList (K (.pointer (some ⟨H.next, 0, none⟩)) (H.new (.cells true e v.cells.toList)))
  | .build t ps => optP (partsL E ps.toList) fun vs => optP (zeroOf c.P t) fun z => optP (places c.P t) fun pl =>
      optP (fillL pl z.cells.toList vs) fun cs => K (.agg ⟨cs⟩) H
  | .buildSlice t n ps => optP (partsL E ps.toList) fun vs => match c.P.underlying t with
    | some (.slice e) => optP (zeroOf c.P e) fun z => gd (Nat.beq z.cells.size (szOf c.P e)) <| gd (Nat.ble (n * szOf c.P e) 16777216) <|
        optP (fillL (fun i => some (i * szOf c.P e, szOf c.P e)) (zerosN z n) vs) fun cs =>
          allOne cs <| K (.slice (some ⟨H.next, 0, none⟩) n (szOf c.P e)) (H.new (.cells true e cs))
    | _ => False
  | .load t a => match E a with
    | some (.pointer p) => optP p fun ad => loadK c.P H ad.block ad.off t fun v => K v H
    | _ => False
  | .store t a x => match E a with
    | some (.pointer p) => optP p fun ad => optP (E x) fun v => storeK c.P H ad.block ad.off t v (K undef)
    | _ => False
  | .nilCheck x => match E x with
    | some (.pointer p) => optP p fun ad => K (.pointer (some ad)) H
    | some (.func (.func f) a b) => K (.func (.func f) a b) H
    | _ => False
  | .binOp op t x y _ => optP (E x) fun a => optP (E y) fun b => binopK c.P op t x y a b fun v => K v H
  | .unOp op _ x => match op, E x with
    | .neg, some (.int k n) => K (.int k (k.wrap (0 - n))) H
    | .xor, some (.int k n) => optP (semPure (Op.intBits .xor k (match k.signed with | true => -1 | false => k.max) n)) fun v => K v H
    | .not, some (.bool b) => K (.bool (!b)) H
    | _, _ => False
  | .convert s d x => optP (E x) fun v => convertK c.P s d v H K
  | .makeInterface t x => optP (E x) fun v => optP (c.P.underlying t) fun _ => gd (!isIface c.P t) (K (.iface t v) H)
  | .makeFunc fn xs ys => optP (argsL E xs.toList) fun a => optP (argsL E ys.toList) fun b => K (.func fn ⟨a⟩ ⟨b⟩) H
  | .makeMap t r => match c.P.underlying t, r with
    | some (.map kt _), none => K (.map (some H.next)) (H.new (.map kt []))
    | some (.map kt _), some x => match E x with
      | some (.int _ _) => K (.map (some H.next)) (H.new (.map kt []))
      | _ => False
    | _, _ => False
  | .makeSlice t l m => optP (E l) fun a => optP (E m) fun b => makeSliceK c.P t a b H K
  | .slice t x lo hi mx => match mx with
    | none => optP (E x) fun v => sliceK c.P E t v lo hi fun v => K v H
    | some _ => False
  | .fieldAddr t x f => optP (E x) fun v => fieldAddrK c.P t f v fun v => K v H
  | .field t x f => match E x, fieldOf c.P t f with
    | some (.agg cs), some fd => partK c.P fd.type cs.toList fd.offset fun v => K v H
    | _, _ => False
  | .indexAddr t x i => optP (E x) fun v => optP (E i) fun j => indexAddrK c.P t v j fun v => K v H
  | .index t x i => optP (E x) fun v => optP (E i) fun j => indexK c.P t v j fun v => K v H
  | .lookup t m k ok => optP (E m) fun m => optP (E k) fun k => lookupK c.P t m k ok H fun v => K v H
  | .mapUpdate t m k v | .insert t m k v => optP (E m) fun m => optP (E k) fun k => optP (E v) fun v => updateK c.P t m k v H (K undef)
  | .extract x i => match E x with
    | some (.tuple vs) => optP (vs.toList[i]?) fun v => K v H
    | _ => False
  | .call ⟨.builtin b, xs, ts⟩ => optP (argsL E xs.toList) fun vs => builtinK c.P b ts.toList vs H K
  | .call ⟨.value f, xs, _⟩ => optP (argsL E xs.toList) fun vs => match E f with
    | some (.func (.func k) a b) => match c.T k with
      | some sp => gd (!draw || sp.quiet) (sp.run (a.toList ++ vs ++ b.toList) H K)
      | none => False
    | _ => False
  | _ => False

/-- The slot of an operation's guard, and what is wanted there. -/
def gslot (ops : Array Oper) (o : Oper) : Option (Option (Nat × Bool)) :=
  match o.guard with
  | none => some none
  | some (j, want) => match ops[j]? with
    | none => none
    | some g => match g.dst with
      | none => none
      | some d => some (some (d, want))
def putE (n : Nat) (dst : Option Tmp) (v : Value) (σ : Env) (K : Env → Prop) : Prop :=
  match dst with
  | none => K σ
  | some d => gd (Nat.ble (d + 1) n) (K ((d, v) :: σ))
def operK (c : Cfg) (n : Nat) (draw : Bool) (ops : Array Oper) (o : Oper) (σ : Env) (H : Hp) (K : Env → Hp → Prop) : Prop :=
  match gslot ops o with
  | none => False
  | some none => opK c draw o.op (arg c.G σ) H fun v H => putE n o.dst v σ fun σ => K σ H
  | some (some (d, want)) => match look d σ with
    | some (.bool true) => match want with
      | true => opK c draw o.op (arg c.G ((d, .bool true) :: σ)) H fun v H => putE n o.dst v ((d, .bool true) :: σ) fun σ => K σ H
      | false => putE n o.dst undef ((d, .bool true) :: σ) fun σ => K σ H
    | some (.bool false) => match want with
      | true => putE n o.dst undef ((d, .bool false) :: σ) fun σ => K σ H
      | false => opK c draw o.op (arg c.G ((d, .bool false) :: σ)) H fun v H => putE n o.dst v ((d, .bool false) :: σ) fun σ => K σ H
    | _ => False
def opersK (c : Cfg) (n : Nat) (draw : Bool) (ops : Array Oper) : List Oper → Env → Hp → (Env → Hp → Prop) → Prop
  | [], σ, H, K => K σ H
  | o :: os, σ, H, K => operK c n draw ops o σ H fun σ H => opersK c n draw ops os σ H K

def firstR : Code → Option Nat
  | .region i _ _ => some i
  | .seq a _ => firstR a
  | .block _ b => firstR b
  | .loop b => firstR b
  | .scope b => firstR b
  | _ => none
def cutAt (c : Cfg) (b : Code) (σ : Env) : Env :=
  match firstR b with
  | none => σ
  | some i => match c.cut i with
    | none => σ
    | some l => forget l σ
def tableAt (t : Nat → Option Frag) (b : Code) : Option Frag :=
  match firstR b with
  | none => none
  | some i => t i

def forgetO (l : Option (List Nat)) (σ : Env) : Env := match l with | some l => forget l σ | none => σ
def cutEnd (c : Cfg) (b : Code) (σ : Env) : Env :=
  match firstR b with
  | none => σ
  | some i => forgetO (c.cutN i) σ
/-- A fragment whose end forgets. -/
def endsK (c : Cfg) (b : Code) (K : Ex → Env → Hp → Prop) : Ex → Env → Hp → Prop
  | .normal, σ, H => K .normal (cutEnd c b σ) H
  | .exit i, σ, H => K (.exit i) σ H
  | .ret, σ, H => K .ret σ H

/-- What stands behind one round. -/
def roundK (rec : Env → Hp → Prop) (K : Ex → Env → Hp → Prop) : Ex → Env → Hp → Prop
  | .normal, σ, H => rec σ H
  | .exit i, σ, H => K (.exit i) σ H
  | .ret, σ, H => K .ret σ H
def loopK (cf : Env → Env) (step : Frag) : Nat → Frag
  | 0, _, _, _ => False
  | m + 1, σ, H, K => step σ H (roundK (fun σ H => loopK cf step m (cf σ) H K) K)
theorem loopK_succ (cf : Env → Env) (step : Frag) (m : Nat) (σ : Env) (H : Hp) (K : Ex → Env → Hp → Prop) :
    loopK cf step (m + 1) σ H K = step σ H (roundK (fun σ H => loopK cf step m (cf σ) H K) K) := rfl

def ev (c : Cfg) (n : Nat) (code : Code) : Frag :=
  match code with
  | .skip => fun σ H K => K .normal σ H
  | .region _ ops draw => fun σ H K => opersK c n draw ops ops.toList σ H fun σ H => K .normal σ H
  | .seq a b => fun σ H K => ev c n a σ H fun ex σ H => match ex with
    | .normal => match tableAt c.joins b with
      | some j => j (cutAt c b σ) H K
      | none => ev c n b (cutAt c b σ) H K
    | .exit i => K (.exit i) σ H
    | .ret => K .ret σ H
  | .cond t a b => fun σ H K => match arg c.G σ t with
    | some (.bool true) => ev c n a σ H K
    | some (.bool false) => ev c n b σ H K
    | _ => False
  | .block id b => fun σ H K => ev c n b σ H fun ex σ H => match ex with
    | .normal => K .normal σ H
    | .exit j => match Nat.beq j id with
      | true => K .normal σ H
      | false => K (.exit j) σ H
    | .ret => K .ret σ H
  | .loop b => fun σ H K => match tableAt c.loops b with
    | some l => l (cutAt c b σ) H K
    | none => loopK (cutAt c b) (fun σ H K => ev c n b σ H K) big (cutAt c b σ) H K
  | .label _ => fun σ H K => K .normal σ H
  | .exit id => fun σ H K => K (.exit id) (forgetO (c.cutX id) σ) H
  | .ret => fun σ H K => K .ret (forgetO c.cutR σ) H
  | .rangeFunc .. | .scope _ | .goto _ | .refuse _ => fun _ _ _ => False
  termination_by structural code

/-! fragments that are told by hand -/
def sub : List Nat → Code → Code
  | [], c => c
  | i :: p, .seq a b => sub p (match i with | 0 => a | _ => b)
  | i :: p, .cond _ a b => sub p (match i with | 0 => a | _ => b)
  | _ :: p, .block _ b => sub p b
  | _ :: p, .loop b => sub p b
  | _ :: p, .scope b => sub p b
  | _ :: _, c => c
def bodyOf (fn : Func) : Code := match fn.body with | some b => b | none => .skip
def loopsOf : Code → List Code
  | .seq a b => loopsOf a ++ loopsOf b
  | .cond _ a b => loopsOf a ++ loopsOf b
  | .block _ b | .scope b => loopsOf b
  | .loop b => b :: loopsOf b
  | _ => []
def tailsOf : Code → List Code
  | .seq a b => b :: (tailsOf a ++ tailsOf b)
  | .cond _ a b => tailsOf a ++ tailsOf b
  | .block _ b | .scope b | .loop b => tailsOf b
  | _ => []
def lk {α : Type} (i : Nat) : List (Nat × α) → Option α
  | [] => none
  | (j, x) :: r => cond (Nat.beq i j) (some x) (lk i r)
def slotsB : List Nat → Env → Bool
  | [], [] => true
  | t :: ts, (u, _) :: σ => Nat.beq t u && slotsB ts σ
  | _, _ => false
def fragOf (ts : List Nat) (f : List Value → Hp → (Ex → Env → Hp → Prop) → Prop) : Frag := fun σ H K => gd (slotsB ts σ) (f (σ.map (·.2)) H K)
/-- What a configuration owes: each fragment that is told asks at least what the code asks. -/
def LoopsOK (c : Cfg) (n : Nat) (body : Code) : Prop :=
  ∀ b ∈ loopsOf body, ∀ l, tableAt c.loops b = some l → ∀ σ H K, l σ H K → loopK (cutAt c b) (fun σ H K => ev c n b σ H K) big σ H K
def JoinsOK (c : Cfg) (n : Nat) (body : Code) : Prop :=
  ∀ b ∈ tailsOf body, ∀ j, tableAt c.joins b = some j → ∀ σ H K, j σ H K → ev c n b σ H (endsK c b K)

/-! values taken apart -/
def nextV (vs : List Value) (f : Value → List Value → Prop) : Prop := match vs with | v :: r => f v r | [] => False
def doneV (vs : List Value) (p : Prop) : Prop := match vs with | [] => p | _ :: _ => False
def deInt (k : IntKind) (v : Value) (f : Int → Prop) : Prop := match v with | .int k' n => gd (decide (k' = k)) (f n) | _ => False
def deBool (v : Value) (f : Bool → Prop) : Prop := match v with | .bool b => f b | _ => False
def deStr (v : Value) (f : ByteArray → Prop) : Prop := match v with | .string s => f s | _ => False
def dePtr (v : Value) (f : Option Addr → Prop) : Prop := match v with | .pointer p => f p | _ => False
def deAddr (v : Value) (f : Addr → Prop) : Prop := match v with | .pointer p => optP p f | _ => False
def deSlice (v : Value) (f : Option Addr → Nat → Nat → Prop) : Prop := match v with | .slice a n k => f a n k | _ => False
def deMap (v : Value) (f : Option Nat → Prop) : Prop := match v with | .map m => f m | _ => False
def deAny (v : Value) (f : Value → Prop) : Prop := f v
def deAgg (v : Value) (f : List Value → Prop) : Prop := match v with | .agg cs => f cs.toList | _ => False
def deTuple (v : Value) (f : List Value → Prop) : Prop := match v with | .tuple cs => f cs.toList | _ => False
def deFn (k : FuncId) (v : Value) (p : Prop) : Prop :=
  match v with
  | .func (.func k') a b => gd (Nat.beq k' k && (a.toList.isEmpty && b.toList.isEmpty)) p
  | _ => False
theorem nextV_elim {vs : List Value} {f : Value → List Value → Prop} (h : nextV vs f) : ∃ v r, vs = v :: r ∧ f v r := by
  cases vs with
  | nil => exact h.elim
  | cons v r => exact ⟨v, r, rfl, h⟩
theorem doneV_elim {vs : List Value} {p : Prop} (h : doneV vs p) : vs = [] ∧ p := by
  cases vs with
  | nil => exact ⟨rfl, h⟩
  | cons v r => exact h.elim
theorem deInt_elim {k : IntKind} {v : Value} {f : Int → Prop} (h : deInt k v f) : ∃ n, v = .int k n ∧ f n := by
  unfold deInt at h
  split at h
  · rename_i k' n
    unfold gd at h
    split at h
    · rename_i e; exact ⟨n, by rw [of_decide_eq_true e], h⟩
    · exact h.elim
  · exact h.elim
theorem deBool_elim {v : Value} {f : Bool → Prop} (h : deBool v f) : ∃ b, v = .bool b ∧ f b := by
  cases v <;> first | exact h.elim | exact ⟨_, rfl, h⟩
theorem deStr_elim {v : Value} {f : ByteArray → Prop} (h : deStr v f) : ∃ s, v = .string s ∧ f s := by
  cases v <;> first | exact h.elim | exact ⟨_, rfl, h⟩
theorem dePtr_elim {v : Value} {f : Option Addr → Prop} (h : dePtr v f) : ∃ p, v = .pointer p ∧ f p := by
  cases v <;> first | exact h.elim | exact ⟨_, rfl, h⟩
theorem deAddr_elim {v : Value} {f : Addr → Prop} (h : deAddr v f) : ∃ a, v = .pointer (some a) ∧ f a := by
  cases v with
  | pointer p => cases p with
    | none => exact h.elim
    | some a => exact ⟨a, rfl, h⟩
  | _ => exact h.elim
theorem deSlice_elim {v : Value} {f : Option Addr → Nat → Nat → Prop} (h : deSlice v f) : ∃ a n k, v = .slice a n k ∧ f a n k := by
  cases v <;> first | exact h.elim | exact ⟨_, _, _, rfl, h⟩
theorem deMap_elim {v : Value} {f : Option Nat → Prop} (h : deMap v f) : ∃ m, v = .map m ∧ f m := by
  cases v <;> first | exact h.elim | exact ⟨_, rfl, h⟩
theorem deAny_elim {v : Value} {f : Value → Prop} (h : deAny v f) : ∃ u, v = u ∧ f u := ⟨v, rfl, h⟩
theorem deAgg_elim {v : Value} {f : List Value → Prop} (h : deAgg v f) : ∃ cs, v = .agg ⟨cs⟩ ∧ f cs := by
  cases v <;> first | exact h.elim | exact ⟨_, rfl, h⟩
theorem deTuple_elim {v : Value} {f : List Value → Prop} (h : deTuple v f) : ∃ cs, v = .tuple ⟨cs⟩ ∧ f cs := by
  cases v <;> first | exact h.elim | exact ⟨_, rfl, h⟩
theorem deFn_elim {k : FuncId} {v : Value} {p : Prop} (h : deFn k v p) : v = .func (.func k) ⟨[]⟩ ⟨[]⟩ ∧ p := by
  unfold deFn at h
  split at h
  · rename_i k' a b
    unfold gd at h
    split at h
    · rename_i e
      simp only [Bool.and_eq_true] at e
      have e1 : k' = k := Nat.eq_of_beq_eq_true e.1
      have e2 : a.toList = [] := by simpa using e.2.1
      have e3 : b.toList = [] := by simpa using e.2.2
      refine ⟨?_, h⟩
      rw [e1, show a = ⟨[]⟩ from Array.ext' e2, show b = ⟨[]⟩ from Array.ext' e3]
    · exact h.elim
  · exact h.elim
theorem slots_zip : ∀ {ts : List Nat} {σ : Env}, slotsB ts σ = true → σ = ts.zip (σ.map (·.2))
  | [], [], _ => rfl
  | t :: ts, (u, v) :: σ, h => by
    simp only [slotsB, Bool.and_eq_true] at h
    have e : t = u := Nat.eq_of_beq_eq_true h.1
    subst e
    simp only [List.map_cons, List.zip_cons_cons]
    rw [← slots_zip h.2]
  | [], _ :: _, h => by simp [slotsB] at h
  | _ :: _, [], h => by simp [slotsB] at h
theorem frag_elim {ts : List Nat} {f : List Value → Hp → (Ex → Env → Hp → Prop) → Prop} {σ : Env} {H : Hp} {K : Ex → Env → Hp → Prop} (h : fragOf ts f σ H K) : ∃ vs, σ = ts.zip vs ∧ f vs H K := by
  unfold fragOf at h
  unfold gd at h
  split at h
  · rename_i e; exact ⟨_, slots_zip e, h⟩
  · exact h.elim
theorem lk_mem {α : Type} {i : Nat} {x : α} : ∀ {l : List (Nat × α)}, lk i l = some x → (i, x) ∈ l
  | [], h => by cases h
  | (j, y) :: r, h => by
    unfold lk at h
    cases e : Nat.beq i j with
    | true => rw [e] at h; cases h; rw [Nat.eq_of_beq_eq_true e]; exact List.mem_cons_self
    | false => rw [e] at h; exact List.mem_cons_of_mem _ (lk_mem h)

/-! a function -/
def resK (P : Program) (H : Hp) (σ : Env) : List ResultVar → (List Value → Prop) → Prop
  | [], K => K []
  | .tmp t :: rs, K => optP (look t σ) fun v => resK P H σ rs fun vs => K (v :: vs)
  | .cell a t :: rs, K => match look a σ with
    | some (.pointer p) => optP p fun ad => loadK P H ad.block ad.off t fun v => resK P H σ rs fun vs => K (v :: vs)
    | _ => False
def oneOf : List Value → Value
  | [v] => v
  | vs => .tuple ⟨vs⟩
def env0 : Nat → List Value → Env
  | _, [] => []
  | i, v :: vs => (i, v) :: env0 (i + 1) vs
def endK (P : Program) (fn : Func) (K : Value → Hp → Prop) (ex : Ex) (σ : Env) (H : Hp) : Prop :=
  match ex with
  | .exit _ => False
  | _ => resK P H σ fn.results.toList fun vs => K (oneOf vs) H
def fnK (c : Cfg) (fn : Func) (args : List Value) (H : Hp) (K : Value → Hp → Prop) : Prop :=
  match fn.body with
  | none => False
  | some b => gd (Nat.ble args.length fn.ntmps) (ev c fn.ntmps b (env0 0 args) H (endK c.P fn K))
end Go.Proofs.Ytbikpfccdcblfaa.Eng
