/- The engine, part 13a: what an operation yields is one value: the ground for regions that draw their order. -/
import Derived.Test.YtbikpfccdcblfaaEng13
namespace Go.Proofs.Ytbikpfccdcblfaa.Eng
open Go Go.RowKit
set_option linter.unusedVariables false
set_option linter.unusedSimpArgs false

def D1 (T : (Value → Prop) → Prop) : Prop := ∀ K, T K → ∃ v, K v ∧ ∀ K', K' v → T K'
theorem D1.k (v : Value) : D1 (fun K => K v) := fun K h => ⟨v, h, fun _ h => h⟩
theorem D1.no : D1 (fun _ => False) := fun K h => h.elim
theorem D1.gd {b : Bool} {T : (Value → Prop) → Prop} (h : D1 T) : D1 (fun K => gd b (T K)) := by
  cases b with
  | false => exact D1.no
  | true => exact h
theorem D1.opt {α : Type} {o : Option α} {T : α → (Value → Prop) → Prop} (h : ∀ x, D1 (T x)) : D1 (fun K => optP o fun x => T x K) := by
  cases o with
  | none => exact D1.no
  | some x => exact h x
theorem D1.and {p : Prop} {T : (Value → Prop) → Prop} (h : D1 T) : D1 (fun K => p ∧ T K) := fun K ⟨hp, hk⟩ =>
  let ⟨v, a, b⟩ := h K hk; ⟨v, a, fun K' h' => ⟨hp, b K' h'⟩⟩
theorem D1.ex {α : Type} {T : α → (Value → Prop) → Prop} (h : ∀ x, D1 (T x)) : D1 (fun K => ∃ x, T x K) := fun K ⟨x, hk⟩ =>
  let ⟨v, a, b⟩ := h x K hk; ⟨v, a, fun K' h' => ⟨x, b K' h'⟩⟩
theorem D1.optk {o : Option Value} : D1 (fun K => optP o K) := D1.opt fun x => D1.k x
theorem D1.mat {b : Bool} {T T' : (Value → Prop) → Prop} (h : D1 T) (h' : D1 T') : D1 (fun K => match b with | true => T K | false => T' K) := by cases b <;> assumption
theorem D1.mat' {b : Bool} {T T' : (Value → Prop) → Prop} (h : D1 T) (h' : D1 T') : D1 (fun K => match b with | false => T K | true => T' K) := by cases b <;> assumption
theorem binK_int (P : Program) (op : BinOp) (t : TypeId) (k k' : IntKind) (m n : Int) : D1 (fun K => binK P op t (.int k m) (.int k' n) K) := by
  by_cases e : k = k'
  · subst e
    cases op <;> simp only [binK, decide_true] <;> first | exact D1.gd (D1.k _) | exact D1.optk | exact D1.k _ | exact D1.no
  · cases op <;> simp only [binK, decide_eq_false e] <;> first | exact D1.gd (D1.k _) | exact D1.no
theorem eql_D1 (P : Program) (t : TypeId) (a b : Value) : D1 (fun K => match binK.eqSafe P a b t with | true => optP (eqV P 5 t a b) fun r => K (.bool r) | false => False) :=
  D1.mat (D1.opt fun _ => D1.k _) D1.no
theorem neq_D1 (P : Program) (t : TypeId) (a b : Value) : D1 (fun K => match binK.eqSafe P a b t with | true => optP (eqV P 5 t a b) fun r => K (.bool (!r)) | false => False) :=
  D1.mat (D1.opt fun _ => D1.k _) D1.no
theorem binK_D1 (P : Program) (op : BinOp) (t : TypeId) (a b : Value) : D1 (binK P op t a b) := by
  have e1 := eql_D1 P t a b
  have e2 := neq_D1 P t a b
  cases a <;> cases b <;> first
    | exact binK_int P op t _ _ _ _
    | (cases op <;> first
      | exact D1.no
      | exact D1.k _
      | exact D1.gd (D1.k _)
      | exact e1
      | exact e2)
theorem ifaceK_D1 (op : BinOp) (x y : Operand) (a b : Value) : D1 (ifaceK op x y a b) := by
  unfold ifaceK
  cases op <;> first
    | exact D1.no
    | exact D1.mat (D1.opt fun _ => D1.k _) (D1.gd (D1.opt fun _ => D1.k _))
theorem binopK_D1 (P : Program) (op : BinOp) (t : TypeId) (x y : Operand) (a b : Value) : D1 (binopK P op t x y a b) := by
  unfold binopK
  exact D1.mat (ifaceK_D1 _ _ _ _ _) (binK_D1 _ _ _ _ _)
theorem getK_D1 (H : Hp) (b o : Nat) (z : Value) : D1 (getK H b o z) := by
  cases z <;> refine D1.ex fun _ => ?_ <;> first
    | exact D1.and (D1.k _)
    | exact D1.and (D1.and (D1.k _))
    | exact D1.ex fun _ => D1.ex fun _ => D1.and (D1.k _)
def DL (T : (List Value → Prop) → Prop) : Prop := ∀ K, T K → ∃ v, K v ∧ ∀ K', K' v → T K'
theorem getsK_DL (H : Hp) (b : Nat) : ∀ (zs : List Value) (o : Nat), DL (getsK H b o zs)
  | [], _ => fun K h => ⟨[], h, fun _ h => h⟩
  | z :: zs, o => fun K h => by
    obtain ⟨v, h1, h2⟩ := getK_D1 H b o z _ h
    obtain ⟨vs, h3, h4⟩ := getsK_DL H b zs (o + 1) _ h1
    exact ⟨v :: vs, h3, fun K' h' => h2 _ (h4 _ h')⟩
theorem loadK_D1 (P : Program) (H : Hp) (b o : Nat) (t : TypeId) : D1 (loadK P H b o t) := by
  unfold loadK
  cases P.info? t with
  | none => exact D1.no
  | some i =>
    cases P.underlying t with
    | none => exact D1.no
    | some d =>
      cases hz : i.zero with
      | none => exact fun K h => by simp only [hz] at h
      | some z =>
        simp only [hz]
        refine D1.mat (D1.mat ?_ D1.no) (getK_D1 _ _ _ _)
        intro K h
        obtain ⟨vs, h1, h2⟩ := getsK_DL H b _ o _ h
        exact ⟨_, h1, fun K' h' => h2 _ h'⟩
theorem lenK_D1 (P : Program) (t : TypeId) (x : Value) (H : Hp) : D1 (lenK P t x H) := by
  unfold lenK
  intro K h
  split at h <;> first | exact h.elim | exact ⟨_, h, fun _ h => h⟩ | exact D1.ex (fun _ => D1.ex fun _ => D1.and (D1.k _)) K h
theorem maxK_D1 (b : Bool) (vs : List Value) : D1 (fun K => maxK b K vs) := by
  intro K h
  unfold maxK at h
  split at h
  · exact ⟨_, h, fun K' h' => h'⟩
  · exact h.elim
theorem seenK_D1 (z v : Value) : D1 (seenK z v) := by
  cases z <;> first
    | exact D1.k _
    | (refine D1.ex fun _ => ?_; first
      | exact D1.and (D1.k _)
      | exact D1.ex fun _ => D1.ex fun _ => D1.and (D1.k _))
theorem lookupK_D1 (P : Program) (t : TypeId) (m k : Value) (ok : Bool) (H : Hp) : D1 (lookupK P t m k ok H) := by
  unfold lookupK
  cases P.underlying t with
  | none => exact D1.no
  | some d =>
    cases d <;> try exact D1.no
    rename_i kt et
    refine D1.gd ?_
    cases zeroOf P et with
    | none => exact D1.no
    | some z =>
      cases m <;> try exact D1.no
      rename_i r
      cases r with
      | none => exact D1.k _
      | some r =>
        refine D1.ex fun es => D1.and ?_
        cases mfind P kt k es with
        | none => exact D1.k _
        | some v =>
          intro K h
          obtain ⟨v', h1, h2⟩ := seenK_D1 z v _ h
          exact ⟨_, h1, fun K' h' => h2 _ h'⟩
theorem boundK_D1 (E : Operand → Option Value) (o : Option Operand) (d : Int) {T : Int → (Value → Prop) → Prop} (h : ∀ n, D1 (T n)) : D1 (fun K => boundK E o d fun n => T n K) := by
  cases o with
  | none => exact h d
  | some x =>
    simp only [boundK]
    cases E x with
    | none => exact D1.no
    | some v => cases v <;> first | exact D1.no | exact h _
theorem sliceK_D1 (P : Program) (E : Operand → Option Value) (t : TypeId) (x : Value) (lo hi : Option Operand) : D1 (sliceK P E t x lo hi) := by
  unfold sliceK
  intro K h
  split at h
  · exact boundK_D1 E lo 0 (fun _ => boundK_D1 E hi _ fun _ => D1.gd (D1.k _)) K h
  · rename_i e a n k hu
    cases hi' : P.info? e with
    | none => rw [hi'] at h; exact h.elim
    | some i =>
      rw [hi'] at h
      refine boundK_D1 E lo 0 (fun _ => boundK_D1 E hi _ fun _ => D1.gd ?_) K h
      cases a <;> exact D1.k _
  · rename_i n e p hu
    refine D1.opt (fun ad => ?_) K h
    cases hi' : P.info? e with
    | none => exact D1.no
    | some i => exact boundK_D1 E lo 0 (fun _ => boundK_D1 E hi _ fun _ => D1.gd (D1.k _))
  · exact h.elim
theorem partK_D1 (P : Program) (t : TypeId) (cs : List Value) (off : Nat) : D1 (partK P t cs off) := by
  unfold partK
  cases P.info? t with
  | none => exact D1.no
  | some i => cases P.underlying t with
    | none => exact D1.no
    | some d => exact D1.mat (D1.k _) D1.optk
theorem fieldAddrK_D1 (P : Program) (t : TypeId) (f : Nat) (x : Value) : D1 (fieldAddrK P t f x) := by
  unfold fieldAddrK
  cases fieldOf P t f with
  | none => exact D1.no
  | some fd => cases x <;> first | exact D1.no | exact D1.opt fun _ => D1.gd (D1.k _)
theorem indexAddrK_D1 (P : Program) (t : TypeId) (x ix : Value) : D1 (indexAddrK P t x ix) := by
  unfold indexAddrK
  cases ix <;> try exact D1.no
  cases P.underlying t with
  | none => exact D1.no
  | some d =>
    cases d <;> try exact D1.no
    all_goals cases x <;> try exact D1.no
    all_goals
      simp only
      generalize P.info? _ = oi
      cases oi with
      | none => exact D1.no
      | some i => exact D1.opt fun _ => D1.gd (D1.k _)
theorem indexK_D1 (P : Program) (t : TypeId) (x ix : Value) : D1 (indexK P t x ix) := by
  unfold indexK
  cases ix <;> try exact D1.no
  cases P.underlying t with
  | none => exact D1.no
  | some d =>
    cases d <;> try exact D1.no
    all_goals cases x <;> try exact D1.no
    · exact D1.gd (D1.k _)
    · simp only
      generalize P.info? _ = oi
      cases oi with
      | none => exact D1.no
      | some i => exact D1.gd (partK_D1 _ _ _ _)

/-! operations -/
def DP (T : Hp → (Value → Hp → Prop) → Prop) : Prop := ∀ H K, T H K → ∃ v, K v H ∧ ∀ H' K', K' v H' → T H' K'
def DQ (H : Hp) (T : (Value → Hp → Prop) → Prop) : Prop := ∀ K, T K → ∃ v, K v H ∧ ∀ K', K' v H → T K'
def DG (T : (Value → Hp → Prop) → Prop) : Prop := ∀ K, T K → ∃ v H1, K v H1 ∧ ∀ K', K' v H1 → T K'
theorem DP.quiet {T : Hp → (Value → Hp → Prop) → Prop} (h : DP T) (H : Hp) : DQ H (T H) := fun K hk => let ⟨v, a, b⟩ := h H K hk; ⟨v, a, fun K' h' => b H K' h'⟩
theorem DQ.gen {H : Hp} {T : (Value → Hp → Prop) → Prop} (h : DQ H T) : DG T := fun K hk => let ⟨v, a, b⟩ := h K hk; ⟨v, H, a, b⟩
theorem DP.k (v : Value) : DP (fun H K => K v H) := fun H K h => ⟨v, h, fun _ _ h => h⟩
theorem DP.no : DP (fun _ _ => False) := fun H K h => h.elim
theorem DP.of {T : (Value → Prop) → Prop} (h : D1 T) : DP (fun H K => T fun v => K v H) := fun H K hk => let ⟨v, a, b⟩ := h _ hk; ⟨v, a, fun H' K' h' => b _ h'⟩
theorem DP.opt {α : Type} {o : Option α} {T : α → Hp → (Value → Hp → Prop) → Prop} (h : ∀ x, DP (T x)) : DP (fun H K => optP o fun x => T x H K) := by
  cases o with
  | none => exact DP.no
  | some x => exact h x
theorem DP.gd {b : Bool} {T : Hp → (Value → Hp → Prop) → Prop} (h : DP T) : DP (fun H K => gd b (T H K)) := by
  cases b with
  | false => exact DP.no
  | true => exact h
theorem DQ.of {H : Hp} {T : (Value → Prop) → Prop} (h : D1 T) : DQ H (fun K => T fun v => K v H) := fun K hk => let ⟨v, a, b⟩ := h _ hk; ⟨v, a, fun K' h' => b _ h'⟩
theorem DQ.no {H : Hp} : DQ H (fun _ => False) := fun K h => h.elim
theorem DQ.opt {H : Hp} {α : Type} {o : Option α} {T : α → (Value → Hp → Prop) → Prop} (h : ∀ x, DQ H (T x)) : DQ H (fun K => optP o fun x => T x K) := by
  cases o with
  | none => exact DQ.no
  | some x => exact h x
theorem DG.no : DG (fun _ => False) := fun K h => h.elim
theorem DG.opt {α : Type} {o : Option α} {T : α → (Value → Hp → Prop) → Prop} (h : ∀ x, DG (T x)) : DG (fun K => optP o fun x => T x K) := by
  cases o with
  | none => exact DG.no
  | some x => exact h x
theorem DG.gd {b : Bool} {T : (Value → Hp → Prop) → Prop} (h : DG T) : DG (fun K => gd b (T K)) := by
  cases b with
  | false => exact DG.no
  | true => exact h
theorem DG.k (v : Value) (H : Hp) : DG (fun K => K v H) := fun K h => ⟨v, H, h, fun _ h => h⟩
theorem DG.and {p : Prop} {T : (Value → Hp → Prop) → Prop} (h : DG T) : DG (fun K => p ∧ T K) := fun K ⟨hp, hk⟩ =>
  let ⟨v, H1, a, b⟩ := h K hk; ⟨v, H1, a, fun K' h' => ⟨hp, b K' h'⟩⟩
theorem DG.all {vs : List Value} {T : (Value → Hp → Prop) → Prop} (h : DG T) : DG (fun K => allOne vs (T K)) := by
  induction vs with
  | nil => exact h
  | cons v r ih => exact DG.gd ih

def opPure : Op → Bool
  | .move _ | .assign _ | .pick .. | .build .. | .nilCheck _ | .binOp .. | .unOp .. | .makeInterface .. | .makeFunc .. | .slice .. | .fieldAddr .. | .field .. | .indexAddr .. | .index .. | .extract .. => true
  | _ => false
def opQuiet : Op → Bool
  | .load .. | .lookup .. => true
  | .call ⟨.builtin .len, _, _⟩ => true
  | .call ⟨.value _, _, _⟩ => true
  | op => opPure op
def opOK : Op → Bool
  | .alloc _ | .box .. | .buildSlice .. | .store .. => true
  | op => opQuiet op
theorem opK_pure (c : Cfg) (draw : Bool) (op : Op) (E : Operand → Option Value) (h : opPure op = true) : DP (fun H K => opK c draw op E H K) := by
  cases op <;> first | cases h | skip
  case move x => exact DP.opt fun _ => DP.k _
  case assign x => exact DP.opt fun _ => DP.k _
  case pick t a b =>
    simp only [opK]
    cases E t with
    | none => exact DP.no
    | some v => cases v <;> first | exact DP.no | (rename_i b; cases b <;> exact DP.opt fun _ => DP.k _)
  case build t ps => exact DP.opt fun _ => DP.opt fun _ => DP.opt fun _ => DP.opt fun _ => DP.k _
  case nilCheck x =>
    simp only [opK]
    cases E x with
    | none => exact DP.no
    | some v => cases v <;> first | exact DP.no | exact DP.opt fun _ => DP.k _ | (rename_i fn a b; cases fn <;> first | exact DP.no | exact DP.k _)
  case binOp op t x y _ => exact DP.opt fun _ => DP.opt fun _ => DP.of (binopK_D1 _ _ _ _ _ _ _)
  case unOp op _ x =>
    simp only [opK]
    cases op <;> (cases E x with
      | none => exact DP.no
      | some v => cases v <;> first | exact DP.no | exact DP.k _ | exact DP.opt fun _ => DP.k _)
  case makeInterface t x => exact DP.opt fun _ => DP.opt fun _ => DP.gd (DP.k _)
  case makeFunc fn xs ys => exact DP.opt fun _ => DP.opt fun _ => DP.k _
  case slice t x lo hi mx =>
    cases mx with
    | none => exact DP.opt fun _ => DP.of (sliceK_D1 _ _ _ _ _ _)
    | some _ => exact DP.no
  case fieldAddr t x f => exact DP.opt fun _ => DP.of (fieldAddrK_D1 _ _ _ _)
  case field t x f =>
    simp only [opK]
    cases E x with
    | none => exact DP.no
    | some v => cases fieldOf c.P t f with
      | none => cases v <;> exact DP.no
      | some fd => cases v <;> first | exact DP.no | exact DP.of (partK_D1 _ _ _ _)
  case indexAddr t x i => exact DP.opt fun _ => DP.opt fun _ => DP.of (indexAddrK_D1 _ _ _ _)
  case index t x i => exact DP.opt fun _ => DP.opt fun _ => DP.of (indexK_D1 _ _ _ _)
  case extract x i =>
    simp only [opK]
    cases E x with
    | none => exact DP.no
    | some v => cases v <;> first | exact DP.no | exact DP.opt fun _ => DP.k _
theorem opK_quiet {c : Cfg} (hT : ∀ k sp, c.T k = some sp → SpOK c.P c.G k sp) (op : Op) (E : Operand → Option Value) (H : Hp) (h : opQuiet op = true) : DQ H (opK c true op E H) := by
  by_cases hp : opPure op = true
  · exact (opK_pure c true op E hp).quiet H
  cases op <;> first | exact absurd rfl hp | (exfalso; exact Bool.noConfusion h) | skip
  case load t a =>
    show DQ H (fun K => opK c true _ E H K)
    simp only [opK]
    cases E a with
    | none => exact DQ.no
    | some v => cases v <;> first | exact DQ.no | exact DQ.opt fun _ => DQ.of (loadK_D1 _ _ _ _ _)
  case lookup t m k ok => exact DQ.opt fun _ => DQ.opt fun _ => DQ.of (lookupK_D1 _ _ _ _ _ _)
  case call cl =>
    obtain ⟨callee, xs, ts⟩ := cl
    cases callee with
    | invoke r m => exfalso; exact Bool.noConfusion h
    | builtin b =>
      cases b <;> first | (exfalso; exact Bool.noConfusion h) | skip
      show DQ H (fun K => opK c true _ E H K)
      simp only [opK]
      refine DQ.opt fun vs => ?_
      generalize ts.toList = tl
      rcases tl with _ | ⟨t, _ | ⟨t2, r⟩⟩ <;> rcases vs with _ | ⟨x, _ | ⟨x2, r2⟩⟩ <;> first | exact DQ.no | exact DQ.of (lenK_D1 _ _ _ _)
    | value f =>
      show DQ H (fun K => opK c true _ E H K)
      simp only [opK]
      refine DQ.opt fun vs => ?_
      cases E f with
      | none => exact DQ.no
      | some v =>
        cases v <;> try exact DQ.no
        rename_i fn a b
        cases fn <;> try exact DQ.no
        rename_i k
        show DQ H (fun K => match c.T k with | some sp => gd (!true || sp.quiet) (sp.run (a.toList ++ vs ++ b.toList) H K) | none => False)
        cases hk : c.T k with
        | none => exact DQ.no
        | some sp =>
          simp only [Bool.not_true, Bool.false_or]
          intro K hK
          obtain ⟨hq, hr⟩ := gd_elim hK
          obtain ⟨v, h1, h2⟩ := (hT k sp hk).quiet hq _ _ _ hr
          exact ⟨v, h1, fun K' h' => gd_iff.2 ⟨hq, h2 K' h'⟩⟩
theorem opK_gen {c : Cfg} (hT : ∀ k sp, c.T k = some sp → SpOK c.P c.G k sp) (op : Op) (E : Operand → Option Value) (H : Hp) (h : opOK op = true) : DG (opK c true op E H) := by
  by_cases hp : opQuiet op = true
  · exact (opK_quiet hT op E H hp).gen
  cases op <;> first | exact absurd h hp | skip
  case alloc e => exact DG.opt fun _ => DG.k _ _
  case box e x => exact DG.opt fun _ => DG.all (DG.k _ _)
  case buildSlice t n ps =>
    show DG (fun K => opK c true _ E H K)
    simp only [opK]
    refine DG.opt fun vs => ?_
    cases c.P.underlying t with
    | none => exact DG.no
    | some d =>
      cases d <;> try exact DG.no
      exact DG.opt fun _ => DG.gd (DG.gd (DG.opt fun _ => DG.all (DG.k _ _)))
  case store t a x =>
    show DG (fun K => opK c true _ E H K)
    simp only [opK]
    cases E a with
    | none => exact DG.no
    | some v =>
      cases v <;> try exact DG.no
      refine DG.opt fun _ => DG.opt fun v => ?_
      unfold storeK
      cases c.P.info? t with
      | none => exact DG.no
      | some i => exact DG.gd (DG.all (DG.and (DG.k _ _)))

/-! an operation looks at its operands alone -/
theorem argsL_congr {E E' : Operand → Option Value} : ∀ {xs : List Operand}, (∀ x ∈ xs, E x = E' x) → argsL E xs = argsL E' xs
  | [], _ => rfl
  | x :: xs, h => by
    simp only [argsL, h x List.mem_cons_self, argsL_congr fun y hy => h y (List.mem_cons_of_mem _ hy)]
theorem partsL_congr {E E' : Operand → Option Value} : ∀ {xs : List (Nat × Operand)}, (∀ x ∈ xs.map (·.2), E x = E' x) → partsL E xs = partsL E' xs
  | [], _ => rfl
  | (i, x) :: xs, h => by
    simp only [partsL, h x (by simp), partsL_congr fun y hy => h y (by simp only [List.map_cons]; exact List.mem_cons_of_mem _ hy)]
theorem opK_congr {c : Cfg} {draw : Bool} {op : Op} {E E' : Operand → Option Value} (ho : opOK op = true) (h : ∀ x ∈ op.operands, E x = E' x) (H : Hp) (K : Value → Hp → Prop) : opK c draw op E H K = opK c draw op E' H K := by
  cases op <;> first | (exfalso; exact Bool.noConfusion ho) | skip
  all_goals simp only [Op.operands] at h
  case build t ps => simp only [opK]; rw [partsL_congr (E := E) (E' := E')]; intro x hx; exact h x (by simpa using hx)
  case buildSlice t n ps => simp only [opK]; rw [partsL_congr (E := E) (E' := E')]; intro x hx; exact h x (by simpa using hx)
  case makeFunc fn xs ys =>
    simp only [opK]
    rw [argsL_congr (E := E) (E' := E') (xs := xs.toList), argsL_congr (E := E) (E' := E') (xs := ys.toList)]
    · intro x hx; have := Array.mem_def.2 hx; exact h x (by simp [this])
    · intro x hx; have := Array.mem_def.2 hx; exact h x (by simp [this])
  case call cl =>
    obtain ⟨callee, xs, ts⟩ := cl
    have ha : argsL E xs.toList = argsL E' xs.toList := argsL_congr fun x hx => by have := Array.mem_def.2 hx; exact h x (by simp [Call.operands, this])
    cases callee with
    | invoke r m => exfalso; exact Bool.noConfusion ho
    | builtin b => simp only [opK, ha]
    | value f => simp only [opK, ha, h f (by simp [Call.operands])]
  case slice t x lo hi mx =>
    cases mx with
    | some _ => rfl
    | none =>
      have hl : ∀ d (K : Int → Prop), boundK E lo d K = boundK E' lo d K := fun d K => by
        cases lo with
        | none => rfl
        | some y => simp only [boundK, h y (by simp)]
      have hh : ∀ d (K : Int → Prop), boundK E hi d K = boundK E' hi d K := fun d K => by
        cases hi with
        | none => rfl
        | some y => simp only [boundK, h y (by simp)]
      simp only [opK, sliceK, h x (by simp), hl, hh]
  all_goals (simp only [opK] <;> simp_all)
end Go.Proofs.Ytbikpfccdcblfaa.Eng
