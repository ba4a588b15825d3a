/- The engine, part 14: a region that draws its order: the order of its text serves every order. -/
import Derived.Test.YtbikpfccdcblfaaEng13a
namespace Go.Proofs.Ytbikpfccdcblfaa.Eng
open Go Go.RowKit
set_option linter.unusedVariables false
set_option linter.unusedSimpArgs false

def putV (dst : Option Tmp) (v : Value) (σ : Env) : Env := match dst with | none => σ | some d => (d, v) :: σ
def dstOK (n : Nat) (dst : Option Tmp) : Prop := match dst with | none => True | some d => Nat.ble (d + 1) n = true
theorem putE_iff {n : Nat} {dst : Option Tmp} {v : Value} {σ : Env} {K : Env → Prop} : putE n dst v σ K ↔ dstOK n dst ∧ K (putV dst v σ) := by
  cases dst with
  | none => exact ⟨fun h => ⟨trivial, h⟩, fun h => h.2⟩
  | some d => exact gd_iff
theorem look_putV (t : Nat) (dst : Option Tmp) (v : Value) (σ : Env) : look t (putV dst v σ) = if dst = some t then some v else look t σ := by
  cases dst with
  | none => simp [putV]
  | some d =>
    simp only [putV, look_cons, Option.some.injEq]
    by_cases e : t = d
    · rw [if_pos e, if_pos e.symm]
    · rw [if_neg e, if_neg (fun h => e h.symm)]
def Alike (σ σ' : Env) : Prop := ∀ t, look t σ' = look t σ
def Inv (R : Env → Hp → Prop) : Prop := ∀ σ σ' H, Alike σ σ' → R σ H → R σ' H
theorem Alike.put {σ σ' : Env} (h : Alike σ σ') (dst : Option Tmp) (v : Value) : Alike (putV dst v σ) (putV dst v σ') := fun t => by rw [look_putV, look_putV, h t]

theorem arg_same {G : Nat} {σ σ' : Env} {x : Operand} (h : ∀ t, x = .tmp t → look t σ = look t σ') : arg G σ x = arg G σ' x := by
  cases x with
  | tmp t => exact h t rfl
  | _ => rfl
theorem valK_congr {c : Cfg} {ops : Array Oper} {o : Oper} (ho : opOK o.op = true) {σ σ' : Env} (h : ∀ t ∈ o.looksAt ops, look t σ = look t σ') (H : Hp) (K : Value → Hp → Prop) : valK c true ops o σ H K = valK c true ops o σ' H K := by
  have h1 : ∀ x ∈ o.op.operands, arg c.G σ x = arg c.G σ' x := fun x hx => arg_same fun t e => by
    subst e
    exact h t (List.mem_append_left _ (List.mem_filterMap.2 ⟨.tmp t, by simpa using hx, rfl⟩))
  have h2 : ∀ d want, gslot ops o = some (some (d, want)) → look d σ = look d σ' := fun d want hg => by
    obtain ⟨j, g, e1, e2, e3⟩ := gslot_some hg
    exact h d (List.mem_append_right _ (by simp [e1, e2, e3]))
  unfold valK
  cases hg : gslot ops o with
  | none => rfl
  | some x =>
    cases x with
    | none => exact opK_congr ho h1 H K
    | some dw =>
      obtain ⟨d, want⟩ := dw
      simp only [h2 d want hg, opK_congr ho h1 H K]
theorem valK_pure (c : Cfg) (ops : Array Oper) (o : Oper) (σ : Env) (h : opPure o.op = true) : DP (fun H K => valK c true ops o σ H K) := by
  unfold valK
  cases gslot ops o with
  | none => exact DP.no
  | some x =>
    cases x with
    | none => exact opK_pure c true o.op _ h
    | some dw =>
      obtain ⟨d, want⟩ := dw
      simp only
      cases look d σ with
      | none => exact DP.no
      | some v =>
        cases v <;> try exact DP.no
        rename_i b
        simp only
        cases b == want with
        | true => exact opK_pure c true o.op _ h
        | false => exact DP.k _
theorem valK_quiet {c : Cfg} (hT : ∀ k sp, c.T k = some sp → SpOK c.P c.G k sp) (ops : Array Oper) (o : Oper) (σ : Env) (H : Hp) (h : opQuiet o.op = true) : DQ H (fun K => valK c true ops o σ H K) := by
  unfold valK
  cases gslot ops o with
  | none => exact DQ.no
  | some x =>
    cases x with
    | none => exact opK_quiet hT o.op _ H h
    | some dw =>
      obtain ⟨d, want⟩ := dw
      simp only
      cases look d σ with
      | none => exact DQ.no
      | some v =>
        cases v <;> try exact DQ.no
        rename_i b
        simp only
        cases b == want with
        | true => exact opK_quiet hT o.op _ H h
        | false => exact (DP.k undef).quiet H
theorem valK_gen {c : Cfg} (hT : ∀ k sp, c.T k = some sp → SpOK c.P c.G k sp) (ops : Array Oper) (o : Oper) (σ : Env) (H : Hp) (h : opOK o.op = true) : DG (fun K => valK c true ops o σ H K) := by
  unfold valK
  cases gslot ops o with
  | none => exact DG.no
  | some x =>
    cases x with
    | none => exact opK_gen hT o.op _ H h
    | some dw =>
      obtain ⟨d, want⟩ := dw
      simp only
      cases look d σ with
      | none => exact DG.no
      | some v =>
        cases v <;> try exact DG.no
        rename_i b
        simp only
        cases b == want with
        | true => exact opK_gen hT o.op _ H h
        | false => exact DG.k _ _

def stepA (c : Cfg) (n : Nat) (ops : Array Oper) (o : Oper) (σ : Env) (H : Hp) (R : Env → Hp → Prop) : Prop := valK c true ops o σ H fun v H => putE n o.dst v σ fun σ => R σ H
variable {c : Cfg} {n : Nat} {ops : Array Oper}
theorem stepA_one (hT : ∀ k sp, c.T k = some sp → SpOK c.P c.G k sp) {o : Oper} (ho : opOK o.op = true) {σ : Env} {H : Hp} {R : Env → Hp → Prop} (h : stepA c n ops o σ H R) : ∃ σ' H', R σ' H' ∧ ∀ R', R' σ' H' → stepA c n ops o σ H R' := by
  obtain ⟨v, H1, h1, h2⟩ := valK_gen hT ops o σ H ho _ h
  obtain ⟨k1, h1⟩ := putE_iff.1 h1
  exact ⟨_, _, h1, fun R' h' => h2 _ (putE_iff.2 ⟨k1, h'⟩)⟩
theorem stepA_mono (hT : ∀ k sp, c.T k = some sp → SpOK c.P c.G k sp) {o : Oper} (ho : opOK o.op = true) {σ : Env} {H : Hp} {R R' : Env → Hp → Prop} (hR : ∀ σ H, R σ H → R' σ H) (h : stepA c n ops o σ H R) : stepA c n ops o σ H R' := by
  obtain ⟨σ', H', h1, h2⟩ := stepA_one hT ho h
  exact h2 _ (hR _ _ h1)
theorem stepA_inv (hT : ∀ k sp, c.T k = some sp → SpOK c.P c.G k sp) {o : Oper} (ho : opOK o.op = true) {R : Env → Hp → Prop} (hR : Inv R) : Inv (fun σ H => stepA c n ops o σ H R) := by
  intro σ σ' H ha h
  obtain ⟨v, H1, h1, h2⟩ := valK_gen hT ops o σ H ho _ h
  obtain ⟨k1, h1⟩ := putE_iff.1 h1
  show valK c true ops o σ' H _
  rw [← valK_congr ho (σ := σ) (σ' := σ') (fun t _ => (ha t).symm)]
  exact h2 _ (putE_iff.2 ⟨k1, hR _ _ _ (ha.put _ _) h1⟩)

def comm (ops : Array Oper) (x y : Oper) : Bool := x.apart ops y && (opPure x.op || opPure y.op || (opQuiet x.op && opQuiet y.op))
/-- Two operations that stand apart may change places. -/
theorem step_swap (hT : ∀ k sp, c.T k = some sp → SpOK c.P c.G k sp) {x y : Oper} (hx : opOK x.op = true) (hy : opOK y.op = true) (hc : comm ops x y = true) {R : Env → Hp → Prop} (hR : Inv R) {σ : Env} {H : Hp}
    (h : stepA c n ops x σ H fun σ H => stepA c n ops y σ H R) : stepA c n ops y σ H fun σ H => stepA c n ops x σ H R := by
  simp only [comm, Bool.and_eq_true] at hc
  obtain ⟨hap, hpq⟩ := hc
  obtain ⟨a1, a2, a3⟩ := Oper.apart_spec hap
  have cy : ∀ v H K, valK c true ops y (putV x.dst v σ) H K = valK c true ops y σ H K := fun v H K => valK_congr hy (fun t ht => by rw [look_putV, if_neg (fun e => a1 t e ht)]) H K
  have cx : ∀ v H K, valK c true ops x (putV y.dst v σ) H K = valK c true ops x σ H K := fun v H K => valK_congr hx (fun t ht => by rw [look_putV, if_neg (fun e => a3 t e ht)]) H K
  have al : ∀ v u, Alike (putV y.dst u (putV x.dst v σ)) (putV x.dst v (putV y.dst u σ)) := fun v u t => by
    simp only [look_putV]
    split
    · rename_i e; rw [if_neg (a2 t e)]
    · rfl
  have fin : ∀ v u Ha H2, dstOK n x.dst → dstOK n y.dst → R (putV y.dst u (putV x.dst v σ)) H2 → (∀ K', K' u Ha → valK c true ops y σ H K') → (∀ K', K' v H2 → valK c true ops x σ Ha K') → stepA c n ops y σ H fun σ H => stepA c n ops x σ H R := by
    intro v u Ha H2 k1 k2 hr g2 g1
    refine g2 _ (putE_iff.2 ⟨k2, ?_⟩)
    show valK c true ops x (putV y.dst u σ) Ha _
    rw [cx]
    exact g1 _ (putE_iff.2 ⟨k1, hR _ _ _ (al v u) hr⟩)
  have key : opPure x.op = true ∨ opPure y.op = true ∨ (opQuiet x.op = true ∧ opQuiet y.op = true) := by
    simp only [Bool.or_eq_true, Bool.and_eq_true] at hpq
    rcases hpq with (h | h) | h
    · exact .inl h
    · exact .inr (.inl h)
    · exact .inr (.inr h)
  rcases key with hp | hp | ⟨hp, hq⟩
  · obtain ⟨v, h1, g1⟩ := valK_pure c ops x σ hp H _ h
    obtain ⟨k1, h1⟩ := putE_iff.1 h1
    have h1' := (cy v H _).mp h1
    obtain ⟨u, H2, h2, g2⟩ := valK_gen hT ops y σ H hy _ h1'
    obtain ⟨k2, h2⟩ := putE_iff.1 h2
    exact fin v u H2 H2 k1 k2 h2 g2 (fun K' hk => g1 H2 K' hk)
  · obtain ⟨v, H1, h1, g1⟩ := valK_gen hT ops x σ H hx _ h
    obtain ⟨k1, h1⟩ := putE_iff.1 h1
    have h1' := (cy v H1 _).mp h1
    obtain ⟨u, h2, g2⟩ := valK_pure c ops y σ hp H1 _ h1'
    obtain ⟨k2, h2⟩ := putE_iff.1 h2
    exact fin v u H H1 k1 k2 h2 (fun K' hk => g2 H K' hk) g1
  · obtain ⟨v, h1, g1⟩ := valK_quiet hT ops x σ H hp _ h
    obtain ⟨k1, h1⟩ := putE_iff.1 h1
    have h1' := (cy v H _).mp h1
    obtain ⟨u, h2, g2⟩ := valK_quiet hT ops y σ H hq _ h1'
    obtain ⟨k2, h2⟩ := putE_iff.1 h2
    exact fin v u H H k1 k2 h2 g2 g1

/-! who waits for whom -/
def edgeMask (M : List Nat) (es : List Edge) : Nat := es.foldr (fun e m => cond (Region.binds .any e) (Nat.lor (Nat.lor (1 <<< e.on) (M.getD e.on 0)) m) m) 0
def masksGo : List Oper → List Nat → List Nat
  | [], M => M
  | o :: os, M => masksGo os (M ++ [edgeMask M o.after.toList])
def masksOf (ops : Array Oper) : List Nat := masksGo ops.toList []
def masksOK (M : List Nat) : List Oper → Nat → Bool
  | [], _ => true
  | o :: os, k => Nat.beq (M.getD k 0) (edgeMask M o.after.toList) && (o.after.toList.all fun e => !Region.binds .any e || Nat.ble (e.on + 1) k) && masksOK M os (k + 1)
def othersOK (ops : Array Oper) (M : List Nat) (o : Oper) (i : Nat) : List Oper → Nat → Bool
  | [], _ => true
  | p :: ps, j => (Nat.testBit (M.getD j 0) i || comm ops o p) && othersOK ops M o i ps (j + 1)
def pairsOK (ops : Array Oper) (M : List Nat) : List Oper → Nat → Bool
  | [], _ => true
  | o :: os, i => othersOK ops M o i os (i + 1) && pairsOK ops M os (i + 1)
def drawOKM (ops : Array Oper) (M : List Nat) : Bool := ops.toList.all (fun o => opOK o.op) && (masksOK M ops.toList 0 && pairsOK ops M ops.toList 0)
/-- May the region's operations be run in any order that its edges allow? -/
def drawOK (c : Cfg) (ops : Array Oper) : Bool := drawOKM ops (masksOf ops)

theorem edgeMask_bit {M : List Nat} {i : Nat} : ∀ {es : List Edge}, Nat.testBit (edgeMask M es) i = true → ∃ e ∈ es, Region.binds .any e = true ∧ (e.on = i ∨ Nat.testBit (M.getD e.on 0) i = true)
  | [], h => by simp [edgeMask] at h
  | e :: es, h => by
    have hd : edgeMask M (e :: es) = cond (Region.binds .any e) ((1 <<< e.on) ||| (M.getD e.on 0) ||| edgeMask M es) (edgeMask M es) := rfl
    rw [hd] at h
    have rest : Nat.testBit (edgeMask M es) i = true → ∃ e' ∈ e :: es, Region.binds .any e' = true ∧ (e'.on = i ∨ Nat.testBit (M.getD e'.on 0) i = true) := fun h =>
      let ⟨e', a, b⟩ := edgeMask_bit h; ⟨e', List.mem_cons_of_mem _ a, b⟩
    cases hb : Region.binds .any e with
    | false => rw [hb] at h; exact rest h
    | true =>
      rw [hb] at h
      simp only [cond_true, Nat.testBit_or, Bool.or_eq_true] at h
      rcases h with (h | h) | h
      · refine ⟨e, List.mem_cons_self, hb, .inl ?_⟩
        rw [Nat.one_shiftLeft, Nat.testBit_two_pow] at h
        simpa using h
      · exact ⟨e, List.mem_cons_self, hb, .inr h⟩
      · exact rest h
theorem masksOK_get {M : List Nat} : ∀ {os : List Oper} {k : Nat}, masksOK M os k = true → ∀ j o, os[j]? = some o → M.getD (k + j) 0 = edgeMask M o.after.toList ∧ ∀ e ∈ o.after, Region.binds .any e = true → e.on < k + j
  | [], _, _, j, o, h => by simp at h
  | p :: os, k, hm, j, o, h => by
    simp only [masksOK, Bool.and_eq_true] at hm
    obtain ⟨⟨h1, h2⟩, h3⟩ := hm
    cases j with
    | zero =>
      simp only [List.getElem?_cons_zero, Option.some.injEq] at h
      subst h
      refine ⟨Nat.eq_of_beq_eq_true h1, fun e he hb => ?_⟩
      have := List.all_eq_true.1 h2 e (Array.mem_def.1 he)
      simp only [hb, Bool.not_true, Bool.false_or] at this
      exact Nat.lt_of_succ_le (Nat.le_of_ble_eq_true this)
    | succ j =>
      have := masksOK_get h3 j o (by simpa using h)
      rw [show k + 1 + j = k + (j + 1) by omega] at this
      exact this
theorem othersOK_get {ops : Array Oper} {M : List Nat} {o : Oper} {i : Nat} : ∀ {ps : List Oper} {k : Nat}, othersOK ops M o i ps k = true → ∀ j p, ps[j]? = some p → Nat.testBit (M.getD (k + j) 0) i = true ∨ comm ops o p = true
  | [], _, _, j, p, h => by simp at h
  | q :: ps, k, hm, j, p, h => by
    simp only [othersOK, Bool.and_eq_true, Bool.or_eq_true] at hm
    cases j with
    | zero =>
      simp only [List.getElem?_cons_zero, Option.some.injEq] at h
      subst h
      exact hm.1
    | succ j =>
      have := othersOK_get hm.2 j p (by simpa using h)
      rw [show k + 1 + j = k + (j + 1) by omega] at this
      exact this

/-- What is listed has all that it waits for listed. -/
def Closed (ops : Array Oper) (L : Array Bool) : Prop := ∀ k o, L.getD k false = true → ops[k]? = some o → ∀ e ∈ o.after, Region.binds .any e = true → L.getD e.on false = true
theorem Closed.set {L : Array Bool} (h : Closed ops L) {j : Nat} (hj : j ∈ Region.ready .any ops L) : Closed ops (L.setIfInBounds j true) := by
  intro k o hk ho e he hb
  refine getD_set_true ?_
  by_cases e' : k = j
  · subst e'
    obtain ⟨_, o', ho', hall⟩ := mem_ready.1 hj
    rw [ho] at ho'; cases ho'
    exact hall e he hb
  · rw [getD_set_ne false (fun x => e' x.symm)] at hk
    exact h k o hk ho e he hb
theorem no_wait {M : List Nat} (hM : masksOK M ops.toList 0 = true) {L : Array Bool} (hL : Closed ops L) {i : Nat} : ∀ (k : Nat) (o : Oper), ops[k]? = some o → (∀ e ∈ o.after, Region.binds .any e = true → L.getD e.on false = true) →
    Nat.testBit (M.getD k 0) i = true → L.getD i false = true := by
  intro k
  induction k using Nat.strongRecOn with
  | ind k ih =>
    intro o ho hall hb
    have hm := masksOK_get hM k o (by simpa using ho)
    rw [Nat.zero_add] at hm
    rw [hm.1] at hb
    obtain ⟨e, he, h1, h2⟩ := edgeMask_bit hb
    have he' := Array.mem_def.2 he
    have hl := hall e he' h1
    rcases h2 with h2 | h2
    · rw [← h2]; exact hl
    · cases hp : ops[e.on]? with
      | none =>
        have hlt : k < ops.size := (Array.getElem?_eq_some_iff.1 ho).1
        have := hm.2 e he' h1
        rw [Array.getElem?_eq_none_iff] at hp
        omega
      | some p => exact ih e.on (hm.2 e he' h1) p hp (fun e2 he2 hb2 => hL e.on p hl hp e2 he2 hb2) h2

/-- Whatever order is picked from here on. -/
def anyA (c : Cfg) (n : Nat) (ops : Array Oper) (R : Env → Hp → Prop) : Nat → Array Bool → Env → Hp → Prop
  | 0, L, σ, H => Region.ready .any ops L = [] ∧ R σ H
  | f + 1, L, σ, H => (Region.ready .any ops L = [] → R σ H) ∧ ∀ i ∈ Region.ready .any ops L, ∃ o, ops[i]? = some o ∧ stepA c n ops o σ H (anyA c n ops R f (L.setIfInBounds i true))
theorem anyA_inv (hT : ∀ k sp, c.T k = some sp → SpOK c.P c.G k sp) (hok : ∀ (i : Nat) (o : Oper), ops[i]? = some o → opOK o.op = true) {R : Env → Hp → Prop} (hR : Inv R) : ∀ (f : Nat) (L : Array Bool), Inv (anyA c n ops R f L)
  | 0, L => fun σ σ' H ha h => ⟨h.1, hR _ _ _ ha h.2⟩
  | f + 1, L => fun σ σ' H ha h => ⟨fun h0 => hR _ _ _ ha (h.1 h0), fun i hi => let ⟨o, a, b⟩ := h.2 i hi; ⟨o, a, stepA_inv hT (hok i o a) (anyA_inv hT hok hR f _) _ _ _ ha b⟩⟩
theorem anyA_first (hT : ∀ k sp, c.T k = some sp → SpOK c.P c.G k sp) (hok : ∀ (i : Nat) (o : Oper), ops[i]? = some o → opOK o.op = true) {M : List Nat} (hM : masksOK M ops.toList 0 = true) {R : Env → Hp → Prop} (hR : Inv R) {i : Nat} {oi : Oper} (hi : ops[i]? = some oi) :
    ∀ (f : Nat) (L : Array Bool) (σ : Env) (H : Hp), Closed ops L → (∀ j oj, ops[j]? = some oj → j ≠ i → L.getD j true = false → Nat.testBit (M.getD j 0) i = true ∨ comm ops oi oj = true) →
      i ∈ Region.ready .any ops L → stepA c n ops oi σ H (anyA c n ops R f (L.setIfInBounds i true)) → anyA c n ops R (f + 1) L σ H := by
  intro f
  induction f with
  | zero =>
    intro L σ H _ _ hr h
    refine ⟨fun h0 => (by rw [h0] at hr; cases hr), fun j hj => ?_⟩
    by_cases e : j = i
    · subst e; exact ⟨oi, hi, h⟩
    · have := ready_mono hj e
      obtain ⟨σ', H', h1, _⟩ := stepA_one hT (hok i oi hi) h
      rw [h1.1] at this
      cases this
  | succ f ih =>
    intro L σ H hL hfree hr h
    refine ⟨fun h0 => (by rw [h0] at hr; cases hr), fun j hj => ?_⟩
    by_cases e : j = i
    · subst e; exact ⟨oi, hi, h⟩
    · have hj2 := ready_mono hj e
      obtain ⟨hjun, oj, hoj, hall⟩ := mem_ready.1 hj
      have hiun := (mem_ready.1 hr).1
      refine ⟨oj, hoj, ?_⟩
      have hc : comm ops oi oj = true := by
        rcases hfree j oj hoj e hjun with hb | hb
        · have := no_wait hM hL j oj hoj hall hb
          rcases Nat.lt_or_ge i L.size with h' | h'
          · simp [h'] at hiun this; rw [hiun] at this; cases this
          · simp [Array.getElem?_eq_none h'] at this
        · exact hb
      have h2 : stepA c n ops oi σ H fun σ H => stepA c n ops oj σ H (anyA c n ops R f ((L.setIfInBounds i true).setIfInBounds j true)) :=
        stepA_mono hT (hok i oi hi) (fun σ1 H1 h3 => by
          obtain ⟨o', ho', h4⟩ := h3.2 j hj2
          rw [hoj] at ho'; cases ho'
          exact h4) h
      have h3 := step_swap hT (hok i oi hi) (hok j oj hoj) hc (anyA_inv hT hok hR f _) h2
      refine stepA_mono hT (hok j oj hoj) (fun σ1 H1 h4 => ih _ σ1 H1 (hL.set hj) (fun k ok hk hne hun => ?_) (ready_mono hr (fun x => e x.symm)) ?_) h3
      · refine hfree k ok hk hne ?_
        by_cases e2 : k = j
        · subst e2; exact hjun
        · rw [getD_set_ne true (fun x => e2 x.symm)] at hun; exact hun
      · rw [Array.setIfInBounds_comm _ _ e]; exact h4

/-- The order of the text. -/
def lexA (c : Cfg) (n : Nat) (ops : Array Oper) (R : Env → Hp → Prop) : List Oper → Env → Hp → Prop
  | [], σ, H => R σ H
  | o :: os, σ, H => stepA c n ops o σ H (lexA c n ops R os)
theorem lexA_inv (hT : ∀ k sp, c.T k = some sp → SpOK c.P c.G k sp) {R : Env → Hp → Prop} (hR : Inv R) : ∀ {os : List Oper}, (∀ o ∈ os, opOK o.op = true) → Inv (lexA c n ops R os)
  | [], _ => hR
  | o :: os, h => stepA_inv hT (h o List.mem_cons_self) (lexA_inv hT hR fun p hp => h p (List.mem_cons_of_mem _ hp))
theorem lexA_of (hT : ∀ k sp, c.T k = some sp → SpOK c.P c.G k sp) {R : Env → Hp → Prop} (hR : Inv R) {K : Env → Hp → Prop} (hK : ∀ σ H, K σ H → R σ H) : ∀ {os : List Oper} {σ : Env} {H : Hp}, (∀ o ∈ os, opOK o.op = true) → opersK c n true ops os σ H K → lexA c n ops R os σ H
  | [], σ, H, _, h => hK _ _ h
  | o :: os, σ, H, ho, h => by
    obtain ⟨σ', h1, h2⟩ := operK_val h
    have h3 : stepA c n ops o σ' H (fun σ H => opersK c n true ops os σ H K) := h2
    have h4 := stepA_mono hT (ho o List.mem_cons_self) (fun σ1 H1 h => lexA_of hT hR hK (fun p hp => ho p (List.mem_cons_of_mem _ hp)) h) h3
    exact stepA_inv hT (ho o List.mem_cons_self) (lexA_inv hT hR fun p hp => ho p (List.mem_cons_of_mem _ hp)) _ _ _ (fun t => (h1 t).symm) h4
def Upto (ops : Array Oper) (L : Array Bool) (k : Nat) : Prop := L.size = ops.size ∧ ∀ j, j < ops.size → L[j]? = some (decide (j < k))
theorem Upto.set {L : Array Bool} {k : Nat} (h : Upto ops L k) : Upto ops (L.setIfInBounds k true) (k + 1) := by
  refine ⟨by simp [h.1], fun j hj => ?_⟩
  by_cases e : j = k
  · subst e
    simp [Array.getElem?_setIfInBounds, h.1, hj]
  · rw [Array.getElem?_setIfInBounds_ne (fun x => e x.symm), h.2 j hj]
    congr 1
    exact decide_eq_decide.2 (by omega)
theorem Upto.closed {M : List Nat} (hM : masksOK M ops.toList 0 = true) {L : Array Bool} {k : Nat} (h : Upto ops L k) : Closed ops L := by
  intro j o hj ho e he hb
  have hlt : j < ops.size := (Array.getElem?_eq_some_iff.1 ho).1
  have hm := (masksOK_get hM j o (by simpa using ho)).2 e he hb
  rw [Nat.zero_add] at hm
  have h1 := h.2 j hlt
  have h2 := h.2 e.on (by omega)
  simp only [Array.getD_eq_getD_getElem?, h1, h2, Option.getD_some, decide_eq_true_eq] at hj ⊢
  omega
theorem lex_any (hT : ∀ k sp, c.T k = some sp → SpOK c.P c.G k sp) (hok : ∀ (i : Nat) (o : Oper), ops[i]? = some o → opOK o.op = true) {M : List Nat} (hM : masksOK M ops.toList 0 = true) {R : Env → Hp → Prop} (hR : Inv R) :
    ∀ (os : List Oper) (k : Nat) (L : Array Bool) (σ : Env) (H : Hp), (∀ j, os[j]? = ops[k + j]?) → pairsOK ops M os k = true → Upto ops L k → lexA c n ops R os σ H → anyA c n ops R os.length L σ H
  | [], k, L, σ, H, hos, _, hL, h => by
    refine ⟨?_, h⟩
    have hk : ops.size ≤ k := by have := (hos 0).symm; simpa using this
    cases hr : Region.ready .any ops L with
    | nil => rfl
    | cons x xs =>
      have hx : x ∈ Region.ready .any ops L := by rw [hr]; exact List.mem_cons_self
      obtain ⟨h0, o, ho, _⟩ := mem_ready.1 hx
      have hlt : x < ops.size := (Array.getElem?_eq_some_iff.1 ho).1
      simp only [Array.getD_eq_getD_getElem?, hL.2 x hlt, Option.getD_some, decide_eq_false_iff_not] at h0
      omega
  | o :: os, k, L, σ, H, hos, hp, hL, h => by
    have h0 : ops[k]? = some o := by have := (hos 0).symm; simpa using this
    have hlt : k < ops.size := (Array.getElem?_eq_some_iff.1 h0).1
    simp only [pairsOK, Bool.and_eq_true] at hp
    have hos' : ∀ j, os[j]? = ops[k + 1 + j]? := fun j => by have := hos (j + 1); rw [show k + 1 + j = k + (j + 1) by omega]; simpa using this
    refine anyA_first hT hok hM hR h0 os.length L σ H (hL.closed hM) (fun j oj hj hne hun => ?_) ?_ ?_
    · have hjlt : j < ops.size := (Array.getElem?_eq_some_iff.1 hj).1
      simp only [Array.getD_eq_getD_getElem?, hL.2 j hjlt, Option.getD_some, decide_eq_false_iff_not] at hun
      have := othersOK_get hp.1 (j - (k + 1)) oj (by rw [hos']; rw [show k + 1 + (j - (k + 1)) = j by omega]; exact hj)
      rw [show k + 1 + (j - (k + 1)) = j by omega] at this
      exact this
    · refine mem_ready.2 ⟨?_, o, h0, fun e he hb => ?_⟩
      · simp only [Array.getD_eq_getD_getElem?, hL.2 k hlt, Option.getD_some]; simp
      · have hm := (masksOK_get hM k o (by simpa using h0)).2 e he hb
        rw [Nat.zero_add] at hm
        simp only [Array.getD_eq_getD_getElem?, hL.2 e.on (by omega), Option.getD_some, decide_eq_true_eq]; exact hm
    · exact stepA_mono hT (hok k o h0) (fun σ1 H1 h1 => lex_any hT hok hM hR os (k + 1) _ σ1 H1 hos' hp.2 hL.set h1) h
theorem any_ok (hT : ∀ k sp, c.T k = some sp → SpOK c.P c.G k sp) {ρ0 : Ren} {B : Nat} {w0 : World} {Q : Exit → Act → World → Prop} {R : Env → Hp → Prop} (hk : ∀ σ' H' a' w', R σ' H' → St c n ρ0 B w0 σ' H' a' w' → Q .normal a' w') :
    ∀ (f : Nat) (L : Array Bool) (σ : Env) (H : Hp) (a : Act) (w : World), anyA c n ops R f L σ H → St c n ρ0 B w0 σ H a w → wpAny c.P .any ops Q f L a w
  | 0, L, σ, H, a, w, h, hs => ⟨h.1, hk _ _ _ _ h.2 hs⟩
  | f + 1, L, σ, H, a, w, h, hs => ⟨fun h0 => hk _ _ _ _ (h.1 h0) hs, fun i hi => by
      obtain ⟨o, ho, h1⟩ := h.2 i hi
      exact valK_ok hT ho hs h1 fun σ' H' a' w' h2 h3 => any_ok hT hk f _ σ' H' a' w' h2 h3⟩
theorem draw_ok (hT : ∀ k sp, c.T k = some sp → SpOK c.P c.G k sp) (hm : c.P.follows .mixedOrders = true) {ρ0 : Ren} {B : Nat} {w0 : World} {id : Nat} {Q : Exit → Act → World → Prop} {K : Env → Hp → Prop} {σ : Env} {H : Hp} {a : Act} {w : World}
    (hok : drawOK c ops = true) (hs : St c n ρ0 B w0 σ H a w) (h : opersK c n true ops ops.toList σ H K) (hk : ∀ σ' H' a' w', K σ' H' → St c n ρ0 B w0 σ' H' a' w' → Q .normal a' w') : (Code.region id ops true).wp c.P Q a w := by
  unfold drawOK drawOKM at hok
  simp only [Bool.and_eq_true] at hok
  obtain ⟨h1, h2, h3⟩ := hok
  have hall : ∀ o ∈ ops.toList, opOK o.op = true := fun o ho => List.all_eq_true.1 h1 o ho
  have hall' : ∀ (i : Nat) (o : Oper), ops[i]? = some o → opOK o.op = true := fun i o ho => hall o (by rw [← Array.getElem?_toList] at ho; exact List.mem_of_getElem? ho)
  let R : Env → Hp → Prop := fun σ H => ∃ σ', Alike σ σ' ∧ K σ' H
  have hR : Inv R := fun σ σ' H ha ⟨σ2, h2, h3⟩ => ⟨σ2, fun t => (h2 t).trans (ha t).symm, h3⟩
  have hl : lexA c n ops R ops.toList σ H := lexA_of hT hR (fun σ H h => ⟨σ, fun _ => rfl, h⟩) hall h
  have ha := lex_any hT hall' h2 hR ops.toList 0 (Array.replicate ops.size false) σ H (by simp) h3 ⟨by simp, fun j hj => by simp [hj]⟩ hl
  rw [Array.length_toList] at ha
  refine wp_region_any hm (any_ok hT (ρ0 := ρ0) (B := B) (w0 := w0) (R := R) ?_ _ _ _ _ _ _ ha ?_)
  · intro σ' H' a' w' ⟨σ2, h2, h3⟩ hs'
    exact hk σ2 H' a' w' h3 (hs'.same h2)
  · obtain ⟨ρ, a1, a2, a3, a4, a5⟩ := hs
    exact ⟨ρ, a1, a2, a3, a4, a5.drew⟩
end Go.Proofs.Ytbikpfccdcblfaa.Eng
