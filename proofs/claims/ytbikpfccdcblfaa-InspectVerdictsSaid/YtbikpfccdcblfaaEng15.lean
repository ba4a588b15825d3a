/- The engine, part 15: code, and a function. -/
import Derived.Test.YtbikpfccdcblfaaEng14
namespace Go.Proofs.Ytbikpfccdcblfaa.Eng
open Go Go.RowKit
set_option linter.unusedVariables false
set_option linter.unusedSimpArgs false

def codeOK (c : Cfg) : Code → Bool
  | .region _ ops draw => match draw with | true => drawOK c ops | false => true
  | .seq a b => codeOK c a && codeOK c b
  | .cond _ a b => codeOK c a && codeOK c b
  | .block _ b | .loop b | .scope b => codeOK c b
  | _ => true
/-- What is behind a piece of code: some abstract state that the continuation takes. -/
def Behind (c : Cfg) (n : Nat) (ρ0 : Ren) (B : Nat) (w0 : World) (K : Ex → Env → Hp → Prop) (Q : Exit → Act → World → Prop) : Prop :=
  (∀ σ H a w, K .normal σ H → St c n ρ0 B w0 σ H a w → Q .normal a w) ∧ (∀ i σ H a w, K (.exit i) σ H → St c n ρ0 B w0 σ H a w → Q (.exit i) a w) ∧ (∀ σ H a w, K .ret σ H → St c n ρ0 B w0 σ H a w → Q .ret a w)
theorem St.forgetO {c : Cfg} {n : Nat} {ρ0 : Ren} {B : Nat} {w0 : World} {σ : Env} {H : Hp} {a : Act} {w : World} (h : St c n ρ0 B w0 σ H a w) (l : Option (List Nat)) : St c n ρ0 B w0 (forgetO l σ) H a w := by
  cases l with
  | none => exact h
  | some l => exact h.forget l
theorem St.cutAt {c : Cfg} {n : Nat} {ρ0 : Ren} {B : Nat} {w0 : World} {σ : Env} {H : Hp} {a : Act} {w : World} (h : St c n ρ0 B w0 σ H a w) (b : Code) : St c n ρ0 B w0 (cutAt c b σ) H a w := by
  unfold Eng.cutAt
  split
  · exact h
  · split
    · exact h
    · exact h.forget _
theorem St.cutEnd {c : Cfg} {n : Nat} {ρ0 : Ren} {B : Nat} {w0 : World} {σ : Env} {H : Hp} {a : Act} {w : World} (h : St c n ρ0 B w0 σ H a w) (b : Code) : St c n ρ0 B w0 (cutEnd c b σ) H a w := by
  unfold Eng.cutEnd
  split
  · exact h
  · exact h.forgetO _

/-- The tables of fragments hold for a piece of code. -/
def TabsOK (c : Cfg) (n : Nat) (body : Code) : Prop := LoopsOK c n body ∧ JoinsOK c n body
theorem TabsOK.seq {c : Cfg} {n : Nat} {x y : Code} (h : TabsOK c n (.seq x y)) : TabsOK c n x ∧ TabsOK c n y ∧ ∀ j, tableAt c.joins y = some j → ∀ σ H K, j σ H K → ev c n y σ H (endsK c y K) :=
  ⟨⟨fun b hb => h.1 b (by simp [loopsOf, hb]), fun b hb => h.2 b (by simp [tailsOf, hb])⟩, ⟨fun b hb => h.1 b (by simp [loopsOf, hb]), fun b hb => h.2 b (by simp [tailsOf, hb])⟩, h.2 y (by simp [tailsOf])⟩
theorem TabsOK.cond {c : Cfg} {n : Nat} {t : Operand} {x y : Code} (h : TabsOK c n (.cond t x y)) : TabsOK c n x ∧ TabsOK c n y :=
  ⟨⟨fun b hb => h.1 b (by simp [loopsOf, hb]), fun b hb => h.2 b (by simp [tailsOf, hb])⟩, ⟨fun b hb => h.1 b (by simp [loopsOf, hb]), fun b hb => h.2 b (by simp [tailsOf, hb])⟩⟩
theorem TabsOK.loop {c : Cfg} {n : Nat} {x : Code} (h : TabsOK c n (.loop x)) : TabsOK c n x ∧ ∀ l, tableAt c.loops x = some l → ∀ σ H K, l σ H K → loopK (Eng.cutAt c x) (fun σ H K => ev c n x σ H K) big σ H K :=
  ⟨⟨fun b hb => h.1 b (by simp [loopsOf, hb]), fun b hb => h.2 b (by simpa [tailsOf] using hb)⟩, h.1 x (by simp [loopsOf])⟩
theorem TabsOK.block {c : Cfg} {n : Nat} {i : Nat} {x : Code} (h : TabsOK c n (.block i x)) : TabsOK c n x := ⟨fun b hb => h.1 b (by simpa [loopsOf] using hb), fun b hb => h.2 b (by simpa [tailsOf] using hb)⟩

theorem loop_ok {P : Program} {c : Code} {Q : Exit → Act → World → Prop} (J : Nat → Act → World → Prop) (h0 : ∀ a w, ¬ J 0 a w) (round : ∀ m a w, J (m + 1) a w → c.wp P (Exit.then (J m) Q) a w) (m : Nat) (a : Act) (w : World) (hj : J m a w) : (Code.loop c).wp P Q a w := by
  intro b k cs
  have key : ∀ m a w, J m a w → ∃ e a' w', Q e a' w' ∧ Arrives P (lone (b.at a (.code c :: .inLoop c :: k)) cs w) b k cs e a' w' := by
    intro m
    induction m with
    | zero => exact fun a w h => (h0 a w h).elim
    | succ m ih =>
      intro a w h
      obtain ⟨e, a1, w1, hq, harr⟩ := round m a w h b (.inLoop c :: k) cs
      cases e with
      | normal =>
        obtain ⟨e2, a2, w2, hq2, harr2⟩ := ih a1 w1 hq
        exact ⟨e2, a2, w2, hq2, .of_steps (Steps.trans harr (.one step_inLoop)) harr2⟩
      | exit id => exact ⟨_, a1, w1, hq, .pass (x := .inLoop c) rfl (fun _ _ => .inl (by simp)) harr⟩
      | goto l => exact ⟨_, a1, w1, hq, .pass (x := .inLoop c) rfl (fun _ _ => .inl (by simp)) harr⟩
      | ret => exact ⟨_, a1, w1, hq, .pass (x := .inLoop c) rfl (fun _ _ => .inl (by simp)) harr⟩
      | panic ch => exact ⟨_, a1, w1, hq, .pass (x := .inLoop c) rfl (fun _ _ => .inl (by simp)) harr⟩
      | outgrown => exact ⟨_, a1, w1, hq, .pass (x := .inLoop c) rfl (fun _ _ => .inl (by simp)) harr⟩
  obtain ⟨e, a', w', hq, harr⟩ := key m a w hj
  exact ⟨e, a', w', hq, .of_steps (.one step_loop) harr⟩

theorem ev_ok {c : Cfg} (hT : ∀ k sp, c.T k = some sp → SpOK c.P c.G k sp) (hm : c.P.follows .mixedOrders = true) {n : Nat} {ρ0 : Ren} {B : Nat} {w0 : World} : ∀ (code : Code), codeOK c code = true → TabsOK c n code →
    ∀ {σ : Env} {H : Hp} {K : Ex → Env → Hp → Prop} {a : Act} {w : World} {Q : Exit → Act → World → Prop}, ev c n code σ H K → St c n ρ0 B w0 σ H a w → Behind c n ρ0 B w0 K Q → code.wp c.P Q a w := by
  intro code
  induction code with
  | skip => exact fun _ _ _ _ _ _ _ _ h hs hb => wp_skip (hb.1 _ _ _ _ h hs)
  | region id ops draw =>
    intro hc _ σ H K a w Q h hs hb
    cases draw with
    | false => exact region_ok hT hs h fun σ' H' a' w' h1 h2 => hb.1 _ _ _ _ h1 h2
    | true => exact draw_ok hT hm hc hs h fun σ' H' a' w' h1 h2 => hb.1 _ _ _ _ h1 h2
  | seq x y ihx ihy =>
    intro hc ht σ H K a w Q h hs hb
    simp only [codeOK, Bool.and_eq_true] at hc
    obtain ⟨t1, t2, t3⟩ := ht.seq
    refine wp_seq (ihx hc.1 t1 h hs ⟨fun σ' H' a' w' h1 h2 => ?_, fun i σ' H' a' w' h1 h2 => hb.2.1 _ _ _ _ _ h1 h2, fun σ' H' a' w' h1 h2 => hb.2.2 _ _ _ _ h1 h2⟩)
    simp only at h1
    split at h1
    · rename_i j hj
      refine ihy hc.2 t2 (t3 j hj _ _ _ h1) (h2.cutAt y) ⟨fun σ3 H3 a3 w3 k1 k2 => hb.1 _ _ _ _ k1 (k2.cutEnd y), hb.2.1, hb.2.2⟩
    · exact ihy hc.2 t2 h1 (h2.cutAt y) hb
  | cond t x y ihx ihy =>
    intro hc ht σ H K a w Q h hs hb
    simp only [codeOK, Bool.and_eq_true] at hc
    obtain ⟨t1, t2⟩ := ht.cond
    obtain ⟨ρ, a1, a2, a3, a4, a5⟩ := id hs
    simp only [ev] at h
    split at h
    · rename_i hx; exact wp_cond_true (arg_ok a4 a2 hx).bool_inv (ihx hc.1 t1 h hs hb)
    · rename_i hx; exact wp_cond_false (arg_ok a4 a2 hx).bool_inv (ihy hc.2 t2 h hs hb)
    · exact h.elim
  | block id x ihx =>
    intro hc ht σ H K a w Q h hs hb
    refine wp_block (ihx hc ht.block h hs ⟨fun σ' H' a' w' h1 h2 => hb.1 _ _ _ _ h1 h2, fun i σ' H' a' w' h1 h2 => ?_, fun σ' H' a' w' h1 h2 => hb.2.2 _ _ _ _ h1 h2⟩)
    simp only at h1
    cases e : Nat.beq i id with
    | true => rw [e] at h1; simp only [Exit.inBlock, Nat.eq_of_beq_eq_true e, if_true]; exact hb.1 _ _ _ _ h1 h2
    | false =>
      rw [e] at h1
      have hne : i ≠ id := fun e' => by subst e'; rw [Nat.beq_refl] at e; cases e
      simp only [Exit.inBlock, hne, if_false]; exact hb.2.1 _ _ _ _ _ h1 h2
  | loop x ihx =>
    intro hc ht σ H K a w Q h hs hb
    obtain ⟨t1, t2⟩ := ht.loop
    have hl : loopK (Eng.cutAt c x) (fun σ H K => ev c n x σ H K) big (Eng.cutAt c x σ) H K := by
      simp only [ev] at h
      split at h
      · rename_i l hl; exact t2 l hl _ _ _ h
      · exact h
    refine loop_ok (fun m a w => ∃ σ H, loopK (Eng.cutAt c x) (fun σ H K => ev c n x σ H K) m σ H K ∧ St c n ρ0 B w0 σ H a w) (fun a w ⟨_, _, h, _⟩ => h) (fun m a w ⟨σ, H, h1, h2⟩ => ?_) big a w ⟨_, H, hl, hs.cutAt x⟩
    exact ihx hc t1 h1 h2 ⟨fun σ' H' a' w' k1 k2 => ⟨_, H', k1, k2.cutAt x⟩, fun i σ' H' a' w' k1 k2 => hb.2.1 _ _ _ _ _ k1 k2, fun σ' H' a' w' k1 k2 => hb.2.2 _ _ _ _ k1 k2⟩
  | label l => exact fun _ _ _ _ _ _ _ _ h hs hb => wp_label (hb.1 _ _ _ _ h hs)
  | exit id => exact fun _ _ _ _ _ _ _ _ h hs hb => wp_exit (hb.2.1 _ _ _ _ _ h (hs.forgetO _))
  | ret => exact fun _ _ _ _ _ _ _ _ h hs hb => wp_ret (hb.2.2 _ _ _ _ h (hs.forgetO _))
  | rangeFunc _ _ _ _ => exact fun _ _ _ _ _ _ _ _ h => h.elim
  | scope _ => exact fun _ _ _ _ _ _ _ _ h => h.elim
  | goto _ => exact fun _ _ _ _ _ _ _ _ h => h.elim
  | refuse _ => exact fun _ _ _ _ _ _ _ _ h => h.elim

/-! a function -/
theorem look_env0 : ∀ (vs : List Value) (i t : Nat), look t (env0 i vs) = if i ≤ t then vs[t - i]? else none
  | [], i, t => by simp [env0, look]
  | v :: vs, i, t => by
    rw [env0, look_cons, look_env0 vs (i + 1) t]
    by_cases h : t = i
    · subst h; simp
    · rw [if_neg h]
      by_cases h2 : i + 1 ≤ t
      · rw [if_pos h2, if_pos (by omega), show t - i = (t - (i + 1)) + 1 by omega]; simp
      · rw [if_neg h2, if_neg (by omega)]
theorem env0_ER {ρ : Ren} {args : List Value} {args' : Array Value} (hv : VRs ρ args args'.toList) {n : Nat} (hn : args.length ≤ n) : ER ρ n (env0 0 args) { tmps := args' ++ Array.replicate (n - args'.size) undef, defers := [] } := by
  have hsz : args'.size = args.length := by have := hv.1; simpa using this.symm
  refine ⟨by simp; omega, fun t v h => ?_⟩
  rw [look_env0] at h
  simp only [Nat.zero_le, if_true, Nat.sub_zero] at h
  obtain ⟨v', h1, h2⟩ := hv.get h
  have ht : t < args.length := (List.getElem?_eq_some_iff.1 h).1
  refine ⟨by omega, ?_⟩
  have : (args' ++ Array.replicate (n - args'.size) undef).getD t undef = v' := by
    have h3 : args'[t]? = some v' := by simpa using h1
    rw [Array.getD_eq_getD_getElem?, Array.getElem?_append_left (by omega), h3]; rfl
  rw [this]; exact h2
def resSem (tmps : Array Value) : ResultVar → Sem Value
  | .tmp t => pure (tmps.getD t undef)
  | .cell b t => do loadVar t (← asAddr (tmps.getD b undef))
theorem resK_ok {P : Program} {G : Nat} {ρ : Ren} {B : Nat} {H : Hp} {w : World} {n : Nat} {σ : Env} {a : Act} (r : Rep P G ρ B H w.heap) (he : ER ρ n σ a) : ∀ {rs : List ResultVar} {K : List Value → Prop}, resK P H σ rs K →
    ∃ vs vs', K vs ∧ VRs ρ vs vs' ∧ (rs.mapM (resSem a.tmps)).run P w = Result.ok vs' w
  | [], K, h => ⟨[], [], h, .nil ρ, rfl⟩
  | .tmp t :: rs, K, h => by
    obtain ⟨v, hv, h1⟩ := optP_elim h
    obtain ⟨vs, vs', q1, q2, q3⟩ := resK_ok r he h1
    refine ⟨v :: vs, _ :: vs', q1, .cons (he.2 t v hv).2 q2, ?_⟩
    rw [List.mapM_cons]
    simp only [resSem, Sem.run_bind, Sem.run_pure, Result.andThen_ok, q3]
  | .cell b t :: rs, K, h => by
    simp only [resK] at h
    split at h
    · rename_i p hp
      obtain ⟨ad, rfl, h1⟩ := optP_elim h
      obtain ⟨l, hl, hs, hev⟩ := (he.2 b _ hp).2.ptr_some
      obtain ⟨v, v', k1, k2, k3⟩ := loadK_ok r hl h1
      obtain ⟨vs, vs', q1, q2, q3⟩ := resK_ok r he k3
      refine ⟨v :: vs, v' :: vs', q1, .cons k2 q2, ?_⟩
      rw [List.mapM_cons]
      simp only [resSem, Sem.run_bind, Sem.run_pure, Result.andThen_ok, q3, hev, asAddr, k1]
    · exact h.elim
theorem oneOf_VR {ρ : Ren} {vs vs' : List Value} (h : VRs ρ vs vs') : VR ρ (oneOf vs) (if h : vs'.toArray.size = 1 then vs'.toArray[0] else .tuple vs'.toArray) := by
  cases vs with
  | nil => rw [h.nil_left]; exact vr_tuple (.nil ρ)
  | cons v r =>
    obtain ⟨v', r', rfl, h1, h2⟩ := h.cons_left
    cases r with
    | nil => rw [h2.nil_left]; exact h1
    | cons u r2 =>
      obtain ⟨u', r3, rfl, h3, h4⟩ := h2.cons_left
      have hne : ¬ (v' :: u' :: r3).toArray.size = 1 := by simp
      rw [dif_neg hne]
      exact vr_tuple h
theorem fn_ok {c : Cfg} (hT : ∀ k sp, c.T k = some sp → SpOK c.P c.G k sp) (hm : c.P.follows .mixedOrders = true) {k : FuncId} {fn : Func} (hf : c.P.funcs[k]? = some fn) (hc : codeOK c (bodyOf fn) = true) (ht : TabsOK c fn.ntmps (bodyOf fn))
    {args : List Value} {H : Hp} {K : Value → Hp → Prop} (h : fnK c fn args H K) {ρ : Ren} {B : Nat} {w : World} {args' : Array Value} (r : Rep c.P c.G ρ B H w.heap) (hv : VRs ρ args args'.toList) :
    Calls c.P k args' w fun e w' => ∃ v, e = .returned v ∧ Post c.P c.G ρ B w K v w' := by
  unfold fnK at h
  split at h
  · exact h.elim
  · rename_i b hb
    have hbo : bodyOf fn = b := by simp [bodyOf, hb]
    rw [hbo] at hc ht
    obtain ⟨h1, h2⟩ := gd_elim h
    refine calls_of_wp hf hb (ev_ok (ρ0 := ρ) (B := B) (w0 := w) hT hm b hc ht h2 ⟨ρ, .refl ρ, env0_ER hv (Nat.le_of_ble_eq_true h1), rfl, r, Below.refl _ _⟩ ?_)
    have fin : ∀ σ' H' (a' : Act) w', resK c.P H' σ' fn.results.toList (fun vs => K (oneOf vs) H') → St c fn.ntmps ρ B w σ' H' a' w' →
        a'.defers = [] ∧ ∃ v, (results fn a'.tmps).run c.P w' = .ok v w' ∧ (∃ u, Ending.returned v = .returned u ∧ Post c.P c.G ρ B w K u w') := by
      intro σ' H' a' w' k1 ⟨ρ', b1, b2, b3, b4, b5⟩
      obtain ⟨vs, vs', q1, q2, q3⟩ := resK_ok b4 b2 k1
      refine ⟨b3, _, ?_, _, rfl, ρ', _, H', q1, b1, oneOf_VR q2, b4, b5⟩
      have e : results fn a'.tmps = (do let vs ← fn.results.mapM (resSem a'.tmps); pure (if h : vs.size = 1 then vs[0] else .tuple vs)) := rfl
      rw [e, Array.mapM_eq_mapM_toList]
      simp only [Sem.run_bind, Sem.run_map, q3, Result.andThen_ok, Sem.run_pure]
    exact ⟨fun σ' H' a' w' k1 k2 => fin σ' H' a' w' k1 k2, fun i σ' H' a' w' k1 k2 => k1.elim, fun σ' H' a' w' k1 k2 => fin σ' H' a' w' k1 k2⟩
theorem sp_of_fn {c : Cfg} (hT : ∀ k sp, c.T k = some sp → SpOK c.P c.G k sp) (hm : c.P.follows .mixedOrders = true) {k : FuncId} {fn : Func} (hf : c.P.funcs[k]? = some fn) (hb : fn.body.isSome = true) (hn : (fn.name == "runtime.NumGoroutine") = false)
    (hc : codeOK c (bodyOf fn) = true) (ht : TabsOK c fn.ntmps (bodyOf fn)) {sp : Sp} (hq : sp.quiet = false) (hs : ∀ args H K, sp.run args H K → fnK c fn args H K) : SpOK c.P c.G k sp := by
  refine ⟨(fun h => by rw [hq] at h; cases h), fun args H K h ρ B w args' r hv => ?_⟩
  have := fn_ok hT hm hf hc ht (hs _ _ _ h) r hv
  have hb' : fn.body.isNone = false := by
    cases hx : fn.body with
    | none => rw [hx] at hb; cases hb
    | some _ => rfl
  unfold Gives
  simp only [callFunc, Sem.run_bind, run_program, Result.andThen_ok, hf, hn, hb']
  exact this

/-- .. that leaves the heap alone. -/
theorem sp_of_fnq {c : Cfg} (hT : ∀ k sp, c.T k = some sp → SpOK c.P c.G k sp) (hm : c.P.follows .mixedOrders = true) {k : FuncId} {fn : Func} (hf : c.P.funcs[k]? = some fn) (hb : fn.body.isSome = true) (hn : (fn.name == "runtime.NumGoroutine") = false)
    (hc : codeOK c (bodyOf fn) = true) (ht : TabsOK c fn.ntmps (bodyOf fn)) {sp : Sp} (hq : ∀ args H, DQ H (sp.run args H)) (hs : ∀ args H K, sp.run args H K → fnK c fn args H K) : SpOK c.P c.G k sp :=
  ⟨fun _ args H K h => hq args H K h, (sp_of_fn (sp := ⟨false, sp.run⟩) hT hm hf hb hn hc ht rfl hs).sound⟩
/-- A summary that asks more. -/
theorem SpOK.weak {P : Program} {G : Nat} {k : FuncId} {sp sp' : Sp} (h : SpOK P G k sp) (hs : ∀ args H K, sp'.run args H K → sp.run args H K) (hq : sp'.quiet = true → ∀ args H, DQ H (sp'.run args H)) : SpOK P G k sp' :=
  ⟨fun e args H K hr => hq e args H K hr, fun args H K hr => h.sound args H K (hs args H K hr)⟩
theorem DQ.k {H : Hp} (v : Value) : DQ H (fun K => K v H) := (DP.k v).quiet H
theorem DQ.gd {H : Hp} {b : Bool} {T : (Value → Hp → Prop) → Prop} (h : DQ H T) : DQ H (fun K => gd b (T K)) := by
  cases b with
  | false => exact DQ.no
  | true => exact h
theorem DQ.and {H : Hp} {p : Prop} {T : (Value → Hp → Prop) → Prop} (h : DQ H T) : DQ H (fun K => p ∧ T K) := fun K ⟨hp, hk⟩ =>
  let ⟨v, a, b⟩ := h K hk; ⟨v, a, fun K' h' => ⟨hp, b K' h'⟩⟩
theorem DQ.ex {H : Hp} {α : Type} {T : α → (Value → Hp → Prop) → Prop} (h : ∀ x, DQ H (T x)) : DQ H (fun K => ∃ x, T x K) := fun K ⟨x, hk⟩ =>
  let ⟨v, a, b⟩ := h x K hk; ⟨v, a, fun K' h' => ⟨x, b K' h'⟩⟩

/-! how a printed function is tied -/
def firstIs (i : Nat) (b : Code) : Bool := match firstR b with | some j => Nat.beq i j | none => false
theorem firstIs_of {t : List (Nat × Frag)} {b : Code} {l : Frag} (h : tableAt (fun k => lk k t) b = some l) : ∃ i, (i, l) ∈ t ∧ firstIs i b = true := by
  unfold tableAt at h
  split at h
  · cases h
  · rename_i i hi
    exact ⟨i, lk_mem h, by simp [firstIs, hi]⟩
theorem loops_ok {c : Cfg} {n : Nat} {body : Code} (t : List (Nat × Frag)) (hj : c.loops = fun k => lk k t)
    (h : ∀ i l, (i, l) ∈ t → ∀ b ∈ (loopsOf body).filter (firstIs i), ∀ σ H K, l σ H K → loopK (cutAt c b) (fun σ H K => ev c n b σ H K) big σ H K) : LoopsOK c n body := by
  intro b hb l hl
  rw [hj] at hl
  obtain ⟨i, h1, h2⟩ := firstIs_of hl
  exact h i l h1 b (List.mem_filter.2 ⟨hb, h2⟩)
theorem joins_ok {c : Cfg} {n : Nat} {body : Code} (t : List (Nat × Frag)) (hj : c.joins = fun k => lk k t)
    (h : ∀ i l, (i, l) ∈ t → ∀ b ∈ (tailsOf body).filter (firstIs i), ∀ σ H K, l σ H K → ev c n b σ H (endsK c b K)) : JoinsOK c n body := by
  intro b hb l hl
  rw [hj] at hl
  obtain ⟨i, h1, h2⟩ := firstIs_of hl
  exact h i l h1 b (List.mem_filter.2 ⟨hb, h2⟩)
theorem funs_ok {c : Cfg} (t : List (Nat × Sp)) (hj : c.T = fun k => lk k t) (h : ∀ i s, (i, s) ∈ t → SpOK c.P c.G i s) : ∀ k sp, c.T k = some sp → SpOK c.P c.G k sp := by
  intro k sp hk
  rw [hj] at hk
  exact h k sp (lk_mem hk)
end Go.Proofs.Ytbikpfccdcblfaa.Eng
