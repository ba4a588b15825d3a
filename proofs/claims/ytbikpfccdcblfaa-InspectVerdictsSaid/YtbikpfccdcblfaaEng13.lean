/- The engine, part 13: a region, in the order of its text. -/
import Derived.Test.YtbikpfccdcblfaaEng12
namespace Go.Proofs.Ytbikpfccdcblfaa.Eng
open Go Go.RowKit
set_option linter.unusedVariables false
set_option linter.unusedSimpArgs false

/-- How the abstract state stands to the walk's. -/
def St (c : Cfg) (n : Nat) (ρ0 : Ren) (B : Nat) (w0 : World) (σ : Env) (H : Hp) (a : Act) (w : World) : Prop :=
  ∃ ρ, ρ0.ext ρ ∧ ER ρ n σ a ∧ a.defers = [] ∧ Rep c.P c.G ρ B H w.heap ∧ Below B w0 w

theorem ER.mono {ρ ρ' : Ren} {n : Nat} {σ : Env} {a : Act} (h : ER ρ n σ a) (hρ : ρ.ext ρ') : ER ρ' n σ a := ⟨h.1, fun t v hv => let ⟨x, y⟩ := h.2 t v hv; ⟨x, y.mono hρ⟩⟩
theorem look_cons (t d : Nat) (v : Value) (σ : Env) : look t ((d, v) :: σ) = if t = d then some v else look t σ := by
  show cond (Nat.beq t d) (some v) (look t σ) = _
  cases e : Nat.beq t d with
  | true => rw [if_pos (Nat.eq_of_beq_eq_true e)]; rfl
  | false => rw [if_neg (fun h => by subst h; rw [Nat.beq_refl] at e; cases e)]; rfl
theorem ER.put {ρ : Ren} {n : Nat} {σ : Env} {a : Act} (h : ER ρ n σ a) {d : Nat} (hd : d < n) {v v' : Value} (hv : VR ρ v v') : ER ρ n ((d, v) :: σ) (a.put (some d) v') := by
  refine ⟨by simp [Act.put, h.1], fun t u hu => ?_⟩
  rw [look_cons] at hu
  split at hu
  · rename_i e
    cases hu
    subst e
    refine ⟨hd, ?_⟩
    have hs : t < a.tmps.size := by rw [h.1]; exact hd
    simpa [Act.put, Array.getElem?_setIfInBounds, hs] using hv
  · rename_i e
    obtain ⟨h1, h2⟩ := h.2 t u hu
    refine ⟨h1, ?_⟩
    have : (a.put (some d) v').tmps.getD t undef = a.tmps.getD t undef := by
      simp only [Act.put, Array.getD_eq_getD_getElem?]
      rw [Array.getElem?_setIfInBounds_ne (fun e' => e e'.symm)]
    rw [this]; exact h2
theorem ER.putO {ρ : Ren} {n : Nat} {σ : Env} {a : Act} (h : ER ρ n σ a) {dst : Option Tmp} {v v' : Value} (hv : VR ρ v v') {K : Env → Prop} (hp : putE n dst v σ K) : ∃ σ', K σ' ∧ ER ρ n σ' (a.put dst v') := by
  cases dst with
  | none => exact ⟨σ, hp, h⟩
  | some d =>
    obtain ⟨h1, h2⟩ := gd_elim hp
    exact ⟨_, h2, h.put (Nat.lt_of_succ_le (Nat.le_of_ble_eq_true h1)) hv⟩
theorem put_defers (a : Act) (dst : Option Tmp) (v : Value) : (a.put dst v).defers = a.defers := by cases dst <;> rfl
theorem ER.same {ρ : Ren} {n : Nat} {σ σ' : Env} {a : Act} (h : ER ρ n σ a) (hs : ∀ t, look t σ' = look t σ) : ER ρ n σ' a := ⟨h.1, fun t v hv => h.2 t v (by rw [← hs]; exact hv)⟩
theorem St.same {c : Cfg} {n : Nat} {ρ0 : Ren} {B : Nat} {w0 : World} {σ σ' : Env} {H : Hp} {a : Act} {w : World} (h : St c n ρ0 B w0 σ H a w) (hs : ∀ t, look t σ' = look t σ) : St c n ρ0 B w0 σ' H a w :=
  let ⟨ρ, a1, a2, a3, a4, a5⟩ := h; ⟨ρ, a1, a2.same hs, a3, a4, a5⟩
theorem look_lit {d t : Nat} {v : Value} {σ : Env} (h : look d σ = some v) : look t ((d, v) :: σ) = look t σ := by
  rw [look_cons]
  split
  · rename_i e; rw [e, h]
  · rfl
theorem look_forget {live : List Nat} {σ : Env} {t : Nat} {v : Value} (h : look t (forget live σ) = some v) : look t σ = some v := by
  unfold forget at h
  induction live with
  | nil => simp [look] at h
  | cons u r ih =>
    rw [List.filterMap_cons] at h
    cases hu : look u σ with
    | none => rw [hu] at h; exact ih h
    | some x =>
      rw [hu] at h
      simp only [Option.map_some] at h
      rw [look_cons] at h
      split at h
      · rename_i e; cases h; rw [e]; exact hu
      · exact ih h
theorem St.forget {c : Cfg} {n : Nat} {ρ0 : Ren} {B : Nat} {w0 : World} {σ : Env} {H : Hp} {a : Act} {w : World} (h : St c n ρ0 B w0 σ H a w) (live : List Nat) : St c n ρ0 B w0 (forget live σ) H a w :=
  let ⟨ρ, a1, a2, a3, a4, a5⟩ := h; ⟨ρ, a1, ⟨a2.1, fun t v hv => a2.2 t v (look_forget hv)⟩, a3, a4, a5⟩

/-! guards -/
theorem yielded_of {ρ : Ren} {n : Nat} {σ : Env} {a : Act} (h : ER ρ n σ a) {ops : Array Oper} {j : Nat} {g : Oper} (hg : ops[j]? = some g) {d : Nat} (hd : g.dst = some d) {b : Bool} (hb : look d σ = some (.bool b)) : yielded ops a.tmps j = some b := by
  obtain ⟨h1, h2⟩ := h.2 d _ hb
  have hv := h2.bool_inv
  have hs : d < a.tmps.size := by rw [h.1]; exact h1
  have : a.tmps[d]? = some (.bool b) := by
    rw [Array.getD_eq_getD_getElem?, Array.getElem?_eq_getElem hs] at hv
    rw [Array.getElem?_eq_getElem hs]
    simpa using hv
  simp [yielded, hg, hd, this]
theorem gslot_none {ops : Array Oper} {o : Oper} (h : gslot ops o = some none) : o.guard = none := by
  unfold gslot at h
  split at h
  · assumption
  · split at h
    · cases h
    · split at h <;> cases h
theorem gslot_some {ops : Array Oper} {o : Oper} {d : Nat} {want : Bool} (h : gslot ops o = some (some (d, want))) : ∃ j g, o.guard = some (j, want) ∧ ops[j]? = some g ∧ g.dst = some d := by
  unfold gslot at h
  split at h
  · cases h
  · rename_i j want' hg
    split at h
    · cases h
    · rename_i g hg'
      split at h
      · cases h
      · rename_i d' hd
        simp only [Option.some.injEq, Prod.mk.injEq] at h
        obtain ⟨rfl, rfl⟩ := h
        exact ⟨j, g, hg, hg', hd⟩

/-- What an operation of a region asks, at the level of its value. -/
def valK (c : Cfg) (draw : Bool) (ops : Array Oper) (o : Oper) (σ : Env) (H : Hp) (K : Value → Hp → Prop) : Prop :=
  match gslot ops o with
  | none => False
  | some none => opK c draw o.op (arg c.G σ) H K
  | some (some (d, want)) => match look d σ with
    | some (.bool b) => match b == want with
      | true => opK c draw o.op (arg c.G σ) H K
      | false => K undef H
    | _ => False
theorem valK_ok {c : Cfg} (hT : ∀ k sp, c.T k = some sp → SpOK c.P c.G k sp) {n : Nat} {ρ0 : Ren} {B : Nat} {w0 : World} {σ : Env} {H : Hp} {a : Act} {w : World} {draw : Bool} {ops : Array Oper} {i : Nat} {o : Oper} (hi : ops[i]? = some o)
    (hs : St c n ρ0 B w0 σ H a w) {K : Env → Hp → Prop} (h : valK c draw ops o σ H fun v H => putE n o.dst v σ fun σ => K σ H) {Q : Exit → Act → World → Prop} {next : Act → World → Prop}
    (hk : ∀ σ' H' a' w', K σ' H' → St c n ρ0 B w0 σ' H' a' w' → next a' w') : wpOp c.P ops Q i next a w := by
  obtain ⟨ρ, a1, a2, a3, a4, a5⟩ := hs
  have run : opK c draw o.op (arg c.G σ) H (fun v H => putE n o.dst v σ fun σ => K σ H) → o.wp c.P a w next Q := by
    intro h
    refine (op_ok hT a4 (fun x v hx => arg_ok a4 a2 hx) h).wp fun v' w' hp => ?_
    obtain ⟨ρ', v, H', q1, q2, q3, q4, q5⟩ := hp
    obtain ⟨σ', q6, q7⟩ := (a2.mono q2).putO q3 q1
    exact hk σ' H' _ w' q6 ⟨ρ', a1.trans q2, q7, by rw [put_defers]; exact a3, q4, a5.trans q5⟩
  have skip : putE n o.dst undef σ (fun σ => K σ H) → next (a.put o.dst undef) w := by
    intro h
    obtain ⟨σ', q6, q7⟩ := a2.putO (undef_VR ρ) h
    exact hk σ' H _ w q6 ⟨ρ, a1, q7, by rw [put_defers]; exact a3, a4, a5⟩
  unfold wpOp
  simp only [hi]
  unfold valK at h
  split at h
  · exact h.elim
  · rename_i hg
    have hw : Region.wanted o (yielded ops a.tmps) = true := by simp [Region.wanted, gslot_none hg]
    rw [if_pos hw]
    exact .inl (run h)
  · rename_i d want hg
    obtain ⟨j, g, e1, e2, e3⟩ := gslot_some hg
    split at h
    · rename_i b hb
      have hy := yielded_of a2 e2 e3 hb
      have hw : Region.wanted o (yielded ops a.tmps) = (b == want) := by
        simp only [Region.wanted, e1, hy]
        cases b <;> cases want <;> rfl
      rw [hw]
      split at h
      · rename_i e; rw [if_pos e]; exact .inl (run h)
      · rename_i e; rw [if_neg (by rw [e]; simp)]; exact skip h
    · exact h.elim
/-- An operation in its slot is the same at its value, under an environment that shows the same. -/
theorem operK_val {c : Cfg} {n : Nat} {draw : Bool} {ops : Array Oper} {o : Oper} {σ : Env} {H : Hp} {K : Env → Hp → Prop} (h : operK c n draw ops o σ H K) :
    ∃ σ', (∀ t, look t σ' = look t σ) ∧ valK c draw ops o σ' H fun v H => putE n o.dst v σ' fun σ => K σ H := by
  unfold operK at h
  split at h
  · exact h.elim
  · rename_i hg
    refine ⟨σ, fun _ => rfl, ?_⟩
    unfold valK; rw [hg]; exact h
  · rename_i d want hg
    split at h
    · rename_i hb
      refine ⟨_, fun t => look_lit hb, ?_⟩
      have hb' := (look_lit (t := d) hb).trans hb
      unfold valK; rw [hg]; simp only [hb']
      cases want <;> exact h
    · rename_i hb
      refine ⟨_, fun t => look_lit hb, ?_⟩
      have hb' := (look_lit (t := d) hb).trans hb
      unfold valK; rw [hg]; simp only [hb']
      cases want <;> exact h
    · exact h.elim
theorem operK_ok {c : Cfg} (hT : ∀ k sp, c.T k = some sp → SpOK c.P c.G k sp) {n : Nat} {ρ0 : Ren} {B : Nat} {w0 : World} {σ : Env} {H : Hp} {a : Act} {w : World} {draw : Bool} {ops : Array Oper} {i : Nat} {o : Oper} (hi : ops[i]? = some o)
    (hs : St c n ρ0 B w0 σ H a w) {K : Env → Hp → Prop} (h : operK c n draw ops o σ H K) {Q : Exit → Act → World → Prop} {next : Act → World → Prop}
    (hk : ∀ σ' H' a' w', K σ' H' → St c n ρ0 B w0 σ' H' a' w' → next a' w') : wpOp c.P ops Q i next a w := by
  obtain ⟨σ', h1, h2⟩ := operK_val h
  exact valK_ok hT hi (hs.same h1) h2 hk
theorem opersK_ok {c : Cfg} (hT : ∀ k sp, c.T k = some sp → SpOK c.P c.G k sp) {n : Nat} {ρ0 : Ren} {B : Nat} {w0 : World} {draw : Bool} {ops : Array Oper} {Q : Exit → Act → World → Prop} {K : Env → Hp → Prop}
    (hk : ∀ σ' H' a' w', K σ' H' → St c n ρ0 B w0 σ' H' a' w' → Q .normal a' w') : ∀ {os : List Oper} {k : Nat} {σ : Env} {H : Hp} {a : Act} {w : World} (_ : ∀ j, os[j]? = ops[k + j]?) (_ : St c n ρ0 B w0 σ H a w) (_ : opersK c n draw ops os σ H K),
    wpOps c.P ops Q (List.range' k os.length) a w
  | [], k, σ, H, a, w, ho, hs, h => hk _ _ _ _ h hs
  | o :: os, k, σ, H, a, w, ho, hs, h => by
    rw [List.length_cons, List.range'_succ, wpOps_cons]
    exact operK_ok hT (by have := ho 0; simpa using this.symm) hs h fun σ' H' a' w' h1 h2 =>
      opersK_ok hT hk (fun j => by have := ho (j + 1); rw [show k + 1 + j = k + (j + 1) by omega]; simpa using this) h2 h1
theorem region_ok {c : Cfg} (hT : ∀ k sp, c.T k = some sp → SpOK c.P c.G k sp) {n : Nat} {ρ0 : Ren} {B : Nat} {w0 : World} {id : Nat} {ops : Array Oper} {Q : Exit → Act → World → Prop} {K : Env → Hp → Prop} {σ : Env} {H : Hp} {a : Act} {w : World}
    (hs : St c n ρ0 B w0 σ H a w) (h : opersK c n false ops ops.toList σ H K) (hk : ∀ σ' H' a' w', K σ' H' → St c n ρ0 B w0 σ' H' a' w' → Q .normal a' w') : (Code.region id ops false).wp c.P Q a w := by
  refine wp_region ?_
  have := opersK_ok hT (Q := Q) hk (k := 0) (os := ops.toList) (ops := ops) (fun j => by simp) hs h
  rw [Array.length_toList] at this
  rw [List.range_eq_range']
  exact this
end Go.Proofs.Ytbikpfccdcblfaa.Eng
