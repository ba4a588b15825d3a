/- The engine, part 10: maps. -/
import Derived.Test.YtbikpfccdcblfaaEng9
namespace Go.Proofs.Ytbikpfccdcblfaa.Eng
open Go Go.RowKit
set_option linter.unusedVariables false
set_option linter.unusedSimpArgs false
variable {P : Program} {G : Nat} {ρ : Ren} {B : Nat} {H : Hp} {w : World} {n : Nat} {σ : Env} {a : Act}

theorem scalar_same {t : TypeId} {v v' : Value} (h : scalarTy P t v = true) (hv : VR ρ v v') : v' = v := by
  unfold scalarTy at h
  split at h
  · cases hv; rfl
  · cases hv; rfl
  · cases hv; rfl
  · cases h
theorem fieldsKey_same : ∀ {fs : List Field} {i : Nat} {vs vs' : List Value}, fieldsKey P i fs vs = true → VRs ρ vs vs' → vs' = vs
  | [], i, [], vs', h, hv => hv.nil_left
  | [], i, v :: vs, vs', h, hv => by simp [fieldsKey] at h
  | f :: fs, i, [], vs', h, hv => by simp [fieldsKey] at h
  | f :: fs, i, v :: vs, vs', h, hv => by
    obtain ⟨v', r', rfl, h1, h2⟩ := hv.cons_left
    simp only [fieldsKey, Bool.and_eq_true] at h
    rw [scalar_same h.2.2.2.1 h1, fieldsKey_same h.2.2.2.2 h2]
/-- A key is the same on both sides. -/
theorem key_same {t : TypeId} {k k' : Value} (h : keyTy P t k = true) (hk : VR ρ k k') : k' = k := by
  unfold keyTy at h
  split at h
  · rename_i cs
    split at h
    · simp only [Bool.and_eq_true] at h
      obtain ⟨cs', rfl, hc⟩ := hk.agg_inv
      have := fieldsKey_same h.2 hc
      rw [show cs' = cs from Array.ext' this]
    · cases h
  · exact scalar_same h hk
theorem scalar_plain {t : TypeId} {v : Value} (h : scalarTy P t v = true) : plainV v = true := by
  unfold scalarTy at h
  split at h <;> first | rfl | cases h
theorem fieldsKey_plain : ∀ {fs : List Field} {i : Nat} {vs : List Value}, fieldsKey P i fs vs = true → vs.all plainV = true
  | [], i, [], h => rfl
  | [], i, v :: vs, h => by simp [fieldsKey] at h
  | f :: fs, i, [], h => by simp [fieldsKey] at h
  | f :: fs, i, v :: vs, h => by
    simp only [fieldsKey, Bool.and_eq_true] at h
    simp only [List.all_cons, Bool.and_eq_true]
    exact ⟨scalar_plain h.2.2.2.1, fieldsKey_plain h.2.2.2.2⟩
theorem key_const {t : TypeId} {k : Value} (h : keyTy P t k = true) : constOK k = true := by
  unfold keyTy at h
  split at h
  · split at h
    · simp only [Bool.and_eq_true] at h; exact fieldsKey_plain h.2
    · cases h
  · rename_i hne
    have := scalar_plain h
    unfold constOK
    split
    · exact (hne _ rfl).elim
    · exact this
theorem key_VR {t : TypeId} {k : Value} (h : keyTy P t k = true) (ρ : Ren) : VR ρ k k := const_VR (key_const h) ρ
theorem scalar_eqV {t : TypeId} {x y : Value} (hx : scalarTy P t x = true) (hy : scalarTy P t y = true) (d : Nat) : ∃ r, eqV P (d + 1) t x y = some r ∧ (r = true ↔ x = y) := by
  unfold scalarTy at hx
  split at hx
  · rename_i k k' m ht
    simp only [scalarTy, ht] at hy
    split at hy <;> first | (rename_i e; cases e; done) | cases hy | skip
    rename_i k3 k'' m' e
    cases e
    have h1 : k = k' := of_decide_eq_true hx
    have h2 : k = k'' := of_decide_eq_true hy
    subst h1; subst h2
    exact ⟨decide (m = m'), by unfold eqV; simp [ht], by simp⟩
  · rename_i s ht
    simp only [scalarTy, ht] at hy
    split at hy <;> first | (rename_i e; cases e; done) | cases hy | skip
    rename_i s' _
    exact ⟨decide (s = s'), by unfold eqV; simp [ht], by simp⟩
  · rename_i s ht
    simp only [scalarTy, ht] at hy
    split at hy <;> first | (rename_i e; cases e; done) | cases hy | skip
    rename_i s' _
    exact ⟨decide (s = s'), by unfold eqV; simp [ht], by simp⟩
  · cases hx
theorem fields_eqV (d : Nat) : ∀ {fs : List Field} {i : Nat} {xs ys : List Value} {X Y : List Value}, fieldsKey P i fs xs = true → fieldsKey P i fs ys = true → (∀ j, X[i + j]? = xs[j]?) → (∀ j, Y[i + j]? = ys[j]?) →
    ∃ r, eqV.eqFields P (d + 1) X Y fs = some r ∧ (r = true ↔ xs = ys)
  | [], i, [], [], X, Y, hx, hy, h1, h2 => ⟨true, by simp [eqV.eqFields], by simp⟩
  | [], i, v :: vs, ys, X, Y, hx, hy, h1, h2 => by simp [fieldsKey] at hx
  | [], i, [], v :: vs, X, Y, hx, hy, h1, h2 => by simp [fieldsKey] at hy
  | f :: fs, i, [], ys, X, Y, hx, hy, h1, h2 => by simp [fieldsKey] at hx
  | f :: fs, i, v :: vs, [], X, Y, hx, hy, h1, h2 => by simp [fieldsKey] at hy
  | f :: fs, i, x :: xs, y :: ys, X, Y, hx, hy, h1, h2 => by
    simp only [fieldsKey, Bool.and_eq_true] at hx hy
    have ho : f.offset = i := Nat.eq_of_beq_eq_true hx.2.1
    have ha : aggTy P f.type = false := by have := hx.2.2.1; simpa using this
    have e1 : X[f.offset]? = some x := by rw [ho]; exact h1 0
    have e2 : Y[f.offset]? = some y := by rw [ho]; exact h2 0
    obtain ⟨r1, q1, q2⟩ := fields_eqV d hx.2.2.2.2 hy.2.2.2.2 (X := X) (Y := Y) (fun j => by rw [show i + 1 + j = i + (j + 1) by omega]; exact h1 (j + 1)) (fun j => by rw [show i + 1 + j = i + (j + 1) by omega]; exact h2 (j + 1))
    obtain ⟨r2, q3, q4⟩ := scalar_eqV hx.2.2.2.1 hy.2.2.2.1 d
    refine ⟨r2 && r1, ?_, ?_⟩
    · rw [eqV.eqFields]
      simp only [hx.1, ha, e1, e2, q3, q1]
    · rw [Bool.and_eq_true, q2, q4]
      simp
/-- Two keys of one type are held against each other. -/
theorem key_eqV {t : TypeId} {x y : Value} (hx : keyTy P t x = true) (hy : keyTy P t y = true) : ∃ r, eqV P 5 t x y = some r ∧ (r = true ↔ x = y) := by
  unfold keyTy at hx
  split at hx
  · rename_i xs
    split at hx
    · rename_i fs ht
      simp only [Bool.and_eq_true] at hx
      unfold keyTy at hy
      split at hy
      · rename_i ys
        simp only [ht, Bool.and_eq_true] at hy
        have hs : P.stoodInHeld t = false := by simpa using hx.1
        obtain ⟨r, h, h'⟩ := fields_eqV 3 hx.2 hy.2 (X := xs.toList) (Y := ys.toList) (fun j => by simp) (fun j => by simp)
        refine ⟨r, by unfold eqV; simp only [ht, hs, h], ?_⟩
        rw [h']
        exact ⟨fun e => by rw [Array.ext' e], fun e => by cases e; rfl⟩
      · simp [scalarTy, ht] at hy
    · cases hx
  · rename_i hne
    cases y with
    | agg ys =>
      exfalso
      unfold keyTy at hy
      simp only at hy
      split at hy
      · rename_i fs ht; simp [scalarTy, ht] at hx
      · cases hy
    | _ => exact scalar_eqV hx (by unfold keyTy at hy; exact hy) 4
theorem key_equal {t : TypeId} {x y : Value} (hx : keyTy P t x = true) (hy : keyTy P t y = true) (w : World) : ∃ r, (Op.equal t x y).run P w = .ok r w ∧ keyEq P t x y = r ∧ (r = true ↔ x = y) := by
  obtain ⟨r, h1, h2⟩ := key_eqV hx hy
  exact ⟨r, equal_ok h1 (key_VR hx (fun _ => none)) (key_VR hy (fun _ => none)) w, by simp [keyEq, h1], h2⟩
theorem run_check_scalar {t : TypeId} {v : Value} (h : scalarTy P t v = true) (em : Bool) (d : Nat) (w : World) : (Instr.checkKey em (d + 1) t v).run P w = .ok () w := by
  unfold scalarTy at h
  split at h
  · rename_i ht; simp [Instr.checkKey, run_underlying ht, Result.andThen]
  · rename_i ht; simp [Instr.checkKey, run_underlying ht, Result.andThen]
  · rename_i ht; simp [Instr.checkKey, run_underlying ht, Result.andThen]
  · cases h
theorem fieldsKey_mem : ∀ {fs : List Field} {i : Nat} {vs X : List Value}, fieldsKey P i fs vs = true → (∀ j, X[i + j]? = vs[j]?) →
    ∀ f ∈ fs, f.name ≠ "_" ∧ aggTy P f.type = false ∧ ∃ v, X[f.offset]? = some v ∧ scalarTy P f.type v = true
  | [], i, vs, X, h, hx, f, hf => by cases hf
  | g :: fs, i, [], X, h, hx, f, hf => by simp [fieldsKey] at h
  | g :: fs, i, v :: vs, X, h, hx, f, hf => by
    simp only [fieldsKey, Bool.and_eq_true] at h
    rcases List.mem_cons.1 hf with rfl | hf
    · have ho : f.offset = i := Nat.eq_of_beq_eq_true h.2.1
      exact ⟨of_decide_eq_true h.1, by simpa using h.2.2.1, v, by rw [ho]; exact hx 0, h.2.2.2.1⟩
    · exact fieldsKey_mem h.2.2.2.2 (X := X) (fun j => by rw [show i + 1 + j = i + (j + 1) by omega]; exact hx (j + 1)) f hf
theorem run_forIn_each {α : Type} {w : World} (g : α → PUnit → Sem (ForInStep PUnit)) : ∀ (l : List α), (∀ x ∈ l, (g x PUnit.unit).run P w = .ok (.yield PUnit.unit) w) → (forIn l PUnit.unit g).run P w = .ok PUnit.unit w
  | [], _ => rfl
  | x :: l, h => by
    rw [List.forIn_cons]
    simp only [Sem.run_bind, h x List.mem_cons_self, Result.andThen_ok]
    exact run_forIn_each g l fun y hy => h y (List.mem_cons_of_mem _ hy)
theorem run_check {t : TypeId} {k : Value} (h : keyTy P t k = true) (em : Bool) (w : World) : (Instr.checkKey em 10000 t k).run P w = .ok () w := by
  unfold keyTy at h
  split at h
  · rename_i cs
    split at h
    · rename_i fs ht
      simp only [Bool.and_eq_true] at h
      have hm := fieldsKey_mem h.2 (X := cs.toList) (fun j => by simp)
      show (Instr.checkKey em (9999 + 1) t (.agg cs)).run P w = _
      unfold Instr.checkKey
      simp only [Sem.run_bind, run_underlying ht, Result.andThen_ok]
      rw [← Array.forIn_toList]
      refine (congrArg (fun r : Result PUnit => r.andThen fun _ w' => Sem.run P (pure ()) w') (run_forIn_each (P := P) (w := w) _ fs.toList fun f hf => ?_)).trans rfl
      obtain ⟨hn, ha, v, hv, hs⟩ := hm f hf
      have hd : ∃ d, P.underlying f.type = some d := by
        cases hd : P.underlying f.type with
        | none => simp [scalarTy, hd] at hs
        | some d => exact ⟨d, rfl⟩
      obtain ⟨d, hd⟩ := hd
      have e1 : cs[f.offset]? = some v := by simpa using hv
      have hp : (part f.type cs f.offset).run P w = .ok v w := by simp [part, run_isAgg hd, ha, e1, Result.andThen]
      have hk := run_check_scalar hs em 9998 w
      simp [hn, hp, hk, Result.andThen]
    · cases h
  · exact run_check_scalar h em 9999 w

/-! finding -/
/-- An abstract map and the model's rows. -/
def MapR (P : Program) (ρ : Ren) (kt : TypeId) (es : List (Value × Value)) (E : List MapEntry) : Prop :=
  E.length = es.length ∧ ∀ (i : Nat) (k v : Value), es[i]? = some (k, v) → ∃ en, E[i]? = some en ∧ VR ρ k en.key ∧ VR ρ v en.val ∧ keyTy P kt k = true
theorem MapR.nil_left {kt : TypeId} {E : List MapEntry} (h : MapR P ρ kt [] E) : E = [] := List.eq_nil_of_length_eq_zero h.1
theorem MapR.cons_left {kt : TypeId} {k v : Value} {es : List (Value × Value)} {E : List MapEntry} (h : MapR P ρ kt ((k, v) :: es) E) :
    ∃ en E', E = en :: E' ∧ en.key = k ∧ VR ρ v en.val ∧ keyTy P kt k = true ∧ MapR P ρ kt es E' := by
  cases E with
  | nil => have := h.1; simp at this
  | cons en E' =>
    obtain ⟨en', h1, h2, h3, h4⟩ := h.2 0 k v rfl
    simp at h1; subst h1
    refine ⟨en, E', rfl, key_same h4 h2, h3, h4, by have := h.1; simpa using this, fun i k v hi => ?_⟩
    obtain ⟨en', h1, h2⟩ := h.2 (i + 1) k v (by simpa using hi)
    exact ⟨en', by simpa using h1, h2⟩
theorem run_findAsking {kt : TypeId} {k : Value} (hk : keyTy P kt k = true) (w : World) : ∀ {es : List (Value × Value)} {E : List MapEntry} (i : Nat), MapR P ρ kt es E →
    ∃ r, (Instr.findAsking kt k E i).run P w = .ok r w ∧ (match midx P kt k es with | none => r = none | some j => ∃ v en, es[j]? = some v ∧ E[j]? = some en ∧ r = some (i + j, en.val))
  | [], E, i, h => by rw [h.nil_left]; exact ⟨none, rfl, rfl⟩
  | (k', v) :: es, E, i, h => by
    obtain ⟨en, E', rfl, h1, h2, h3, h4⟩ := h.cons_left
    obtain ⟨b, he, hke, hb⟩ := key_equal hk h3 w
    rw [← h1] at he
    cases b with
    | true =>
      refine ⟨some (i, en.val), by simp [Instr.findAsking, he, Result.andThen], ?_⟩
      simp only [midx, hke, cond_true]
      exact ⟨_, en, rfl, rfl, rfl⟩
    | false =>
      obtain ⟨r, r1, r2⟩ := run_findAsking hk w (i + 1) h4
      refine ⟨r, by simp [Instr.findAsking, he, Result.andThen, r1], ?_⟩
      simp only [midx, hke, cond_false]
      cases hm : midx P kt k es with
      | none => rw [hm] at r2; simpa using r2
      | some j =>
        rw [hm] at r2
        obtain ⟨v', en', q1, q2, q3⟩ := r2
        exact ⟨v', en', by simpa using q1, by simpa using q2, by rw [q3]; congr 2; show i + 1 + j = i + (j + 1); omega⟩
theorem findNow_ok {kt : TypeId} {k : Value} {d : TypeDesc} (hd : P.underlying kt = some d) (hk : keyTy P kt k = true) : ∀ {es : List (Value × Value)} {E : List MapEntry} (i : Nat) {r : Option (Nat × Value)}, MapR P ρ kt es E →
    Instr.findNow d k E i = some r → (match midx P kt k es with | none => r = none | some j => ∃ v en, es[j]? = some v ∧ E[j]? = some en ∧ r = some (i + j, en.val))
  | [], E, i, r, h, hf => by rw [h.nil_left] at hf; simp only [Instr.findNow, Option.some.injEq] at hf; subst hf; rfl
  | (k', v) :: es, E, i, r, h, hf => by
    obtain ⟨en, E', rfl, h1, h2, h3, h4⟩ := h.cons_left
    obtain ⟨b, he, hke, hb⟩ := key_equal hk h3 default
    unfold Instr.findNow at hf
    have hs : ∀ b', Instr.sameNow d k en.key = some b' → (b' = true ↔ k = k') := by
      intro b' hb'
      rw [h1] at hb'
      unfold Instr.sameNow at hb'
      split at hb'
      · split at hb'
        · rename_i e; subst e; cases hb'; simp
        · cases hb'
      · cases hb'; simp only [Value.string.injEq]; rw [beq_toListBytes, beq_bytes]; exact decide_eq_true_iff
      · cases hb'; simp
      · cases hb'
    split at hf
    · rename_i hb'
      have e : b = true := hb.2 ((hs _ hb').1 rfl)
      cases hf
      simp only [midx, hke, e, cond_true]
      exact ⟨_, en, rfl, rfl, rfl⟩
    · rename_i hb'
      have e : b = false := by
        cases b with
        | false => rfl
        | true => have := (hs _ hb').2 (hb.1 rfl); cases this
      have ih := findNow_ok hd hk (i + 1) h4 hf
      simp only [midx, hke, e, cond_false]
      cases hm : midx P kt k es with
      | none => rw [hm] at ih; simpa using ih
      | some j =>
        rw [hm] at ih
        obtain ⟨v', en', q1, q2, q3⟩ := ih
        exact ⟨v', en', by simpa using q1, by simpa using q2, by rw [q3]; congr 2; show i + 1 + j = i + (j + 1); omega⟩
    · cases hf
theorem key_underlying {kt : TypeId} {k : Value} (hk : keyTy P kt k = true) : ∃ d, P.underlying kt = some d := by
  cases hd : P.underlying kt with
  | none =>
    unfold keyTy at hk
    split at hk <;> simp [hd, scalarTy] at hk
  | some d => exact ⟨d, rfl⟩
theorem run_findKey' {kt : TypeId} {k : Value} (hk : keyTy P kt k = true) {es : List (Value × Value)} {E : List MapEntry} (h : MapR P ρ kt es E) (w : World) :
    ∃ r, (Instr.findKey kt k E).run P w = .ok r w ∧ (match midx P kt k es with | none => r = none | some j => ∃ v en, es[j]? = some v ∧ E[j]? = some en ∧ r = some (j, en.val)) := by
  obtain ⟨d, hd⟩ := key_underlying hk
  unfold Instr.findKey
  simp only [Sem.run_bind, run_underlying hd, Result.andThen_ok]
  cases hf : Instr.findNow d k E 0 with
  | some r =>
    refine ⟨r, rfl, ?_⟩
    have := findNow_ok hd hk 0 h hf
    simpa using this
  | none =>
    obtain ⟨r, r1, r2⟩ := run_findAsking hk w 0 h
    exact ⟨r, r1, by simpa using r2⟩
end Go.Proofs.Ytbikpfccdcblfaa.Eng
