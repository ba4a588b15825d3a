/- The engine, part 10: maps. -/
import Derived.Test.YtbikpfccdcblfaaKa
import Derived.Scope
namespace Go.Proofs.Ytbikpfccdcblfaa.Eng
open Go Go.RowKit
set_option linter.unusedVariables false
set_option linter.unusedSimpArgs false
variable {P : Program} {G : Nat} {ρ : Ren} {B : Nat} {H : Hp} {w : World} {n : Nat} {σ : Env} {a : Act}

theorem scalar_same {t : TypeId} {v v' : Value} (h : scalarTy P t v = true) (hv : VR ρ v v') : v' = v := by
  unfold scalarTy at h
  split at h
  · cases hv; rfl
  · cases hv; rfl
  · cases hv; rfl
  · cases h
theorem fieldsKey_same : ∀ {fs : List Field} {i : Nat} {vs vs' : List Value}, fieldsKey P i fs vs = true → VRs ρ vs vs' → vs' = vs
  | [], i, [], vs', h, hv => hv.nil_left
  | [], i, v :: vs, vs', h, hv => by simp [fieldsKey] at h
  | f :: fs, i, [], vs', h, hv => by simp [fieldsKey] at h
  | f :: fs, i, v :: vs, vs', h, hv => by
    obtain ⟨v', r', rfl, h1, h2⟩ := hv.cons_left
    simp only [fieldsKey, Bool.and_eq_true] at h
    rw [scalar_same h.2.2.2.1 h1, fieldsKey_same h.2.2.2.2 h2]
/-- A key is the same on both sides. -/
theorem key_same {t : TypeId} {k k' : Value} (h : keyTy P t k = true) (hk : VR ρ k k') : k' = k := by
  unfold keyTy at h
  split at h
  · rename_i cs
    split at h
    · simp only [Bool.and_eq_true] at h
      obtain ⟨cs', rfl, hc⟩ := hk.agg_inv
      have := fieldsKey_same h.2 hc
      rw [show cs' = cs from Array.ext' this]
    · cases h
  · exact scalar_same h hk
theorem scalar_plain {t : TypeId} {v : Value} (h : scalarTy P t v = true) : plainV v = true := by
  unfold scalarTy at h
  split at h <;> first | rfl | cases h
theorem fieldsKey_plain : ∀ {fs : List Field} {i : Nat} {vs : List Value}, fieldsKey P i fs vs = true → vs.all plainV = true
  | [], i, [], h => rfl
  | [], i, v :: vs, h => by simp [fieldsKey] at h
  | f :: fs, i, [], h => by simp [fieldsKey] at h
  | f :: fs, i, v :: vs, h => by
    simp only [fieldsKey, Bool.and_eq_true] at h
    simp only [List.all_cons, Bool.and_eq_true]
    exact ⟨scalar_plain h.2.2.2.1, fieldsKey_plain h.2.2.2.2⟩
theorem key_const {t : TypeId} {k : Value} (h : keyTy P t k = true) : constOK k = true := by
  unfold keyTy at h
  split at h
  · split at h
    · simp only [Bool.and_eq_true] at h; exact fieldsKey_plain h.2
    · cases h
  · rename_i hne
    have := scalar_plain h
    unfold constOK
    split
    · exact (hne _ rfl).elim
    · exact this
theorem key_VR {t : TypeId} {k : Value} (h : keyTy P t k = true) (ρ : Ren) : VR ρ k k := const_VR (key_const h) ρ
theorem scalar_eqV {t : TypeId} {x y : Value} (hx : scalarTy P t x = true) (hy : scalarTy P t y = true) (d : Nat) : ∃ r, eqV P (d + 1) t x y = some r ∧ (r = true ↔ x = y) := by
  unfold scalarTy at hx
  split at hx
  · rename_i k k' m ht
    simp only [scalarTy, ht] at hy
    split at hy <;> first | (rename_i e; cases e; done) | cases hy | skip
    rename_i k3 k'' m' e
    cases e
    have h1 : k = k' := of_decide_eq_true hx
    have h2 : k = k'' := of_decide_eq_true hy
    subst h1; subst h2
    exact ⟨decide (m = m'), by unfold eqV; simp [ht], by simp⟩
  · rename_i s ht
    simp only [scalarTy, ht] at hy
    split at hy <;> first | (rename_i e; cases e; done) | cases hy | skip
    rename_i s' _
    exact ⟨decide (s = s'), by unfold eqV; simp [ht], by simp⟩
  · rename_i s ht
    simp only [scalarTy, ht] at hy
    split at hy <;> first | (rename_i e; cases e; done) | cases hy | skip
    rename_i s' _
    exact ⟨decide (s = s'), by unfold eqV; simp [ht], by simp⟩
  · cases hx
theorem fields_eqV (d : Nat) : ∀ {fs : List Field} {i : Nat} {xs ys : List Value} {X Y : List Value}, fieldsKey P i fs xs = true → fieldsKey P i fs ys = true → (∀ j, X[i + j]? = xs[j]?) → (∀ j, Y[i + j]? = ys[j]?) →
    ∃ r, eqV.eqFields P (d + 1) X Y fs = some r ∧ (r = true ↔ xs = ys)
  | [], i, [], [], X, Y, hx, hy, h1, h2 => ⟨true, by simp [eqV.eqFields], by simp⟩
  | [], i, v :: vs, ys, X, Y, hx, hy, h1, h2 => by simp [fieldsKey] at hx
  | [], i, [], v :: vs, X, Y, hx, hy, h1, h2 => by simp [fieldsKey] at hy
  | f :: fs, i, [], ys, X, Y, hx, hy, h1, h2 => by simp [fieldsKey] at hx
  | f :: fs, i, v :: vs, [], X, Y, hx, hy, h1, h2 => by simp [fieldsKey] at hy
  | f :: fs, i, x :: xs, y :: ys, X, Y, hx, hy, h1, h2 => by
    simp only [fieldsKey, Bool.and_eq_true] at hx hy
    have ho : f.offset = i := Nat.eq_of_beq_eq_true hx.2.1
    have ha : aggTy P f.type = false := by have := hx.2.2.1; simpa using this
    have e1 : X[f.offset]? = some x := by rw [ho]; exact h1 0
    have e2 : Y[f.offset]? = some y := by rw [ho]; exact h2 0
    obtain ⟨r1, q1, q2⟩ := fields_eqV d hx.2.2.2.2 hy.2.2.2.2 (X := X) (Y := Y) (fun j => by rw [show i + 1 + j = i + (j + 1) by omega]; exact h1 (j + 1)) (fun j => by rw [show i + 1 + j = i + (j + 1) by omega]; exact h2 (j + 1))
    obtain ⟨r2, q3, q4⟩ := scalar_eqV hx.2.2.2.1 hy.2.2.2.1 d
    refine ⟨r2 && r1, ?_, ?_⟩
    · rw [eqV.eqFields]
      simp only [hx.1, ha, e1, e2, q3, q1]
    · rw [Bool.and_eq_true, q2, q4]
      simp
/-- Two keys of one type are held against each other. -/
theorem key_eqV {t : TypeId} {x y : Value} (hx : keyTy P t x = true) (hy : keyTy P t y = true) : ∃ r, eqV P 5 t x y = some r ∧ (r = true ↔ x = y) := by
  unfold keyTy at hx
  split at hx
  · rename_i xs
    split at hx
    · rename_i fs ht
      simp only [Bool.and_eq_true] at hx
      unfold keyTy at hy
      split at hy
      · rename_i ys
        simp only [ht, Bool.and_eq_true] at hy
        have hs : P.stoodInHeld t = false := by simpa using hx.1
        obtain ⟨r, h, h'⟩ := fields_eqV 3 hx.2 hy.2 (X := xs.toList) (Y := ys.toList) (fun j => by simp) (fun j => by simp)
        refine ⟨r, by unfold eqV; simp only [ht, hs, h], ?_⟩
        rw [h']
        exact ⟨fun e => by rw [Array.ext' e], fun e => by cases e; rfl⟩
      · simp [scalarTy, ht] at hy
    · cases hx
  · rename_i hne
    cases y with
    | agg ys =>
      exfalso
      unfold keyTy at hy
      simp only at hy
      split at hy
      · rename_i fs ht; simp [scalarTy, ht] at hx
      · cases hy
    | _ => exact scalar_eqV hx (by unfold keyTy at hy; exact hy) 4
theorem key_equal {t : TypeId} {x y : Value} (hx : keyTy P t x = true) (hy : keyTy P t y = true) (w : World) : ∃ r, (Op.equal t x y).run P w = .ok r w ∧ keyEq P t x y = r ∧ (r = true ↔ x = y) := by
  obtain ⟨r, h1, h2⟩ := key_eqV hx hy
  exact ⟨r, equal_ok h1 (key_VR hx (fun _ => none)) (key_VR hy (fun _ => none)) w, by simp [keyEq, h1], h2⟩
theorem run_check_scalar {t : TypeId} {v : Value} (h : scalarTy P t v = true) (em : Bool) (d : Nat) (w : World) : (Instr.checkKey em (d + 1) t v).run P w = .ok () w := by
  unfold scalarTy at h
  split at h
  · rename_i ht; simp [Instr.checkKey, run_underlying ht, Result.andThen]
  · rename_i ht; simp [Instr.checkKey, run_underlying ht, Result.andThen]
  · rename_i ht; simp [Instr.checkKey, run_underlying ht, Result.andThen]
  · cases h
theorem fieldsKey_mem : ∀ {fs : List Field} {i : Nat} {vs X : List Value}, fieldsKey P i fs vs = true → (∀ j, X[i + j]? = vs[j]?) →
    ∀ f ∈ fs, f.name ≠ "_" ∧ aggTy P f.type = false ∧ ∃ v, X[f.offset]? = some v ∧ scalarTy P f.type v = true
  | [], i, vs, X, h, hx, f, hf => by cases hf
  | g :: fs, i, [], X, h, hx, f, hf => by simp [fieldsKey] at h
  | g :: fs, i, v :: vs, X, h, hx, f, hf => by
    simp only [fieldsKey, Bool.and_eq_true] at h
    rcases List.mem_cons.1 hf with rfl | hf
    · have ho : f.offset = i := Nat.eq_of_beq_eq_true h.2.1
      exact ⟨of_decide_eq_true h.1, by simpa using h.2.2.1, v, by rw [ho]; exact hx 0, h.2.2.2.1⟩
    · exact fieldsKey_mem h.2.2.2.2 (X := X) (fun j => by rw [show i + 1 + j = i + (j + 1) by omega]; exact hx (j + 1)) f hf
theorem run_forIn_each {α : Type} {w : World} (g : α → PUnit → Sem (ForInStep PUnit)) : ∀ (l : List α), (∀ x ∈ l, (g x PUnit.unit).run P w = .ok (.yield PUnit.unit) w) → (forIn l PUnit.unit g).run P w = .ok PUnit.unit w
  | [], _ => rfl
  | x :: l, h => by
    rw [List.forIn_cons]
    simp only [Sem.run_bind, h x List.mem_cons_self, Result.andThen_ok]
    exact run_forIn_each g l fun y hy => h y (List.mem_cons_of_mem _ hy)
theorem run_check {t : TypeId} {k : Value} (h : keyTy P t k = true) (em : Bool) (w : World) : (Instr.checkKey em 10000 t k).run P w = .ok () w := by
  unfold keyTy at h
  split at h
  · rename_i cs
    split at h
    · rename_i fs ht
      simp only [Bool.and_eq_true] at h
      have hm := fieldsKey_mem h.2 (X := cs.toList) (fun j => by simp)
      show (Instr.checkKey em (9999 + 1) t (.agg cs)).run P w = _
      unfold Instr.checkKey
      simp only [Sem.run_bind, run_underlying ht, Result.andThen_ok]
      rw [← Array.forIn_toList]
      refine (congrArg (fun r : Result PUnit => r.andThen fun _ w' => Sem.run P (pure ()) w') (run_forIn_each (P := P) (w := w) _ fs.toList fun f hf => ?_)).trans rfl
      obtain ⟨hn, ha, v, hv, hs⟩ := hm f hf
      have hd : ∃ d, P.underlying f.type = some d := by
        cases hd : P.underlying f.type with
        | none => simp [scalarTy, hd] at hs
        | some d => exact ⟨d, rfl⟩
      obtain ⟨d, hd⟩ := hd
      have e1 : cs[f.offset]? = some v := by simpa using hv
      have hp : (part f.type cs f.offset).run P w = .ok v w := by simp [part, run_isAgg hd, ha, e1, Result.andThen]
      have hk := run_check_scalar hs em 9998 w
      simp [hn, hp, hk, Result.andThen]
    · cases h
  · exact run_check_scalar h em 9999 w

/-! finding -/
/-- An abstract map and the model's rows. -/
def MapR (P : Program) (ρ : Ren) (kt : TypeId) (es : List (Value × Value)) (E : List MapEntry) : Prop :=
  E.length = es.length ∧ ∀ (i : Nat) (k v : Value), es[i]? = some (k, v) → ∃ en, E[i]? = some en ∧ VR ρ k en.key ∧ VR ρ v en.val ∧ keyTy P kt k = true
theorem MapR.nil_left {kt : TypeId} {E : List MapEntry} (h : MapR P ρ kt [] E) : E = [] := List.eq_nil_of_length_eq_zero h.1
theorem MapR.cons_left {kt : TypeId} {k v : Value} {es : List (Value × Value)} {E : List MapEntry} (h : MapR P ρ kt ((k, v) :: es) E) :
    ∃ en E', E = en :: E' ∧ en.key = k ∧ VR ρ v en.val ∧ keyTy P kt k = true ∧ MapR P ρ kt es E' := by
  cases E with
  | nil => have := h.1; simp at this
  | cons en E' =>
    obtain ⟨en', h1, h2, h3, h4⟩ := h.2 0 k v rfl
    simp at h1; subst h1
    refine ⟨en, E', rfl, key_same h4 h2, h3, h4, by have := h.1; simpa using this, fun i k v hi => ?_⟩
    obtain ⟨en', h1, h2⟩ := h.2 (i + 1) k v (by simpa using hi)
    exact ⟨en', by simpa using h1, h2⟩
theorem run_findAsking {kt : TypeId} {k : Value} (hk : keyTy P kt k = true) (w : World) : ∀ {es : List (Value × Value)} {E : List MapEntry} (i : Nat), MapR P ρ kt es E →
    ∃ r, (Instr.findAsking kt k E i).run P w = .ok r w ∧ (match midx P kt k es with | none => r = none | some j => ∃ v en, es[j]? = some v ∧ E[j]? = some en ∧ r = some (i + j, en.val))
  | [], E, i, h => by rw [h.nil_left]; exact ⟨none, rfl, rfl⟩
  | (k', v) :: es, E, i, h => by
    obtain ⟨en, E', rfl, h1, h2, h3, h4⟩ := h.cons_left
    obtain ⟨b, he, hke, hb⟩ := key_equal hk h3 w
    rw [← h1] at he
    cases b with
    | true =>
      refine ⟨some (i, en.val), by simp [Instr.findAsking, he, Result.andThen], ?_⟩
      simp only [midx, hke, cond_true]
      exact ⟨_, en, rfl, rfl, rfl⟩
    | false =>
      obtain ⟨r, r1, r2⟩ := run_findAsking hk w (i + 1) h4
      refine ⟨r, by simp [Instr.findAsking, he, Result.andThen, r1], ?_⟩
      simp only [midx, hke, cond_false]
      cases hm : midx P kt k es with
      | none => rw [hm] at r2; simpa using r2
      | some j =>
        rw [hm] at r2
        obtain ⟨v', en', q1, q2, q3⟩ := r2
        exact ⟨v', en', by simpa using q1, by simpa using q2, by rw [q3]; congr 2; show i + 1 + j = i + (j + 1); omega⟩
theorem findNow_ok {kt : TypeId} {k : Value} {d : TypeDesc} (hd : P.underlying kt = some d) (hk : keyTy P kt k = true) : ∀ {es : List (Value × Value)} {E : List MapEntry} (i : Nat) {r : Option (Nat × Value)}, MapR P ρ kt es E →
    Instr.findNow d k E i = some r → (match midx P kt k es with | none => r = none | some j => ∃ v en, es[j]? = some v ∧ E[j]? = some en ∧ r = some (i + j, en.val))
  | [], E, i, r, h, hf => by rw [h.nil_left] at hf; simp only [Instr.findNow, Option.some.injEq] at hf; subst hf; rfl
  | (k', v) :: es, E, i, r, h, hf => by
    obtain ⟨en, E', rfl, h1, h2, h3, h4⟩ := h.cons_left
    obtain ⟨b, he, hke, hb⟩ := key_equal hk h3 default
    unfold Instr.findNow at hf
    have hs : ∀ b', Instr.sameNow d k en.key = some b' → (b' = true ↔ k = k') := by
      intro b' hb'
      rw [h1] at hb'
      unfold Instr.sameNow at hb'
      split at hb'
      · split at hb'
        · rename_i e; subst e; cases hb'; simp
        · cases hb'
      · cases hb'; simp only [Value.string.injEq]; rw [beq_toListBytes, beq_bytes]; exact decide_eq_true_iff
      · cases hb'; simp
      · cases hb'
    split at hf
    · rename_i hb'
      have e : b = true := hb.2 ((hs _ hb').1 rfl)
      cases hf
      simp only [midx, hke, e, cond_true]
      exact ⟨_, en, rfl, rfl, rfl⟩
    · rename_i hb'
      have e : b = false := by
        cases b with
        | false => rfl
        | true => have := (hs _ hb').2 (hb.1 rfl); cases this
      have ih := findNow_ok hd hk (i + 1) h4 hf
      simp only [midx, hke, e, cond_false]
      cases hm : midx P kt k es with
      | none => rw [hm] at ih; simpa using ih
      | some j =>
        rw [hm] at ih
        obtain ⟨v', en', q1, q2, q3⟩ := ih
        exact ⟨v', en', by simpa using q1, by simpa using q2, by rw [q3]; congr 2; show i + 1 + j = i + (j + 1); omega⟩
    · cases hf
theorem key_underlying {kt : TypeId} {k : Value} (hk : keyTy P kt k = true) : ∃ d, P.underlying kt = some d := by
  cases hd : P.underlying kt with
  | none =>
    unfold keyTy at hk
    split at hk <;> simp [hd, scalarTy] at hk
  | some d => exact ⟨d, rfl⟩
theorem run_findKey' {kt : TypeId} {k : Value} (hk : keyTy P kt k = true) {es : List (Value × Value)} {E : List MapEntry} (h : MapR P ρ kt es E) (w : World) :
    ∃ r, (Instr.findKey kt k E).run P w = .ok r w ∧ (match midx P kt k es with | none => r = none | some j => ∃ v en, es[j]? = some v ∧ E[j]? = some en ∧ r = some (j, en.val)) := by
  obtain ⟨d, hd⟩ := key_underlying hk
  unfold Instr.findKey
  simp only [Sem.run_bind, run_underlying hd, Result.andThen_ok]
  cases hf : Instr.findNow d k E 0 with
  | some r =>
    refine ⟨r, rfl, ?_⟩
    have := findNow_ok hd hk 0 h hf
    simpa using this
  | none =>
    obtain ⟨r, r1, r2⟩ := run_findAsking hk w 0 h
    exact ⟨r, r1, by simpa using r2⟩
end Go.Proofs.Ytbikpfccdcblfaa.Eng
/- The engine, part 11: maps, built-in functions; what is known of a function; each operation as the walk runs it. -/
namespace Go.Proofs.Ytbikpfccdcblfaa.Eng
open Go Go.RowKit
set_option linter.unusedVariables false
set_option linter.unusedSimpArgs false
variable {P : Program} {G : Nat} {ρ : Ren} {B : Nat} {H : Hp} {w : World} {n : Nat} {σ : Env} {a : Act}

theorem Rep.map (r : Rep P G ρ B H w.heap) {m : Nat} {kt : TypeId} {es : List (Value × Value)} (hm : H.isMap m kt es) {l : Loc} (hl : ρ m = some l) :
    ∃ E clock, w.heap[l.blk]? = some (.map E clock) ∧ B ≤ l.blk ∧ MapR P ρ kt es E.toList ∧
      (∀ (i : Nat) (en : MapEntry), E[i]? = some en → en.born < clock) ∧ (∀ (i j : Nat) (en en' : MapEntry), i < j → E[i]? = some en → E[j]? = some en' → en.born < en'.born) := by
  obtain ⟨l', hl', E, clock, h1, h2, h3, h4, h5, h6⟩ := r.obj m _ hm
  rw [hl] at hl'; cases hl'
  exact ⟨E, clock, h1, h2, ⟨by simpa using h3, fun i k v hi => by obtain ⟨en, a, b⟩ := h4 i k v hi; exact ⟨en, by simpa using a, b⟩⟩, h5, h6⟩
theorem run_getObj {w : World} {b : Nat} {E : Array MapEntry} {c : Nat} (h : w.heap[b]? = some (.map E c)) : (getObj b).run P w = .ok (.map E c) w := by
  simp [getObj, Sem.run, h]
theorem seenK_elim {z v : Value} {K : Value → Prop} (h : seenK z v K) : K v := by
  unfold seenK at h
  split at h
  · obtain ⟨_, rfl, h2⟩ := h; exact h2
  · obtain ⟨_, rfl, h2⟩ := h; exact h2
  · obtain ⟨_, rfl, h2⟩ := h; exact h2
  · obtain ⟨_, rfl, h2⟩ := h; exact h2
  · obtain ⟨_, _, _, rfl, h2⟩ := h; exact h2
  · obtain ⟨_, rfl, h2⟩ := h; exact h2
  · exact h
theorem okPair {ok : Bool} {v v' : Value} {b : Bool} (hv : VR ρ v v') :
    VR ρ (match ok with | true => .tuple #[v, .bool b] | false => v) (if ok then .tuple #[v', .bool b] else v') := by
  cases ok
  · exact hv
  · exact vr_tuple (.cons hv (.cons (.bool _) (.nil _)))
theorem lookupK_ok (r : Rep P G ρ B H w.heap) {t : TypeId} {m k m' k' : Value} {ok : Bool} {K : Value → Prop} (hm : VR ρ m m') (hk : VR ρ k k') (h : lookupK P t m k ok H K) :
    ∃ v v', K v ∧ VR ρ v v' ∧ (Instr.lookup t m' k' ok).run P w = .ok v' w := by
  unfold lookupK at h
  split at h
  · rename_i kt et ht
    obtain ⟨hkt, h1⟩ := gd_elim h
    have hkk := key_same hkt hk
    subst hkk
    split at h1
    · exact h1.elim
    · rename_i z hz
      obtain ⟨i, hi, hz', hzc⟩ := zeroOf_elim hz
      have hrz := run_zeroValue (w := w) hz
      split at h1
      · rcases hm.map_inv with ⟨_, rfl⟩ | ⟨b, l, hne, _⟩
        · have hke : (Instr.findKey kt k' ([] : List MapEntry)).run P w = .ok none w := by
            obtain ⟨q, q1, q2⟩ := run_findKey' (ρ := ρ) hkt (es := []) (E := []) ⟨rfl, fun i k v h => by simp at h⟩ w
            simp only [midx] at q2; rw [q1, q2]
          refine ⟨_, _, h1, okPair (ok := ok) (const_VR hzc ρ), ?_⟩
          have hc := run_check hkt true w
          simp [Instr.lookup, run_underlying ht, hc, hke, hrz, Result.andThen]
        · cases hne
      · rename_i b
        obtain ⟨es, hmap, h2⟩ := h1
        rcases hm.map_inv with ⟨hne, _⟩ | ⟨b', l, hne, hl, rfl⟩
        · cases hne
        · cases hne
          obtain ⟨E, clock, e1, e2, e3, _, _⟩ := r.map hmap hl
          obtain ⟨q, q1, q2⟩ := run_findKey' hkt e3 w
          have hg := run_getObj (P := P) e1
          have hc := run_check hkt E.isEmpty w
          cases hx : midx P kt k' es with
          | none =>
            rw [hx] at q2
            have hmf : mfind P kt k' es = none := by simp [mfind, hx]
            rw [hmf] at h2
            rw [q2] at q1
            refine ⟨_, _, h2, okPair (ok := ok) (const_VR hzc ρ), ?_⟩
            simp [Instr.lookup, run_underlying ht, hg, hc, q1, hrz, Result.andThen]
          | some j =>
            rw [hx] at q2
            obtain ⟨⟨kk, v⟩, en, p1, p2, p3⟩ := q2
            have hmf : mfind P kt k' es = some v := by simp [mfind, hx, p1]
            rw [hmf] at h2
            have h3 := seenK_elim h2
            rw [p3] at q1
            obtain ⟨en', r1, _, r3, _⟩ := e3.2 j kk v p1
            rw [p2] at r1; cases r1
            refine ⟨_, _, h3, okPair (ok := ok) r3, ?_⟩
            simp [Instr.lookup, run_underlying ht, hg, hc, q1, Result.andThen]
      · exact h1.elim
  · exact h.elim
theorem sameBits_scalar {t : TypeId} {v : Value} (h : scalarTy P t v = true) (n : Nat) : Instr.sameBits n v v = true := by
  unfold scalarTy at h
  split at h
  · simp [Instr.sameBits]
  · rename_i s _
    have : (s == s) = true := by rw [beq_toListBytes, beq_bytes]; simp
    simp [Instr.sameBits, this]
  · simp [Instr.sameBits]
  · cases h
theorem sameBits_fields : ∀ {fs : List Field} {i : Nat} {vs : List Value} (n : Nat), fieldsKey P i fs vs = true → (vs.zip vs).all (fun (x : Value × Value) => Instr.sameBits n x.1 x.2) = true
  | [], i, [], n, h => rfl
  | [], i, v :: vs, n, h => by simp [fieldsKey] at h
  | f :: fs, i, [], n, h => by simp [fieldsKey] at h
  | f :: fs, i, v :: vs, n, h => by
    simp only [fieldsKey, Bool.and_eq_true] at h
    simp only [List.zip_cons_cons, List.all_cons, Bool.and_eq_true]
    exact ⟨sameBits_scalar h.2.2.2.1 n, sameBits_fields n h.2.2.2.2⟩
theorem sameBits_key {t : TypeId} {k : Value} (h : keyTy P t k = true) : Instr.sameBits 10000 k k = true := by
  unfold keyTy at h
  split at h
  · rename_i cs
    split at h
    · simp only [Bool.and_eq_true] at h
      show Instr.sameBits (9999 + 1) (.agg cs) (.agg cs) = true
      unfold Instr.sameBits
      simp only [beq_self_eq_true, Bool.true_and]
      exact sameBits_fields 9999 h.2
    · cases h
  · exact sameBits_scalar h 10000
theorem run_stays {t : TypeId} {k : Value} (h : keyTy P t k = true) (w : World) : (Instr.keyThatStays k k).run P w = .ok k w := by
  simp [Instr.keyThatStays, sameBits_key h]
theorem run_setObj {w : World} {b : Nat} {E : Array MapEntry} {c : Nat} (o : Obj) (h : w.heap[b]? = some (.map E c)) : (setObj b o).run P w = .ok () { w with heap := w.heap.setIfInBounds b o } := by
  simp [setObj, Sem.run, h]
theorem below_setObj {w : World} {b : Nat} (o : Obj) (hb : B ≤ b) : Below B w { w with heap := w.heap.setIfInBounds b o } :=
  ⟨rfl, rfl, rfl, by simp, fun k hk => by
    show (w.heap.setIfInBounds b o)[k]? = _
    rw [Array.getElem?_setIfInBounds_ne (by omega)]⟩
theorem midx_key {kt : TypeId} {k : Value} (hk : keyTy P kt k = true) : ∀ {es : List (Value × Value)} {j : Nat} {kk v : Value}, (∀ (i : Nat) (a b : Value), es[i]? = some (a, b) → keyTy P kt a = true) → midx P kt k es = some j → es[j]? = some (kk, v) → kk = k
  | [], j, kk, v, h, hm, he => by simp at he
  | (k', v') :: es, j, kk, v, h, hm, he => by
    have hk' := h 0 k' v' rfl
    simp only [midx] at hm
    obtain ⟨b, _, hke, hb⟩ := key_equal hk hk' default
    rw [hke] at hm
    cases b with
    | true =>
      simp at hm; subst hm; simp at he; rw [hb.1 rfl]; exact he.1.symm
    | false =>
      simp at hm
      obtain ⟨j', hj', rfl⟩ := hm
      exact midx_key hk (fun i a b hi => h (i + 1) a b (by simpa using hi)) hj' (by simpa using he)
theorem updateK_ok (r : Rep P G ρ B H w.heap) {t : TypeId} {m k v m' k' v' : Value} {K : Hp → Prop} (hm : VR ρ m m') (hk : VR ρ k k') (hv : VR ρ v v') (h : updateK P t m k v H K) :
    ∃ w' H', (Instr.mapUpdate t m' k' v').run P w = .ok () w' ∧ Rep P G ρ B H' w'.heap ∧ Below B w w' ∧ K H' := by
  unfold updateK at h
  split at h
  · rename_i kt et ht
    obtain ⟨hkt, h1⟩ := gd_elim h
    have hkk := key_same hkt hk
    subst hkk
    split at h1
    · rename_i mm
      obtain ⟨b, rfl, es, hmap, h2⟩ := optP_elim h1
      rcases hm.map_inv with ⟨hne, _⟩ | ⟨b', l, hne, hl, rfl⟩
      · cases hne
      · cases hne
        obtain ⟨E, clock, e1, e2, e3, e4, e5⟩ := r.map hmap hl
        obtain ⟨q, q1, q2⟩ := run_findKey' hkt e3 w
        have hg := run_getObj (P := P) e1
        have hc := run_check hkt false w
        have hlt : l.blk < w.heap.size := (Array.getElem?_eq_some_iff.1 e1).1
        have hsz : E.size = es.length := by have := e3.1; simpa using this
        cases hx : midx P kt k' es with
        | none =>
          rw [hx] at q2
          rw [q2] at q1
          have hms : mset P kt k' v es = es ++ [(k', v)] := by simp [mset, hx]
          rw [hms] at h2
          refine ⟨{ w with heap := w.heap.setIfInBounds l.blk (.map (E.push { key := k', val := v', born := clock }) (clock + 1)) }, _, ?_, ?_, below_setObj _ e2, h2⟩
          · have hso := run_setObj (P := P) (.map (E.push { key := k', val := v', born := clock }) (clock + 1)) e1
            simp [Instr.mapUpdate, run_underlying ht, hg, hc, q1, hso, Result.andThen]
          · refine r.turn hmap rfl hl rfl ⟨(E.push { key := k', val := v', born := clock }), (clock + 1), by simp [hlt], e2, by simp [hsz], fun i a b hi => ?_, fun i en hi => ?_, fun i j en en' hij hi hj => ?_⟩
            · rw [List.getElem?_append] at hi
              split at hi
              · rename_i hlt'
                obtain ⟨en, a1, a2⟩ := e3.2 i a b hi
                exact ⟨en, by rw [Array.getElem?_push, if_neg (by omega)]; simpa using a1, a2⟩
              · rename_i hge
                rw [List.getElem?_singleton] at hi
                split at hi
                · rename_i h0
                  simp at hi; obtain ⟨rfl, rfl⟩ := hi
                  exact ⟨{ key := k', val := v', born := clock }, by rw [Array.getElem?_push, if_pos (by omega)], key_VR hkt ρ, hv, hkt⟩
                · cases hi
            · rw [Array.getElem?_push] at hi
              split at hi
              · cases hi; simp
              · have := e4 i en hi; omega
            · rw [Array.getElem?_push] at hi hj
              split at hj
              · rename_i h1'
                rw [if_neg (by omega)] at hi
                cases hj
                exact e4 i en hi
              · rename_i h1'
                have hj' : j < E.size := (Array.getElem?_eq_some_iff.1 hj).1
                rw [if_neg (by omega)] at hi
                exact e5 i j en en' hij hi hj
        | some j =>
          rw [hx] at q2
          obtain ⟨⟨kk, u⟩, en, p1, p2, p3⟩ := q2
          have hkk : kk = k' := midx_key hkt (fun i a b hi => by obtain ⟨_, _, _, _, x⟩ := e3.2 i a b hi; exact x) hx p1
          subst hkk
          rw [p3] at q1
          obtain ⟨en', r1, r2, r3, r4⟩ := e3.2 j kk u p1
          rw [p2] at r1; cases r1
          have hek : en.key = kk := key_same r4 r2
          have p2' : E[j]? = some en := by simpa using p2
          have hjl : j < E.size := (Array.getElem?_eq_some_iff.1 p2').1
          have hms : mset P kt kk v es = es.set j (kk, v) := by simp [mset, hx]
          rw [hms] at h2
          refine ⟨{ w with heap := w.heap.setIfInBounds l.blk (.map (E.modify j fun e => { e with key := kk, val := v' }) clock) }, _, ?_, ?_, below_setObj _ e2, h2⟩
          · have hso := run_setObj (P := P) (.map (E.modify j fun e => { e with key := kk, val := v' }) clock) e1
            have hst := run_stays hkt w
            simp [Instr.mapUpdate, run_underlying ht, hg, hc, q1, p2', hek, hst, hso, Result.andThen]
          · have hget : ∀ i, (E.modify j fun e => { e with key := kk, val := v' })[i]? = if j = i then (E[i]?).map (fun e => { e with key := kk, val := v' }) else E[i]? := fun i => by rw [Array.getElem?_modify]
            refine r.turn hmap rfl hl rfl ⟨(E.modify j fun e => { e with key := kk, val := v' }), (clock), by simp [hlt], e2, by simp [hsz], fun i a b hi => ?_, fun i en2 hi => ?_, fun i i' en1 en2 hij hi hj => ?_⟩
            · rw [List.getElem?_set] at hi
              split at hi
              · rename_i hji
                subst hji
                split at hi
                · simp at hi; obtain ⟨rfl, rfl⟩ := hi
                  exact ⟨{ en with key := kk, val := v' }, by rw [hget, if_pos rfl, p2']; rfl, key_VR hkt ρ, hv, hkt⟩
                · cases hi
              · rename_i hji
                obtain ⟨en2, a1, a2⟩ := e3.2 i a b hi
                exact ⟨en2, by rw [hget, if_neg hji]; simpa using a1, a2⟩
            · rw [hget] at hi
              split at hi
              · cases hE : E[i]? with
                | none => rw [hE] at hi; cases hi
                | some e0 => rw [hE] at hi; cases hi; exact e4 i e0 hE
              · exact e4 i en2 hi
            · rw [hget] at hi hj
              have b1 : ∃ e0, E[i]? = some e0 ∧ e0.born = en1.born := by
                split at hi
                · cases hE : E[i]? with
                  | none => rw [hE] at hi; cases hi
                  | some e0 => rw [hE] at hi; cases hi; exact ⟨e0, rfl, rfl⟩
                · exact ⟨en1, hi, rfl⟩
              have b2 : ∃ e0, E[i']? = some e0 ∧ e0.born = en2.born := by
                split at hj
                · cases hE : E[i']? with
                  | none => rw [hE] at hj; cases hj
                  | some e0 => rw [hE] at hj; cases hj; exact ⟨e0, rfl, rfl⟩
                · exact ⟨en2, hj, rfl⟩
              obtain ⟨x1, y1, z1⟩ := b1
              obtain ⟨x2, y2, z2⟩ := b2
              have := e5 i i' x1 x2 hij y1 y2
              omega
    · exact h1.elim
  · exact h.elim
theorem deleteK_ok (r : Rep P G ρ B H w.heap) {t ty : TypeId} {m k m' k' : Value} {K : Hp → Prop} (hm : VR ρ m m') (hk : VR ρ k k') (h : deleteK P t m k H K) {ts : Array TypeId} (hts : ts[0]? = some t) :
    ∃ w' H', (Builtin.delete_ ts ty #[m', k']).run P w = .ok (.tuple #[]) w' ∧ Rep P G ρ B H' w'.heap ∧ Below B w w' ∧ K H' := by
  unfold deleteK at h
  split at h
  · rename_i kt et ht
    obtain ⟨hkt, h1⟩ := gd_elim h
    have hkk := key_same hkt hk
    subst hkk
    split at h1
    · rcases hm.map_inv with ⟨_, rfl⟩ | ⟨b, l, hne, _⟩
      · have hc := run_check hkt true w
        exact ⟨w, H, by simp [Builtin.delete_, hts, run_underlying ht, hc, Result.andThen], r, Below.refl _ _, h1⟩
      · cases hne
    · rename_i b
      obtain ⟨es, hmap, h2⟩ := h1
      rcases hm.map_inv with ⟨hne, _⟩ | ⟨b', l, hne, hl, rfl⟩
      · cases hne
      · cases hne
        obtain ⟨E, clock, e1, e2, e3, e4, e5⟩ := r.map hmap hl
        obtain ⟨q, q1, q2⟩ := run_findKey' hkt e3 w
        have hg := run_getObj (P := P) e1
        have hc := run_check hkt E.isEmpty w
        have hlt : l.blk < w.heap.size := (Array.getElem?_eq_some_iff.1 e1).1
        have hsz : E.size = es.length := by have := e3.1; simpa using this
        cases hx : midx P kt k' es with
        | none =>
          rw [hx] at q2
          rw [q2] at q1
          have hms : mdel P kt k' es = es := by simp [mdel, hx]
          rw [hms] at h2
          have hso := run_setObj (P := P) (.map E clock) e1
          refine ⟨{ w with heap := w.heap.setIfInBounds l.blk (.map E clock) }, _, ?_, ?_, below_setObj _ e2, h2⟩
          · simp [Builtin.delete_, hts, run_underlying ht, hg, hc, q1, hso, Result.andThen]
          · exact r.turn hmap rfl hl rfl ⟨E, clock, by simp [hlt], e2, hsz, fun i a b hi => by obtain ⟨en, a1, a2⟩ := e3.2 i a b hi; exact ⟨en, by simpa using a1, a2⟩, e4, e5⟩
        | some j =>
          rw [hx] at q2
          obtain ⟨⟨kk, u⟩, en, p1, p2, p3⟩ := q2
          rw [p3] at q1
          have p2' : E[j]? = some en := by simpa using p2
          have hjl : j < E.size := (Array.getElem?_eq_some_iff.1 p2').1
          have hms : mdel P kt k' es = es.eraseIdx j := by simp [mdel, hx]
          rw [hms] at h2
          have hso := run_setObj (P := P) (.map (E.eraseIdxIfInBounds j) clock) e1
          have hget : ∀ i, (E.eraseIdxIfInBounds j)[i]? = if i < j then E[i]? else E[i + 1]? := fun i => by
            have htl : (E.eraseIdxIfInBounds j).toList = E.toList.eraseIdx j := by
              rw [Array.eraseIdxIfInBounds, dif_pos hjl]
              exact Array.toList_eraseIdx
            rw [← Array.getElem?_toList, htl, List.getElem?_eraseIdx]
            split <;> simp
          refine ⟨{ w with heap := w.heap.setIfInBounds l.blk (.map (E.eraseIdxIfInBounds j) clock) }, _, ?_, ?_, below_setObj _ e2, h2⟩
          · simp [Builtin.delete_, hts, run_underlying ht, hg, hc, q1, hso, Result.andThen]
          · have hl2 : (E.eraseIdxIfInBounds j).size = (es.eraseIdx j).length := by
              rw [Array.eraseIdxIfInBounds, dif_pos hjl, Array.size_eraseIdx, List.length_eraseIdx, if_pos (by omega)]
              omega
            refine r.turn hmap rfl hl rfl ⟨(E.eraseIdxIfInBounds j), (clock), by simp [hlt], e2, hl2, fun i a b hi => ?_, fun i en2 hi => ?_, fun i i' en1 en2 hij hi hj => ?_⟩
            · rw [List.getElem?_eraseIdx] at hi
              rw [hget]
              split at hi
              · rename_i h3; rw [if_pos h3]; obtain ⟨en2, a1, a2⟩ := e3.2 i a b hi; exact ⟨en2, by simpa using a1, a2⟩
              · rename_i h3; rw [if_neg h3]; obtain ⟨en2, a1, a2⟩ := e3.2 (i + 1) a b hi; exact ⟨en2, by simpa using a1, a2⟩
            · rw [hget] at hi
              split at hi
              · exact e4 _ _ hi
              · exact e4 _ _ hi
            · rw [hget] at hi hj
              split at hi <;> split at hj
              · exact e5 _ _ _ _ hij hi hj
              · exact e5 _ _ _ _ (by omega) hi hj
              · omega
              · exact e5 _ _ _ _ (by omega) hi hj
    · exact h1.elim
  · exact h.elim
theorem makeMap_ok (r : Rep P G ρ B H w.heap) {kt : TypeId} {K : Value → Hp → Prop} (h : K (.map (some H.next)) (H.new (.map kt []))) :
    Post P G ρ B w K (.map (some w.heap.size)) (w.alloc (.map #[] 0)) := by
  have hr := r.new (l := ⟨w.heap.size, 0, 0, 0, false⟩) (o := .map kt []) (x := .map #[] 0) rfl
    ⟨#[], 0, by simp, r.base, rfl, fun i a b hi => by simp at hi, fun i en hi => by simp at hi, fun i j en en' _ hi => by simp at hi⟩
  exact ⟨_, _, _, h, Ren.add_ext _ (r.dom _ (Nat.le_refl _)), VR.map (Ren.add_self _ _ ⟨w.heap.size, 0, 0, 0, false⟩), hr, below_push w _ r.base⟩
theorem lenK_ok (r : Rep P G ρ B H w.heap) {t ty : TypeId} {x x' : Value} {K : Value → Prop} (hx : VR ρ x x') (h : lenK P t x H K) :
    ∃ v, K v ∧ plainV v = true ∧ (Builtin.len_ #[t] ty #[x']).run P w = .ok v w := by
  unfold lenK at h
  split at h
  · rename_i ht; cases hx; exact ⟨_, h, rfl, by simp [Builtin.len_, run_underlying ht, goInt, Result.andThen]⟩
  · rename_i ht; exact ⟨_, h, rfl, by simp [Builtin.len_, run_underlying ht, goInt, Result.andThen]⟩
  · rename_i e p m k ht
    rcases hx.slice_inv with ⟨rfl, rfl, rfl, rfl⟩ | ⟨b, o, l, o', c, rfl, hl, rfl, _⟩ | ⟨b, o, a0, c0, rfl, rfl, _, rfl⟩
    · exact ⟨_, h, rfl, by simp [Builtin.len_, run_underlying ht, goInt, Result.andThen]⟩
    · exact ⟨_, h, rfl, by simp [Builtin.len_, run_underlying ht, goInt, Result.andThen]⟩
    · exact ⟨_, h, rfl, by simp [Builtin.len_, run_underlying ht, goInt, Result.andThen]⟩
  · rename_i ht
    rcases hx.map_inv with ⟨_, rfl⟩ | ⟨b, l, hne, _⟩
    · exact ⟨_, h, rfl, by simp [Builtin.len_, run_underlying ht, goInt, Result.andThen]⟩
    · cases hne
  · rename_i b ht
    obtain ⟨kt', es, hm, hk⟩ := h
    rcases hx.map_inv with ⟨hne, _⟩ | ⟨b', l, hne, hl, rfl⟩
    · cases hne
    · cases hne
      obtain ⟨E, clock, e1, _, e3, _⟩ := r.map hm hl
      have hsz : E.size = es.length := by have := e3.1; simpa using this
      exact ⟨_, hk, rfl, by simp [Builtin.len_, run_underlying ht, run_getObj (P := P) e1, goInt, hsz, Result.andThen]⟩
  · exact h.elim
theorem maxK_ok {big' : Bool} {ts : Array TypeId} {ty : TypeId} {vs : List Value} {vs' : List Value} {K : Value → Prop} (hv : VRs ρ vs vs') (h : maxK big' K vs) :
    ∃ v, K v ∧ plainV v = true ∧ ∀ (w : World), ((match big' with | true => Builtin.max_ ts ty ⟨vs'⟩ | false => Builtin.min_ ts ty ⟨vs'⟩) : Sem Value).run P w = .ok v w := by
  unfold maxK at h
  split at h
  · rename_i k x k' y
    obtain ⟨v1, r1, rfl, h1, h2⟩ := hv.cons_left
    obtain ⟨v2, r2, rfl, h3, h4⟩ := h2.cons_left
    rw [h4.nil_left]
    cases h1; cases h3
    cases big'
    · refine ⟨_, h, rfl, fun w => ?_⟩
      simp only [Builtin.min_, List.foldlM, Sem.run_bind, Builtin.min2, Sem.run_pure, Result.andThen_ok]
      congr 2
      by_cases hc : y < x
      · rw [if_pos hc, Int.min_eq_right (by omega)]
      · rw [if_neg hc, Int.min_eq_left (by omega)]
    · refine ⟨_, h, rfl, fun w => ?_⟩
      simp only [Builtin.max_, List.foldlM, Sem.run_bind, Builtin.max2, Sem.run_pure, Result.andThen_ok]
      congr 2
      by_cases hc : y > x
      · rw [if_pos hc, Int.max_eq_right (by omega)]
      · rw [if_neg hc, Int.max_eq_left (by omega)]
  · exact h.elim
end Go.Proofs.Ytbikpfccdcblfaa.Eng
/- The engine, part 12: what is known of a function; each operation as the walk runs it. -/
namespace Go.Proofs.Ytbikpfccdcblfaa.Eng
open Go Go.RowKit
set_option linter.unusedVariables false
set_option linter.unusedSimpArgs false

/-- What a call of function k does. -/
def Gives (P : Program) (k : FuncId) (args : Array Value) (w : World) (R : Value → World → Prop) : Prop :=
  match (callFunc k args).run P w with
  | .ok (.value v) w' => R v w'
  | .ok (.enter f as) w' => Calls P f as w' fun e w'' => ∃ v, e = .returned v ∧ R v w''
  | _ => False
/-- A summary that is true of the function. -/
structure SpOK (P : Program) (G : Nat) (k : FuncId) (sp : Sp) : Prop where
  mono : ∀ (args : List Value) (H : Hp) (K K' : Value → Hp → Prop), (∀ v H', K v H' → K' v H') → sp.run args H K → sp.run args H K'
  quiet : sp.quiet = true → ∀ (args : List Value) (H : Hp) (K : Value → Hp → Prop), sp.run args H K → ∃ v, K v H ∧ ∀ K' : Value → Hp → Prop, K' v H → sp.run args H K'
  keep : sp.keep = true → ∀ (args : List Value) (H : Hp) (K : Value → Hp → Prop), (∀ b, H.next ≤ b → H.obj b = none) → sp.run args H K → sp.run args H fun v H' => K v H' ∧ ∀ b, H.obj b ≠ none → H'.obj b = H.obj b
  sound : ∀ (args : List Value) (H : Hp) (K : Value → Hp → Prop), sp.run args H K → ∀ (ρ : Ren) (B : Nat) (w : World) (args' : Array Value), Rep P G ρ B H w.heap → VRs ρ args args'.toList → Gives P k args' w (Post P G ρ B w K)

/-- What an operation does. -/
def Run (P : Program) (a : Act) (o : Oper) (w : World) (R : Value → World → Prop) : Prop :=
  match (execOp a.eval o).run P w with
  | .ok (.value v) w' => R v w'
  | .ok .skip w' => R undef w'
  | .ok (.enter f as) w' => Calls P f as w' fun e w'' => ∃ v, e = .returned v ∧ R v w''
  | _ => False
theorem Run.wp {P : Program} {a : Act} {o : Oper} {w : World} {R : Value → World → Prop} {next : Act → World → Prop} {Q : Exit → Act → World → Prop} (h : Run P a o w R)
    (hk : ∀ v w', R v w' → next (a.put o.dst v) w') : o.wp P a w next Q := by
  unfold Run at h
  unfold Oper.wp
  generalize (execOp a.eval o).run P w = res at h ⊢
  cases res with
  | halt x w' => exact h.elim
  | ok nx w' =>
    cases nx <;> first | exact h.elim | exact hk _ _ h | skip
    rename_i f as
    refine Calls.mono h fun e w'' he => ?_
    obtain ⟨v, rfl, hr⟩ := he
    exact hk _ _ hr

variable {P : Program} {G : Nat} {ρ : Ren} {B : Nat} {H : Hp} {w : World} {n : Nat} {σ : Env} {a : Act}
theorem run_value {o : Oper} {s : Sem Value} {v : Value} {w' : World} {R : Value → World → Prop} (ho : execOp a.eval o = (do pure (Next.value (← s)))) (hs : s.run P w = .ok v w') (hr : R v w') : Run P a o w R := by
  unfold Run
  rw [ho]
  simp only [Sem.run_bind, hs, Result.andThen_ok, Sem.run_pure]
  exact hr
theorem run_unit {o : Oper} {s : Sem Unit} {w' : World} {R : Value → World → Prop} (ho : execOp a.eval o = (do s; pure Next.skip)) (hs : s.run P w = .ok () w') (hr : R undef w') : Run P a o w R := by
  unfold Run
  rw [ho]
  simp only [Sem.run_bind, hs, Result.andThen_ok, Sem.run_pure]
  exact hr
theorem undef_VR (ρ : Ren) : VR ρ undef undef := .tuple rfl (fun i v v' h => by simp at h)
theorem arr_one {xs : Array Value} {x : Value} {r : List Value} (h : xs.toList = x :: r) (hr : r = []) : xs = #[x] := by
  subst hr; exact Array.ext' h
theorem builtinK_ok (r : Rep P G ρ B H w.heap) {b : Builtin} {ts : Array TypeId} {ty : TypeId} {cs : Array Bool} {vs : List Value} {args : Array Value} {K : Value → Hp → Prop} (hv : VRs ρ vs args.toList) (h : builtinK P b ts.toList vs H K) :
    ∃ s : Sem Value, builtin b ts ty cs args = (do pure (Next.value (← s))) ∧ ∃ v' w', s.run P w = .ok v' w' ∧ Post P G ρ B w K v' w' := by
  unfold builtinK at h
  split at h
  · rename_i t x hts
    obtain ⟨x', r1, hx, h1, h2⟩ := hv.cons_left
    have ha := arr_one hx h2.nil_left
    have ht : ts = #[t] := Array.ext' hts
    obtain ⟨v, hk, hp, hr⟩ := lenK_ok (ty := ty) r h1 h
    subst ha; subst ht
    exact ⟨_, rfl, v, w, hr, Post.still r hk (plain_VR hp ρ)⟩
  · rename_i t t2 s x hts
    obtain ⟨s', r1, hx, h1, h2⟩ := hv.cons_left
    obtain ⟨x', r2, hy, h3, h4⟩ := h2.cons_left
    have ha : args = #[s', x'] := Array.ext' (by rw [hx, hy, h4.nil_left])
    have ht : ts = #[t, t2] := Array.ext' hts
    obtain ⟨v', w', hr, hp⟩ := appendK_ok (ty := ty) r h1 h3 h
    subst ha; subst ht
    exact ⟨_, rfl, v', w', hr, hp⟩
  · rename_i t t2 d s hts
    obtain ⟨s', r1, hx, h1, h2⟩ := hv.cons_left
    obtain ⟨x', r2, hy, h3, h4⟩ := h2.cons_left
    have ha : args = #[s', x'] := Array.ext' (by rw [hx, hy, h4.nil_left])
    have ht : ts = #[t, t2] := Array.ext' hts
    obtain ⟨v', w', hr, hp⟩ := copyK_ok (ty := ty) r h1 h3 h
    subst ha; subst ht
    exact ⟨_, rfl, v', w', hr, hp⟩
  · obtain ⟨v, hk, hp, hr⟩ := maxK_ok (ts := ts) (ty := ty) hv h
    exact ⟨_, rfl, v, w, by simpa using hr w, Post.still r hk (plain_VR hp ρ)⟩
  · obtain ⟨v, hk, hp, hr⟩ := maxK_ok (ts := ts) (ty := ty) hv h
    exact ⟨_, rfl, v, w, by simpa using hr w, Post.still r hk (plain_VR hp ρ)⟩
  · rename_i t t2 m k hts
    obtain ⟨s', r1, hx, h1, h2⟩ := hv.cons_left
    obtain ⟨x', r2, hy, h3, h4⟩ := h2.cons_left
    have ha : args = #[s', x'] := Array.ext' (by rw [hx, hy, h4.nil_left])
    obtain ⟨w', H', hr, hrep, hb, hk⟩ := deleteK_ok (ty := ty) r h1 h3 h (ts := ts) (by rw [← Array.getElem?_toList, hts]; rfl)
    subst ha
    exact ⟨_, rfl, _, w', hr, ρ, _, H', hk, .refl ρ, undef_VR ρ, hrep, hb⟩
  · exact h.elim
theorem parts_toList (ps : Array (Nat × Operand)) (a : Act) : (ps.map fun (i, x) => (i, a.eval x)).toList = ps.toList.map fun (i, x) => (i, a.eval x) := by simp
theorem ptrOf_some {v : Value} {ad : Addr} (h : ptrOf v = some ad) : v = .pointer (some ad) := by
  unfold ptrOf at h
  split at h
  · rw [h]
  · cases h
theorem isFun_true {v : Value} (h : isFun v = true) : ∃ f x y, v = .func (.func f) x y := by
  unfold isFun at h
  split at h
  · exact ⟨_, _, _, rfl⟩
  · cases h
set_option maxHeartbeats 4000000 in
theorem op_ok {c : Cfg} (hT : ∀ k sp, c.T k = some sp → SpOK c.P c.G k sp) {o : Oper} {draw : Bool} {K : Value → Hp → Prop} (r : Rep c.P c.G ρ B H w.heap) {E : Operand → Option Value} (hE : ∀ x v, E x = some v → VR ρ v (a.eval x)) (h : opK c draw o.op E H K) :
    Run c.P a o w (Post c.P c.G ρ B w K) := by
  obtain ⟨dst, op, type, pos, after, guard⟩ := o
  simp only at h
  cases op <;> try exact h.elim
  case move x =>
    obtain ⟨v, hv, hk⟩ := optP_elim h
    exact Post.still r hk (hE _ _ hv)
  case assign x =>
    obtain ⟨v, hv, hk⟩ := optP_elim h
    exact Post.still r hk (hE _ _ hv)
  case pick t x y =>
    simp only [opK] at h
    split at h
    · rename_i ht
      have := (hE _ _ ht).bool_inv
      obtain ⟨v, hv, hk⟩ := optP_elim h
      unfold Run; simp only [execOp, this, asBool, Sem.run_bind, Sem.run_pure, Result.andThen_ok, if_true]
      exact Post.still r hk (hE _ _ hv)
    · rename_i ht
      have := (hE _ _ ht).bool_inv
      obtain ⟨v, hv, hk⟩ := optP_elim h
      unfold Run; simp only [execOp, this, asBool, Sem.run_bind, Sem.run_pure, Result.andThen_ok]
      exact Post.still r hk (hE _ _ hv)
    · exact h.elim
  case alloc e =>
    obtain ⟨z, hz, hk⟩ := optP_elim h
    obtain ⟨i, hi, hz', hzc⟩ := zeroOf_elim hz
    refine run_value (s := Instr.alloc e true (.tuple #[])) rfl (v := .pointer (some ⟨w.heap.size, 0, none⟩)) (w' := w.alloc (.cells z.cells e)) ?_ (box_ok r (const_VR hzc ρ) (const_one hzc) hk)
    simp [Instr.alloc, run_zeroValue hz, newVar, newRow, Result.andThen]
  case box e x =>
    obtain ⟨v, hv, h1⟩ := optP_elim h
    obtain ⟨h2, hk⟩ := allOne_elim h1
    refine run_value (s := Instr.box e (a.eval x)) rfl (v := .pointer (some ⟨w.heap.size, 0, none⟩)) (w' := w.alloc (.cells (a.eval x).cells e)) ?_ (box_ok r (hE _ _ hv) h2 hk)
    simp [Instr.box, newVar, newRow, Result.andThen]
  case build t ps =>
    obtain ⟨vs, hvs, h1⟩ := optP_elim h
    obtain ⟨z, hz, h2⟩ := optP_elim h1
    obtain ⟨pl, hpl, h3⟩ := optP_elim h2
    obtain ⟨cs, hcs, hk⟩ := optP_elim h3
    obtain ⟨p1, p2⟩ := partsL_ok hE hvs
    obtain ⟨cs', q1, q2⟩ := build_ok (ps := ps.map fun (i, x) => (i, a.eval x)) hz hpl (by rw [parts_toList]; exact p1) (by rw [parts_toList]; exact p2) hcs
    exact run_value (s := Instr.build t (ps.map fun (i, x) => (i, a.eval x))) rfl (q2 w) (Post.still r hk (.agg q1.1 q1.2))
  case buildSlice t m ps =>
    obtain ⟨vs, hvs, h1⟩ := optP_elim h
    split at h1
    · rename_i e ht
      obtain ⟨z, hz, h2⟩ := optP_elim h1
      obtain ⟨g1, h3⟩ := gd_elim h2
      obtain ⟨g2, h4⟩ := gd_elim h3
      obtain ⟨cs, hcs, h5⟩ := optP_elim h4
      obtain ⟨g3, hk⟩ := allOne_elim h5
      obtain ⟨p1, p2⟩ := partsL_ok hE hvs
      obtain ⟨v', w', q1, q2⟩ := buildSlice_ok (ps := ps.map fun (i, x) => (i, a.eval x)) r ht hz (Nat.eq_of_beq_eq_true g1) (Nat.le_of_ble_eq_true g2) (by rw [parts_toList]; exact p1) (by rw [parts_toList]; exact p2) hcs g3 hk
      exact run_value (s := Instr.buildSlice t m (ps.map fun (i, x) => (i, a.eval x))) rfl q1 q2
    · exact h1.elim
  case load t x =>
    obtain ⟨pv, hp, h0⟩ := optP_elim h
    obtain ⟨ad, hpo, h1⟩ := optP_elim h0
    obtain rfl := ptrOf_some hpo
    obtain ⟨l, hl, hs, hev⟩ := (hE _ _ hp).ptr_some
    obtain ⟨v, v', q1, q2, q3⟩ := loadK_ok r hl h1
    refine run_value (s := Instr.loadAt t (a.eval x)) rfl ?_ (Post.still r q3 q2)
    rw [hev]; simp [Instr.loadAt, Instr.sureAddr, q1]
  case store t x y =>
    obtain ⟨pv, hp, h0⟩ := optP_elim h
    obtain ⟨ad, hpo, h1⟩ := optP_elim h0
    obtain rfl := ptrOf_some hpo
    obtain ⟨v, hv, h2⟩ := optP_elim h1
    obtain ⟨l, hl, hs, hev⟩ := (hE _ _ hp).ptr_some
    obtain ⟨w', H', q1, q2, q3, q4⟩ := storeK_ok r hl (hE _ _ hv) h2
    refine run_unit (s := Instr.storeAt t (a.eval x) (a.eval y)) rfl (w' := w') ?_ ⟨ρ, undef, H', q4, .refl ρ, undef_VR ρ, q2, q3⟩
    rw [hev]; simp [Instr.storeAt, Instr.sureAddr, q1]
  case nilCheck x =>
    obtain ⟨pv, hp, h0⟩ := optP_elim h
    split at h0
    · rename_i hfn
      obtain ⟨f, x1, x2, rfl⟩ := isFun_true hfn
      have hv := (hE _ _ hp)
      obtain ⟨y1, y2, hev, _, _⟩ := hv.func_inv
      unfold Run; simp only [execOp, hev, Sem.run_pure]
      rw [hev] at hv
      exact Post.still r h0 hv
    · obtain ⟨ad, hpo, hk⟩ := optP_elim h0
      obtain rfl := ptrOf_some hpo
      have hv := (hE _ _ hp)
      obtain ⟨l, hl, hs, hev⟩ := hv.ptr_some
      unfold Run; simp only [execOp, hev, Sem.run_pure]
      rw [hev] at hv
      exact Post.still r hk hv
  case binOp op t x y u =>
    obtain ⟨v1, hv1, h1⟩ := optP_elim h
    obtain ⟨v2, hv2, h2⟩ := optP_elim h1
    obtain ⟨v, q1, q2, q3⟩ := binopK_ok (X := x) (Y := y) (fun e => isConst_eval e a) (fun e => isConst_eval e a) (hE _ _ hv1) (hE _ _ hv2) h2
    exact run_value (s := do eqGuard op t x y (a.eval x) (a.eval y); binOp op t (a.eval x) (a.eval y)) rfl (q3 w) (Post.still r q1 (plain_VR q2 ρ))
  case unOp op t x =>
    simp only [opK] at h
    split at h
    · rename_i hx
      have hev := (hE _ _ hx).int_inv
      exact run_value (s := Op.unary .neg (a.eval x)) rfl (by rw [hev]; simp [Op.unary, Op.intArith]) (Post.still r h (.int _ _))
    · rename_i k m hx
      have hev := (hE _ _ hx).int_inv
      obtain ⟨v, hv, hk⟩ := optP_elim h
      have hp : plainV v = true := by simp [Op.intBits, semPure, pure] at hv; subst hv; rfl
      refine run_value (s := Op.unary .xor (a.eval x)) rfl (v := v) (w' := w) ?_ (Post.still r hk (plain_VR hp ρ))
      rw [hev]
      have := semPure_run (P := c.P) (w := w) hv
      cases hs : k.signed <;> simp only [hs] at this <;> simpa [Op.unary, hs] using this
    · rename_i b hx
      have hev := (hE _ _ hx).bool_inv
      exact run_value (s := Op.unary .not (a.eval x)) rfl (by rw [hev]; simp [Op.unary]) (Post.still r h (.bool _))
    · exact h.elim
  case convert s d x =>
    obtain ⟨v, hv, h1⟩ := optP_elim h
    obtain ⟨v', w', q1, q2⟩ := convertK_ok r (hE _ _ hv) h1
    exact run_value (s := convert s d (a.eval x)) rfl q1 q2
  case makeInterface t x =>
    obtain ⟨v, hv, h1⟩ := optP_elim h
    obtain ⟨d, hd, h2⟩ := optP_elim h1
    obtain ⟨hi, hk⟩ := gd_elim h2
    refine run_value (s := Instr.makeInterface t (a.eval x)) rfl (v := .iface t (a.eval x)) (w' := w) ?_ (Post.still r hk (.iface (hE _ _ hv)))
    simp only [Instr.makeInterface, Sem.run_bind, run_underlying hd, Result.andThen_ok]
    cases d <;> first | rfl | (simp [isIface, hd] at hi)
  case makeFunc fn xs ys =>
    obtain ⟨v1, hv1, h1⟩ := optP_elim h
    obtain ⟨v2, hv2, hk⟩ := optP_elim h1
    have e1 := argsL_ok hE hv1
    have e2 := argsL_ok hE hv2
    refine run_value (s := Instr.makeFunc fn (xs.map a.eval) (ys.map a.eval)) rfl (v := .func fn (xs.map a.eval) (ys.map a.eval)) (w' := w) rfl (Post.still r hk (.func ?_ ?_ ?_ ?_))
    · simpa using e1.1
    · simpa using e1.2
    · simpa using e2.1
    · simpa using e2.2
  case makeMap t x =>
    simp only [opK] at h
    split at h
    · rename_i ht
      refine run_value (s := Instr.makeMap t none) rfl (v := .map (some w.heap.size)) (w' := w.alloc (.map #[] 0)) ?_ (makeMap_ok r h)
      simp [Instr.makeMap]
    · rename_i y ht
      split at h
      · rename_i k m hy
        have hev := (hE _ _ hy).int_inv
        refine run_value (s := Instr.makeMap t (some (a.eval y))) rfl (v := .map (some w.heap.size)) (w' := w.alloc (.map #[] 0)) ?_ (makeMap_ok r h)
        simp [Instr.makeMap, run_underlying ht, hev, asInt, asIntOf, Result.andThen]
      · exact h.elim
    · exact h.elim
  case makeSlice t x y =>
    obtain ⟨v1, hv1, h1⟩ := optP_elim h
    obtain ⟨v2, hv2, h2⟩ := optP_elim h1
    obtain ⟨v', w', q1, q2⟩ := makeSliceK_ok r (hE _ _ hv1) (hE _ _ hv2) h2
    exact run_value (s := Instr.makeSlice t (a.eval x) (a.eval y)) rfl q1 q2
  case slice t x lo hi mx =>
    simp only [opK] at h
    split at h
    · obtain ⟨v, hv, h1⟩ := optP_elim h
      obtain ⟨u, u', q1, q2, q3⟩ := sliceK_ok hE (hE _ _ hv) h1
      exact run_value (s := Instr.sliceAt t (a.eval x) (lo.map a.eval) (hi.map a.eval) none) rfl q3 (Post.still r q1 q2)
    · exact h.elim
  case fieldAddr t x f =>
    obtain ⟨v, hv, h1⟩ := optP_elim h
    obtain ⟨u, u', q1, q2, q3⟩ := fieldAddrK_ok (hE _ _ hv) h1
    exact run_value (s := Instr.fieldAt t (a.eval x) f) rfl (q3 w) (Post.still r q1 q2)
  case field t x f =>
    simp only [opK] at h
    split at h
    · rename_i cs fd hx hf
      obtain ⟨cs', hev, hcs⟩ := (hE _ _ hx).agg_inv
      obtain ⟨v, v', q1, q2, q3⟩ := partK_ok hcs h
      obtain ⟨fs, hu, hfs⟩ := fieldOf_elim hf
      refine run_value (s := Instr.field t (a.eval x) f) rfl (v := v') (w' := w) ?_ (Post.still r q1 q2)
      rw [hev]
      simp [Instr.field, run_underlying hu, hfs, asAgg, q3, Result.andThen]
    · exact h.elim
  case indexAddr t x i =>
    obtain ⟨v, hv, h1⟩ := optP_elim h
    obtain ⟨j, hj, h2⟩ := optP_elim h1
    obtain ⟨u, u', q1, q2, q3⟩ := indexAddrK_ok (hE _ _ hv) (hE _ _ hj) h2
    exact run_value (s := Instr.indexAt t (a.eval x) (a.eval i)) rfl (q3 w) (Post.still r q1 q2)
  case index t x i =>
    obtain ⟨v, hv, h1⟩ := optP_elim h
    obtain ⟨j, hj, h2⟩ := optP_elim h1
    obtain ⟨u, u', q1, q2, q3⟩ := indexK_ok (hE _ _ hv) (hE _ _ hj) h2
    exact run_value (s := Instr.index t (a.eval x) (a.eval i)) rfl (q3 w) (Post.still r q1 q2)
  case lookup t m k ok =>
    obtain ⟨v, hv, h1⟩ := optP_elim h
    obtain ⟨j, hj, h2⟩ := optP_elim h1
    obtain ⟨u, u', q1, q2, q3⟩ := lookupK_ok r (hE _ _ hv) (hE _ _ hj) h2
    exact run_value (s := Instr.lookup t (a.eval m) (a.eval k) ok) rfl q3 (Post.still r q1 q2)
  case mapUpdate t m k v =>
    obtain ⟨v1, hv1, h1⟩ := optP_elim h
    obtain ⟨v2, hv2, h2⟩ := optP_elim h1
    obtain ⟨v3, hv3, h3⟩ := optP_elim h2
    obtain ⟨w', H', q1, q2, q3, q4⟩ := updateK_ok r (hE _ _ hv1) (hE _ _ hv2) (hE _ _ hv3) h3
    exact run_unit (s := Instr.mapUpdate t (a.eval m) (a.eval k) (a.eval v)) rfl q1 ⟨ρ, undef, H', q4, .refl ρ, undef_VR ρ, q2, q3⟩
  case insert t m k v =>
    obtain ⟨v1, hv1, h1⟩ := optP_elim h
    obtain ⟨v2, hv2, h2⟩ := optP_elim h1
    obtain ⟨v3, hv3, h3⟩ := optP_elim h2
    obtain ⟨w', H', q1, q2, q3, q4⟩ := updateK_ok r (hE _ _ hv1) (hE _ _ hv2) (hE _ _ hv3) h3
    exact run_unit (s := Instr.mapUpdate t (a.eval m) (a.eval k) (a.eval v)) rfl q1 ⟨ρ, undef, H', q4, .refl ρ, undef_VR ρ, q2, q3⟩
  case extract x i =>
    simp only [opK] at h
    split at h
    · rename_i vs hx
      obtain ⟨vs', hev, hvs⟩ := (hE _ _ hx).tuple_inv
      obtain ⟨v, hv, hk⟩ := optP_elim h
      obtain ⟨v', q1, q2⟩ := hvs.get hv
      refine run_value (s := Instr.extract (a.eval x) i) rfl (v := v') (w' := w) ?_ (Post.still r hk q2)
      have : vs'[i]? = some v' := by simpa using q1
      rw [hev]; simp [Instr.extract, this]
    · exact h.elim
  case call cl =>
    obtain ⟨callee, xs, ts⟩ := cl
    cases callee with
    | invoke _ _ => exact h.elim
    | builtin b =>
      obtain ⟨vs, hvs, h1⟩ := optP_elim h
      have hargs := argsL_ok hE hvs
      obtain ⟨s, hs, v', w', q1, q2⟩ := builtinK_ok (ty := type) (cs := xs.map fun | .const _ => true | _ => false) (args := xs.map a.eval) r (by simpa using hargs) h1
      refine run_value (s := s) ?_ q1 q2
      simp only [execOp, resolve, invoke, pure_bind]
      exact hs
    | value f =>
      obtain ⟨vs, hvs, h1⟩ := optP_elim h
      have hargs := argsL_ok hE hvs
      split at h1
      · rename_i k
        unfold callS at h1
        split at h1
        · rename_i sp hsp
          have hg := (hT k sp hsp).sound _ _ _ h1 ρ B w (xs.map a.eval) r (by simpa using hargs)
          unfold Run
          simp only [execOp, resolve, Act.eval, Deferred.ofValue, invoke, pure_bind]
          unfold Gives at hg
          rw [show (#[] ++ xs.map a.eval ++ #[] : Array Value) = xs.map a.eval by simp]
          generalize (callFunc k (xs.map a.eval)).run c.P w = res at hg ⊢
          cases res with
          | halt _ _ => exact hg
          | ok nx _ => cases nx <;> first | exact hg | exact hg.elim
        · exact h1.elim
      · split at h1
        · rename_i k x1 x2 hf
          obtain ⟨y1, y2, hev, e1, e2⟩ := (hE _ _ hf).func_inv
          unfold callK at h1
          split at h1
          · rename_i sp hsp
            obtain ⟨_, h2⟩ := gd_elim h1
            have hg := (hT k sp hsp).sound _ _ _ h2 ρ B w (y1 ++ xs.map a.eval ++ y2) r (by simpa using (e1.append hargs).append e2)
            unfold Run
            simp only [execOp, resolve, hev, Deferred.ofValue, invoke, pure_bind]
            unfold Gives at hg
            generalize (callFunc k (y1 ++ xs.map a.eval ++ y2)).run c.P w = res at hg ⊢
            cases res with
            | halt _ _ => exact hg
            | ok nx _ => cases nx <;> first | exact hg | exact hg.elim
          · exact h1.elim
        · exact h1.elim
end Go.Proofs.Ytbikpfccdcblfaa.Eng
/- The engine, part 13: a region, in the order of its text. -/
namespace Go.Proofs.Ytbikpfccdcblfaa.Eng
open Go Go.RowKit
set_option linter.unusedVariables false
set_option linter.unusedSimpArgs false

/-- How the abstract state stands to the walk's. -/
def St (c : Cfg) (n : Nat) (ρ0 : Ren) (B : Nat) (w0 : World) (σ : Env) (H : Hp) (a : Act) (w : World) : Prop :=
  ∃ ρ, ρ0.ext ρ ∧ ER ρ n σ a ∧ a.defers = [] ∧ Rep c.P c.G ρ B H w.heap ∧ Below B w0 w

theorem ER.mono {ρ ρ' : Ren} {n : Nat} {σ : Env} {a : Act} (h : ER ρ n σ a) (hρ : ρ.ext ρ') : ER ρ' n σ a := ⟨h.1, fun t v hv => let ⟨x, y⟩ := h.2 t v hv; ⟨x, y.mono hρ⟩⟩
theorem look_cons (t d : Nat) (v : Value) (σ : Env) : look t ((d, v) :: σ) = if t = d then some v else look t σ := by
  show cond (Nat.beq t d) (some v) (look t σ) = _
  cases e : Nat.beq t d with
  | true => rw [if_pos (Nat.eq_of_beq_eq_true e)]; rfl
  | false => rw [if_neg (fun h => by subst h; rw [Nat.beq_refl] at e; cases e)]; rfl
theorem ER.put {ρ : Ren} {n : Nat} {σ : Env} {a : Act} (h : ER ρ n σ a) {d : Nat} (hd : d < n) {v v' : Value} (hv : VR ρ v v') : ER ρ n ((d, v) :: σ) (a.put (some d) v') := by
  refine ⟨by simp [Act.put, h.1], fun t u hu => ?_⟩
  rw [look_cons] at hu
  split at hu
  · rename_i e
    cases hu
    subst e
    refine ⟨hd, ?_⟩
    have hs : t < a.tmps.size := by rw [h.1]; exact hd
    simpa [Act.put, Array.getElem?_setIfInBounds, hs] using hv
  · rename_i e
    obtain ⟨h1, h2⟩ := h.2 t u hu
    refine ⟨h1, ?_⟩
    have : (a.put (some d) v').tmps.getD t undef = a.tmps.getD t undef := by
      simp only [Act.put, Array.getD_eq_getD_getElem?]
      rw [Array.getElem?_setIfInBounds_ne (fun e' => e e'.symm)]
    rw [this]; exact h2
theorem ER.putO {ρ : Ren} {n : Nat} {σ : Env} {a : Act} (h : ER ρ n σ a) {dst : Option Tmp} {v v' : Value} (hv : VR ρ v v') {K : Env → Prop} (hp : putE n dst v σ K) : ∃ σ', K σ' ∧ ER ρ n σ' (a.put dst v') := by
  cases dst with
  | none => exact ⟨σ, hp, h⟩
  | some d =>
    obtain ⟨h1, h2⟩ := gd_elim hp
    exact ⟨_, h2, h.put (Nat.lt_of_succ_le (Nat.le_of_ble_eq_true h1)) hv⟩
theorem put_defers (a : Act) (dst : Option Tmp) (v : Value) : (a.put dst v).defers = a.defers := by cases dst <;> rfl
theorem ER.same {ρ : Ren} {n : Nat} {σ σ' : Env} {a : Act} (h : ER ρ n σ a) (hs : ∀ t, look t σ' = look t σ) : ER ρ n σ' a := ⟨h.1, fun t v hv => h.2 t v (by rw [← hs]; exact hv)⟩
theorem St.same {c : Cfg} {n : Nat} {ρ0 : Ren} {B : Nat} {w0 : World} {σ σ' : Env} {H : Hp} {a : Act} {w : World} (h : St c n ρ0 B w0 σ H a w) (hs : ∀ t, look t σ' = look t σ) : St c n ρ0 B w0 σ' H a w :=
  let ⟨ρ, a1, a2, a3, a4, a5⟩ := h; ⟨ρ, a1, a2.same hs, a3, a4, a5⟩
theorem look_lit {d t : Nat} {v : Value} {σ : Env} (h : look d σ = some v) : look t ((d, v) :: σ) = look t σ := by
  rw [look_cons]
  split
  · rename_i e; rw [e, h]
  · rfl
theorem look_forget {live : List Nat} {σ : Env} {t : Nat} {v : Value} (h : look t (forget live σ) = some v) : look t σ = some v := by
  unfold forget at h
  induction live with
  | nil => simp [look] at h
  | cons u r ih =>
    rw [List.filterMap_cons] at h
    cases hu : look u σ with
    | none => rw [hu] at h; exact ih h
    | some x =>
      rw [hu] at h
      simp only [Option.map_some] at h
      rw [look_cons] at h
      split at h
      · rename_i e; cases h; rw [e]; exact hu
      · exact ih h
theorem St.forget {c : Cfg} {n : Nat} {ρ0 : Ren} {B : Nat} {w0 : World} {σ : Env} {H : Hp} {a : Act} {w : World} (h : St c n ρ0 B w0 σ H a w) (live : List Nat) : St c n ρ0 B w0 (forget live σ) H a w :=
  let ⟨ρ, a1, a2, a3, a4, a5⟩ := h; ⟨ρ, a1, ⟨a2.1, fun t v hv => a2.2 t v (look_forget hv)⟩, a3, a4, a5⟩

/-! guards -/
theorem yielded_of {ρ : Ren} {n : Nat} {σ : Env} {a : Act} (h : ER ρ n σ a) {ops : Array Oper} {j : Nat} {g : Oper} (hg : ops[j]? = some g) {d : Nat} (hd : g.dst = some d) {b : Bool} (hb : look d σ = some (.bool b)) : yielded ops a.tmps j = some b := by
  obtain ⟨h1, h2⟩ := h.2 d _ hb
  have hv := h2.bool_inv
  have hs : d < a.tmps.size := by rw [h.1]; exact h1
  have : a.tmps[d]? = some (.bool b) := by
    rw [Array.getD_eq_getD_getElem?, Array.getElem?_eq_getElem hs] at hv
    rw [Array.getElem?_eq_getElem hs]
    simpa using hv
  simp [yielded, hg, hd, this]
theorem yielded_undef {ρ : Ren} {n : Nat} {σ : Env} {a : Act} (h : ER ρ n σ a) {ops : Array Oper} {j : Nat} {g : Oper} (hg : ops[j]? = some g) {d : Nat} (hd : g.dst = some d) {cs : Array Value} (hb : look d σ = some (.tuple cs)) : yielded ops a.tmps j = none := by
  obtain ⟨h1, h2⟩ := h.2 d _ hb
  obtain ⟨cs', hv, _⟩ := h2.tuple_inv
  have hs : d < a.tmps.size := by rw [h.1]; exact h1
  have : a.tmps[d]? = some (.tuple cs') := by
    rw [Array.getD_eq_getD_getElem?, Array.getElem?_eq_getElem hs] at hv
    rw [Array.getElem?_eq_getElem hs]
    simpa using hv
  simp [yielded, hg, hd, this]
theorem gslot_none {ops : Array Oper} {o : Oper} (h : gslot ops o = some none) : o.guard = none := by
  unfold gslot at h
  split at h
  · assumption
  · split at h
    · cases h
    · split at h <;> cases h
theorem gslot_some {ops : Array Oper} {o : Oper} {d : Nat} {want : Bool} (h : gslot ops o = some (some (d, want))) : ∃ j g, o.guard = some (j, want) ∧ ops[j]? = some g ∧ g.dst = some d := by
  unfold gslot at h
  split at h
  · cases h
  · rename_i j want' hg
    split at h
    · cases h
    · rename_i g hg'
      split at h
      · cases h
      · rename_i d' hd
        simp only [Option.some.injEq, Prod.mk.injEq] at h
        obtain ⟨rfl, rfl⟩ := h
        exact ⟨j, g, hg, hg', hd⟩

/-- What an operation of a region asks, at the level of its value. -/
def valK (c : Cfg) (draw : Bool) (ops : Array Oper) (o : Oper) (σ : Env) (H : Hp) (K : Value → Hp → Prop) : Prop :=
  match gslot ops o with
  | none => False
  | some none => opK c draw o.op (arg c.G σ) H K
  | some (some (d, want)) => match look d σ with
    | some (.bool b) => match b == want with
      | true => opK c draw o.op (arg c.G σ) H K
      | false => K undef H
    | some (.tuple _) => K undef H
    | _ => False
theorem valK_ok {c : Cfg} (hT : ∀ k sp, c.T k = some sp → SpOK c.P c.G k sp) {n : Nat} {ρ0 : Ren} {B : Nat} {w0 : World} {σ : Env} {H : Hp} {a : Act} {w : World} {draw : Bool} {ops : Array Oper} {i : Nat} {o : Oper} (hi : ops[i]? = some o)
    (hs : St c n ρ0 B w0 σ H a w) {K : Env → Hp → Prop} (h : valK c draw ops o σ H fun v H => putE n o.dst v σ fun σ => K σ H) {Q : Exit → Act → World → Prop} {next : Act → World → Prop}
    (hk : ∀ σ' H' a' w', K σ' H' → St c n ρ0 B w0 σ' H' a' w' → next a' w') : wpOp c.P ops Q i next a w := by
  obtain ⟨ρ, a1, a2, a3, a4, a5⟩ := hs
  have run : opK c draw o.op (arg c.G σ) H (fun v H => putE n o.dst v σ fun σ => K σ H) → o.wp c.P a w next Q := by
    intro h
    refine (op_ok hT a4 (fun x v hx => arg_ok a4 a2 hx) h).wp fun v' w' hp => ?_
    obtain ⟨ρ', v, H', q1, q2, q3, q4, q5⟩ := hp
    obtain ⟨σ', q6, q7⟩ := (a2.mono q2).putO q3 q1
    exact hk σ' H' _ w' q6 ⟨ρ', a1.trans q2, q7, by rw [put_defers]; exact a3, q4, a5.trans q5⟩
  have skip : putE n o.dst undef σ (fun σ => K σ H) → next (a.put o.dst undef) w := by
    intro h
    obtain ⟨σ', q6, q7⟩ := a2.putO (undef_VR ρ) h
    exact hk σ' H _ w q6 ⟨ρ, a1, q7, by rw [put_defers]; exact a3, a4, a5⟩
  unfold wpOp
  simp only [hi]
  unfold valK at h
  split at h
  · exact h.elim
  · rename_i hg
    have hw : Region.wanted o (yielded ops a.tmps) = true := by simp [Region.wanted, gslot_none hg]
    rw [if_pos hw]
    exact .inl (run h)
  · rename_i d want hg
    obtain ⟨j, g, e1, e2, e3⟩ := gslot_some hg
    split at h
    · rename_i b hb
      have hy := yielded_of a2 e2 e3 hb
      have hw : Region.wanted o (yielded ops a.tmps) = (b == want) := by
        simp only [Region.wanted, e1, hy]
        cases b <;> cases want <;> rfl
      rw [hw]
      split at h
      · rename_i e; rw [if_pos e]; exact .inl (run h)
      · rename_i e; rw [if_neg (by rw [e]; simp)]; exact skip h
    · rename_i cs hb
      have hy := yielded_undef a2 e2 e3 hb
      have hw : Region.wanted o (yielded ops a.tmps) = false := by simp [Region.wanted, e1, hy]
      rw [hw, if_neg (by simp)]
      exact skip h
    · exact h.elim
/-- An operation in its slot is the same at its value, under an environment that shows the same. -/
theorem operK_val {c : Cfg} {n : Nat} {draw : Bool} {ops : Array Oper} {o : Oper} {σ : Env} {H : Hp} {K : Env → Hp → Prop} (h : operK c n draw ops o σ H K) :
    ∃ σ', (∀ t, look t σ' = look t σ) ∧ valK c draw ops o σ' H fun v H => putE n o.dst v σ' fun σ => K σ H := by
  unfold operK at h
  split at h
  · exact h.elim
  · rename_i hg
    refine ⟨σ, fun _ => rfl, ?_⟩
    unfold valK; rw [hg]; exact h
  · rename_i d want hg
    split at h
    · rename_i hb
      refine ⟨_, fun t => look_lit hb, ?_⟩
      have hb' := (look_lit (t := d) hb).trans hb
      unfold valK; rw [hg]; simp only [hb']
      cases want <;> exact h
    · rename_i hb
      refine ⟨_, fun t => look_lit hb, ?_⟩
      have hb' := (look_lit (t := d) hb).trans hb
      unfold valK; rw [hg]; simp only [hb']
      cases want <;> exact h
    · rename_i cs hb
      refine ⟨σ, fun _ => rfl, ?_⟩
      unfold valK; rw [hg]; simp only [hb]
      exact h
    · exact h.elim
theorem operK_ok {c : Cfg} (hT : ∀ k sp, c.T k = some sp → SpOK c.P c.G k sp) {n : Nat} {ρ0 : Ren} {B : Nat} {w0 : World} {σ : Env} {H : Hp} {a : Act} {w : World} {draw : Bool} {ops : Array Oper} {i : Nat} {o : Oper} (hi : ops[i]? = some o)
    (hs : St c n ρ0 B w0 σ H a w) {K : Env → Hp → Prop} (h : operK c n draw ops o σ H K) {Q : Exit → Act → World → Prop} {next : Act → World → Prop}
    (hk : ∀ σ' H' a' w', K σ' H' → St c n ρ0 B w0 σ' H' a' w' → next a' w') : wpOp c.P ops Q i next a w := by
  obtain ⟨σ', h1, h2⟩ := operK_val h
  exact valK_ok hT hi (hs.same h1) h2 hk
theorem opersK_ok {c : Cfg} (hT : ∀ k sp, c.T k = some sp → SpOK c.P c.G k sp) {n : Nat} {ρ0 : Ren} {B : Nat} {w0 : World} {draw : Bool} {ops : Array Oper} {Q : Exit → Act → World → Prop} {K : Env → Hp → Prop}
    (hk : ∀ σ' H' a' w', K σ' H' → St c n ρ0 B w0 σ' H' a' w' → Q .normal a' w') : ∀ {os : List Oper} {k : Nat} {σ : Env} {H : Hp} {a : Act} {w : World} (_ : ∀ j, os[j]? = ops[k + j]?) (_ : St c n ρ0 B w0 σ H a w) (_ : opersK c n draw ops os σ H K),
    wpOps c.P ops Q (List.range' k os.length) a w
  | [], k, σ, H, a, w, ho, hs, h => hk _ _ _ _ h hs
  | o :: os, k, σ, H, a, w, ho, hs, h => by
    rw [List.length_cons, List.range'_succ, wpOps_cons]
    exact operK_ok hT (by have := ho 0; simpa using this.symm) hs h fun σ' H' a' w' h1 h2 =>
      opersK_ok hT hk (fun j => by have := ho (j + 1); rw [show k + 1 + j = k + (j + 1) by omega]; simpa using this) h2 h1
theorem region_ok {c : Cfg} (hT : ∀ k sp, c.T k = some sp → SpOK c.P c.G k sp) {n : Nat} {ρ0 : Ren} {B : Nat} {w0 : World} {id : Nat} {ops : Array Oper} {Q : Exit → Act → World → Prop} {K : Env → Hp → Prop} {σ : Env} {H : Hp} {a : Act} {w : World}
    (hs : St c n ρ0 B w0 σ H a w) (h : opersK c n false ops ops.toList σ H K) (hk : ∀ σ' H' a' w', K σ' H' → St c n ρ0 B w0 σ' H' a' w' → Q .normal a' w') : (Code.region id ops false).wp c.P Q a w := by
  refine wp_region ?_
  have := opersK_ok hT (Q := Q) hk (k := 0) (os := ops.toList) (ops := ops) (fun j => by simp) hs h
  rw [Array.length_toList] at this
  rw [List.range_eq_range']
  exact this
end Go.Proofs.Ytbikpfccdcblfaa.Eng
/- The engine, part 13a: what an operation yields is one value: the ground for regions that draw their order. -/
namespace Go.Proofs.Ytbikpfccdcblfaa.Eng
open Go Go.RowKit
set_option linter.unusedVariables false
set_option linter.unusedSimpArgs false

def D1 (T : (Value → Prop) → Prop) : Prop := ∀ K, T K → ∃ v, K v ∧ ∀ K', K' v → T K'
theorem D1.k (v : Value) : D1 (fun K => K v) := fun K h => ⟨v, h, fun _ h => h⟩
theorem D1.no : D1 (fun _ => False) := fun K h => h.elim
theorem D1.gd {b : Bool} {T : (Value → Prop) → Prop} (h : D1 T) : D1 (fun K => gd b (T K)) := by
  cases b with
  | false => exact D1.no
  | true => exact h
theorem D1.opt {α : Type} {o : Option α} {T : α → (Value → Prop) → Prop} (h : ∀ x, D1 (T x)) : D1 (fun K => optP o fun x => T x K) := by
  cases o with
  | none => exact D1.no
  | some x => exact h x
theorem D1.and {p : Prop} {T : (Value → Prop) → Prop} (h : D1 T) : D1 (fun K => p ∧ T K) := fun K ⟨hp, hk⟩ =>
  let ⟨v, a, b⟩ := h K hk; ⟨v, a, fun K' h' => ⟨hp, b K' h'⟩⟩
theorem D1.ex {α : Type} {T : α → (Value → Prop) → Prop} (h : ∀ x, D1 (T x)) : D1 (fun K => ∃ x, T x K) := fun K ⟨x, hk⟩ =>
  let ⟨v, a, b⟩ := h x K hk; ⟨v, a, fun K' h' => ⟨x, b K' h'⟩⟩
theorem D1.optk {o : Option Value} : D1 (fun K => optP o K) := D1.opt fun x => D1.k x
theorem D1.mat {b : Bool} {T T' : (Value → Prop) → Prop} (h : D1 T) (h' : D1 T') : D1 (fun K => match b with | true => T K | false => T' K) := by cases b <;> assumption
theorem D1.mat' {b : Bool} {T T' : (Value → Prop) → Prop} (h : D1 T) (h' : D1 T') : D1 (fun K => match b with | false => T K | true => T' K) := by cases b <;> assumption
theorem binK_int (P : Program) (op : BinOp) (t : TypeId) (k k' : IntKind) (m n : Int) : D1 (fun K => binK P op t (.int k m) (.int k' n) K) := by
  by_cases e : k = k'
  · subst e
    cases op <;> simp only [binK, decide_true] <;> first | exact D1.gd (D1.k _) | exact D1.optk | exact D1.k _ | exact D1.no
  · cases op <;> simp only [binK, decide_eq_false e] <;> first | exact D1.gd (D1.k _) | exact D1.no
theorem eql_D1 (P : Program) (t : TypeId) (a b : Value) : D1 (fun K => match binK.eqSafe P a b t with | true => optP (eqV P 5 t a b) fun r => K (.bool r) | false => False) :=
  D1.mat (D1.opt fun _ => D1.k _) D1.no
theorem neq_D1 (P : Program) (t : TypeId) (a b : Value) : D1 (fun K => match binK.eqSafe P a b t with | true => optP (eqV P 5 t a b) fun r => K (.bool (!r)) | false => False) :=
  D1.mat (D1.opt fun _ => D1.k _) D1.no
theorem binK_D1 (P : Program) (op : BinOp) (t : TypeId) (a b : Value) : D1 (binK P op t a b) := by
  have e1 := eql_D1 P t a b
  have e2 := neq_D1 P t a b
  cases a <;> cases b <;> first
    | exact binK_int P op t _ _ _ _
    | (cases op <;> first
      | exact D1.no
      | exact D1.k _
      | exact D1.gd (D1.k _)
      | exact e1
      | exact e2)
theorem ifaceK_D1 (op : BinOp) (x y : Operand) (a b : Value) : D1 (ifaceK op x y a b) := by
  unfold ifaceK
  cases op <;> first
    | exact D1.no
    | exact D1.mat (D1.opt fun _ => D1.k _) (D1.gd (D1.opt fun _ => D1.k _))
theorem binopK_D1 (P : Program) (op : BinOp) (t : TypeId) (x y : Operand) (a b : Value) : D1 (binopK P op t x y a b) := by
  unfold binopK
  exact D1.mat (ifaceK_D1 _ _ _ _ _) (binK_D1 _ _ _ _ _)
theorem getK_D1 (H : Hp) (b o : Nat) (z : Value) : D1 (getK H b o z) := by
  cases z <;> refine D1.ex fun _ => ?_ <;> first
    | exact D1.and (D1.k _)
    | exact D1.and (D1.and (D1.k _))
    | exact D1.ex fun _ => D1.ex fun _ => D1.and (D1.k _)
def DL (T : (List Value → Prop) → Prop) : Prop := ∀ K, T K → ∃ v, K v ∧ ∀ K', K' v → T K'
theorem getsK_DL (H : Hp) (b : Nat) : ∀ (zs : List Value) (o : Nat), DL (getsK H b o zs)
  | [], _ => fun K h => ⟨[], h, fun _ h => h⟩
  | z :: zs, o => fun K h => by
    obtain ⟨v, h1, h2⟩ := getK_D1 H b o z _ h
    obtain ⟨vs, h3, h4⟩ := getsK_DL H b zs (o + 1) _ h1
    exact ⟨v :: vs, h3, fun K' h' => h2 _ (h4 _ h')⟩
theorem loadK_D1 (P : Program) (H : Hp) (b o : Nat) (t : TypeId) : D1 (loadK P H b o t) := by
  unfold loadK
  cases P.info? t with
  | none => exact D1.no
  | some i =>
    cases P.underlying t with
    | none => exact D1.no
    | some d =>
      cases hz : i.zero with
      | none => exact fun K h => by simp only [hz] at h
      | some z =>
        simp only [hz]
        refine D1.mat (D1.mat ?_ D1.no) (getK_D1 _ _ _ _)
        intro K h
        obtain ⟨vs, h1, h2⟩ := getsK_DL H b _ o _ h
        exact ⟨_, h1, fun K' h' => h2 _ h'⟩
theorem lenK_D1 (P : Program) (t : TypeId) (x : Value) (H : Hp) : D1 (lenK P t x H) := by
  unfold lenK
  intro K h
  split at h <;> first | exact h.elim | exact ⟨_, h, fun _ h => h⟩ | exact D1.ex (fun _ => D1.ex fun _ => D1.and (D1.k _)) K h
theorem maxK_D1 (b : Bool) (vs : List Value) : D1 (fun K => maxK b K vs) := by
  intro K h
  unfold maxK at h
  split at h
  · exact ⟨_, h, fun K' h' => h'⟩
  · exact h.elim
theorem seenK_D1 (z v : Value) : D1 (seenK z v) := by
  cases z <;> first
    | exact D1.k _
    | (refine D1.ex fun _ => ?_; first
      | exact D1.and (D1.k _)
      | exact D1.ex fun _ => D1.ex fun _ => D1.and (D1.k _))
theorem lookupK_D1 (P : Program) (t : TypeId) (m k : Value) (ok : Bool) (H : Hp) : D1 (lookupK P t m k ok H) := by
  unfold lookupK
  cases P.underlying t with
  | none => exact D1.no
  | some d =>
    cases d <;> try exact D1.no
    rename_i kt et
    refine D1.gd ?_
    cases zeroOf P et with
    | none => exact D1.no
    | some z =>
      cases m <;> try exact D1.no
      rename_i r
      cases r with
      | none => exact D1.k _
      | some r =>
        refine D1.ex fun es => D1.and ?_
        cases mfind P kt k es with
        | none => exact D1.k _
        | some v =>
          intro K h
          obtain ⟨v', h1, h2⟩ := seenK_D1 z v _ h
          exact ⟨_, h1, fun K' h' => h2 _ h'⟩
theorem boundK_D1 (E : Operand → Option Value) (o : Option Operand) (d : Int) {T : Int → (Value → Prop) → Prop} (h : ∀ n, D1 (T n)) : D1 (fun K => boundK E o d fun n => T n K) := by
  cases o with
  | none => exact h d
  | some x =>
    simp only [boundK]
    cases E x with
    | none => exact D1.no
    | some v => cases v <;> first | exact D1.no | exact h _
theorem sliceK_D1 (P : Program) (E : Operand → Option Value) (t : TypeId) (x : Value) (lo hi : Option Operand) : D1 (sliceK P E t x lo hi) := by
  unfold sliceK
  intro K h
  split at h
  · exact boundK_D1 E lo 0 (fun _ => boundK_D1 E hi _ fun _ => D1.gd (D1.k _)) K h
  · rename_i e a n k hu
    cases hi' : P.info? e with
    | none => rw [hi'] at h; exact h.elim
    | some i =>
      rw [hi'] at h
      refine boundK_D1 E lo 0 (fun _ => boundK_D1 E hi _ fun _ => D1.gd ?_) K h
      cases a <;> exact D1.k _
  · rename_i n e p hu
    refine D1.opt (fun ad => ?_) K h
    cases hi' : P.info? e with
    | none => exact D1.no
    | some i => exact boundK_D1 E lo 0 (fun _ => boundK_D1 E hi _ fun _ => D1.gd (D1.k _))
  · exact h.elim
theorem partK_D1 (P : Program) (t : TypeId) (cs : List Value) (off : Nat) : D1 (partK P t cs off) := by
  unfold partK
  cases P.info? t with
  | none => exact D1.no
  | some i => cases P.underlying t with
    | none => exact D1.no
    | some d => exact D1.mat (D1.k _) D1.optk
theorem fieldAddrK_D1 (P : Program) (t : TypeId) (f : Nat) (x : Value) : D1 (fieldAddrK P t f x) := by
  unfold fieldAddrK
  cases fieldOf P t f with
  | none => exact D1.no
  | some fd => cases x <;> first | exact D1.no | exact D1.opt fun _ => D1.gd (D1.k _)
theorem indexAddrK_D1 (P : Program) (t : TypeId) (x ix : Value) : D1 (indexAddrK P t x ix) := by
  unfold indexAddrK
  cases ix <;> try exact D1.no
  cases P.underlying t with
  | none => exact D1.no
  | some d =>
    cases d <;> try exact D1.no
    all_goals cases x <;> try exact D1.no
    all_goals
      simp only
      generalize P.info? _ = oi
      cases oi with
      | none => exact D1.no
      | some i => exact D1.opt fun _ => D1.gd (D1.k _)
theorem indexK_D1 (P : Program) (t : TypeId) (x ix : Value) : D1 (indexK P t x ix) := by
  unfold indexK
  cases ix <;> try exact D1.no
  cases P.underlying t with
  | none => exact D1.no
  | some d =>
    cases d <;> try exact D1.no
    all_goals cases x <;> try exact D1.no
    · exact D1.gd (D1.k _)
    · simp only
      generalize P.info? _ = oi
      cases oi with
      | none => exact D1.no
      | some i => exact D1.gd (partK_D1 _ _ _ _)

/-! operations -/
def DP (T : Hp → (Value → Hp → Prop) → Prop) : Prop := ∀ H K, T H K → ∃ v, K v H ∧ ∀ H' K', K' v H' → T H' K'
def DQ (H : Hp) (T : (Value → Hp → Prop) → Prop) : Prop := ∀ K, T K → ∃ v, K v H ∧ ∀ K', K' v H → T K'
/-- Nothing lies beyond the heap's end. -/
def WFH (H : Hp) : Prop := ∀ b, H.next ≤ b → H.obj b = none
def DG (H : Hp) (T : (Value → Hp → Prop) → Prop) : Prop := ∀ K, T K → ∃ v H1, (WFH H → WFH H1) ∧ K v H1 ∧ ∀ K', K' v H1 → T K'
/-- It asks no more of a continuation that takes more. -/
def M1 (T : (Value → Hp → Prop) → Prop) : Prop := ∀ K K', (∀ v H, K v H → K' v H) → T K → T K'
theorem DP.quiet {T : Hp → (Value → Hp → Prop) → Prop} (h : DP T) (H : Hp) : DQ H (T H) := fun K hk => let ⟨v, a, b⟩ := h H K hk; ⟨v, a, fun K' h' => b H K' h'⟩
theorem DQ.gen {H : Hp} {T : (Value → Hp → Prop) → Prop} (h : DQ H T) : DG H T := fun K hk => let ⟨v, a, b⟩ := h K hk; ⟨v, H, id, a, b⟩
theorem DG.m1 {H : Hp} {T : (Value → Hp → Prop) → Prop} (h : DG H T) : M1 T := fun K K' hk hT => let ⟨v, H1, _, a, b⟩ := h K hT; b K' (hk _ _ a)
theorem M1.no : M1 (fun _ => False) := fun _ _ _ h => h.elim
theorem M1.k (v : Value) (H : Hp) : M1 (fun K => K v H) := fun _ _ h hk => h _ _ hk
theorem M1.opt {α : Type} {o : Option α} {T : α → (Value → Hp → Prop) → Prop} (h : ∀ x, M1 (T x)) : M1 (fun K => optP o fun x => T x K) := by
  cases o with
  | none => exact M1.no
  | some x => exact h x
theorem M1.gd {b : Bool} {T : (Value → Hp → Prop) → Prop} (h : M1 T) : M1 (fun K => gd b (T K)) := by
  cases b with
  | false => exact M1.no
  | true => exact h
theorem M1.and {p : Prop} {T : (Value → Hp → Prop) → Prop} (h : M1 T) : M1 (fun K => p ∧ T K) := fun K K' hk ⟨a, b⟩ => ⟨a, h K K' hk b⟩
theorem M1.ex {α : Type} {T : α → (Value → Hp → Prop) → Prop} (h : ∀ x, M1 (T x)) : M1 (fun K => ∃ x, T x K) := fun K K' hk ⟨x, b⟩ => ⟨x, h x K K' hk b⟩
theorem WFH.new {H : Hp} (h : WFH H) (o : AObj) : WFH (H.new o) := fun b hb => by
  have hb : H.next + 1 ≤ b := hb
  show (if b = H.next then some o else H.obj b) = none
  rw [if_neg (by omega)]
  exact h b (by omega)
theorem WFH.store {H : Hp} (h : WFH H) (b o : Nat) (vs : List Value) : WFH (H.store b o vs) := by
  unfold Hp.store
  split
  · rename_i w e cs hb
    intro b' hb'
    show (if b' = b then _ else H.obj b') = none
    split
    · rename_i e2
      subst e2
      rw [h b' hb'] at hb
      cases hb
    · exact h b' hb'
  · exact h
theorem DP.k (v : Value) : DP (fun H K => K v H) := fun H K h => ⟨v, h, fun _ _ h => h⟩
theorem DP.no : DP (fun _ _ => False) := fun H K h => h.elim
theorem DP.of {T : (Value → Prop) → Prop} (h : D1 T) : DP (fun H K => T fun v => K v H) := fun H K hk => let ⟨v, a, b⟩ := h _ hk; ⟨v, a, fun H' K' h' => b _ h'⟩
theorem DP.opt {α : Type} {o : Option α} {T : α → Hp → (Value → Hp → Prop) → Prop} (h : ∀ x, DP (T x)) : DP (fun H K => optP o fun x => T x H K) := by
  cases o with
  | none => exact DP.no
  | some x => exact h x
theorem DP.gd {b : Bool} {T : Hp → (Value → Hp → Prop) → Prop} (h : DP T) : DP (fun H K => gd b (T H K)) := by
  cases b with
  | false => exact DP.no
  | true => exact h
theorem DQ.of {H : Hp} {T : (Value → Prop) → Prop} (h : D1 T) : DQ H (fun K => T fun v => K v H) := fun K hk => let ⟨v, a, b⟩ := h _ hk; ⟨v, a, fun K' h' => b _ h'⟩
theorem DQ.no {H : Hp} : DQ H (fun _ => False) := fun K h => h.elim
theorem DQ.opt {H : Hp} {α : Type} {o : Option α} {T : α → (Value → Hp → Prop) → Prop} (h : ∀ x, DQ H (T x)) : DQ H (fun K => optP o fun x => T x K) := by
  cases o with
  | none => exact DQ.no
  | some x => exact h x
theorem DG.no {H : Hp} : DG H (fun _ => False) := fun K h => h.elim
theorem DG.opt {H : Hp} {α : Type} {o : Option α} {T : α → (Value → Hp → Prop) → Prop} (h : ∀ x, DG H (T x)) : DG H (fun K => optP o fun x => T x K) := by
  cases o with
  | none => exact DG.no
  | some x => exact h x
theorem DG.gd {H : Hp} {b : Bool} {T : (Value → Hp → Prop) → Prop} (h : DG H T) : DG H (fun K => gd b (T K)) := by
  cases b with
  | false => exact DG.no
  | true => exact h
theorem DG.k {H : Hp} (v : Value) (H' : Hp) (hw : WFH H → WFH H') : DG H (fun K => K v H') := fun K h => ⟨v, H', hw, h, fun _ h => h⟩
theorem DG.and {H : Hp} {p : Prop} {T : (Value → Hp → Prop) → Prop} (h : DG H T) : DG H (fun K => p ∧ T K) := fun K ⟨hp, hk⟩ =>
  let ⟨v, H1, w, a, b⟩ := h K hk; ⟨v, H1, w, a, fun K' h' => ⟨hp, b K' h'⟩⟩
theorem DG.all {H : Hp} {vs : List Value} {T : (Value → Hp → Prop) → Prop} (h : DG H T) : DG H (fun K => allOne vs (T K)) := by
  induction vs with
  | nil => exact h
  | cons v r ih => exact DG.gd ih

def opPure : Op → Bool
  | .move _ | .assign _ | .pick .. | .build .. | .nilCheck _ | .binOp .. | .unOp .. | .makeInterface .. | .makeFunc .. | .slice .. | .fieldAddr .. | .field .. | .indexAddr .. | .index .. | .extract .. => true
  | _ => false
/-- Is it a function, known by the text, that leaves the heap alone? -/
def calmF (c : Cfg) : Operand → Bool
  | .func k => match c.T k with | some sp => sp.quiet | none => true
  | _ => true
def opQuiet (c : Cfg) : Op → Bool
  | .load .. | .lookup .. => true
  | .call ⟨.builtin .len, _, _⟩ => true
  | .call ⟨.value f, _, _⟩ => calmF c f
  | op => opPure op
def opOK (c : Cfg) : Op → Bool
  | .alloc _ | .box .. | .buildSlice .. | .store .. => true
  | op => opQuiet c op
/-- What stands in a region that draws its order. -/
def opAny : Op → Bool
  | .load .. | .lookup .. | .alloc _ | .box .. | .buildSlice .. | .store .. | .makeSlice .. | .makeMap .. | .mapUpdate .. | .insert .. | .convert .. => true
  | .call ⟨.builtin .len, _, _⟩ | .call ⟨.builtin .append, _, _⟩ | .call ⟨.builtin .max, _, _⟩ | .call ⟨.builtin .min, _, _⟩ => true
  | .call ⟨.value _, _, _⟩ => true
  | op => opPure op
theorem opK_pure (c : Cfg) (draw : Bool) (op : Op) (E : Operand → Option Value) (h : opPure op = true) : DP (fun H K => opK c draw op E H K) := by
  cases op <;> first | cases h | skip
  case move x => exact DP.opt fun _ => DP.k _
  case assign x => exact DP.opt fun _ => DP.k _
  case pick t a b =>
    simp only [opK]
    cases E t with
    | none => exact DP.no
    | some v => cases v <;> first | exact DP.no | (rename_i b; cases b <;> exact DP.opt fun _ => DP.k _)
  case build t ps => exact DP.opt fun _ => DP.opt fun _ => DP.opt fun _ => DP.opt fun _ => DP.k _
  case nilCheck x =>
    refine DP.opt fun v => ?_
    cases isFun v with
    | true => exact DP.k _
    | false => exact DP.opt fun _ => DP.k _
  case binOp op t x y _ => exact DP.opt fun _ => DP.opt fun _ => DP.of (binopK_D1 _ _ _ _ _ _ _)
  case unOp op _ x =>
    simp only [opK]
    cases op <;> (cases E x with
      | none => exact DP.no
      | some v => cases v <;> first | exact DP.no | exact DP.k _ | exact DP.opt fun _ => DP.k _)
  case makeInterface t x => exact DP.opt fun _ => DP.opt fun _ => DP.gd (DP.k _)
  case makeFunc fn xs ys => exact DP.opt fun _ => DP.opt fun _ => DP.k _
  case slice t x lo hi mx =>
    cases mx with
    | none => exact DP.opt fun _ => DP.of (sliceK_D1 _ _ _ _ _ _)
    | some _ => exact DP.no
  case fieldAddr t x f => exact DP.opt fun _ => DP.of (fieldAddrK_D1 _ _ _ _)
  case field t x f =>
    simp only [opK]
    cases E x with
    | none => exact DP.no
    | some v => cases fieldOf c.P t f with
      | none => cases v <;> exact DP.no
      | some fd => cases v <;> first | exact DP.no | exact DP.of (partK_D1 _ _ _ _)
  case indexAddr t x i => exact DP.opt fun _ => DP.opt fun _ => DP.of (indexAddrK_D1 _ _ _ _)
  case index t x i => exact DP.opt fun _ => DP.opt fun _ => DP.of (indexK_D1 _ _ _ _)
  case extract x i =>
    simp only [opK]
    cases E x with
    | none => exact DP.no
    | some v => cases v <;> first | exact DP.no | exact DP.opt fun _ => DP.k _
theorem opK_quiet {c : Cfg} (hT : ∀ k sp, c.T k = some sp → SpOK c.P c.G k sp) (op : Op) (E : Operand → Option Value) (H : Hp) (h : opQuiet c op = true) : DQ H (opK c true op E H) := by
  by_cases hp : opPure op = true
  · exact (opK_pure c true op E hp).quiet H
  cases op <;> first | exact absurd rfl hp | (exfalso; exact Bool.noConfusion h) | skip
  case load t a =>
    exact DQ.opt fun _ => DQ.opt fun _ => DQ.of (loadK_D1 _ _ _ _ _)
  case lookup t m k ok => exact DQ.opt fun _ => DQ.opt fun _ => DQ.of (lookupK_D1 _ _ _ _ _ _)
  case call cl =>
    obtain ⟨callee, xs, ts⟩ := cl
    cases callee with
    | invoke r m => exfalso; exact Bool.noConfusion h
    | builtin b =>
      cases b <;> first | (exfalso; exact Bool.noConfusion h) | skip
      show DQ H (fun K => opK c true _ E H K)
      simp only [opK]
      refine DQ.opt fun vs => ?_
      generalize ts.toList = tl
      rcases tl with _ | ⟨t, _ | ⟨t2, r⟩⟩ <;> rcases vs with _ | ⟨x, _ | ⟨x2, r2⟩⟩ <;> first | exact DQ.no | exact DQ.of (lenK_D1 _ _ _ _)
    | value f =>
      show DQ H (fun K => opK c true _ E H K)
      simp only [opK]
      refine DQ.opt fun vs => ?_
      split
      · rename_i k
        unfold callS
        have hq : (match c.T k with | some sp => sp.quiet | none => true) = true := h
        cases hk : c.T k with
        | none => exact DQ.no
        | some sp =>
          rw [hk] at hq
          exact fun K hK => (hT k sp hk).quiet hq _ _ _ hK
      · cases E f with
        | none => exact DQ.no
        | some v =>
          cases v <;> try exact DQ.no
          rename_i fn a b
          cases fn <;> try exact DQ.no
          rename_i k
          show DQ H (fun K => callK (c.T k) true (a.toList ++ vs ++ b.toList) H K)
          unfold callK
          cases hk : c.T k with
          | none => exact DQ.no
          | some sp =>
            simp only [Bool.not_true, Bool.false_or]
            intro K hK
            obtain ⟨hq, hr⟩ := gd_elim hK
            obtain ⟨v, h1, h2⟩ := (hT k sp hk).quiet hq _ _ _ hr
            exact ⟨v, h1, fun K' h' => gd_iff.2 ⟨hq, h2 K' h'⟩⟩
theorem opK_gen {c : Cfg} (hT : ∀ k sp, c.T k = some sp → SpOK c.P c.G k sp) (op : Op) (E : Operand → Option Value) (H : Hp) (h : opOK c op = true) : DG H (opK c true op E H) := by
  by_cases hp : opQuiet c op = true
  · exact (opK_quiet hT op E H hp).gen
  cases op <;> first | exact absurd h hp | skip
  case alloc e => exact DG.opt fun _ => DG.k _ _ fun w => w.new _
  case box e x => exact DG.opt fun _ => DG.all (DG.k _ _ fun w => w.new _)
  case buildSlice t n ps =>
    show DG H (fun K => opK c true _ E H K)
    simp only [opK]
    refine DG.opt fun vs => ?_
    cases c.P.underlying t with
    | none => exact DG.no
    | some d =>
      cases d <;> try exact DG.no
      exact DG.opt fun _ => DG.gd (DG.gd (DG.opt fun _ => DG.all (DG.k _ _ fun w => w.new _)))
  case store t a x =>
    refine DG.opt fun _ => DG.opt fun _ => DG.opt fun v => ?_
    unfold storeK
    cases c.P.info? t with
    | none => exact DG.no
    | some i => exact DG.gd (DG.all (DG.and (DG.k _ _ fun w => w.store _ _ _)))
theorem srcK_M1 (sz : Nat) (x : Value) (H : Hp) {T : Nat → List Value → (Value → Hp → Prop) → Prop} (h : ∀ n l, M1 (T n l)) : M1 (fun K => srcK sz x H fun n l => T n l K) := by
  unfold srcK
  cases x <;> try exact M1.no
  · exact h _ _
  · rename_i a n k
    cases a with
    | none => exact h _ _
    | some a => exact M1.and (h _ _)
theorem opK_mono {c : Cfg} (hT : ∀ k sp, c.T k = some sp → SpOK c.P c.G k sp) (op : Op) (E : Operand → Option Value) (H : Hp) (h : opAny op = true) : M1 (opK c true op E H) := by
  by_cases hp : opOK c op = true
  · exact (opK_gen hT op E H hp).m1
  cases op <;> first | exact absurd h hp | (exfalso; exact Bool.noConfusion h) | skip
  case makeSlice t l m =>
    refine M1.opt fun a => M1.opt fun b => ?_
    unfold makeSliceK
    split
    · split
      · exact M1.no
      · split
        · exact M1.no
        · exact M1.gd (M1.gd (M1.k _ _))
    · exact M1.no
  case makeMap t r =>
    show M1 (fun K => opK c true _ E H K)
    simp only [opK]
    split
    · exact M1.k _ _
    · split
      · exact M1.k _ _
      · exact M1.no
    · exact M1.no
  case mapUpdate t m k v =>
    refine M1.opt fun m => M1.opt fun k => M1.opt fun v => ?_
    unfold updateK
    split
    · refine M1.gd ?_
      split
      · exact M1.opt fun r => M1.ex fun es => M1.and (M1.k _ _)
      · exact M1.no
    · exact M1.no
  case insert t m k v =>
    refine M1.opt fun m => M1.opt fun k => M1.opt fun v => ?_
    unfold updateK
    split
    · refine M1.gd ?_
      split
      · exact M1.opt fun r => M1.ex fun es => M1.and (M1.k _ _)
      · exact M1.no
    · exact M1.no
  case convert s t x =>
    refine M1.opt fun v => ?_
    unfold convertK
    split
    · exact M1.k _ _
    · exact M1.k _ _
    · split
      · exact M1.gd (M1.k _ _)
      · exact M1.no
    · split
      · split
        · exact M1.k _ _
        · exact M1.and (M1.and (M1.k _ _))
      · exact M1.no
    · exact M1.no
  case call cl =>
    obtain ⟨callee, xs, ts⟩ := cl
    cases callee with
    | invoke r m => exfalso; exact Bool.noConfusion h
    | builtin b =>
      cases b with
      | len => exact absurd rfl hp
      | append =>
        show M1 (fun K => opK c true _ E H K)
        simp only [opK]
        refine M1.opt fun vs => ?_
        generalize ts.toList = tl
        unfold builtinK
        rcases tl with _ | ⟨t, _ | ⟨t2, _ | ⟨t3, tl⟩⟩⟩ <;> rcases vs with _ | ⟨s, _ | ⟨x, _ | ⟨y, vs⟩⟩⟩ <;> first | exact M1.no | skip
        show M1 (fun K => appendK c.P t t2 s x H K)
        unfold appendK
        split
        · split
          · exact M1.no
          · refine M1.gd (M1.gd ?_)
            split
            · split
              · refine srcK_M1 _ _ _ fun n l => ?_
                split
                · exact M1.k _ _
                · exact M1.gd (M1.k _ _)
              · exact M1.gd (M1.and (srcK_M1 _ _ _ fun n l => M1.gd (M1.k _ _)))
            · exact M1.no
        · exact M1.no
      | max =>
        show M1 (fun K => opK c true _ E H K)
        simp only [opK]
        refine M1.opt fun vs => ?_
        show M1 (fun K => maxK true (fun v => K v H) vs)
        intro K K' hk h1
        obtain ⟨v, h2, h3⟩ := maxK_D1 true vs _ h1
        exact h3 _ (hk _ _ h2)
      | min =>
        show M1 (fun K => opK c true _ E H K)
        simp only [opK]
        refine M1.opt fun vs => ?_
        show M1 (fun K => maxK false (fun v => K v H) vs)
        intro K K' hk h1
        obtain ⟨v, h2, h3⟩ := maxK_D1 false vs _ h1
        exact h3 _ (hk _ _ h2)
      | _ => exfalso; exact Bool.noConfusion h
    | value f =>
      show M1 (fun K => opK c true _ E H K)
      simp only [opK]
      refine M1.opt fun vs => ?_
      split
      · rename_i k
        unfold callS
        cases hk : c.T k with
        | none => exact M1.no
        | some sp => exact fun K K' h1 h2 => (hT k sp hk).mono _ _ _ _ h1 h2
      · split
        · rename_i k a b _
          unfold callK
          cases hk : c.T k with
          | none => exact M1.no
          | some sp => exact M1.gd fun K K' h1 h2 => (hT k sp hk).mono _ _ _ _ h1 h2
        · exact M1.no

/-! an operation looks at its operands alone -/
theorem argsL_congr {E E' : Operand → Option Value} : ∀ {xs : List Operand}, (∀ x ∈ xs, E x = E' x) → argsL E xs = argsL E' xs
  | [], _ => rfl
  | x :: xs, h => by
    simp only [argsL, h x List.mem_cons_self, argsL_congr fun y hy => h y (List.mem_cons_of_mem _ hy)]
theorem partsL_congr {E E' : Operand → Option Value} : ∀ {xs : List (Nat × Operand)}, (∀ x ∈ xs.map (·.2), E x = E' x) → partsL E xs = partsL E' xs
  | [], _ => rfl
  | (i, x) :: xs, h => by
    simp only [partsL, h x (by simp), partsL_congr fun y hy => h y (by simp only [List.map_cons]; exact List.mem_cons_of_mem _ hy)]
theorem opK_congr {c : Cfg} {draw : Bool} {op : Op} {E E' : Operand → Option Value} (ho : opAny op = true) (h : ∀ x ∈ op.operands, E x = E' x) (H : Hp) (K : Value → Hp → Prop) : opK c draw op E H K = opK c draw op E' H K := by
  cases op <;> first | (exfalso; exact Bool.noConfusion ho) | skip
  all_goals simp only [Op.operands] at h
  case build t ps => simp only [opK]; rw [partsL_congr (E := E) (E' := E')]; intro x hx; exact h x (by simpa using hx)
  case buildSlice t n ps => simp only [opK]; rw [partsL_congr (E := E) (E' := E')]; intro x hx; exact h x (by simpa using hx)
  case makeFunc fn xs ys =>
    simp only [opK]
    rw [argsL_congr (E := E) (E' := E') (xs := xs.toList), argsL_congr (E := E) (E' := E') (xs := ys.toList)]
    · intro x hx; have := Array.mem_def.2 hx; exact h x (by simp [this])
    · intro x hx; have := Array.mem_def.2 hx; exact h x (by simp [this])
  case call cl =>
    obtain ⟨callee, xs, ts⟩ := cl
    have ha : argsL E xs.toList = argsL E' xs.toList := argsL_congr fun x hx => by have := Array.mem_def.2 hx; exact h x (by simp [Call.operands, this])
    cases callee with
    | invoke r m => exfalso; exact Bool.noConfusion ho
    | builtin b => simp only [opK, ha]
    | value f =>
      have hf : E f = E' f := h f (by simp [Call.operands])
      simp only [opK, ha]
      cases f <;> first | rfl | simp only [hf]
  case makeMap t r =>
    cases r with
    | none =>
      simp only [opK]
      cases c.P.underlying t with
      | none => rfl
      | some d => cases d <;> rfl
    | some x =>
      have hx := h x (by simp)
      simp only [opK]
      cases c.P.underlying t with
      | none => rfl
      | some d => cases d <;> first | rfl | simp only [hx]
  case slice t x lo hi mx =>
    cases mx with
    | some _ => rfl
    | none =>
      have hl : ∀ d (K : Int → Prop), boundK E lo d K = boundK E' lo d K := fun d K => by
        cases lo with
        | none => rfl
        | some y => simp only [boundK, h y (by simp)]
      have hh : ∀ d (K : Int → Prop), boundK E hi d K = boundK E' hi d K := fun d K => by
        cases hi with
        | none => rfl
        | some y => simp only [boundK, h y (by simp)]
      simp only [opK, sliceK, h x (by simp), hl, hh]
  all_goals (simp only [opK] <;> simp_all)
end Go.Proofs.Ytbikpfccdcblfaa.Eng
/- The engine, part 14: a region that draws its order: the order of its text serves every order. -/
namespace Go.Proofs.Ytbikpfccdcblfaa.Eng
open Go Go.RowKit
set_option linter.unusedVariables false
set_option linter.unusedSimpArgs false

def putV (dst : Option Tmp) (v : Value) (σ : Env) : Env := match dst with | none => σ | some d => (d, v) :: σ
def dstOK (n : Nat) (dst : Option Tmp) : Prop := match dst with | none => True | some d => Nat.ble (d + 1) n = true
theorem putE_iff {n : Nat} {dst : Option Tmp} {v : Value} {σ : Env} {K : Env → Prop} : putE n dst v σ K ↔ dstOK n dst ∧ K (putV dst v σ) := by
  cases dst with
  | none => exact ⟨fun h => ⟨trivial, h⟩, fun h => h.2⟩
  | some d => exact gd_iff
theorem look_putV (t : Nat) (dst : Option Tmp) (v : Value) (σ : Env) : look t (putV dst v σ) = if dst = some t then some v else look t σ := by
  cases dst with
  | none => simp [putV]
  | some d =>
    simp only [putV, look_cons, Option.some.injEq]
    by_cases e : t = d
    · rw [if_pos e, if_pos e.symm]
    · rw [if_neg e, if_neg (fun h => e h.symm)]
def Alike (σ σ' : Env) : Prop := ∀ t, look t σ' = look t σ
def Inv (R : Env → Hp → Prop) : Prop := ∀ σ σ' H, Alike σ σ' → R σ H → R σ' H
theorem Alike.put {σ σ' : Env} (h : Alike σ σ') (dst : Option Tmp) (v : Value) : Alike (putV dst v σ) (putV dst v σ') := fun t => by rw [look_putV, look_putV, h t]

theorem arg_same {G : Nat} {σ σ' : Env} {x : Operand} (h : ∀ t, x = .tmp t → look t σ = look t σ') : arg G σ x = arg G σ' x := by
  cases x with
  | tmp t => exact h t rfl
  | _ => rfl
theorem valK_congr {c : Cfg} {ops : Array Oper} {o : Oper} (ho : opAny o.op = true) {σ σ' : Env} (h : ∀ t ∈ o.looksAt ops, look t σ = look t σ') (H : Hp) (K : Value → Hp → Prop) : valK c true ops o σ H K = valK c true ops o σ' H K := by
  have h1 : ∀ x ∈ o.op.operands, arg c.G σ x = arg c.G σ' x := fun x hx => arg_same fun t e => by
    subst e
    exact h t (List.mem_append_left _ (List.mem_filterMap.2 ⟨.tmp t, by simpa using hx, rfl⟩))
  have h2 : ∀ d want, gslot ops o = some (some (d, want)) → look d σ = look d σ' := fun d want hg => by
    obtain ⟨j, g, e1, e2, e3⟩ := gslot_some hg
    exact h d (List.mem_append_right _ (by simp [e1, e2, e3]))
  unfold valK
  cases hg : gslot ops o with
  | none => rfl
  | some x =>
    cases x with
    | none => exact opK_congr ho h1 H K
    | some dw =>
      obtain ⟨d, want⟩ := dw
      simp only [h2 d want hg, opK_congr ho h1 H K]
theorem valK_pure (c : Cfg) (ops : Array Oper) (o : Oper) (σ : Env) (h : opPure o.op = true) : DP (fun H K => valK c true ops o σ H K) := by
  unfold valK
  cases gslot ops o with
  | none => exact DP.no
  | some x =>
    cases x with
    | none => exact opK_pure c true o.op _ h
    | some dw =>
      obtain ⟨d, want⟩ := dw
      simp only
      cases look d σ with
      | none => exact DP.no
      | some v =>
        cases v <;> try exact DP.no
        case tuple => exact DP.k _
        rename_i b
        simp only
        cases b == want with
        | true => exact opK_pure c true o.op _ h
        | false => exact DP.k _
theorem valK_quiet {c : Cfg} (hT : ∀ k sp, c.T k = some sp → SpOK c.P c.G k sp) (ops : Array Oper) (o : Oper) (σ : Env) (H : Hp) (h : opQuiet c o.op = true) : DQ H (fun K => valK c true ops o σ H K) := by
  unfold valK
  cases gslot ops o with
  | none => exact DQ.no
  | some x =>
    cases x with
    | none => exact opK_quiet hT o.op _ H h
    | some dw =>
      obtain ⟨d, want⟩ := dw
      simp only
      cases look d σ with
      | none => exact DQ.no
      | some v =>
        cases v <;> try exact DQ.no
        case tuple => exact (DP.k undef).quiet H
        rename_i b
        simp only
        cases b == want with
        | true => exact opK_quiet hT o.op _ H h
        | false => exact (DP.k undef).quiet H
theorem valK_gen {c : Cfg} (hT : ∀ k sp, c.T k = some sp → SpOK c.P c.G k sp) (ops : Array Oper) (o : Oper) (σ : Env) (H : Hp) (h : opOK c o.op = true) : DG H (fun K => valK c true ops o σ H K) := by
  unfold valK
  cases gslot ops o with
  | none => exact DG.no
  | some x =>
    cases x with
    | none => exact opK_gen hT o.op _ H h
    | some dw =>
      obtain ⟨d, want⟩ := dw
      simp only
      cases look d σ with
      | none => exact DG.no
      | some v =>
        cases v <;> try exact DG.no
        case tuple => exact DG.k _ _ id
        rename_i b
        simp only
        cases b == want with
        | true => exact opK_gen hT o.op _ H h
        | false => exact DG.k _ _ id
theorem valK_mono {c : Cfg} (hT : ∀ k sp, c.T k = some sp → SpOK c.P c.G k sp) (ops : Array Oper) (o : Oper) (σ : Env) (H : Hp) (h : opAny o.op = true) : M1 (fun K => valK c true ops o σ H K) := by
  unfold valK
  cases gslot ops o with
  | none => exact M1.no
  | some x =>
    cases x with
    | none => exact opK_mono hT o.op _ H h
    | some dw =>
      obtain ⟨d, want⟩ := dw
      simp only
      cases look d σ with
      | none => exact M1.no
      | some v =>
        cases v <;> try exact M1.no
        case tuple => exact M1.k _ _
        rename_i b
        simp only
        cases b == want with
        | true => exact opK_mono hT o.op _ H h
        | false => exact M1.k _ _
/-- Reads that do not mind a new block. -/
def opStill : Op → Bool
  | .load .. => true
  | op => opPure op
/-- Operations that make a block, and nothing else. -/
def opMake : Op → Bool
  | .alloc _ | .box .. | .buildSlice .. => true
  | _ => false
/-- What lies there stays as it is. -/
def Kept (H H' : Hp) : Prop := ∀ b, H.obj b ≠ none → H'.obj b = H.obj b
theorem getK_new {H : Hp} {H2 : Hp} (hw : Kept H H2) {b o : Nat} {z : Value} {K : Value → Prop} (h : getK H b o z K) : getK H2 b o z K := by
  have hc : ∀ v, H.cell b o = some v → H2.cell b o = some v := fun v hv => by
    unfold Hp.cell at hv ⊢
    have hne : H.obj b ≠ none := fun e => by rw [e] at hv; cases hv
    rw [hw b hne]
    exact hv
  unfold getK at h ⊢
  split at h
  · obtain ⟨a, h1, h2⟩ := h; exact ⟨a, hc _ h1, h2⟩
  · obtain ⟨a, h1, h2⟩ := h; exact ⟨a, hc _ h1, h2⟩
  · obtain ⟨a, h1, h2⟩ := h; exact ⟨a, hc _ h1, h2⟩
  · obtain ⟨a, h1, h2⟩ := h; exact ⟨a, hc _ h1, h2⟩
  · obtain ⟨a, b, c, h1, h2⟩ := h; exact ⟨a, b, c, hc _ h1, h2⟩
  · obtain ⟨a, h1, h2⟩ := h; exact ⟨a, hc _ h1, h2⟩
  · obtain ⟨a, h1, h2, h3⟩ := h; exact ⟨a, hc _ h1, h2, h3⟩
theorem getsK_new {H : Hp} {H2 : Hp} (hw : Kept H H2) {b : Nat} : ∀ {zs : List Value} {o : Nat} {K : List Value → Prop}, getsK H b o zs K → getsK H2 b o zs K
  | [], o, K, h => h
  | z :: zs, o, K, h => by
    have h1 := getK_new hw (K := fun v => getsK H b (o + 1) zs fun vs => K (v :: vs)) h
    obtain ⟨v, h2, h3⟩ := getK_D1 H2 b o z _ h1
    exact h3 (fun v => getsK H2 b (o + 1) zs fun vs => K (v :: vs)) (getsK_new hw h2)
theorem loadK_new {P : Program} {H : Hp} {H2 : Hp} (hw : Kept H H2) {b o : Nat} {t : TypeId} {K : Value → Prop} (h : loadK P H b o t K) : loadK P H2 b o t K := by
  unfold loadK at h ⊢
  cases hi : P.info? t with
  | none => rw [hi] at h; exact h
  | some i =>
    rw [hi] at h
    dsimp only at h ⊢
    cases hu : P.underlying t with
    | none => rw [hu] at h; exact h.elim
    | some d =>
      rw [hu] at h
      cases hz : i.zero with
      | none => rw [hz] at h; exact h.elim
      | some z =>
        rw [hz] at h
        dsimp only at h ⊢
        revert h
        cases aggTy P t with
        | true =>
          dsimp only
          cases Nat.beq z.cells.size i.size with
          | true => exact fun h => getsK_new hw h
          | false => exact fun h => h.elim
        | false => exact fun h => getK_new hw h
theorem opStill_quiet {c : Cfg} {op : Op} (h : opStill op = true) : opQuiet c op = true := by
  cases op <;> first | rfl | exact h | skip
  rename_i cl
  obtain ⟨callee, xs, ts⟩ := cl
  cases h
theorem opK_new {c : Cfg} {op : Op} (h : opStill op = true) (E : Operand → Option Value) {H : Hp} {H2 : Hp} (hw : Kept H H2) {K : Value → Prop} (hk : opK c true op E H fun v _ => K v) : opK c true op E H2 fun v _ => K v := by
  by_cases hp : opPure op = true
  · obtain ⟨v, h1, h2⟩ := opK_pure c true op E hp H _ hk
    exact h2 H2 _ h1
  · cases op <;> first | exact absurd h hp | skip
    obtain ⟨pv, h1, h2⟩ := optP_elim hk
    obtain ⟨ad, h3, h4⟩ := optP_elim h2
    simp only [opK, h1, h3, optP]
    exact loadK_new hw h4
theorem valK_new {c : Cfg} {ops : Array Oper} {o : Oper} {σ : Env} (h : opStill o.op = true) {H : Hp} {H2 : Hp} (hw : Kept H H2) {K : Value → Prop} (hk : valK c true ops o σ H fun v _ => K v) : valK c true ops o σ H2 fun v _ => K v := by
  unfold valK at hk ⊢
  revert hk
  cases gslot ops o with
  | none => exact fun hk => hk
  | some x =>
    cases x with
    | none => exact fun hk => opK_new h _ hw hk
    | some dw =>
      obtain ⟨d, want⟩ := dw
      simp only
      cases look d σ with
      | none => exact fun hk => hk
      | some v =>
        cases v <;> try exact fun hk => hk
        rename_i b
        simp only
        cases b == want with
        | true => exact fun hk => opK_new h _ hw hk
        | false => exact fun hk => hk
/-- What makes a block, and nothing else. -/
def DN (H : Hp) (T : (Value → Hp → Prop) → Prop) : Prop := ∀ K, T K → ∃ v H1, (H1 = H ∨ ∃ ob, H1 = H.new ob) ∧ K v H1 ∧ ∀ K', K' v H1 → T K'
theorem DN.no {H : Hp} : DN H (fun _ => False) := fun K h => h.elim
theorem DN.opt {H : Hp} {α : Type} {o : Option α} {T : α → (Value → Hp → Prop) → Prop} (h : ∀ x, DN H (T x)) : DN H (fun K => optP o fun x => T x K) := by
  cases o with
  | none => exact DN.no
  | some x => exact h x
theorem DN.gd {H : Hp} {b : Bool} {T : (Value → Hp → Prop) → Prop} (h : DN H T) : DN H (fun K => gd b (T K)) := by
  cases b with
  | false => exact DN.no
  | true => exact h
theorem DN.k {H : Hp} (v : Value) (H' : Hp) (hw : H' = H ∨ ∃ ob, H' = H.new ob) : DN H (fun K => K v H') := fun K h => ⟨v, H', hw, h, fun _ h => h⟩
theorem DN.all {H : Hp} {vs : List Value} {T : (Value → Hp → Prop) → Prop} (h : DN H T) : DN H (fun K => allOne vs (T K)) := by
  induction vs with
  | nil => exact h
  | cons v r ih => exact DN.gd ih
theorem opK_make {c : Cfg} (op : Op) (E : Operand → Option Value) (H : Hp) (h : opMake op = true) : DN H (opK c true op E H) := by
  cases op <;> first | (exfalso; exact Bool.noConfusion h) | skip
  case alloc e => exact DN.opt fun _ => DN.k _ _ (.inr ⟨_, rfl⟩)
  case box e x => exact DN.opt fun _ => DN.all (DN.k _ _ (.inr ⟨_, rfl⟩))
  case buildSlice t n ps =>
    show DN H (fun K => opK c true _ E H K)
    simp only [opK]
    refine DN.opt fun vs => ?_
    cases c.P.underlying t with
    | none => exact DN.no
    | some d =>
      cases d <;> try exact DN.no
      exact DN.opt fun _ => DN.gd (DN.gd (DN.opt fun _ => DN.all (DN.k _ _ (.inr ⟨_, rfl⟩))))
theorem valK_make {c : Cfg} (ops : Array Oper) (o : Oper) (σ : Env) (H : Hp) (h : opMake o.op = true) : DN H (fun K => valK c true ops o σ H K) := by
  unfold valK
  cases gslot ops o with
  | none => exact DN.no
  | some x =>
    cases x with
    | none => exact opK_make o.op _ H h
    | some dw =>
      obtain ⟨d, want⟩ := dw
      simp only
      cases look d σ with
      | none => exact DN.no
      | some v =>
        cases v <;> try exact DN.no
        case tuple => exact DN.k _ _ (.inl rfl)
        rename_i b
        simp only
        cases b == want with
        | true => exact opK_make o.op _ H h
        | false => exact DN.k _ _ (.inl rfl)

theorem Kept.new {H : Hp} (hw : WFH H) (ob : AObj) : Kept H (H.new ob) := fun b hb => by
  have hne : b ≠ H.next := fun e => hb (hw b (by omega))
  show (if b = H.next then _ else _) = _
  rw [if_neg hne]
def opKeep (c : Cfg) : Op → Bool
  | .call ⟨.value (.func k), _, _⟩ => match c.T k with | some sp => sp.keep | none => false
  | op => opMake op
theorem valK_kept {c : Cfg} (hT : ∀ k sp, c.T k = some sp → SpOK c.P c.G k sp) (ops : Array Oper) (o : Oper) (σ : Env) {H : Hp} (hw : WFH H) (h : opKeep c o.op = true) {K : Value → Hp → Prop} (hk : valK c true ops o σ H K) : valK c true ops o σ H fun v H' => K v H' ∧ Kept H H' := by
  by_cases hm : opMake o.op = true
  · obtain ⟨v, H1, e, h1, h2⟩ := valK_make ops o σ H hm _ hk
    refine h2 _ ⟨h1, ?_⟩
    rcases e with rfl | ⟨ob, rfl⟩
    · exact fun _ _ => rfl
    · exact Kept.new hw ob
  · have run : opK c true o.op (arg c.G σ) H K → opK c true o.op (arg c.G σ) H fun v H' => K v H' ∧ Kept H H' := by
      cases ho : o.op <;> rw [ho] at h hm <;> try exact absurd h hm
      rename_i cl
      obtain ⟨callee, xs, ts⟩ := cl
      cases callee <;> try exact absurd h hm
      rename_i f
      cases f <;> try exact absurd h hm
      rename_i k
      intro hc
      obtain ⟨vs, h1, h2⟩ := optP_elim hc
      show optP _ _
      rw [h1]
      show callS (c.T k) vs H _
      have h2 : callS (c.T k) vs H K := h2
      have h : (match c.T k with | some sp => sp.keep | none => false) = true := h
      cases e : c.T k with
      | none => rw [e] at h; cases h
      | some sp =>
        rw [e] at h h2
        exact (hT k sp e).keep h vs H K hw h2
    unfold valK at hk ⊢
    revert hk
    cases gslot ops o with
    | none => exact fun hk => hk
    | some x =>
      cases x with
      | none => exact run
      | some dw =>
        obtain ⟨d, want⟩ := dw
        simp only
        cases look d σ with
        | none => exact fun hk => hk
        | some v =>
          cases v <;> try exact fun hk => hk
          case tuple => exact fun hk => ⟨hk, fun _ _ => rfl⟩
          rename_i b
          simp only
          cases b == want with
          | true => exact run
          | false => exact fun hk => ⟨hk, fun _ _ => rfl⟩

def stepA (c : Cfg) (n : Nat) (ops : Array Oper) (o : Oper) (σ : Env) (H : Hp) (R : Env → Hp → Prop) : Prop := valK c true ops o σ H fun v H => putE n o.dst v σ fun σ => R σ H
variable {c : Cfg} {n : Nat} {ops : Array Oper}
theorem stepA_one (hT : ∀ k sp, c.T k = some sp → SpOK c.P c.G k sp) {o : Oper} (ho : opOK c o.op = true) {σ : Env} {H : Hp} {R : Env → Hp → Prop} (h : stepA c n ops o σ H R) : ∃ σ' H', (WFH H → WFH H') ∧ R σ' H' ∧ ∀ R', R' σ' H' → stepA c n ops o σ H R' := by
  obtain ⟨v, H1, hw, h1, h2⟩ := valK_gen hT ops o σ H ho _ h
  obtain ⟨k1, h1⟩ := putE_iff.1 h1
  exact ⟨_, _, hw, h1, fun R' h' => h2 _ (putE_iff.2 ⟨k1, h'⟩)⟩
theorem stepA_mono (hT : ∀ k sp, c.T k = some sp → SpOK c.P c.G k sp) {o : Oper} (ho : opAny o.op = true) {σ : Env} {H : Hp} {R R' : Env → Hp → Prop} (hR : ∀ σ H, R σ H → R' σ H) (h : stepA c n ops o σ H R) : stepA c n ops o σ H R' :=
  valK_mono hT ops o σ H ho _ _ (fun v H1 h1 => by
    obtain ⟨k1, h1⟩ := putE_iff.1 h1
    exact putE_iff.2 ⟨k1, hR _ _ h1⟩) h
theorem stepA_inv (hT : ∀ k sp, c.T k = some sp → SpOK c.P c.G k sp) {o : Oper} (ho : opAny o.op = true) {R : Env → Hp → Prop} (hR : Inv R) : Inv (fun σ H => stepA c n ops o σ H R) := by
  intro σ σ' H ha h
  show valK c true ops o σ' H _
  rw [← valK_congr ho (σ := σ) (σ' := σ') (fun t _ => (ha t).symm)]
  refine valK_mono hT ops o σ H ho _ _ (fun v H1 h1 => ?_) h
  obtain ⟨k1, h1⟩ := putE_iff.1 h1
  exact putE_iff.2 ⟨k1, hR _ _ _ (ha.put _ _) h1⟩

def comm (c : Cfg) (ops : Array Oper) (x y : Oper) : Bool := x.apart ops y && ((opOK c x.op && opOK c y.op && (opPure x.op || opPure y.op || (opQuiet c x.op && opQuiet c y.op))) || (opStill x.op && (opAny y.op && opKeep c y.op)))
theorem opMake_OK {op : Op} (h : opMake op = true) : opOK c op = true := by cases op <;> first | rfl | cases h
theorem opStill_OK {op : Op} (h : opStill op = true) : opOK c op = true := by
  have := opStill_quiet (c := c) h
  cases op <;> first | rfl | exact this | skip
/-- Two operations that stand apart may change places. -/
theorem step_swap (hT : ∀ k sp, c.T k = some sp → SpOK c.P c.G k sp) {x y : Oper} (hx : opAny x.op = true) (hy : opAny y.op = true) (hc : comm c ops x y = true) {R : Env → Hp → Prop} (hR : Inv R) {σ : Env} {H : Hp} (hw : WFH H)
    (h : stepA c n ops x σ H fun σ H => stepA c n ops y σ H R) : stepA c n ops y σ H fun σ H => stepA c n ops x σ H R := by
  simp only [comm, Bool.and_eq_true, Bool.or_eq_true] at hc
  obtain ⟨hap, hpq⟩ := hc
  obtain ⟨a1, a2, a3⟩ := Oper.apart_spec hap
  have cy : ∀ v H K, valK c true ops y (putV x.dst v σ) H K = valK c true ops y σ H K := fun v H K => valK_congr hy (fun t ht => by rw [look_putV, if_neg (fun e => a1 t e ht)]) H K
  have cx : ∀ v H K, valK c true ops x (putV y.dst v σ) H K = valK c true ops x σ H K := fun v H K => valK_congr hx (fun t ht => by rw [look_putV, if_neg (fun e => a3 t e ht)]) H K
  have al : ∀ v u, Alike (putV y.dst u (putV x.dst v σ)) (putV x.dst v (putV y.dst u σ)) := fun v u t => by
    simp only [look_putV]
    split
    · rename_i e; rw [if_neg (a2 t e)]
    · rfl
  have fin : ∀ v u Ha H2, dstOK n x.dst → dstOK n y.dst → R (putV y.dst u (putV x.dst v σ)) H2 → (∀ K', K' u Ha → valK c true ops y σ H K') → (∀ K', K' v H2 → valK c true ops x σ Ha K') → stepA c n ops y σ H fun σ H => stepA c n ops x σ H R := by
    intro v u Ha H2 k1 k2 hr g2 g1
    refine g2 _ (putE_iff.2 ⟨k2, ?_⟩)
    show valK c true ops x (putV y.dst u σ) Ha _
    rw [cx]
    exact g1 _ (putE_iff.2 ⟨k1, hR _ _ _ (al v u) hr⟩)
  rcases hpq with ⟨⟨ox, oy⟩, (hp | hp) | ⟨hp, hq⟩⟩ | ⟨hp, hq⟩
  · obtain ⟨v, h1, g1⟩ := valK_pure c ops x σ hp H _ h
    obtain ⟨k1, h1⟩ := putE_iff.1 h1
    have h1' := (cy v H _).mp h1
    obtain ⟨u, H2, _, h2, g2⟩ := valK_gen hT ops y σ H oy _ h1'
    obtain ⟨k2, h2⟩ := putE_iff.1 h2
    exact fin v u H2 H2 k1 k2 h2 g2 (fun K' hk => g1 H2 K' hk)
  · obtain ⟨v, H1, _, h1, g1⟩ := valK_gen hT ops x σ H ox _ h
    obtain ⟨k1, h1⟩ := putE_iff.1 h1
    have h1' := (cy v H1 _).mp h1
    obtain ⟨u, h2, g2⟩ := valK_pure c ops y σ hp H1 _ h1'
    obtain ⟨k2, h2⟩ := putE_iff.1 h2
    exact fin v u H H1 k1 k2 h2 (fun K' hk => g2 H K' hk) g1
  · obtain ⟨v, h1, g1⟩ := valK_quiet hT ops x σ H hp _ h
    obtain ⟨k1, h1⟩ := putE_iff.1 h1
    have h1' := (cy v H _).mp h1
    obtain ⟨u, h2, g2⟩ := valK_quiet hT ops y σ H hq _ h1'
    obtain ⟨k2, h2⟩ := putE_iff.1 h2
    exact fin v u H H k1 k2 h2 g2 g1
  · obtain ⟨v, h1, g1⟩ := valK_quiet hT ops x σ H (opStill_quiet hp) _ h
    obtain ⟨k1, h1⟩ := putE_iff.1 h1
    have h1' := (cy v H _).mp h1
    refine valK_mono hT ops y σ H hy _ _ (fun u H2 hu => ?_) (valK_kept hT ops y σ hw hq.2 h1')
    obtain ⟨hu, hkp⟩ := hu
    obtain ⟨k2, h2⟩ := putE_iff.1 hu
    refine putE_iff.2 ⟨k2, ?_⟩
    show valK c true ops x (putV y.dst u σ) H2 _
    rw [cx]
    have h3 := valK_new hp hkp (K := fun a => a = v) (g1 (fun a _ => a = v) rfl)
    obtain ⟨v', h4, h5⟩ := valK_quiet hT ops x σ H2 (opStill_quiet hp) _ h3
    have h4 : v' = v := h4
    subst h4
    exact h5 _ (putE_iff.2 ⟨k1, hR _ _ _ (al v' u) h2⟩)

/-! who waits for whom -/
def edgeMask (M : List Nat) (es : List Edge) : Nat := es.foldr (fun e m => cond (Region.binds .any e) (Nat.lor (Nat.lor (1 <<< e.on) (M.getD e.on 0)) m) m) 0
def masksGo : List Oper → List Nat → List Nat
  | [], M => M
  | o :: os, M => masksGo os (M ++ [edgeMask M o.after.toList])
def masksOf (ops : Array Oper) : List Nat := masksGo ops.toList []
def masksOK (M : List Nat) : List Oper → Nat → Bool
  | [], _ => true
  | o :: os, k => Nat.beq (M.getD k 0) (edgeMask M o.after.toList) && (o.after.toList.all fun e => !Region.binds .any e || Nat.ble (e.on + 1) k) && masksOK M os (k + 1)
def othersOK (c : Cfg) (ops : Array Oper) (M : List Nat) (o : Oper) (i : Nat) : List Oper → Nat → Bool
  | [], _ => true
  | p :: ps, j => (Nat.testBit (M.getD j 0) i || comm c ops o p) && othersOK c ops M o i ps (j + 1)
def pairsOK (c : Cfg) (ops : Array Oper) (M : List Nat) : List Oper → Nat → Bool
  | [], _ => true
  | o :: os, i => othersOK c ops M o i os (i + 1) && pairsOK c ops M os (i + 1)
def drawOKM (c : Cfg) (ops : Array Oper) (M : List Nat) : Bool := ops.toList.all (fun o => opAny o.op) && (masksOK M ops.toList 0 && pairsOK c ops M ops.toList 0)
/-- May the region's operations be run in any order that its edges allow? -/
def drawOK (c : Cfg) (ops : Array Oper) : Bool := drawOKM c ops (masksOf ops)

theorem edgeMask_bit {M : List Nat} {i : Nat} : ∀ {es : List Edge}, Nat.testBit (edgeMask M es) i = true → ∃ e ∈ es, Region.binds .any e = true ∧ (e.on = i ∨ Nat.testBit (M.getD e.on 0) i = true)
  | [], h => by simp [edgeMask] at h
  | e :: es, h => by
    have hd : edgeMask M (e :: es) = cond (Region.binds .any e) ((1 <<< e.on) ||| (M.getD e.on 0) ||| edgeMask M es) (edgeMask M es) := rfl
    rw [hd] at h
    have rest : Nat.testBit (edgeMask M es) i = true → ∃ e' ∈ e :: es, Region.binds .any e' = true ∧ (e'.on = i ∨ Nat.testBit (M.getD e'.on 0) i = true) := fun h =>
      let ⟨e', a, b⟩ := edgeMask_bit h; ⟨e', List.mem_cons_of_mem _ a, b⟩
    cases hb : Region.binds .any e with
    | false => rw [hb] at h; exact rest h
    | true =>
      rw [hb] at h
      simp only [cond_true, Nat.testBit_or, Bool.or_eq_true] at h
      rcases h with (h | h) | h
      · refine ⟨e, List.mem_cons_self, hb, .inl ?_⟩
        rw [Nat.one_shiftLeft, Nat.testBit_two_pow] at h
        simpa using h
      · exact ⟨e, List.mem_cons_self, hb, .inr h⟩
      · exact rest h
theorem masksOK_get {M : List Nat} : ∀ {os : List Oper} {k : Nat}, masksOK M os k = true → ∀ j o, os[j]? = some o → M.getD (k + j) 0 = edgeMask M o.after.toList ∧ ∀ e ∈ o.after, Region.binds .any e = true → e.on < k + j
  | [], _, _, j, o, h => by simp at h
  | p :: os, k, hm, j, o, h => by
    simp only [masksOK, Bool.and_eq_true] at hm
    obtain ⟨⟨h1, h2⟩, h3⟩ := hm
    cases j with
    | zero =>
      simp only [List.getElem?_cons_zero, Option.some.injEq] at h
      subst h
      refine ⟨Nat.eq_of_beq_eq_true h1, fun e he hb => ?_⟩
      have := List.all_eq_true.1 h2 e (Array.mem_def.1 he)
      simp only [hb, Bool.not_true, Bool.false_or] at this
      exact Nat.lt_of_succ_le (Nat.le_of_ble_eq_true this)
    | succ j =>
      have := masksOK_get h3 j o (by simpa using h)
      rw [show k + 1 + j = k + (j + 1) by omega] at this
      exact this
theorem othersOK_get {c : Cfg} {ops : Array Oper} {M : List Nat} {o : Oper} {i : Nat} : ∀ {ps : List Oper} {k : Nat}, othersOK c ops M o i ps k = true → ∀ j p, ps[j]? = some p → Nat.testBit (M.getD (k + j) 0) i = true ∨ comm c ops o p = true
  | [], _, _, j, p, h => by simp at h
  | q :: ps, k, hm, j, p, h => by
    simp only [othersOK, Bool.and_eq_true, Bool.or_eq_true] at hm
    cases j with
    | zero =>
      simp only [List.getElem?_cons_zero, Option.some.injEq] at h
      subst h
      exact hm.1
    | succ j =>
      have := othersOK_get hm.2 j p (by simpa using h)
      rw [show k + 1 + j = k + (j + 1) by omega] at this
      exact this

/-- What is listed has all that it waits for listed. -/
def Closed (ops : Array Oper) (L : Array Bool) : Prop := ∀ k o, L.getD k false = true → ops[k]? = some o → ∀ e ∈ o.after, Region.binds .any e = true → L.getD e.on false = true
theorem Closed.set {L : Array Bool} (h : Closed ops L) {j : Nat} (hj : j ∈ Region.ready .any ops L) : Closed ops (L.setIfInBounds j true) := by
  intro k o hk ho e he hb
  refine getD_set_true ?_
  by_cases e' : k = j
  · subst e'
    obtain ⟨_, o', ho', hall⟩ := mem_ready.1 hj
    rw [ho] at ho'; cases ho'
    exact hall e he hb
  · rw [getD_set_ne false (fun x => e' x.symm)] at hk
    exact h k o hk ho e he hb
theorem no_wait {M : List Nat} (hM : masksOK M ops.toList 0 = true) {L : Array Bool} (hL : Closed ops L) {i : Nat} : ∀ (k : Nat) (o : Oper), ops[k]? = some o → (∀ e ∈ o.after, Region.binds .any e = true → L.getD e.on false = true) →
    Nat.testBit (M.getD k 0) i = true → L.getD i false = true := by
  intro k
  induction k using Nat.strongRecOn with
  | ind k ih =>
    intro o ho hall hb
    have hm := masksOK_get hM k o (by simpa using ho)
    rw [Nat.zero_add] at hm
    rw [hm.1] at hb
    obtain ⟨e, he, h1, h2⟩ := edgeMask_bit hb
    have he' := Array.mem_def.2 he
    have hl := hall e he' h1
    rcases h2 with h2 | h2
    · rw [← h2]; exact hl
    · cases hp : ops[e.on]? with
      | none =>
        have hlt : k < ops.size := (Array.getElem?_eq_some_iff.1 ho).1
        have := hm.2 e he' h1
        rw [Array.getElem?_eq_none_iff] at hp
        omega
      | some p => exact ih e.on (hm.2 e he' h1) p hp (fun e2 he2 hb2 => hL e.on p hl hp e2 he2 hb2) h2

/-- Whatever order is picked from here on. -/
def anyA (c : Cfg) (n : Nat) (ops : Array Oper) (R : Env → Hp → Prop) : Nat → Array Bool → Env → Hp → Prop
  | 0, L, σ, H => WFH H → Region.ready .any ops L = [] ∧ R σ H
  | f + 1, L, σ, H => WFH H → (Region.ready .any ops L = [] → R σ H) ∧ ∀ i ∈ Region.ready .any ops L, ∃ o, ops[i]? = some o ∧ stepA c n ops o σ H (anyA c n ops R f (L.setIfInBounds i true))
theorem anyA_inv (hT : ∀ k sp, c.T k = some sp → SpOK c.P c.G k sp) (hok : ∀ (i : Nat) (o : Oper), ops[i]? = some o → opAny o.op = true) {R : Env → Hp → Prop} (hR : Inv R) : ∀ (f : Nat) (L : Array Bool), Inv (anyA c n ops R f L)
  | 0, L => fun σ σ' H ha h hw => ⟨(h hw).1, hR _ _ _ ha (h hw).2⟩
  | f + 1, L => fun σ σ' H ha h hw => ⟨fun h0 => hR _ _ _ ha ((h hw).1 h0), fun i hi => let ⟨o, a, b⟩ := (h hw).2 i hi; ⟨o, a, stepA_inv hT (hok i o a) (anyA_inv hT hok hR f _) _ _ _ ha b⟩⟩
theorem anyA_first (hT : ∀ k sp, c.T k = some sp → SpOK c.P c.G k sp) (hok : ∀ (i : Nat) (o : Oper), ops[i]? = some o → opAny o.op = true) {M : List Nat} (hM : masksOK M ops.toList 0 = true) {R : Env → Hp → Prop} (hR : Inv R) {i : Nat} {oi : Oper} (hi : ops[i]? = some oi) :
    ∀ (f : Nat) (L : Array Bool) (σ : Env) (H : Hp), Closed ops L → (∀ j oj, ops[j]? = some oj → j ≠ i → L.getD j true = false → Nat.testBit (M.getD j 0) i = true ∨ comm c ops oi oj = true) →
      i ∈ Region.ready .any ops L → stepA c n ops oi σ H (anyA c n ops R f (L.setIfInBounds i true)) → anyA c n ops R (f + 1) L σ H := by
  intro f
  have hcomm : ∀ (L : Array Bool), Closed ops L → (∀ j oj, ops[j]? = some oj → j ≠ i → L.getD j true = false → Nat.testBit (M.getD j 0) i = true ∨ comm c ops oi oj = true) → i ∈ Region.ready .any ops L → ∀ j ∈ Region.ready .any ops L, j ≠ i → ∃ oj, ops[j]? = some oj ∧ L.getD j true = false ∧ comm c ops oi oj = true := by
    intro L hL hfree hr j hj e
    obtain ⟨hjun, oj, hoj, hall⟩ := mem_ready.1 hj
    have hiun := (mem_ready.1 hr).1
    refine ⟨oj, hoj, hjun, ?_⟩
    rcases hfree j oj hoj e hjun with hb | hb
    · have := no_wait hM hL j oj hoj hall hb
      rcases Nat.lt_or_ge i L.size with h' | h'
      · simp [h'] at hiun this; rw [hiun] at this; cases this
      · simp [Array.getElem?_eq_none h'] at this
    · exact hb
  have hDG : ∀ {oj : Oper}, comm c ops oi oj = true → opOK c oi.op = true := fun hc => by
    simp only [comm, Bool.and_eq_true, Bool.or_eq_true] at hc
    rcases hc.2 with h | h
    · exact h.1.1
    · exact opStill_OK h.1
  induction f with
  | zero =>
    intro L σ H hL hfree hr h hw
    refine ⟨fun h0 => (by rw [h0] at hr; cases hr), fun j hj => ?_⟩
    by_cases e : j = i
    · subst e; exact ⟨oi, hi, h⟩
    · obtain ⟨oj, hoj, hjun, hc⟩ := hcomm L hL hfree hr j hj e
      have := ready_mono hj e
      obtain ⟨σ', H', hw', h1, _⟩ := stepA_one hT (hDG hc) h
      rw [(h1 (hw' hw)).1] at this
      cases this
  | succ f ih =>
    intro L σ H hL hfree hr h hw
    refine ⟨fun h0 => (by rw [h0] at hr; cases hr), fun j hj => ?_⟩
    by_cases e : j = i
    · subst e; exact ⟨oi, hi, h⟩
    · obtain ⟨oj, hoj, hjun, hc⟩ := hcomm L hL hfree hr j hj e
      have hj2 := ready_mono hj e
      refine ⟨oj, hoj, ?_⟩
      have h2 : stepA c n ops oi σ H fun σ H => stepA c n ops oj σ H (anyA c n ops R f ((L.setIfInBounds i true).setIfInBounds j true)) := by
        obtain ⟨σ1, H1, hw', h1, h5⟩ := stepA_one hT (hDG hc) h
        obtain ⟨o', ho', h4⟩ := (h1 (hw' hw)).2 j hj2
        rw [hoj] at ho'; cases ho'
        exact h5 _ h4
      have h3 := step_swap hT (hok i oi hi) (hok j oj hoj) hc (anyA_inv hT hok hR f _) hw h2
      refine stepA_mono hT (hok j oj hoj) (fun σ1 H1 h4 => ih _ σ1 H1 (hL.set hj) (fun k ok hk hne hun => ?_) (ready_mono hr (fun x => e x.symm)) ?_) h3
      · refine hfree k ok hk hne ?_
        by_cases e2 : k = j
        · subst e2; exact hjun
        · rw [getD_set_ne true (fun x => e2 x.symm)] at hun; exact hun
      · rw [Array.setIfInBounds_comm _ _ e]; exact h4

/-- The order of the text. -/
def lexA (c : Cfg) (n : Nat) (ops : Array Oper) (R : Env → Hp → Prop) : List Oper → Env → Hp → Prop
  | [], σ, H => R σ H
  | o :: os, σ, H => stepA c n ops o σ H (lexA c n ops R os)
theorem lexA_inv (hT : ∀ k sp, c.T k = some sp → SpOK c.P c.G k sp) {R : Env → Hp → Prop} (hR : Inv R) : ∀ {os : List Oper}, (∀ o ∈ os, opAny o.op = true) → Inv (lexA c n ops R os)
  | [], _ => hR
  | o :: os, h => stepA_inv hT (h o List.mem_cons_self) (lexA_inv hT hR fun p hp => h p (List.mem_cons_of_mem _ hp))
theorem lexA_of (hT : ∀ k sp, c.T k = some sp → SpOK c.P c.G k sp) {R : Env → Hp → Prop} (hR : Inv R) {K : Env → Hp → Prop} (hK : ∀ σ H, K σ H → R σ H) : ∀ {os : List Oper} {σ : Env} {H : Hp}, (∀ o ∈ os, opAny o.op = true) → opersK c n true ops os σ H K → lexA c n ops R os σ H
  | [], σ, H, _, h => hK _ _ h
  | o :: os, σ, H, ho, h => by
    obtain ⟨σ', h1, h2⟩ := operK_val h
    have h3 : stepA c n ops o σ' H (fun σ H => opersK c n true ops os σ H K) := h2
    have h4 := stepA_mono hT (ho o List.mem_cons_self) (fun σ1 H1 h => lexA_of hT hR hK (fun p hp => ho p (List.mem_cons_of_mem _ hp)) h) h3
    exact stepA_inv hT (ho o List.mem_cons_self) (lexA_inv hT hR fun p hp => ho p (List.mem_cons_of_mem _ hp)) _ _ _ (fun t => (h1 t).symm) h4
def Upto (ops : Array Oper) (L : Array Bool) (k : Nat) : Prop := L.size = ops.size ∧ ∀ j, j < ops.size → L[j]? = some (decide (j < k))
theorem Upto.set {L : Array Bool} {k : Nat} (h : Upto ops L k) : Upto ops (L.setIfInBounds k true) (k + 1) := by
  refine ⟨by simp [h.1], fun j hj => ?_⟩
  by_cases e : j = k
  · subst e
    simp [Array.getElem?_setIfInBounds, h.1, hj]
  · rw [Array.getElem?_setIfInBounds_ne (fun x => e x.symm), h.2 j hj]
    congr 1
    exact decide_eq_decide.2 (by omega)
theorem Upto.closed {M : List Nat} (hM : masksOK M ops.toList 0 = true) {L : Array Bool} {k : Nat} (h : Upto ops L k) : Closed ops L := by
  intro j o hj ho e he hb
  have hlt : j < ops.size := (Array.getElem?_eq_some_iff.1 ho).1
  have hm := (masksOK_get hM j o (by simpa using ho)).2 e he hb
  rw [Nat.zero_add] at hm
  have h1 := h.2 j hlt
  have h2 := h.2 e.on (by omega)
  simp only [Array.getD_eq_getD_getElem?, h1, h2, Option.getD_some, decide_eq_true_eq] at hj ⊢
  omega
theorem lex_any (hT : ∀ k sp, c.T k = some sp → SpOK c.P c.G k sp) (hok : ∀ (i : Nat) (o : Oper), ops[i]? = some o → opAny o.op = true) {M : List Nat} (hM : masksOK M ops.toList 0 = true) {R : Env → Hp → Prop} (hR : Inv R) :
    ∀ (os : List Oper) (k : Nat) (L : Array Bool) (σ : Env) (H : Hp), (∀ j, os[j]? = ops[k + j]?) → pairsOK c ops M os k = true → Upto ops L k → lexA c n ops R os σ H → anyA c n ops R os.length L σ H
  | [], k, L, σ, H, hos, _, hL, h => by
    refine fun _ => ⟨?_, h⟩
    have hk : ops.size ≤ k := by have := (hos 0).symm; simpa using this
    cases hr : Region.ready .any ops L with
    | nil => rfl
    | cons x xs =>
      have hx : x ∈ Region.ready .any ops L := by rw [hr]; exact List.mem_cons_self
      obtain ⟨h0, o, ho, _⟩ := mem_ready.1 hx
      have hlt : x < ops.size := (Array.getElem?_eq_some_iff.1 ho).1
      simp only [Array.getD_eq_getD_getElem?, hL.2 x hlt, Option.getD_some, decide_eq_false_iff_not] at h0
      omega
  | o :: os, k, L, σ, H, hos, hp, hL, h => by
    have h0 : ops[k]? = some o := by have := (hos 0).symm; simpa using this
    have hlt : k < ops.size := (Array.getElem?_eq_some_iff.1 h0).1
    simp only [pairsOK, Bool.and_eq_true] at hp
    have hos' : ∀ j, os[j]? = ops[k + 1 + j]? := fun j => by have := hos (j + 1); rw [show k + 1 + j = k + (j + 1) by omega]; simpa using this
    refine anyA_first hT hok hM hR h0 os.length L σ H (hL.closed hM) (fun j oj hj hne hun => ?_) ?_ ?_
    · have hjlt : j < ops.size := (Array.getElem?_eq_some_iff.1 hj).1
      simp only [Array.getD_eq_getD_getElem?, hL.2 j hjlt, Option.getD_some, decide_eq_false_iff_not] at hun
      have := othersOK_get hp.1 (j - (k + 1)) oj (by rw [hos']; rw [show k + 1 + (j - (k + 1)) = j by omega]; exact hj)
      rw [show k + 1 + (j - (k + 1)) = j by omega] at this
      exact this
    · refine mem_ready.2 ⟨?_, o, h0, fun e he hb => ?_⟩
      · simp only [Array.getD_eq_getD_getElem?, hL.2 k hlt, Option.getD_some]; simp
      · have hm := (masksOK_get hM k o (by simpa using h0)).2 e he hb
        rw [Nat.zero_add] at hm
        simp only [Array.getD_eq_getD_getElem?, hL.2 e.on (by omega), Option.getD_some, decide_eq_true_eq]; exact hm
    · exact stepA_mono hT (hok k o h0) (fun σ1 H1 h1 => lex_any hT hok hM hR os (k + 1) _ σ1 H1 hos' hp.2 hL.set h1) h
/-! another order than that of the text -/
def memN (l : List Nat) (k : Nat) : Bool := match l with | [] => false | x :: r => Nat.beq k x || memN r k
theorem memN_iff {k : Nat} : ∀ {l : List Nat}, memN l k = true ↔ k ∈ l
  | [] => by simp [memN]
  | x :: r => by
    simp only [memN, Bool.or_eq_true, List.mem_cons, memN_iff (l := r)]
    exact or_congr (by simp [Nat.beq_eq]) Iff.rfl
def commAt (c : Cfg) (ops : Array Oper) (o : Oper) (j : Nat) : Bool := match ops[j]? with | some p => comm c ops o p | none => false
def lineOK (c : Cfg) (ops : Array Oper) (M : List Nat) : List Nat → Bool
  | [] => true
  | i :: r => (!memN r i && match ops[i]? with
    | none => false
    | some o => (o.after.toList.all fun e => !Region.binds .any e || !memN (i :: r) e.on) && r.all fun j => Nat.testBit (M.getD j 0) i || commAt c ops o j) && lineOK c ops M r
def allIn (l : List Nat) : Nat → Bool
  | 0 => true
  | n + 1 => memN l n && allIn l n
def drawOKL (c : Cfg) (ops : Array Oper) (l : List Nat) : Bool := ops.toList.all (fun o => opAny o.op) && (masksOK (masksOf ops) ops.toList 0 && (lineOK c ops (masksOf ops) l && (Nat.beq l.length ops.size && allIn l ops.size)))
theorem allIn_get {l : List Nat} : ∀ {n : Nat}, allIn l n = true → ∀ j, j < n → j ∈ l
  | 0, _, j, h => by omega
  | n + 1, h, j, hj => by
    simp only [allIn, Bool.and_eq_true] at h
    by_cases e : j = n
    · subst e; exact memN_iff.1 h.1
    · exact allIn_get h.2 j (by omega)
theorem line_any (hT : ∀ k sp, c.T k = some sp → SpOK c.P c.G k sp) (hok : ∀ (i : Nat) (o : Oper), ops[i]? = some o → opAny o.op = true) {M : List Nat} (hM : masksOK M ops.toList 0 = true) {R : Env → Hp → Prop} (hR : Inv R) :
    ∀ (l : List Nat) (L : Array Bool) (σ : Env) (H : Hp), lineOK c ops M l = true → Closed ops L → L.size = ops.size → (∀ j, j < ops.size → L.getD j true = decide (j ∉ l)) → lexA c n ops R (l.filterMap fun i => ops[i]?) σ H → anyA c n ops R l.length L σ H
  | [], L, σ, H, _, _, hs, hL, h => by
    refine fun _ => ⟨?_, h⟩
    cases hr : Region.ready .any ops L with
    | nil => rfl
    | cons x xs =>
      have hx : x ∈ Region.ready .any ops L := by rw [hr]; exact List.mem_cons_self
      obtain ⟨h0, o, ho, _⟩ := mem_ready.1 hx
      have hlt : x < ops.size := (Array.getElem?_eq_some_iff.1 ho).1
      rw [hL x hlt] at h0
      simp at h0
  | i :: r, L, σ, H, hl, hc, hs, hL, h => by
    simp only [lineOK, Bool.and_eq_true] at hl
    obtain ⟨⟨hn, hl2⟩, hl3⟩ := hl
    cases ho : ops[i]? with
    | none => rw [ho] at hl2; cases hl2
    | some o =>
      rw [ho] at hl2
      simp only [Bool.and_eq_true] at hl2
      obtain ⟨hw, hp⟩ := hl2
      have hlt : i < ops.size := (Array.getElem?_eq_some_iff.1 ho).1
      have hni : i ∉ r := fun e => by rw [memN_iff.2 e] at hn; cases hn
      have hun : L.getD i true = false := by rw [hL i hlt]; simp
      have hready : i ∈ Region.ready .any ops L := by
        refine mem_ready.2 ⟨hun, o, ho, fun e he hb => ?_⟩
        have h1 := List.all_eq_true.1 hw e (Array.mem_def.1 he)
        simp only [hb, Bool.not_true, Bool.false_or, Bool.not_eq_true'] at h1
        have hm := (masksOK_get hM i o (by simpa using ho)).2 e he hb
        rw [Nat.zero_add] at hm
        have h2 := hL e.on (by omega)
        have h3 : e.on ∉ i :: r := fun x => by rw [memN_iff.2 x] at h1; cases h1
        rw [decide_eq_true h3] at h2
        have hlt2 : e.on < L.size := by omega
        simpa [Array.getD_eq_getD_getElem?, hlt2] using h2
      rw [List.filterMap_cons, ho] at h
      refine anyA_first hT hok hM hR ho r.length L σ H hc (fun j oj hj hne hju => ?_) hready ?_
      · have hjlt : j < ops.size := (Array.getElem?_eq_some_iff.1 hj).1
        rw [hL j hjlt] at hju
        have hjm : j ∈ i :: r := Decidable.of_not_not (of_decide_eq_false hju)
        rcases List.mem_cons.1 hjm with e | hjr
        · exact absurd e hne
        · have h1 := List.all_eq_true.1 hp j hjr
          simp only [Bool.or_eq_true] at h1
          rcases h1 with h1 | h1
          · exact .inl h1
          · unfold commAt at h1
            rw [hj] at h1
            exact .inr h1
      · refine stepA_mono hT (hok i o ho) (fun σ1 H1 h1 => line_any hT hok hM hR r _ σ1 H1 hl3 (hc.set hready) (by simp [hs]) (fun j hj => ?_) h1) h
        by_cases e : j = i
        · subst e
          rw [decide_eq_true hni]
          simp [Array.getD_eq_getD_getElem?, hs, hlt]
        · rw [getD_set_ne true (fun x => e x.symm), hL j hj]
          exact decide_eq_decide.2 (by simp [e])
theorem St.wf {ρ0 : Ren} {B : Nat} {w0 : World} {σ : Env} {H : Hp} {a : Act} {w : World} (hs : St c n ρ0 B w0 σ H a w) : WFH H := fun b hb => by
  obtain ⟨ρ, a1, a2, a3, a4, a5⟩ := hs
  cases e : H.obj b with
  | none => rfl
  | some o => have := a4.lt e; omega
theorem any_ok (hT : ∀ k sp, c.T k = some sp → SpOK c.P c.G k sp) {ρ0 : Ren} {B : Nat} {w0 : World} {Q : Exit → Act → World → Prop} {R : Env → Hp → Prop} (hk : ∀ σ' H' a' w', R σ' H' → St c n ρ0 B w0 σ' H' a' w' → Q .normal a' w') :
    ∀ (f : Nat) (L : Array Bool) (σ : Env) (H : Hp) (a : Act) (w : World), anyA c n ops R f L σ H → St c n ρ0 B w0 σ H a w → wpAny c.P .any ops Q f L a w
  | 0, L, σ, H, a, w, h, hs => ⟨(h hs.wf).1, hk _ _ _ _ (h hs.wf).2 hs⟩
  | f + 1, L, σ, H, a, w, h, hs => ⟨fun h0 => hk _ _ _ _ ((h hs.wf).1 h0) hs, fun i hi => by
      obtain ⟨o, ho, h1⟩ := (h hs.wf).2 i hi
      exact valK_ok hT ho hs h1 fun σ' H' a' w' h2 h3 => any_ok hT hk f _ σ' H' a' w' h2 h3⟩
theorem draw_ok (hT : ∀ k sp, c.T k = some sp → SpOK c.P c.G k sp) (hm : c.P.follows .mixedOrders = true) {ρ0 : Ren} {B : Nat} {w0 : World} {id : Nat} {Q : Exit → Act → World → Prop} {K : Env → Hp → Prop} {σ : Env} {H : Hp} {a : Act} {w : World}
    (hok : drawOK c ops = true) (hs : St c n ρ0 B w0 σ H a w) (h : opersK c n true ops ops.toList σ H K) (hk : ∀ σ' H' a' w', K σ' H' → St c n ρ0 B w0 σ' H' a' w' → Q .normal a' w') : (Code.region id ops true).wp c.P Q a w := by
  unfold drawOK drawOKM at hok
  simp only [Bool.and_eq_true] at hok
  obtain ⟨h1, h2, h3⟩ := hok
  have hall : ∀ o ∈ ops.toList, opAny o.op = true := fun o ho => List.all_eq_true.1 h1 o ho
  have hall' : ∀ (i : Nat) (o : Oper), ops[i]? = some o → opAny o.op = true := fun i o ho => hall o (by rw [← Array.getElem?_toList] at ho; exact List.mem_of_getElem? ho)
  let R : Env → Hp → Prop := fun σ H => ∃ σ', Alike σ σ' ∧ K σ' H
  have hR : Inv R := fun σ σ' H ha ⟨σ2, h2, h3⟩ => ⟨σ2, fun t => (h2 t).trans (ha t).symm, h3⟩
  have hl : lexA c n ops R ops.toList σ H := lexA_of hT hR (fun σ H h => ⟨σ, fun _ => rfl, h⟩) hall h
  have ha := lex_any hT hall' h2 hR ops.toList 0 (Array.replicate ops.size false) σ H (by simp) h3 ⟨by simp, fun j hj => by simp [hj]⟩ hl
  rw [Array.length_toList] at ha
  refine wp_region_any hm (any_ok hT (ρ0 := ρ0) (B := B) (w0 := w0) (R := R) ?_ _ _ _ _ _ _ ha ?_)
  · intro σ' H' a' w' ⟨σ2, h2, h3⟩ hs'
    exact hk σ2 H' a' w' h3 (hs'.same h2)
  · obtain ⟨ρ, a1, a2, a3, a4, a5⟩ := hs
    exact ⟨ρ, a1, a2, a3, a4, a5.drew⟩
theorem line_ok (hT : ∀ k sp, c.T k = some sp → SpOK c.P c.G k sp) (hm : c.P.follows .mixedOrders = true) {ρ0 : Ren} {B : Nat} {w0 : World} {id : Nat} {Q : Exit → Act → World → Prop} {K : Env → Hp → Prop} {σ : Env} {H : Hp} {a : Act} {w : World}
    {l : List Nat} (hok : drawOKL c ops l = true) (hs : St c n ρ0 B w0 σ H a w) (h : opersK c n true ops (l.filterMap fun i => ops[i]?) σ H K) (hk : ∀ σ' H' a' w', K σ' H' → St c n ρ0 B w0 σ' H' a' w' → Q .normal a' w') : (Code.region id ops true).wp c.P Q a w := by
  unfold drawOKL at hok
  simp only [Bool.and_eq_true] at hok
  obtain ⟨h1, h2, h3, h4, h5⟩ := hok
  have hall : ∀ o ∈ ops.toList, opAny o.op = true := fun o ho => List.all_eq_true.1 h1 o ho
  have hall' : ∀ (i : Nat) (o : Oper), ops[i]? = some o → opAny o.op = true := fun i o ho => hall o (by rw [← Array.getElem?_toList] at ho; exact List.mem_of_getElem? ho)
  let R : Env → Hp → Prop := fun σ H => ∃ σ', Alike σ σ' ∧ K σ' H
  have hR : Inv R := fun σ σ' H ha ⟨σ2, h2, h3⟩ => ⟨σ2, fun t => (h2 t).trans (ha t).symm, h3⟩
  have hl : lexA c n ops R (l.filterMap fun i => ops[i]?) σ H := lexA_of hT hR (fun σ H h => ⟨σ, fun _ => rfl, h⟩) (fun o ho => by
    obtain ⟨i, _, hi⟩ := List.mem_filterMap.1 ho
    exact hall' i o hi) h
  have ha := line_any hT hall' h2 hR l (Array.replicate ops.size false) σ H h3 (fun k o hk ho => by exfalso; by_cases e : k < ops.size <;> simp [Array.getD_eq_getD_getElem?, e] at hk) (by simp) (fun j hj => by
    rw [decide_eq_false (fun x => x (allIn_get h5 j hj))]
    simp [Array.getD_eq_getD_getElem?, hj]) hl
  rw [Nat.eq_of_beq_eq_true h4] at ha
  refine wp_region_any hm (any_ok hT (ρ0 := ρ0) (B := B) (w0 := w0) (R := R) ?_ _ _ _ _ _ _ ha ?_)
  · intro σ' H' a' w' ⟨σ2, h2, h3⟩ hs'
    exact hk σ2 H' a' w' h3 (hs'.same h2)
  · obtain ⟨ρ, a1, a2, a3, a4, a5⟩ := hs
    exact ⟨ρ, a1, a2, a3, a4, a5.drew⟩
end Go.Proofs.Ytbikpfccdcblfaa.Eng
/- The engine, part 15: code, and a function. -/
namespace Go.Proofs.Ytbikpfccdcblfaa.Eng
open Go Go.RowKit
set_option linter.unusedVariables false
set_option linter.unusedSimpArgs false

def codeOK (c : Cfg) : Code → Bool
  | .region id ops draw => match draw with | true => (match c.perm id with | none => drawOK c ops | some l => drawOKL c ops l) | false => (c.perm id).isNone
  | .seq a b => codeOK c a && codeOK c b
  | .cond _ a b => codeOK c a && codeOK c b
  | .block _ b | .loop b | .scope b => codeOK c b
  | _ => true
/-- What is behind a piece of code: some abstract state that the continuation takes. -/
def Behind (c : Cfg) (n : Nat) (ρ0 : Ren) (B : Nat) (w0 : World) (K : Ex → Env → Hp → Prop) (Q : Exit → Act → World → Prop) : Prop :=
  (∀ σ H a w, K .normal σ H → St c n ρ0 B w0 σ H a w → Q .normal a w) ∧ (∀ i σ H a w, K (.exit i) σ H → St c n ρ0 B w0 σ H a w → Q (.exit i) a w) ∧ (∀ σ H a w, K .ret σ H → St c n ρ0 B w0 σ H a w → Q .ret a w)
theorem St.forgetO {c : Cfg} {n : Nat} {ρ0 : Ren} {B : Nat} {w0 : World} {σ : Env} {H : Hp} {a : Act} {w : World} (h : St c n ρ0 B w0 σ H a w) (l : Option (List Nat)) : St c n ρ0 B w0 (forgetO l σ) H a w := by
  cases l with
  | none => exact h
  | some l => exact h.forget l
theorem St.cutAt {c : Cfg} {n : Nat} {ρ0 : Ren} {B : Nat} {w0 : World} {σ : Env} {H : Hp} {a : Act} {w : World} (h : St c n ρ0 B w0 σ H a w) (b : Code) : St c n ρ0 B w0 (cutAt c b σ) H a w := by
  unfold Eng.cutAt
  split
  · exact h
  · split
    · exact h
    · exact h.forget _
theorem St.cutEnd {c : Cfg} {n : Nat} {ρ0 : Ren} {B : Nat} {w0 : World} {σ : Env} {H : Hp} {a : Act} {w : World} (h : St c n ρ0 B w0 σ H a w) (b : Code) : St c n ρ0 B w0 (cutEnd c b σ) H a w := by
  unfold Eng.cutEnd
  split
  · exact h
  · exact h.forgetO _

/-- The tables of fragments hold for a piece of code. -/
def TabsOK (c : Cfg) (n : Nat) (body : Code) : Prop := LoopsOK c n body ∧ JoinsOK c n body
theorem TabsOK.seq {c : Cfg} {n : Nat} {x y : Code} (h : TabsOK c n (.seq x y)) : TabsOK c n x ∧ TabsOK c n y ∧ ∀ j, tableAt c.joins y = some j → ∀ σ H K, j σ H K → ev c n y σ H (endsK c y K) :=
  ⟨⟨fun b hb => h.1 b (by simp [loopsOf, hb]), fun b hb => h.2 b (by simp [tailsOf, hb])⟩, ⟨fun b hb => h.1 b (by simp [loopsOf, hb]), fun b hb => h.2 b (by simp [tailsOf, hb])⟩, h.2 y (by simp [tailsOf])⟩
theorem TabsOK.cond {c : Cfg} {n : Nat} {t : Operand} {x y : Code} (h : TabsOK c n (.cond t x y)) : TabsOK c n x ∧ TabsOK c n y :=
  ⟨⟨fun b hb => h.1 b (by simp [loopsOf, hb]), fun b hb => h.2 b (by simp [tailsOf, hb])⟩, ⟨fun b hb => h.1 b (by simp [loopsOf, hb]), fun b hb => h.2 b (by simp [tailsOf, hb])⟩⟩
theorem TabsOK.loop {c : Cfg} {n : Nat} {x : Code} (h : TabsOK c n (.loop x)) : TabsOK c n x ∧ ∀ l, tableAt c.loops x = some l → ∀ σ H K, l σ H K → loopK (Eng.cutAt c x) (fun σ H K => ev c n x σ H K) big σ H K :=
  ⟨⟨fun b hb => h.1 b (by simp [loopsOf, hb]), fun b hb => h.2 b (by simpa [tailsOf] using hb)⟩, h.1 x (by simp [loopsOf])⟩
theorem TabsOK.block {c : Cfg} {n : Nat} {i : Nat} {x : Code} (h : TabsOK c n (.block i x)) : TabsOK c n x := ⟨fun b hb => h.1 b (by simpa [loopsOf] using hb), fun b hb => h.2 b (by simpa [tailsOf] using hb)⟩
theorem TabsOK.scope {c : Cfg} {n : Nat} {x : Code} (h : TabsOK c n (.scope x)) : TabsOK c n x := ⟨fun b hb => h.1 b (by simpa [loopsOf] using hb), fun b hb => h.2 b (by simpa [tailsOf] using hb)⟩

theorem loop_ok {P : Program} {c : Code} {Q : Exit → Act → World → Prop} (J : Nat → Act → World → Prop) (h0 : ∀ a w, ¬ J 0 a w) (round : ∀ m a w, J (m + 1) a w → c.wp P (Exit.then (J m) Q) a w) (m : Nat) (a : Act) (w : World) (hj : J m a w) : (Code.loop c).wp P Q a w := by
  intro b k cs
  have key : ∀ m a w, J m a w → ∃ e a' w', Q e a' w' ∧ Arrives P (lone (b.at a (.code c :: .inLoop c :: k)) cs w) b k cs e a' w' := by
    intro m
    induction m with
    | zero => exact fun a w h => (h0 a w h).elim
    | succ m ih =>
      intro a w h
      obtain ⟨e, a1, w1, hq, harr⟩ := round m a w h b (.inLoop c :: k) cs
      cases e with
      | normal =>
        obtain ⟨e2, a2, w2, hq2, harr2⟩ := ih a1 w1 hq
        exact ⟨e2, a2, w2, hq2, .of_steps (Steps.trans harr (.one step_inLoop)) harr2⟩
      | exit id => exact ⟨_, a1, w1, hq, .pass (x := .inLoop c) rfl (fun _ _ => .inl (by simp)) harr⟩
      | goto l => exact ⟨_, a1, w1, hq, .pass (x := .inLoop c) rfl (fun _ _ => .inl (by simp)) harr⟩
      | ret => exact ⟨_, a1, w1, hq, .pass (x := .inLoop c) rfl (fun _ _ => .inl (by simp)) harr⟩
      | panic ch => exact ⟨_, a1, w1, hq, .pass (x := .inLoop c) rfl (fun _ _ => .inl (by simp)) harr⟩
      | outgrown => exact ⟨_, a1, w1, hq, .pass (x := .inLoop c) rfl (fun _ _ => .inl (by simp)) harr⟩
  obtain ⟨e, a', w', hq, harr⟩ := key m a w hj
  exact ⟨e, a', w', hq, .of_steps (.one step_loop) harr⟩

theorem ev_ok {c : Cfg} (hT : ∀ k sp, c.T k = some sp → SpOK c.P c.G k sp) (hm : c.P.follows .mixedOrders = true) {n : Nat} {ρ0 : Ren} {B : Nat} {w0 : World} : ∀ (code : Code), codeOK c code = true → TabsOK c n code →
    ∀ {σ : Env} {H : Hp} {K : Ex → Env → Hp → Prop} {a : Act} {w : World} {Q : Exit → Act → World → Prop}, ev c n code σ H K → St c n ρ0 B w0 σ H a w → Behind c n ρ0 B w0 K Q → code.wp c.P Q a w := by
  intro code
  induction code with
  | skip => exact fun _ _ _ _ _ _ _ _ h hs hb => wp_skip (hb.1 _ _ _ _ h hs)
  | region id ops draw =>
    intro hc _ σ H K a w Q h hs hb
    cases draw with
    | false =>
      have h : opersK c n false ops (lineOf (c.perm id) ops) σ H fun σ H => K .normal σ H := h
      rw [Option.isNone_iff_eq_none.1 (show (c.perm id).isNone = true from hc)] at h
      exact region_ok hT hs h fun σ' H' a' w' h1 h2 => hb.1 _ _ _ _ h1 h2
    | true =>
      have h : opersK c n true ops (lineOf (c.perm id) ops) σ H fun σ H => K .normal σ H := h
      have hc : (match c.perm id with | none => drawOK c ops | some l => drawOKL c ops l) = true := hc
      cases e : c.perm id with
      | none =>
        rw [e] at h hc
        exact draw_ok hT hm hc hs h fun σ' H' a' w' h1 h2 => hb.1 _ _ _ _ h1 h2
      | some l =>
        rw [e] at h hc
        exact line_ok hT hm hc hs h fun σ' H' a' w' h1 h2 => hb.1 _ _ _ _ h1 h2
  | seq x y ihx ihy =>
    intro hc ht σ H K a w Q h hs hb
    simp only [codeOK, Bool.and_eq_true] at hc
    obtain ⟨t1, t2, t3⟩ := ht.seq
    refine wp_seq (ihx hc.1 t1 h hs ⟨fun σ' H' a' w' h1 h2 => ?_, fun i σ' H' a' w' h1 h2 => hb.2.1 _ _ _ _ _ h1 h2, fun σ' H' a' w' h1 h2 => hb.2.2 _ _ _ _ h1 h2⟩)
    simp only at h1
    split at h1
    · rename_i j hj
      refine ihy hc.2 t2 (t3 j hj _ _ _ h1) (h2.cutAt y) ⟨fun σ3 H3 a3 w3 k1 k2 => hb.1 _ _ _ _ k1 (k2.cutEnd y), hb.2.1, hb.2.2⟩
    · exact ihy hc.2 t2 h1 (h2.cutAt y) hb
  | cond t x y ihx ihy =>
    intro hc ht σ H K a w Q h hs hb
    simp only [codeOK, Bool.and_eq_true] at hc
    obtain ⟨t1, t2⟩ := ht.cond
    obtain ⟨ρ, a1, a2, a3, a4, a5⟩ := id hs
    simp only [ev] at h
    split at h
    · rename_i hx; exact wp_cond_true (arg_ok a4 a2 hx).bool_inv (ihx hc.1 t1 h hs hb)
    · rename_i hx; exact wp_cond_false (arg_ok a4 a2 hx).bool_inv (ihy hc.2 t2 h hs hb)
    · exact h.elim
  | block id x ihx =>
    intro hc ht σ H K a w Q h hs hb
    refine wp_block (ihx hc ht.block h hs ⟨fun σ' H' a' w' h1 h2 => hb.1 _ _ _ _ h1 h2, fun i σ' H' a' w' h1 h2 => ?_, fun σ' H' a' w' h1 h2 => hb.2.2 _ _ _ _ h1 h2⟩)
    simp only at h1
    cases e : Nat.beq i id with
    | true => rw [e] at h1; simp only [Exit.inBlock, Nat.eq_of_beq_eq_true e, if_true]; exact hb.1 _ _ _ _ h1 h2
    | false =>
      rw [e] at h1
      have hne : i ≠ id := fun e' => by subst e'; rw [Nat.beq_refl] at e; cases e
      simp only [Exit.inBlock, hne, if_false]; exact hb.2.1 _ _ _ _ _ h1 h2
  | loop x ihx =>
    intro hc ht σ H K a w Q h hs hb
    obtain ⟨t1, t2⟩ := ht.loop
    have hl : loopK (Eng.cutAt c x) (fun σ H K => ev c n x σ H K) big (Eng.cutAt c x σ) H K := by
      simp only [ev] at h
      split at h
      · rename_i l hl; exact t2 l hl _ _ _ h
      · exact h
    refine loop_ok (fun m a w => ∃ σ H, loopK (Eng.cutAt c x) (fun σ H K => ev c n x σ H K) m σ H K ∧ St c n ρ0 B w0 σ H a w) (fun a w ⟨_, _, h, _⟩ => h) (fun m a w ⟨σ, H, h1, h2⟩ => ?_) big a w ⟨_, H, hl, hs.cutAt x⟩
    exact ihx hc t1 h1 h2 ⟨fun σ' H' a' w' k1 k2 => ⟨_, H', k1, k2.cutAt x⟩, fun i σ' H' a' w' k1 k2 => hb.2.1 _ _ _ _ _ k1 k2, fun σ' H' a' w' k1 k2 => hb.2.2 _ _ _ _ k1 k2⟩
  | label l => exact fun _ _ _ _ _ _ _ _ h hs hb => wp_label (hb.1 _ _ _ _ h hs)
  | exit id => exact fun _ _ _ _ _ _ _ _ h hs hb => wp_exit (hb.2.1 _ _ _ _ _ h (hs.forgetO _))
  | ret => exact fun _ _ _ _ _ _ _ _ h hs hb => wp_ret (hb.2.2 _ _ _ _ h (hs.forgetO _))
  | rangeFunc _ _ _ _ => exact fun _ _ _ _ _ _ _ _ h => h.elim
  | scope x ihx =>
    intro hc ht σ H K a w Q h hs hb
    exact wp_scope_straight (ihx hc ht.scope h hs ⟨fun σ' H' a' w' h1 h2 => hb.1 _ _ _ _ h1 h2, fun i σ' H' a' w' h1 h2 => hb.2.1 _ _ _ _ _ h1 h2, fun σ' H' a' w' h1 h2 => hb.2.2 _ _ _ _ h1 h2⟩)
  | goto _ => exact fun _ _ _ _ _ _ _ _ h => h.elim
  | refuse _ => exact fun _ _ _ _ _ _ _ _ h => h.elim

/-! a function -/
theorem look_env0 : ∀ (vs : List Value) (i t : Nat), look t (env0 i vs) = if i ≤ t then vs[t - i]? else none
  | [], i, t => by simp [env0, look]
  | v :: vs, i, t => by
    rw [env0, look_cons, look_env0 vs (i + 1) t]
    by_cases h : t = i
    · subst h; simp
    · rw [if_neg h]
      by_cases h2 : i + 1 ≤ t
      · rw [if_pos h2, if_pos (by omega), show t - i = (t - (i + 1)) + 1 by omega]; simp
      · rw [if_neg h2, if_neg (by omega)]
theorem env0_ER {ρ : Ren} {args : List Value} {args' : Array Value} (hv : VRs ρ args args'.toList) {n : Nat} (hn : args.length ≤ n) : ER ρ n (env0 0 args) { tmps := args' ++ Array.replicate (n - args'.size) undef, defers := [] } := by
  have hsz : args'.size = args.length := by have := hv.1; simpa using this.symm
  refine ⟨by simp; omega, fun t v h => ?_⟩
  rw [look_env0] at h
  simp only [Nat.zero_le, if_true, Nat.sub_zero] at h
  obtain ⟨v', h1, h2⟩ := hv.get h
  have ht : t < args.length := (List.getElem?_eq_some_iff.1 h).1
  refine ⟨by omega, ?_⟩
  have : (args' ++ Array.replicate (n - args'.size) undef).getD t undef = v' := by
    have h3 : args'[t]? = some v' := by simpa using h1
    rw [Array.getD_eq_getD_getElem?, Array.getElem?_append_left (by omega), h3]; rfl
  rw [this]; exact h2
def resSem (tmps : Array Value) : ResultVar → Sem Value
  | .tmp t => pure (tmps.getD t undef)
  | .cell b t => do loadVar t (← asAddr (tmps.getD b undef))
theorem resK_ok {P : Program} {G : Nat} {ρ : Ren} {B : Nat} {H : Hp} {w : World} {n : Nat} {σ : Env} {a : Act} (r : Rep P G ρ B H w.heap) (he : ER ρ n σ a) : ∀ {rs : List ResultVar} {K : List Value → Prop}, resK P H σ rs K →
    ∃ vs vs', K vs ∧ VRs ρ vs vs' ∧ (rs.mapM (resSem a.tmps)).run P w = Result.ok vs' w
  | [], K, h => ⟨[], [], h, .nil ρ, rfl⟩
  | .tmp t :: rs, K, h => by
    obtain ⟨v, hv, h1⟩ := optP_elim h
    obtain ⟨vs, vs', q1, q2, q3⟩ := resK_ok r he h1
    refine ⟨v :: vs, _ :: vs', q1, .cons (he.2 t v hv).2 q2, ?_⟩
    rw [List.mapM_cons]
    simp only [resSem, Sem.run_bind, Sem.run_pure, Result.andThen_ok, q3]
  | .cell b t :: rs, K, h => by
    simp only [resK] at h
    split at h
    · rename_i p hp
      obtain ⟨ad, rfl, h1⟩ := optP_elim h
      obtain ⟨l, hl, hs, hev⟩ := (he.2 b _ hp).2.ptr_some
      obtain ⟨v, v', k1, k2, k3⟩ := loadK_ok r hl h1
      obtain ⟨vs, vs', q1, q2, q3⟩ := resK_ok r he k3
      refine ⟨v :: vs, v' :: vs', q1, .cons k2 q2, ?_⟩
      rw [List.mapM_cons]
      simp only [resSem, Sem.run_bind, Sem.run_pure, Result.andThen_ok, q3, hev, asAddr, k1]
    · exact h.elim
theorem oneOf_VR {ρ : Ren} {vs vs' : List Value} (h : VRs ρ vs vs') : VR ρ (oneOf vs) (if h : vs'.toArray.size = 1 then vs'.toArray[0] else .tuple vs'.toArray) := by
  cases vs with
  | nil => rw [h.nil_left]; exact vr_tuple (.nil ρ)
  | cons v r =>
    obtain ⟨v', r', rfl, h1, h2⟩ := h.cons_left
    cases r with
    | nil => rw [h2.nil_left]; exact h1
    | cons u r2 =>
      obtain ⟨u', r3, rfl, h3, h4⟩ := h2.cons_left
      have hne : ¬ (v' :: u' :: r3).toArray.size = 1 := by simp
      rw [dif_neg hne]
      exact vr_tuple h
theorem fn_ok {c : Cfg} (hT : ∀ k sp, c.T k = some sp → SpOK c.P c.G k sp) (hm : c.P.follows .mixedOrders = true) {k : FuncId} {fn : Func} (hf : c.P.funcs[k]? = some fn) (hc : codeOK c (bodyOf fn) = true) (ht : TabsOK c fn.ntmps (bodyOf fn))
    {args : List Value} {H : Hp} {K : Value → Hp → Prop} (h : fnK c fn args H K) {ρ : Ren} {B : Nat} {w : World} {args' : Array Value} (r : Rep c.P c.G ρ B H w.heap) (hv : VRs ρ args args'.toList) :
    Calls c.P k args' w fun e w' => ∃ v, e = .returned v ∧ Post c.P c.G ρ B w K v w' := by
  unfold fnK at h
  split at h
  · exact h.elim
  · rename_i b hb
    have hbo : bodyOf fn = b := by simp [bodyOf, hb]
    rw [hbo] at hc ht
    obtain ⟨h1, h2⟩ := gd_elim h
    refine calls_of_wp hf hb (ev_ok (ρ0 := ρ) (B := B) (w0 := w) hT hm b hc ht h2 ⟨ρ, .refl ρ, env0_ER hv (Nat.le_of_ble_eq_true h1), rfl, r, Below.refl _ _⟩ ?_)
    have fin : ∀ σ' H' (a' : Act) w', resK c.P H' σ' fn.results.toList (fun vs => K (oneOf vs) H') → St c fn.ntmps ρ B w σ' H' a' w' →
        a'.defers = [] ∧ ∃ v, (results fn a'.tmps).run c.P w' = .ok v w' ∧ (∃ u, Ending.returned v = .returned u ∧ Post c.P c.G ρ B w K u w') := by
      intro σ' H' a' w' k1 ⟨ρ', b1, b2, b3, b4, b5⟩
      obtain ⟨vs, vs', q1, q2, q3⟩ := resK_ok b4 b2 k1
      refine ⟨b3, _, ?_, _, rfl, ρ', _, H', q1, b1, oneOf_VR q2, b4, b5⟩
      have e : results fn a'.tmps = (do let vs ← fn.results.mapM (resSem a'.tmps); pure (if h : vs.size = 1 then vs[0] else .tuple vs)) := rfl
      rw [e, Array.mapM_eq_mapM_toList]
      simp only [Sem.run_bind, Sem.run_map, q3, Result.andThen_ok, Sem.run_pure]
    exact ⟨fun σ' H' a' w' k1 k2 => fin σ' H' a' w' k1 k2, fun i σ' H' a' w' k1 k2 => k1.elim, fun σ' H' a' w' k1 k2 => fin σ' H' a' w' k1 k2⟩
theorem sp_of_fn {c : Cfg} (hT : ∀ k sp, c.T k = some sp → SpOK c.P c.G k sp) (hm : c.P.follows .mixedOrders = true) {k : FuncId} {fn : Func} (hf : c.P.funcs[k]? = some fn) (hb : fn.body.isSome = true) (hn : (fn.name == "runtime.NumGoroutine") = false)
    (hc : codeOK c (bodyOf fn) = true) (ht : TabsOK c fn.ntmps (bodyOf fn)) {sp : Sp} (hq : sp.quiet = false) (hkp : sp.keep = false) (hmono : ∀ args H K K', (∀ v H', K v H' → K' v H') → sp.run args H K → sp.run args H K') (hs : ∀ args H K, sp.run args H K → fnK c fn args H K) : SpOK c.P c.G k sp := by
  refine ⟨hmono, (fun h => by rw [hq] at h; cases h), (fun h => by rw [hkp] at h; cases h), fun args H K h ρ B w args' r hv => ?_⟩
  have := fn_ok hT hm hf hc ht (hs _ _ _ h) r hv
  have hb' : fn.body.isNone = false := by
    cases hx : fn.body with
    | none => rw [hx] at hb; cases hb
    | some _ => rfl
  unfold Gives
  simp only [callFunc, Sem.run_bind, run_program, Result.andThen_ok, hf, hn, hb']
  exact this

/-- .. that leaves the heap alone. -/
theorem sp_of_fnq {c : Cfg} (hT : ∀ k sp, c.T k = some sp → SpOK c.P c.G k sp) (hm : c.P.follows .mixedOrders = true) {k : FuncId} {fn : Func} (hf : c.P.funcs[k]? = some fn) (hb : fn.body.isSome = true) (hn : (fn.name == "runtime.NumGoroutine") = false)
    (hc : codeOK c (bodyOf fn) = true) (ht : TabsOK c fn.ntmps (bodyOf fn)) {sp : Sp} (hq : ∀ args H, DQ H (sp.run args H)) (hs : ∀ args H K, sp.run args H K → fnK c fn args H K) : SpOK c.P c.G k sp :=
  have hm1 : ∀ args H K K', (∀ v H', K v H' → K' v H') → sp.run args H K → sp.run args H K' := fun args H K K' h1 h2 => let ⟨_, a, b⟩ := hq args H K h2; b K' (h1 _ _ a)
  ⟨hm1, fun _ args H K h => hq args H K h, fun _ args H K _ h => let ⟨_, a, b⟩ := hq args H K h; b _ ⟨a, fun _ _ => rfl⟩, (sp_of_fn (sp := ⟨false, sp.run, false⟩) hT hm hf hb hn hc ht rfl rfl hm1 hs).sound⟩
/-- A summary that asks more. -/
theorem SpOK.weak {P : Program} {G : Nat} {k : FuncId} {sp sp' : Sp} (h : SpOK P G k sp) (hmono : ∀ args H K K', (∀ v H', K v H' → K' v H') → sp'.run args H K → sp'.run args H K') (hs : ∀ args H K, sp'.run args H K → sp.run args H K) (hq : sp'.quiet = true → ∀ args H, DQ H (sp'.run args H))
    (hkp : sp'.keep = true → ∀ args H K, (∀ b, H.next ≤ b → H.obj b = none) → sp'.run args H K → sp'.run args H fun v H' => K v H' ∧ ∀ b, H.obj b ≠ none → H'.obj b = H.obj b) : SpOK P G k sp' :=
  ⟨hmono, fun e args H K hr => hq e args H K hr, hkp, fun args H K hr => h.sound args H K (hs args H K hr)⟩
theorem DQ.k {H : Hp} (v : Value) : DQ H (fun K => K v H) := (DP.k v).quiet H
theorem DQ.gd {H : Hp} {b : Bool} {T : (Value → Hp → Prop) → Prop} (h : DQ H T) : DQ H (fun K => gd b (T K)) := by
  cases b with
  | false => exact DQ.no
  | true => exact h
theorem DQ.and {H : Hp} {p : Prop} {T : (Value → Hp → Prop) → Prop} (h : DQ H T) : DQ H (fun K => p ∧ T K) := fun K ⟨hp, hk⟩ =>
  let ⟨v, a, b⟩ := h K hk; ⟨v, a, fun K' h' => ⟨hp, b K' h'⟩⟩
theorem DQ.mat {H : Hp} {b : Bool} {T T' : (Value → Hp → Prop) → Prop} (h : DQ H T) (h' : DQ H T') : DQ H (fun K => match b with | true => T K | false => T' K) := by cases b <;> assumption
theorem DQ.ex {H : Hp} {α : Type} {T : α → (Value → Hp → Prop) → Prop} (h : ∀ x, DQ H (T x)) : DQ H (fun K => ∃ x, T x K) := fun K ⟨x, hk⟩ =>
  let ⟨v, a, b⟩ := h x K hk; ⟨v, a, fun K' h' => ⟨x, b K' h'⟩⟩

/-! how a printed function is tied -/
def firstIs (i : Nat) (b : Code) : Bool := match firstR b with | some j => Nat.beq i j | none => false
theorem firstIs_of {t : List (Nat × Frag)} {b : Code} {l : Frag} (h : tableAt (fun k => lk k t) b = some l) : ∃ i, (i, l) ∈ t ∧ firstIs i b = true := by
  unfold tableAt at h
  split at h
  · cases h
  · rename_i i hi
    exact ⟨i, lk_mem h, by simp [firstIs, hi]⟩
theorem loops_ok {c : Cfg} {n : Nat} {body : Code} (t : List (Nat × Frag)) (hj : c.loops = fun k => lk k t)
    (h : ∀ i l, (i, l) ∈ t → ∀ b ∈ (loopsOf body).filter (firstIs i), ∀ σ H K, l σ H K → loopK (cutAt c b) (fun σ H K => ev c n b σ H K) big σ H K) : LoopsOK c n body := by
  intro b hb l hl
  rw [hj] at hl
  obtain ⟨i, h1, h2⟩ := firstIs_of hl
  exact h i l h1 b (List.mem_filter.2 ⟨hb, h2⟩)
theorem joins_ok {c : Cfg} {n : Nat} {body : Code} (t : List (Nat × Frag)) (hj : c.joins = fun k => lk k t)
    (h : ∀ i l, (i, l) ∈ t → ∀ b ∈ (tailsOf body).filter (firstIs i), ∀ σ H K, l σ H K → ev c n b σ H (endsK c b K)) : JoinsOK c n body := by
  intro b hb l hl
  rw [hj] at hl
  obtain ⟨i, h1, h2⟩ := firstIs_of hl
  exact h i l h1 b (List.mem_filter.2 ⟨hb, h2⟩)
theorem funs_ok {c : Cfg} (t : List (Nat × Sp)) (hj : c.T = fun k => lk k t) (h : ∀ i s, (i, s) ∈ t → SpOK c.P c.G i s) : ∀ k sp, c.T k = some sp → SpOK c.P c.G k sp := by
  intro k sp hk
  rw [hj] at hk
  exact h k sp (lk_mem hk)
end Go.Proofs.Ytbikpfccdcblfaa.Eng
/- The engine, part 16: from what is known of a function to its calls. -/
namespace Go.Proofs.Ytbikpfccdcblfaa.Eng
open Go Go.RowKit
set_option linter.unusedVariables false
set_option linter.unusedSimpArgs false
theorem SpOK.calls {P : Program} {G : Nat} {k : FuncId} {sp : Sp} (h : SpOK P G k sp) {fn : Func} (hf : P.funcs[k]? = some fn) (hb : fn.body.isSome = true) (hn : (fn.name == "runtime.NumGoroutine") = false)
    {args : List Value} {H : Hp} {K : Value → Hp → Prop} (hr : sp.run args H K) {ρ : Ren} {B : Nat} {w : World} {args' : Array Value} (r : Rep P G ρ B H w.heap) (hv : VRs ρ args args'.toList) :
    Calls P k args' w fun e w' => ∃ v, e = .returned v ∧ Post P G ρ B w K v w' := by
  have := h.sound args H K hr ρ B w args' r hv
  have hb' : fn.body.isNone = false := by
    cases hx : fn.body with
    | none => rw [hx] at hb; cases hb
    | some _ => rfl
  unfold Gives at this
  simp only [callFunc, Sem.run_bind, run_program, Result.andThen_ok, hf, hn, hb'] at this
  exact this
/-- Nothing is known of the heap. -/
theorem Rep.empty (P : Program) (w : World) : Rep P 0 (fun _ => none) w.heap.size ⟨fun _ => none, 0⟩ w.heap :=
  ⟨Nat.le_refl _, ⟨Nat.le_refl _, fun g hg => absurd hg (Nat.not_lt_zero _)⟩, fun _ _ => rfl, fun _ _ h => (by cases h), fun _ _ _ _ _ _ h => (by cases h)⟩
/-- One more row of cells that the call may read. -/
theorem Rep.see {P : Program} {G : Nat} {ρ : Ren} {B : Nat} {H : Hp} {h : Array Obj} (r : Rep P G ρ B H h) {b o : Nat} {e : TypeId} {cs : List Value} {C : Array Value} {e' : TypeId} {fz : Nat × Nat}
    (hb : h[b]? = some (.cells C e' fz)) (hlt : b < B) (hc : CellsR ρ ⟨b, o, 0, 0, false⟩ cs C) : Rep P G (ρ.add H.next ⟨b, o, 0, 0, false⟩) B (H.new (.cells false e cs)) h := by
  have hnone := r.dom H.next (Nat.le_refl _)
  have hext := Ren.add_ext (ρ := ρ) (⟨b, o, 0, 0, false⟩ : Loc) hnone
  refine ⟨r.base, ⟨Nat.le_succ_of_le r.glob.1, fun g hg => ?_⟩, fun b2 hb2 => ?_, fun b2 o2 h2 => ?_, fun b1 b2 l1 l2 o1 o2 h1 h2 k1 k2 hm hne => ?_⟩
  · obtain ⟨l', a, b'⟩ := r.glob.2 g hg
    exact ⟨l', hext _ _ a, b'⟩
  · have hb' : H.next + 1 ≤ b2 := hb2
    unfold Ren.add; rw [if_neg (by omega)]; exact r.dom b2 (by omega)
  · simp only [Hp.new] at h2
    split at h2
    · rename_i e1; subst e1; cases h2
      exact ⟨_, Ren.add_self _ _ _, C, e', fz, hb, fun i v hv => let ⟨v', a, b, c⟩ := hc i v hv; ⟨v', a, b.mono hext, c⟩, fun h => by cases h⟩
    · obtain ⟨l', a, b'⟩ := r.obj b2 o2 h2
      exact ⟨l', hext _ _ a, b'.mono hext⟩
  · simp only [Hp.new] at h1 h2
    have low : ∀ (o : AObj) (l : Loc), ObjR P ρ B l h o → o.mut = true → B ≤ l.blk := fun o l ho hm => by
      cases o with
      | cells own e cs => obtain ⟨_, _, _, _, _, h3⟩ := ho; exact (h3 hm).1
      | map kt es => obtain ⟨_, _, _, h3, _⟩ := ho; exact h3
    split at h1
    · rename_i e1
      cases h1
      cases hm
    · obtain ⟨l', a, ho⟩ := r.obj b1 o1 h1
      rw [hext _ _ a] at k1; cases k1
      split at h2
      · rename_i e2
        subst e2
        rw [Ren.add_self] at k2; cases k2
        have := low _ _ ho hm
        show l1.blk ≠ b
        omega
      · obtain ⟨l'', a', ho'⟩ := r.obj b2 o2 h2
        rw [hext _ _ a'] at k2; cases k2
        exact r.sep b1 b2 _ _ o1 o2 h1 h2 a a' hm hne
/-- The abstract heap has grown at most. -/
def ext (H H' : Hp) : Prop := H.next ≤ H'.next ∧ ∀ b, b < H.next → H'.obj b = H.obj b
theorem ext.refl (H : Hp) : ext H H := ⟨Nat.le_refl _, fun _ _ => rfl⟩
theorem ext.trans {A B C : Hp} (h : ext A B) (k : ext B C) : ext A C := ⟨Nat.le_trans h.1 k.1, fun b hb => (k.2 b (Nat.lt_of_lt_of_le hb h.1)).trans (h.2 b hb)⟩
theorem ext.new (H : Hp) (o : AObj) : ext H (H.new o) := ⟨Nat.le_succ _, fun b hb => by simp only [Hp.new]; rw [if_neg (by omega)]⟩
theorem ext.cell {H H' : Hp} (h : ext H H') {b : Nat} (hb : b < H.next) (o : Nat) : H'.cell b o = H.cell b o := by unfold Hp.cell; rw [h.2 b hb]
theorem VR.cut {ρ ρ' ρ2 : Ren} (hd : ∀ b l, ρ b = some l → ρ2 b = ρ' b) {v v0 : Value} (h0 : VR ρ v v0) : ∀ {v' : Value}, VR ρ' v v' → VR ρ2 v v' := by
  induction h0 with
  | bool b => intro v' h; cases h; exact .bool b
  | int k n => intro v' h; cases h; exact .int k n
  | float k n => intro v' h; cases h; exact .float k n
  | complex k m n => intro v' h; cases h; exact .complex k m n
  | string s => intro v' h; cases h; exact .string s
  | pnil => intro v' h; cases h; exact .pnil
  | ptr hb => intro v' h; cases h with | ptr h => exact .ptr (by rw [hd _ _ hb]; exact h)
  | snil => intro v' h; cases h; exact .snil
  | slice hb ho hn hc =>
    intro v' h
    cases h with
    | slice h a b c => exact .slice (by rw [hd _ _ hb]; exact h) a b c
    | slice0 => exact .slice0 _ _ _ _
  | slice0 b o a c =>
    intro v' h
    cases h with
    | slice h a b c => exact .slice0 _ _ _ _
    | slice0 => exact .slice0 _ _ _ _
  | mnil => intro v' h; cases h; exact .mnil
  | map hb => intro v' h; cases h with | map h => exact .map (by rw [hd _ _ hb]; exact h)
  | func hx hx' hy hy' ih1 ih2 =>
    intro v' h
    cases h with
    | func a b c d =>
      refine .func a (fun i u u' hu hu' => ?_) c (fun i u u' hu hu' => ?_)
      · obtain ⟨w, hw, _⟩ := VRs.get (ρ := ρ) ⟨hx, hx'⟩ hu
        exact ih1 i u w hu hw (b i u u' hu hu')
      · obtain ⟨w, hw, _⟩ := VRs.get (ρ := ρ) ⟨hy, hy'⟩ hu
        exact ih2 i u w hu hw (d i u u' hu hu')
  | nilFunc => intro v' h; cases h; exact .nilFunc
  | nilIface => intro v' h; cases h; exact .nilIface
  | iface _ ih => intro v' h; cases h with | iface h => exact .iface (ih h)
  | agg hx hx' ih =>
    intro v' h
    cases h with
    | agg a b =>
      refine .agg a (fun i u u' hu hu' => ?_)
      obtain ⟨w, hw, _⟩ := VRs.get (ρ := ρ) ⟨hx, hx'⟩ hu
      exact ih i u w hu hw (b i u u' hu hu')
  | tuple hx hx' ih =>
    intro v' h
    cases h with
    | tuple a b =>
      refine .tuple a (fun i u u' hu hu' => ?_)
      obtain ⟨w, hw, _⟩ := VRs.get (ρ := ρ) ⟨hx, hx'⟩ hu
      exact ih i u w hu hw (b i u u' hu hu')
theorem const_eq {ρ : Ren} {v v' : Value} (hc : constOK v = true) (h : VR ρ v v') : ∀ ρ2, VR ρ2 v v' := fun ρ2 =>
  VR.cut (ρ := fun _ => none) (ρ' := ρ) (fun b l hb => by cases hb) (const_VR hc _) h
/-- What was added to the abstract heap is let go. -/
theorem Rep.back {P : Program} {G : Nat} {ρ ρ' : Ren} {B : Nat} {H H' : Hp} {h h' : Array Obj} (r : Rep P G ρ B H h) (r' : Rep P G ρ' B H' h') (hx : ρ.ext ρ') (he : ext H H') :
    ∃ ρ2, ρ.ext ρ2 ∧ Rep P G ρ2 B H h' := by
  let ρ2 : Ren := fun b => if b < H.next then ρ' b else none
  have hlow : ∀ b l, ρ b = some l → b < H.next := fun b l hb => Nat.lt_of_not_le fun hle => by rw [r.dom b hle] at hb; cases hb
  have hd : ∀ b l, ρ b = some l → ρ2 b = ρ' b := fun b l hb => by simp only [ρ2, if_pos (hlow b l hb)]
  have hsub : ∀ b l, ρ2 b = some l → ρ' b = some l := fun b l hb => by
    simp only [ρ2] at hb
    split at hb
    · exact hb
    · cases hb
  refine ⟨ρ2, fun b l hb => (hd b l hb).trans (hx b l hb), r'.base, ⟨r.glob.1, fun g hg => ?_⟩, fun b hb => ?_, fun b o hb => ?_, fun b1 b2 l1 l2 o1 o2 h1 h2 k1 k2 hm hne => ?_⟩
  · obtain ⟨l, a, b⟩ := r.glob.2 g hg
    obtain ⟨l', a', b'⟩ := r'.glob.2 g hg
    exact ⟨l', (hd g l a).trans a', b'⟩
  · simp only [ρ2]; rw [if_neg (by omega)]
  · have hlt := r.lt hb
    obtain ⟨l0, e0, ho⟩ := r.obj b o hb
    obtain ⟨l', e1, ho'⟩ := r'.obj b o (by rw [he.2 b hlt]; exact hb)
    refine ⟨l', (hd b l0 e0).trans e1, ?_⟩
    cases o with
    | cells own e cs =>
      obtain ⟨C0, _, _, _, g0, _⟩ := ho
      obtain ⟨C, e', fz, g1, g2, g3⟩ := ho'
      refine ⟨C, e', fz, g1, fun i v hv => ?_, g3⟩
      obtain ⟨u0, _, q0, _⟩ := g0 i v hv
      obtain ⟨u, q1, q2, q3⟩ := g2 i v hv
      exact ⟨u, q1, VR.cut hd q0 q2, q3⟩
    | map kt es =>
      obtain ⟨E0, _, _, _, _, g0, _⟩ := ho
      obtain ⟨E, clock, g1, g2, g3, g4, g5, g6⟩ := ho'
      refine ⟨E, clock, g1, g2, g3, fun i a b hv => ?_, g5, g6⟩
      obtain ⟨en0, _, q1, q2, _⟩ := g0 i a b hv
      obtain ⟨en, p1, p2, p3, p4⟩ := g4 i a b hv
      exact ⟨en, p1, VR.cut hd q1 p2, VR.cut hd q2 p3, p4⟩
  · exact r'.sep b1 b2 l1 l2 o1 o2 (by rw [he.2 b1 (r.lt h1)]; exact h1) (by rw [he.2 b2 (r.lt h2)]; exact h2) (hsub _ _ k1) (hsub _ _ k2) hm hne
/-- A summary under which the heap is as it was: what the function laid down for itself is let go, what it hands back holds no address. -/
theorem SpOK.calm {P : Program} {G : Nat} {k : FuncId} {sp sp' : Sp} (h : SpOK P G k sp) (hmono : ∀ args H K K', (∀ v H', K v H' → K' v H') → sp'.run args H K → sp'.run args H K') (hs : ∀ args H K, sp'.run args H K → sp.run args H (fun v H' => ext H H' ∧ constOK v = true ∧ K v H)) (hq : sp'.quiet = true → ∀ args H, DQ H (sp'.run args H)) (hkp : sp'.keep = false) : SpOK P G k sp' := by
  refine ⟨hmono, fun e args H K hr => hq e args H K hr, (fun e => by rw [hkp] at e; cases e), fun args H K hr ρ B w args' r hv => ?_⟩
  have := h.sound args H _ (hs args H K hr) ρ B w args' r hv
  have post : ∀ v w', Post P G ρ B w (fun v H' => ext H H' ∧ constOK v = true ∧ K v H) v w' → Post P G ρ B w K v w' := fun v w' ⟨ρ', v0, H', ⟨he, hc, hk⟩, hx, hvr, r', hb⟩ => by
    obtain ⟨ρ2, h1, h2⟩ := r.back r' hx he
    exact ⟨ρ2, v0, H, hk, h1, const_eq hc hvr ρ2, h2, hb⟩
  unfold Gives at this ⊢
  generalize (callFunc k args').run P w = res at this ⊢
  cases res with
  | halt x w' => exact this
  | ok nx w' =>
    cases nx <;> first | exact this.elim | exact post _ _ this | skip
    exact Calls.mono this fun e w2 ⟨v, he, hp⟩ => ⟨v, he, post _ _ hp⟩
end Go.Proofs.Ytbikpfccdcblfaa.Eng
