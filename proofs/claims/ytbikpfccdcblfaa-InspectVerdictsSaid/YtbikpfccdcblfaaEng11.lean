/- The engine, part 11: maps, built-in functions; what is known of a function; each operation as the walk runs it. -/
import Derived.Test.YtbikpfccdcblfaaEng10
namespace Go.Proofs.Ytbikpfccdcblfaa.Eng
open Go Go.RowKit
set_option linter.unusedVariables false
set_option linter.unusedSimpArgs false
variable {P : Program} {G : Nat} {ρ : Ren} {B : Nat} {H : Hp} {w : World} {n : Nat} {σ : Env} {a : Act}

theorem Rep.map (r : Rep P G ρ B H w.heap) {m : Nat} {kt : TypeId} {es : List (Value × Value)} (hm : H.isMap m kt es) {l : Loc} (hl : ρ m = some l) :
    ∃ E clock, w.heap[l.blk]? = some (.map E clock) ∧ B ≤ l.blk ∧ MapR P ρ kt es E.toList ∧
      (∀ (i : Nat) (en : MapEntry), E[i]? = some en → en.born < clock) ∧ (∀ (i j : Nat) (en en' : MapEntry), i < j → E[i]? = some en → E[j]? = some en' → en.born < en'.born) := by
  obtain ⟨l', hl', E, clock, h1, h2, h3, h4, h5, h6⟩ := r.obj m _ hm
  rw [hl] at hl'; cases hl'
  exact ⟨E, clock, h1, h2, ⟨by simpa using h3, fun i k v hi => by obtain ⟨en, a, b⟩ := h4 i k v hi; exact ⟨en, by simpa using a, b⟩⟩, h5, h6⟩
theorem run_getObj {w : World} {b : Nat} {E : Array MapEntry} {c : Nat} (h : w.heap[b]? = some (.map E c)) : (getObj b).run P w = .ok (.map E c) w := by
  simp [getObj, Sem.run, h]
theorem seenK_elim {z v : Value} {K : Value → Prop} (h : seenK z v K) : K v := by
  unfold seenK at h
  split at h
  · obtain ⟨_, rfl, h2⟩ := h; exact h2
  · obtain ⟨_, rfl, h2⟩ := h; exact h2
  · obtain ⟨_, rfl, h2⟩ := h; exact h2
  · obtain ⟨_, rfl, h2⟩ := h; exact h2
  · obtain ⟨_, _, _, rfl, h2⟩ := h; exact h2
  · obtain ⟨_, rfl, h2⟩ := h; exact h2
  · exact h
theorem okPair {ok : Bool} {v v' : Value} {b : Bool} (hv : VR ρ v v') :
    VR ρ (match ok with | true => .tuple #[v, .bool b] | false => v) (if ok then .tuple #[v', .bool b] else v') := by
  cases ok
  · exact hv
  · exact vr_tuple (.cons hv (.cons (.bool _) (.nil _)))
theorem lookupK_ok (r : Rep P G ρ B H w.heap) {t : TypeId} {m k m' k' : Value} {ok : Bool} {K : Value → Prop} (hm : VR ρ m m') (hk : VR ρ k k') (h : lookupK P t m k ok H K) :
    ∃ v v', K v ∧ VR ρ v v' ∧ (Instr.lookup t m' k' ok).run P w = .ok v' w := by
  unfold lookupK at h
  split at h
  · rename_i kt et ht
    obtain ⟨hkt, h1⟩ := gd_elim h
    have hkk := key_same hkt hk
    subst hkk
    split at h1
    · exact h1.elim
    · rename_i z hz
      obtain ⟨i, hi, hz', hzc⟩ := zeroOf_elim hz
      have hrz := run_zeroValue (w := w) hz
      split at h1
      · rcases hm.map_inv with ⟨_, rfl⟩ | ⟨b, l, hne, _⟩
        · have hke : (Instr.findKey kt k' ([] : List MapEntry)).run P w = .ok none w := by
            obtain ⟨q, q1, q2⟩ := run_findKey' (ρ := ρ) hkt (es := []) (E := []) ⟨rfl, fun i k v h => by simp at h⟩ w
            simp only [midx] at q2; rw [q1, q2]
          refine ⟨_, _, h1, okPair (ok := ok) (const_VR hzc ρ), ?_⟩
          have hc := run_check hkt true w
          simp [Instr.lookup, run_underlying ht, hc, hke, hrz, Result.andThen]
        · cases hne
      · rename_i b
        obtain ⟨es, hmap, h2⟩ := h1
        rcases hm.map_inv with ⟨hne, _⟩ | ⟨b', l, hne, hl, rfl⟩
        · cases hne
        · cases hne
          obtain ⟨E, clock, e1, e2, e3, _, _⟩ := r.map hmap hl
          obtain ⟨q, q1, q2⟩ := run_findKey' hkt e3 w
          have hg := run_getObj (P := P) e1
          have hc := run_check hkt E.isEmpty w
          cases hx : midx P kt k' es with
          | none =>
            rw [hx] at q2
            have hmf : mfind P kt k' es = none := by simp [mfind, hx]
            rw [hmf] at h2
            rw [q2] at q1
            refine ⟨_, _, h2, okPair (ok := ok) (const_VR hzc ρ), ?_⟩
            simp [Instr.lookup, run_underlying ht, hg, hc, q1, hrz, Result.andThen]
          | some j =>
            rw [hx] at q2
            obtain ⟨⟨kk, v⟩, en, p1, p2, p3⟩ := q2
            have hmf : mfind P kt k' es = some v := by simp [mfind, hx, p1]
            rw [hmf] at h2
            have h3 := seenK_elim h2
            rw [p3] at q1
            obtain ⟨en', r1, _, r3, _⟩ := e3.2 j kk v p1
            rw [p2] at r1; cases r1
            refine ⟨_, _, h3, okPair (ok := ok) r3, ?_⟩
            simp [Instr.lookup, run_underlying ht, hg, hc, q1, Result.andThen]
      · exact h1.elim
  · exact h.elim
theorem sameBits_scalar {t : TypeId} {v : Value} (h : scalarTy P t v = true) (n : Nat) : Instr.sameBits n v v = true := by
  unfold scalarTy at h
  split at h
  · simp [Instr.sameBits]
  · rename_i s _
    have : (s == s) = true := by rw [beq_toListBytes, beq_bytes]; simp
    simp [Instr.sameBits, this]
  · simp [Instr.sameBits]
  · cases h
theorem sameBits_fields : ∀ {fs : List Field} {i : Nat} {vs : List Value} (n : Nat), fieldsKey P i fs vs = true → (vs.zip vs).all (fun (x : Value × Value) => Instr.sameBits n x.1 x.2) = true
  | [], i, [], n, h => rfl
  | [], i, v :: vs, n, h => by simp [fieldsKey] at h
  | f :: fs, i, [], n, h => by simp [fieldsKey] at h
  | f :: fs, i, v :: vs, n, h => by
    simp only [fieldsKey, Bool.and_eq_true] at h
    simp only [List.zip_cons_cons, List.all_cons, Bool.and_eq_true]
    exact ⟨sameBits_scalar h.2.2.2.1 n, sameBits_fields n h.2.2.2.2⟩
theorem sameBits_key {t : TypeId} {k : Value} (h : keyTy P t k = true) : Instr.sameBits 10000 k k = true := by
  unfold keyTy at h
  split at h
  · rename_i cs
    split at h
    · simp only [Bool.and_eq_true] at h
      show Instr.sameBits (9999 + 1) (.agg cs) (.agg cs) = true
      unfold Instr.sameBits
      simp only [beq_self_eq_true, Bool.true_and]
      exact sameBits_fields 9999 h.2
    · cases h
  · exact sameBits_scalar h 10000
theorem run_stays {t : TypeId} {k : Value} (h : keyTy P t k = true) (w : World) : (Instr.keyThatStays k k).run P w = .ok k w := by
  simp [Instr.keyThatStays, sameBits_key h]
theorem run_setObj {w : World} {b : Nat} {E : Array MapEntry} {c : Nat} (o : Obj) (h : w.heap[b]? = some (.map E c)) : (setObj b o).run P w = .ok () { w with heap := w.heap.setIfInBounds b o } := by
  simp [setObj, Sem.run, h]
theorem below_setObj {w : World} {b : Nat} (o : Obj) (hb : B ≤ b) : Below B w { w with heap := w.heap.setIfInBounds b o } :=
  ⟨rfl, rfl, rfl, by simp, fun k hk => by
    show (w.heap.setIfInBounds b o)[k]? = _
    rw [Array.getElem?_setIfInBounds_ne (by omega)]⟩
theorem midx_key {kt : TypeId} {k : Value} (hk : keyTy P kt k = true) : ∀ {es : List (Value × Value)} {j : Nat} {kk v : Value}, (∀ (i : Nat) (a b : Value), es[i]? = some (a, b) → keyTy P kt a = true) → midx P kt k es = some j → es[j]? = some (kk, v) → kk = k
  | [], j, kk, v, h, hm, he => by simp at he
  | (k', v') :: es, j, kk, v, h, hm, he => by
    have hk' := h 0 k' v' rfl
    simp only [midx] at hm
    obtain ⟨b, _, hke, hb⟩ := key_equal hk hk' default
    rw [hke] at hm
    cases b with
    | true =>
      simp at hm; subst hm; simp at he; rw [hb.1 rfl]; exact he.1.symm
    | false =>
      simp at hm
      obtain ⟨j', hj', rfl⟩ := hm
      exact midx_key hk (fun i a b hi => h (i + 1) a b (by simpa using hi)) hj' (by simpa using he)
theorem updateK_ok (r : Rep P G ρ B H w.heap) {t : TypeId} {m k v m' k' v' : Value} {K : Hp → Prop} (hm : VR ρ m m') (hk : VR ρ k k') (hv : VR ρ v v') (h : updateK P t m k v H K) :
    ∃ w' H', (Instr.mapUpdate t m' k' v').run P w = .ok () w' ∧ Rep P G ρ B H' w'.heap ∧ Below B w w' ∧ K H' := by
  unfold updateK at h
  split at h
  · rename_i kt et ht
    obtain ⟨hkt, h1⟩ := gd_elim h
    have hkk := key_same hkt hk
    subst hkk
    split at h1
    · rename_i mm
      obtain ⟨b, rfl, es, hmap, h2⟩ := optP_elim h1
      rcases hm.map_inv with ⟨hne, _⟩ | ⟨b', l, hne, hl, rfl⟩
      · cases hne
      · cases hne
        obtain ⟨E, clock, e1, e2, e3, e4, e5⟩ := r.map hmap hl
        obtain ⟨q, q1, q2⟩ := run_findKey' hkt e3 w
        have hg := run_getObj (P := P) e1
        have hc := run_check hkt false w
        have hlt : l.blk < w.heap.size := (Array.getElem?_eq_some_iff.1 e1).1
        have hsz : E.size = es.length := by have := e3.1; simpa using this
        cases hx : midx P kt k' es with
        | none =>
          rw [hx] at q2
          rw [q2] at q1
          have hms : mset P kt k' v es = es ++ [(k', v)] := by simp [mset, hx]
          rw [hms] at h2
          refine ⟨{ w with heap := w.heap.setIfInBounds l.blk (.map (E.push { key := k', val := v', born := clock }) (clock + 1)) }, _, ?_, ?_, below_setObj _ e2, h2⟩
          · have hso := run_setObj (P := P) (.map (E.push { key := k', val := v', born := clock }) (clock + 1)) e1
            simp [Instr.mapUpdate, run_underlying ht, hg, hc, q1, hso, Result.andThen]
          · refine r.turn hmap rfl hl rfl ⟨(E.push { key := k', val := v', born := clock }), (clock + 1), by simp [hlt], e2, by simp [hsz], fun i a b hi => ?_, fun i en hi => ?_, fun i j en en' hij hi hj => ?_⟩
            · rw [List.getElem?_append] at hi
              split at hi
              · rename_i hlt'
                obtain ⟨en, a1, a2⟩ := e3.2 i a b hi
                exact ⟨en, by rw [Array.getElem?_push, if_neg (by omega)]; simpa using a1, a2⟩
              · rename_i hge
                rw [List.getElem?_singleton] at hi
                split at hi
                · rename_i h0
                  simp at hi; obtain ⟨rfl, rfl⟩ := hi
                  exact ⟨{ key := k', val := v', born := clock }, by rw [Array.getElem?_push, if_pos (by omega)], key_VR hkt ρ, hv, hkt⟩
                · cases hi
            · rw [Array.getElem?_push] at hi
              split at hi
              · cases hi; simp
              · have := e4 i en hi; omega
            · rw [Array.getElem?_push] at hi hj
              split at hj
              · rename_i h1'
                rw [if_neg (by omega)] at hi
                cases hj
                exact e4 i en hi
              · rename_i h1'
                have hj' : j < E.size := (Array.getElem?_eq_some_iff.1 hj).1
                rw [if_neg (by omega)] at hi
                exact e5 i j en en' hij hi hj
        | some j =>
          rw [hx] at q2
          obtain ⟨⟨kk, u⟩, en, p1, p2, p3⟩ := q2
          have hkk : kk = k' := midx_key hkt (fun i a b hi => by obtain ⟨_, _, _, _, x⟩ := e3.2 i a b hi; exact x) hx p1
          subst hkk
          rw [p3] at q1
          obtain ⟨en', r1, r2, r3, r4⟩ := e3.2 j kk u p1
          rw [p2] at r1; cases r1
          have hek : en.key = kk := key_same r4 r2
          have p2' : E[j]? = some en := by simpa using p2
          have hjl : j < E.size := (Array.getElem?_eq_some_iff.1 p2').1
          have hms : mset P kt kk v es = es.set j (kk, v) := by simp [mset, hx]
          rw [hms] at h2
          refine ⟨{ w with heap := w.heap.setIfInBounds l.blk (.map (E.modify j fun e => { e with key := kk, val := v' }) clock) }, _, ?_, ?_, below_setObj _ e2, h2⟩
          · have hso := run_setObj (P := P) (.map (E.modify j fun e => { e with key := kk, val := v' }) clock) e1
            have hst := run_stays hkt w
            simp [Instr.mapUpdate, run_underlying ht, hg, hc, q1, p2', hek, hst, hso, Result.andThen]
          · have hget : ∀ i, (E.modify j fun e => { e with key := kk, val := v' })[i]? = if j = i then (E[i]?).map (fun e => { e with key := kk, val := v' }) else E[i]? := fun i => by rw [Array.getElem?_modify]
            refine r.turn hmap rfl hl rfl ⟨(E.modify j fun e => { e with key := kk, val := v' }), (clock), by simp [hlt], e2, by simp [hsz], fun i a b hi => ?_, fun i en2 hi => ?_, fun i i' en1 en2 hij hi hj => ?_⟩
            · rw [List.getElem?_set] at hi
              split at hi
              · rename_i hji
                subst hji
                split at hi
                · simp at hi; obtain ⟨rfl, rfl⟩ := hi
                  exact ⟨{ en with key := kk, val := v' }, by rw [hget, if_pos rfl, p2']; rfl, key_VR hkt ρ, hv, hkt⟩
                · cases hi
              · rename_i hji
                obtain ⟨en2, a1, a2⟩ := e3.2 i a b hi
                exact ⟨en2, by rw [hget, if_neg hji]; simpa using a1, a2⟩
            · rw [hget] at hi
              split at hi
              · cases hE : E[i]? with
                | none => rw [hE] at hi; cases hi
                | some e0 => rw [hE] at hi; cases hi; exact e4 i e0 hE
              · exact e4 i en2 hi
            · rw [hget] at hi hj
              have b1 : ∃ e0, E[i]? = some e0 ∧ e0.born = en1.born := by
                split at hi
                · cases hE : E[i]? with
                  | none => rw [hE] at hi; cases hi
                  | some e0 => rw [hE] at hi; cases hi; exact ⟨e0, rfl, rfl⟩
                · exact ⟨en1, hi, rfl⟩
              have b2 : ∃ e0, E[i']? = some e0 ∧ e0.born = en2.born := by
                split at hj
                · cases hE : E[i']? with
                  | none => rw [hE] at hj; cases hj
                  | some e0 => rw [hE] at hj; cases hj; exact ⟨e0, rfl, rfl⟩
                · exact ⟨en2, hj, rfl⟩
              obtain ⟨x1, y1, z1⟩ := b1
              obtain ⟨x2, y2, z2⟩ := b2
              have := e5 i i' x1 x2 hij y1 y2
              omega
    · exact h1.elim
  · exact h.elim
theorem deleteK_ok (r : Rep P G ρ B H w.heap) {t ty : TypeId} {m k m' k' : Value} {K : Hp → Prop} (hm : VR ρ m m') (hk : VR ρ k k') (h : deleteK P t m k H K) {ts : Array TypeId} (hts : ts[0]? = some t) :
    ∃ w' H', (Builtin.delete_ ts ty #[m', k']).run P w = .ok (.tuple #[]) w' ∧ Rep P G ρ B H' w'.heap ∧ Below B w w' ∧ K H' := by
  unfold deleteK at h
  split at h
  · rename_i kt et ht
    obtain ⟨hkt, h1⟩ := gd_elim h
    have hkk := key_same hkt hk
    subst hkk
    split at h1
    · rcases hm.map_inv with ⟨_, rfl⟩ | ⟨b, l, hne, _⟩
      · have hc := run_check hkt true w
        exact ⟨w, H, by simp [Builtin.delete_, hts, run_underlying ht, hc, Result.andThen], r, Below.refl _ _, h1⟩
      · cases hne
    · rename_i b
      obtain ⟨es, hmap, h2⟩ := h1
      rcases hm.map_inv with ⟨hne, _⟩ | ⟨b', l, hne, hl, rfl⟩
      · cases hne
      · cases hne
        obtain ⟨E, clock, e1, e2, e3, e4, e5⟩ := r.map hmap hl
        obtain ⟨q, q1, q2⟩ := run_findKey' hkt e3 w
        have hg := run_getObj (P := P) e1
        have hc := run_check hkt E.isEmpty w
        have hlt : l.blk < w.heap.size := (Array.getElem?_eq_some_iff.1 e1).1
        have hsz : E.size = es.length := by have := e3.1; simpa using this
        cases hx : midx P kt k' es with
        | none =>
          rw [hx] at q2
          rw [q2] at q1
          have hms : mdel P kt k' es = es := by simp [mdel, hx]
          rw [hms] at h2
          have hso := run_setObj (P := P) (.map E clock) e1
          refine ⟨{ w with heap := w.heap.setIfInBounds l.blk (.map E clock) }, _, ?_, ?_, below_setObj _ e2, h2⟩
          · simp [Builtin.delete_, hts, run_underlying ht, hg, hc, q1, hso, Result.andThen]
          · exact r.turn hmap rfl hl rfl ⟨E, clock, by simp [hlt], e2, hsz, fun i a b hi => by obtain ⟨en, a1, a2⟩ := e3.2 i a b hi; exact ⟨en, by simpa using a1, a2⟩, e4, e5⟩
        | some j =>
          rw [hx] at q2
          obtain ⟨⟨kk, u⟩, en, p1, p2, p3⟩ := q2
          rw [p3] at q1
          have p2' : E[j]? = some en := by simpa using p2
          have hjl : j < E.size := (Array.getElem?_eq_some_iff.1 p2').1
          have hms : mdel P kt k' es = es.eraseIdx j := by simp [mdel, hx]
          rw [hms] at h2
          have hso := run_setObj (P := P) (.map (E.eraseIdxIfInBounds j) clock) e1
          have hget : ∀ i, (E.eraseIdxIfInBounds j)[i]? = if i < j then E[i]? else E[i + 1]? := fun i => by
            have htl : (E.eraseIdxIfInBounds j).toList = E.toList.eraseIdx j := by
              rw [Array.eraseIdxIfInBounds, dif_pos hjl]
              exact Array.toList_eraseIdx
            rw [← Array.getElem?_toList, htl, List.getElem?_eraseIdx]
            split <;> simp
          refine ⟨{ w with heap := w.heap.setIfInBounds l.blk (.map (E.eraseIdxIfInBounds j) clock) }, _, ?_, ?_, below_setObj _ e2, h2⟩
          · simp [Builtin.delete_, hts, run_underlying ht, hg, hc, q1, hso, Result.andThen]
          · have hl2 : (E.eraseIdxIfInBounds j).size = (es.eraseIdx j).length := by
              rw [Array.eraseIdxIfInBounds, dif_pos hjl, Array.size_eraseIdx, List.length_eraseIdx, if_pos (by omega)]
              omega
            refine r.turn hmap rfl hl rfl ⟨(E.eraseIdxIfInBounds j), (clock), by simp [hlt], e2, hl2, fun i a b hi => ?_, fun i en2 hi => ?_, fun i i' en1 en2 hij hi hj => ?_⟩
            · rw [List.getElem?_eraseIdx] at hi
              rw [hget]
              split at hi
              · rename_i h3; rw [if_pos h3]; obtain ⟨en2, a1, a2⟩ := e3.2 i a b hi; exact ⟨en2, by simpa using a1, a2⟩
              · rename_i h3; rw [if_neg h3]; obtain ⟨en2, a1, a2⟩ := e3.2 (i + 1) a b hi; exact ⟨en2, by simpa using a1, a2⟩
            · rw [hget] at hi
              split at hi
              · exact e4 _ _ hi
              · exact e4 _ _ hi
            · rw [hget] at hi hj
              split at hi <;> split at hj
              · exact e5 _ _ _ _ hij hi hj
              · exact e5 _ _ _ _ (by omega) hi hj
              · omega
              · exact e5 _ _ _ _ (by omega) hi hj
    · exact h1.elim
  · exact h.elim
theorem makeMap_ok (r : Rep P G ρ B H w.heap) {kt : TypeId} {K : Value → Hp → Prop} (h : K (.map (some H.next)) (H.new (.map kt []))) :
    Post P G ρ B w K (.map (some w.heap.size)) (w.alloc (.map #[] 0)) := by
  have hr := r.new (l := ⟨w.heap.size, 0, 0, 0, false⟩) (o := .map kt []) (x := .map #[] 0) rfl
    ⟨#[], 0, by simp, r.base, rfl, fun i a b hi => by simp at hi, fun i en hi => by simp at hi, fun i j en en' _ hi => by simp at hi⟩
  exact ⟨_, _, _, h, Ren.add_ext _ (r.dom _ (Nat.le_refl _)), VR.map (Ren.add_self _ _ ⟨w.heap.size, 0, 0, 0, false⟩), hr, below_push w _ r.base⟩
theorem lenK_ok (r : Rep P G ρ B H w.heap) {t ty : TypeId} {x x' : Value} {K : Value → Prop} (hx : VR ρ x x') (h : lenK P t x H K) :
    ∃ v, K v ∧ plainV v = true ∧ (Builtin.len_ #[t] ty #[x']).run P w = .ok v w := by
  unfold lenK at h
  split at h
  · rename_i ht; cases hx; exact ⟨_, h, rfl, by simp [Builtin.len_, run_underlying ht, goInt, Result.andThen]⟩
  · rename_i ht; exact ⟨_, h, rfl, by simp [Builtin.len_, run_underlying ht, goInt, Result.andThen]⟩
  · rename_i e p m k ht
    rcases hx.slice_inv with ⟨rfl, rfl, rfl, rfl⟩ | ⟨b, o, l, o', c, rfl, hl, rfl, _⟩
    · exact ⟨_, h, rfl, by simp [Builtin.len_, run_underlying ht, goInt, Result.andThen]⟩
    · exact ⟨_, h, rfl, by simp [Builtin.len_, run_underlying ht, goInt, Result.andThen]⟩
  · rename_i ht
    rcases hx.map_inv with ⟨_, rfl⟩ | ⟨b, l, hne, _⟩
    · exact ⟨_, h, rfl, by simp [Builtin.len_, run_underlying ht, goInt, Result.andThen]⟩
    · cases hne
  · rename_i b ht
    obtain ⟨kt', es, hm, hk⟩ := h
    rcases hx.map_inv with ⟨hne, _⟩ | ⟨b', l, hne, hl, rfl⟩
    · cases hne
    · cases hne
      obtain ⟨E, clock, e1, _, e3, _⟩ := r.map hm hl
      have hsz : E.size = es.length := by have := e3.1; simpa using this
      exact ⟨_, hk, rfl, by simp [Builtin.len_, run_underlying ht, run_getObj (P := P) e1, goInt, hsz, Result.andThen]⟩
  · exact h.elim
theorem maxK_ok {big' : Bool} {ts : Array TypeId} {ty : TypeId} {vs : List Value} {vs' : List Value} {K : Value → Prop} (hv : VRs ρ vs vs') (h : maxK big' K vs) :
    ∃ v, K v ∧ plainV v = true ∧ ∀ (w : World), ((match big' with | true => Builtin.max_ ts ty ⟨vs'⟩ | false => Builtin.min_ ts ty ⟨vs'⟩) : Sem Value).run P w = .ok v w := by
  unfold maxK at h
  split at h
  · rename_i k x k' y
    obtain ⟨v1, r1, rfl, h1, h2⟩ := hv.cons_left
    obtain ⟨v2, r2, rfl, h3, h4⟩ := h2.cons_left
    rw [h4.nil_left]
    cases h1; cases h3
    cases big'
    · refine ⟨_, h, rfl, fun w => ?_⟩
      simp only [Builtin.min_, List.foldlM, Sem.run_bind, Builtin.min2, Sem.run_pure, Result.andThen_ok]
      congr 2
      by_cases hc : y < x
      · rw [if_pos hc, Int.min_eq_right (by omega)]
      · rw [if_neg hc, Int.min_eq_left (by omega)]
    · refine ⟨_, h, rfl, fun w => ?_⟩
      simp only [Builtin.max_, List.foldlM, Sem.run_bind, Builtin.max2, Sem.run_pure, Result.andThen_ok]
      congr 2
      by_cases hc : y > x
      · rw [if_pos hc, Int.max_eq_right (by omega)]
      · rw [if_neg hc, Int.max_eq_left (by omega)]
  · exact h.elim
end Go.Proofs.Ytbikpfccdcblfaa.Eng
