/- The engine, part 5: each operation does what the engine asks of it: blocks, arithmetic, comparisons, slices, places. -/
import Derived.Test.YtbikpfccdcblfaaEng4
import Derived.Laws.StructEq
import Derived.Laws.Pointers
import Derived.Lib.Strings
namespace Go.Proofs.Ytbikpfccdcblfaa.Eng
open Go Go.RowKit
set_option linter.unusedVariables false
set_option linter.unusedSimpArgs false
variable {P : Program} {G : Nat} {ρ : Ren} {B : Nat} {H : Hp} {w : World} {n : Nat} {σ : Env} {a : Act}

theorem plain_one {v : Value} (h : plainV v = true) : oneCell v = true := by
  unfold plainV at h
  split at h <;> first | rfl | cases h
theorem const_one {v : Value} (h : constOK v = true) : ∀ u ∈ v.cells.toList, oneCell u = true := by
  unfold constOK at h
  split at h
  · exact fun u hu => plain_one (List.all_eq_true.1 h u hu)
  · rename_i hne
    intro u hu
    have : v.cells = #[v] := by cases v <;> first | rfl | exact (hne _ rfl).elim
    rw [this] at hu
    simp at hu; subst hu; exact plain_one h

/-- A new block: the value is its address. -/
theorem box_ok (r : Rep P G ρ B H w.heap) {e : TypeId} {v v' : Value} (hv : VR ρ v v') (h1 : ∀ u ∈ v.cells.toList, oneCell u = true) {K : Value → Hp → Prop}
    (hk : K (.pointer (some ⟨H.next, 0, none⟩)) (H.new (.cells true e v.cells.toList))) :
    Post P G ρ B w K (.pointer (some ⟨w.heap.size, 0, none⟩)) (w.alloc (.cells v'.cells e)) := by
  have m := r.made (e := e) (e' := e) (rest := #[]) (row := false) (fz := (0, 0)) hv.cells h1 (by simp)
  refine ⟨_, _, _, hk, Ren.add_ext _ (r.dom _ (Nat.le_refl _)), (VR.ptr (o := 0) (Ren.add_self _ _ ⟨w.heap.size, 0, v'.cells.toList.length + (#[] : Array Value).size, szOf P e, false⟩) : VR _ _ (.pointer (some ⟨w.heap.size, 0 + 0, none⟩))), ?_, below_push w _ r.base⟩
  have hh : (w.alloc (.cells v'.cells e)).heap = w.heap.push (.cells (v'.cells.toList.toArray ++ #[]) e (0, 0)) := by
    simp only [World.alloc_eq, Array.toArray_toList, Array.append_empty]
    rfl
  rw [hh]; exact m

theorem semPure_run {α : Type} {s : Sem α} {x : α} (h : semPure s = some x) : s.run P w = .ok x w := by
  cases s <;> simp_all [semPure, Sem.run]

theorem bytes_list (s : ByteArray) : s.toList = s.data.toList := by
  exact Go.Lib.toList_data s

/-! comparisons -/
theorem beq_bytes (a b : ByteArray) : (a.toList == b.toList) = decide (a = b) := by
  rw [bytes_list, bytes_list]
  by_cases h : a = b
  · simp [h]
  · have : ¬ a.data.toList = b.data.toList := fun e => h (by cases a; cases b; simp at e; simp [e])
    simp [h, this]
    exact fun e => this (by rw [e])
theorem nilEq_ok {α : Type} {a b : Option α} {r : Bool} (h : nilEq a b = some r) : (b = none ∧ r = a.isNone) ∨ (a = none ∧ b.isSome = true ∧ r = false) := by
  cases b with
  | none => left; simp [nilEq] at h; exact ⟨rfl, h.symm⟩
  | some y => cases a with
    | none => right; simp [nilEq] at h; exact ⟨rfl, rfl, h⟩
    | some x => simp [nilEq] at h
theorem eqV_ok : ∀ (d : Nat) {t : TypeId} {x y x' y' : Value} {r : Bool}, eqV P d t x y = some r → VR ρ x x' → VR ρ y y' → ∀ (D : Nat) (w : World), d ≤ D → (Op.equalIn D t x' y').run P w = .ok r w := by
  intro d
  induction d with
  | zero => intro t x y x' y' r h; simp [eqV] at h
  | succ d ih =>
    intro t x y x' y' r h hx hy D w hD
    obtain ⟨D, rfl⟩ : ∃ D', D = D' + 1 := ⟨D - 1, by omega⟩
    have hD' : d ≤ D := by omega
    unfold eqV at h
    split at h
    · rename_i ht; cases h; cases hx; cases hy; rw [run_equalIn_bool' w D t _ _ ht]; congr 1
    · rename_i k' k a k'' b ht
      split at h
      · rename_i hk
        have hk : k = k'' := of_decide_eq_true hk
        cases h; cases hx; cases hy; subst hk; rw [run_equalIn_int w D t _ _ _ _ ht]; congr 1
      · cases h
    · rename_i ht; cases h; cases hx; cases hy; rw [run_equalIn_string w D t _ _ ht, beq_bytes]
    · rename_i e p q ht
      rcases nilEq_ok h with ⟨rfl, rfl⟩ | ⟨rfl, h2, rfl⟩
      · cases hy
        rcases hx.ptr_inv with ⟨rfl, rfl⟩ | ⟨b, o, l, rfl, hl, rfl⟩ <;> simp [Op.equalIn, run_underlying ht, Result.andThen]
      · cases hx
        rcases hy.ptr_inv with ⟨rfl, rfl⟩ | ⟨b, o, l, rfl, hl, rfl⟩
        · simp at h2
        · simp [Op.equalIn, run_underlying ht, Result.andThen]
    · rename_i e p _ _ q _ _ ht
      rcases nilEq_ok h with ⟨rfl, rfl⟩ | ⟨rfl, h2, rfl⟩
      · cases hy
        rcases hx.slice_inv with ⟨rfl, _, _, rfl⟩ | ⟨b, o, l, o', c, rfl, hl, rfl, _⟩ <;> simp [Op.equalIn, run_underlying ht, Result.andThen]
      · cases hx
        rcases hy.slice_inv with ⟨rfl, _, _, rfl⟩ | ⟨b, o, l, o', c, rfl, hl, rfl, _⟩
        · simp at h2
        · simp [Op.equalIn, run_underlying ht, Result.andThen]
    · rename_i k e p q ht
      rcases nilEq_ok h with ⟨rfl, rfl⟩ | ⟨rfl, h2, rfl⟩
      · cases hy
        rcases hx.map_inv with ⟨rfl, rfl⟩ | ⟨b, l, rfl, hl, rfl⟩ <;> simp [Op.equalIn, run_underlying ht, Result.andThen]
      · cases hx
        rcases hy.map_inv with ⟨rfl, rfl⟩ | ⟨b, l, rfl, hl, rfl⟩
        · simp at h2
        · simp [Op.equalIn, run_underlying ht, Result.andThen]
    · rename_i ht; cases h; cases hx; cases hy; simp [Op.equalIn, run_underlying ht, Result.andThen]
    · rename_i ht; cases h; cases hx; cases hy; simp [Op.equalIn, run_underlying ht, Result.andThen]
    · rename_i ht; cases h; cases hx; cases hy; simp [Op.equalIn, run_underlying ht, Result.andThen]
    · rename_i fs xs ys ht
      split at h
      · cases h
      · rename_i hp
        obtain ⟨xs', rfl, hxs⟩ := hx.agg_inv
        obtain ⟨ys', rfl, hys⟩ := hy.agg_inv
        have hf : P.fieldsOf t = fs := by simp [Program.fieldsOf, ht]
        rw [run_equalIn_struct (P := P) w D t xs' ys' (by rw [hf]; exact ht) hp, hf]
        have key : ∀ (gs : List Field) (r : Bool), eqV.eqFields P d xs.toList ys.toList gs = some r → (Op.eqFields D xs' ys' gs).run P w = .ok r w := by
          intro gs
          induction gs with
          | nil => intro r h; simp [eqV.eqFields] at h; subst h; simp [Op.eqFields]
          | cons f gs ihg =>
            intro r h
            rw [eqV.eqFields] at h
            split at h
            · rename_i u v hn hagg hu hv
              split at h
              · rename_i r1 r2 h1 h2
                cases h
                have hn' : f.name ≠ "_" := of_decide_eq_true hn
                obtain ⟨u', hu', vu⟩ := hxs.get hu
                obtain ⟨v', hv', vv⟩ := hys.get hv
                have hd : ∃ dd, P.underlying f.type = some dd := by
                  cases hd : P.underlying f.type with
                  | none => cases d <;> simp [eqV, hd] at h1
                  | some dd => exact ⟨dd, rfl⟩
                obtain ⟨dd, hd⟩ := hd
                have pa : (part f.type xs' f.offset).run P w = .ok u' w := by
                  have : xs'[f.offset]? = some u' := by simpa using hu'
                  simp [part, run_isAgg hd, hagg, this, Result.andThen]
                have pb : (part f.type ys' f.offset).run P w = .ok v' w := by
                  have : ys'[f.offset]? = some v' := by simpa using hv'
                  simp [part, run_isAgg hd, hagg, this, Result.andThen]
                rw [Op.eqFields]
                simp only [if_pos hn', Sem.run_bind, pa, pb, ih h1 vu vv D w hD', Result.andThen_ok]
                have hr := ihg r2 h2
                cases r1
                · simp
                · simpa using hr
              · cases h
            · cases h
        exact key fs.toList r h
    · cases h
theorem equal_ok {t : TypeId} {x y x' y' : Value} {r : Bool} (h : eqV P 5 t x y = some r) (hx : VR ρ x x') (hy : VR ρ y y') (w : World) : (Op.equal t x' y').run P w = .ok r w :=
  eqV_ok 5 h hx hy Op.maxDepth w (by decide)

theorem lt_not_ge (a b : List UInt8) : Op.bytesLess a b = true → Op.bytesLess b a = false ∧ a ≠ b := by
  induction a generalizing b with
  | nil => cases b <;> simp [Op.bytesLess]
  | cons x xs ih =>
    cases b with
    | nil => simp [Op.bytesLess]
    | cons y ys =>
      simp only [Op.bytesLess, Bool.or_eq_true, Bool.and_eq_true, decide_eq_true_eq, beq_iff_eq, Bool.or_eq_false_iff, Bool.and_eq_false_iff]
      rintro (h | ⟨rfl, h⟩)
      · exact ⟨⟨by simp; exact UInt8.le_of_lt h, .inl (by rw [beq_eq_false_iff_ne]; exact fun e => by subst e; exact UInt8.lt_irrefl _ h)⟩, fun e => by injection e with e1 e2; subst e1; exact UInt8.lt_irrefl _ h⟩
      · obtain ⟨h1, h2⟩ := ih ys h
        exact ⟨⟨by simp, .inr h1⟩, fun e => h2 (by injection e)⟩
theorem lt_total (a b : List UInt8) : Op.bytesLess a b = false → Op.bytesLess b a = false → a = b := by
  induction a generalizing b with
  | nil => cases b <;> simp [Op.bytesLess]
  | cons x xs ih =>
    cases b with
    | nil => simp [Op.bytesLess]
    | cons y ys =>
      simp only [Op.bytesLess, Bool.or_eq_false_iff, decide_eq_false_iff_not, Bool.and_eq_false_iff]
      rintro ⟨h1, h2⟩ ⟨h3, h4⟩
      have e : x = y := UInt8.le_antisymm (UInt8.not_lt.1 h3) (UInt8.not_lt.1 h1)
      subst e
      rw [ih ys (by rcases h2 with h2 | h2; simp at h2; exact h2) (by rcases h4 with h4 | h4; simp at h4; exact h4)]
theorem lt_or_eq (a b : List UInt8) : (Op.bytesLess a b || (a == b)) = !Op.bytesLess b a := by
  cases h : Op.bytesLess b a with
  | true =>
    obtain ⟨h1, h2⟩ := lt_not_ge b a h
    simp [h1]; exact fun e => h2 e.symm
  | false =>
    cases h' : Op.bytesLess a b with
    | true => rfl
    | false => simp [lt_total a b h' h]
theorem binOp_eqV {t : TypeId} {x y x' y' : Value} {r : Bool} (hr : eqV P 5 t x y = some r) (hx : VR ρ x x') (hy : VR ρ y y') (w : World)
    (h1 : ∀ k m k' m', x = .int k m → y = .int k' m' → False) (h2 : ∀ a b, x = .string a → y = .string b → False) :
    ((Op.equal t x' y').run P w = .ok r w → (binOp .eql t x' y').run P w = .ok (.bool r) w) ∧ ((Op.equal t x' y').run P w = .ok r w → (binOp .neq t x' y').run P w = .ok (.bool !r) w) := by
  unfold eqV at hr
  split at hr
  · cases hx; cases hy; constructor <;> intro he <;> simp [binOp, he, Result.andThen]
  · exact (h1 _ _ _ _ rfl rfl).elim
  · exact (h2 _ _ rfl rfl).elim
  · cases hx <;> cases hy <;> constructor <;> intro he <;> simp [binOp, he, Result.andThen]
  · cases hx <;> cases hy <;> constructor <;> intro he <;> simp [binOp, he, Result.andThen]
  · cases hx <;> cases hy <;> constructor <;> intro he <;> simp [binOp, he, Result.andThen]
  · cases hx; cases hy; constructor <;> intro he <;> simp [binOp, he, Result.andThen]
  · cases hx; cases hy; constructor <;> intro he <;> simp [binOp, he, Result.andThen]
  · cases hx; cases hy; constructor <;> intro he <;> simp [binOp, he, Result.andThen]
  · cases hx; cases hy; constructor <;> intro he <;> simp [binOp, he, Result.andThen]
  · cases hr
theorem binK_ok {op : BinOp} {t : TypeId} {x y x' y' : Value} {K : Value → Prop} (hx : VR ρ x x') (hy : VR ρ y y') (h : binK P op t x y K) :
    ∃ v, K v ∧ plainV v = true ∧ ∀ (w : World), (binOp op t x' y').run P w = .ok v w := by
  unfold binK at h
  split at h
  · rename_i k m _ q
    cases hx; cases hy
    obtain ⟨h1, h2⟩ := gd_elim h
    have h1 : ¬ q < 0 := by simpa using h1
    exact ⟨_, h2, rfl, fun w => by simp [binOp, Op.shift, h1, shiftI]⟩
  · rename_i k m _ q
    cases hx; cases hy
    obtain ⟨h1, h2⟩ := gd_elim h
    have h1 : ¬ q < 0 := by simpa using h1
    exact ⟨_, h2, rfl, fun w => by simp [binOp, Op.shift, h1, shiftI]⟩
  · rename_i k m k' m' _ _
    cases hx; cases hy
    split at h
    · exact h.elim
    · rename_i hk
      have hk : k = k' := of_decide_eq_true hk
      subst hk
      have ne : (k ≠ k) = False := by simp
      cases op
      case add | sub | mul =>
        obtain ⟨v, hv, hk⟩ := optP_elim h
        refine ⟨v, hk, ?_, fun w => ?_⟩
        · simp [Op.intArith, semPure, pure] at hv; subst hv; rfl
        · simp only [binOp, ne, if_false]; exact semPure_run hv
      case quo | rem =>
        obtain ⟨h1, h2⟩ := gd_elim h
        have h1 : ¬ m' = 0 := by simpa using h1
        refine ⟨_, h2, rfl, fun w => ?_⟩
        simp [binOp, ne, Op.intDiv, h1]
      case and | or | xor | andNot =>
        obtain ⟨v, hv, hk⟩ := optP_elim h
        refine ⟨v, hk, ?_, fun w => ?_⟩
        · simp [Op.intBits, semPure, pure] at hv; subst hv; rfl
        · simp only [binOp, ne, if_false]; exact semPure_run hv
      case eql | neq | lss | leq | gtr | geq =>
        refine ⟨_, h, rfl, fun w => ?_⟩
        simp only [binOp, ne, if_false, Op.intCmp]
        rfl
      all_goals exact h.elim
  · cases hx; cases hy
    obtain ⟨h1, h2⟩ := gd_elim h
    refine ⟨_, h2, rfl, fun w => ?_⟩
    have h1 := of_decide_eq_true h1
    have hm : IntKind.i64.max = 9223372036854775807 := by decide
    simp only [binOp, Op.stringOp, hm]
    rw [if_neg (by omega)]; rfl
  · cases hx; cases hy
    refine ⟨_, h, rfl, fun w => ?_⟩
    simp only [binOp, Op.stringOp, beq_bytes]; rfl
  · cases hx; cases hy
    refine ⟨_, h, rfl, fun w => ?_⟩
    simp only [binOp, Op.stringOp, beq_bytes]; rfl
  · cases hx; cases hy
    refine ⟨_, h, rfl, fun w => ?_⟩
    simp only [binOp, Op.stringOp, bytes_list]; rfl
  · cases hx; cases hy
    refine ⟨_, h, rfl, fun w => ?_⟩
    simp only [binOp, Op.stringOp, bytes_list, lt_or_eq, Bool.not_not]; rfl
  · cases hx; cases hy
    refine ⟨_, h, rfl, fun w => ?_⟩
    simp only [binOp, Op.stringOp, bytes_list, lt_or_eq]; rfl
  · cases hx; cases hy
    refine ⟨_, h, rfl, fun w => ?_⟩
    simp only [binOp, Op.stringOp, bytes_list]; rfl
  · rename_i hne1 hne2 hne3
    split at h
    · obtain ⟨r, hr, hk⟩ := optP_elim h
      refine ⟨_, hk, rfl, fun w => ?_⟩
      have he := equal_ok hr hx hy w
      exact (binOp_eqV hr hx hy w (fun k m k' m' e => hne2 k m k' m' e) (fun a b e => hne3 a b e)).1 he
    · exact h.elim
  · rename_i hne1 hne2 hne3
    split at h
    · obtain ⟨r, hr, hk⟩ := optP_elim h
      refine ⟨_, hk, rfl, fun w => ?_⟩
      have he := equal_ok hr hx hy w
      exact (binOp_eqV hr hx hy w (fun k m k' m' e => hne2 k m k' m' e) (fun a b e => hne3 a b e)).2 he
    · exact h.elim
  · exact h.elim
end Go.Proofs.Ytbikpfccdcblfaa.Eng
