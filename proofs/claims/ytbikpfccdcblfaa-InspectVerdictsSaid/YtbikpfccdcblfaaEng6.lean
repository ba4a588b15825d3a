/- The engine, part 6: each operation does what the engine asks of it, as the model runs it: scalars, comparisons, places, blocks, slices. -/
import Derived.Test.YtbikpfccdcblfaaEng5
namespace Go.Proofs.Ytbikpfccdcblfaa.Eng
open Go Go.RowKit
set_option linter.unusedVariables false
set_option linter.unusedSimpArgs false
variable {P : Program} {G : Nat} {ρ : Ren} {B : Nat} {H : Hp} {w : World} {n : Nat} {σ : Env} {a : Act}

theorem VR.nilIface_inv {v : Value} (h : VR ρ v .nilIface) : v = .nilIface := by cases h; rfl
theorem VR.agg_inv' {cs : Array Value} {v : Value} (h : VR ρ v (.agg cs)) : ∃ cs', v = .agg cs' := by
  cases h with
  | agg hx hx' => exact ⟨_, rfl⟩
theorem eqGuard_ok {op : BinOp} {t : TypeId} {x y x' y' : Value} {X Y : Operand} {K : Value → Prop} (hx : VR ρ x x') (hy : VR ρ y y') (h : binK P op t x y K) (w : World) :
    (eqGuard op t X Y x' y').run P w = .ok () w := by
  cases op
  case eql =>
    unfold eqGuard
    simp only
    cases x' <;> cases y' <;> first | rfl | skip
    · have := hx.nilIface_inv; have := hy.nilIface_inv; subst_vars
      simp [binK, binK.eqSafe] at h
    · obtain ⟨c, rfl⟩ := hx.agg_inv'; obtain ⟨d, rfl⟩ := hy.agg_inv'
      have hg : P.eqGuardType P.depth t = false := by
        cases hg : P.eqGuardType P.depth t with
        | false => rfl
        | true => simp [binK, binK.eqSafe, hg] at h
      simp [hg]
  case neq =>
    unfold eqGuard
    simp only
    cases x' <;> cases y' <;> first | rfl | skip
    · have := hx.nilIface_inv; have := hy.nilIface_inv; subst_vars
      simp [binK, binK.eqSafe] at h
    · obtain ⟨c, rfl⟩ := hx.agg_inv'; obtain ⟨d, rfl⟩ := hy.agg_inv'
      have hg : P.eqGuardType P.depth t = false := by
        cases hg : P.eqGuardType P.depth t with
        | false => rfl
        | true => simp [binK, binK.eqSafe, hg] at h
      simp [hg]
  all_goals rfl
theorem ifaceNil_elim {x x' : Value} {r : Bool} (hx : VR ρ x x') (h : ifaceNil x = some r) : (x' = .nilIface ∧ r = true) ∨ (∃ t v, x' = .iface t v) ∧ r = false := by
  unfold ifaceNil at h
  split at h
  · cases hx; cases h; exact .inl ⟨rfl, rfl⟩
  · cases hx; cases h; exact .inr ⟨⟨_, _, rfl⟩, rfl⟩
  · cases h
theorem isConst_elim {x : Operand} (h : isConst x = true) : x = .const .nilIface := by
  unfold isConst at h
  split at h
  · rfl
  · cases h
theorem isIface_elim {t : TypeId} (h : isIface P t = true) : ∃ m, P.underlying t = some (.interface m) := by
  unfold isIface at h
  split at h
  · exact ⟨_, ‹_›⟩
  · cases h
theorem equal_iface {t : TypeId} {x' y' : Value} {r : Bool} (ht : ∃ m, P.underlying t = some (.interface m)) (hx : (x' = .nilIface ∧ r = true) ∨ (∃ t v, x' = .iface t v) ∧ r = false) (hy : y' = .nilIface) (w : World) :
    (Op.equal t x' y').run P w = .ok r w ∧ (Op.equal t y' x').run P w = .ok r w := by
  obtain ⟨m, hm⟩ := ht
  subst hy
  rcases hx with ⟨rfl, rfl⟩ | ⟨⟨t', v, rfl⟩, rfl⟩ <;> constructor <;> (show (Op.equalIn (9999 + 1) _ _ _).run P w = _) <;> (unfold Op.equalIn; simp [run_underlying hm, Result.andThen])
theorem binopK_ok {op : BinOp} {t : TypeId} {x y x' y' : Value} {X Y : Operand} {K : Value → Prop} (hX : isConst X = true → x' = .nilIface) (hY : isConst Y = true → y' = .nilIface) (hx : VR ρ x x') (hy : VR ρ y y')
    (h : binopK P op t X Y x y K) : ∃ v, K v ∧ plainV v = true ∧ ∀ (w : World), (do eqGuard op t X Y x' y'; binOp op t x' y').run P w = .ok v w := by
  unfold binopK at h
  split at h
  · rename_i hi
    have ht := isIface_elim hi
    unfold ifaceK at h
    split at h
    · split at h
      · rename_i hc
        obtain ⟨r, hr, hk⟩ := optP_elim h
        have hx' := ifaceNil_elim hx hr
        have hy' := hY hc
        refine ⟨_, hk, rfl, fun w => ?_⟩
        have he := (equal_iface ht hx' hy' w).1
        have hc := isConst_elim hc; subst hc; subst hy'
        rcases hx' with ⟨rfl, rfl⟩ | ⟨⟨t', v, rfl⟩, rfl⟩ <;> simp [eqGuard, binOp, he, Result.andThen]
      · obtain ⟨hc, h⟩ := gd_elim h
        obtain ⟨r, hr, hk⟩ := optP_elim h
        have hy' := ifaceNil_elim hy hr
        have hx' := hX hc
        refine ⟨_, hk, rfl, fun w => ?_⟩
        have he := (equal_iface ht hy' hx' w).2
        have hc := isConst_elim hc; subst hc; subst hx'
        rcases hy' with ⟨rfl, rfl⟩ | ⟨⟨t', v, rfl⟩, rfl⟩ <;> simp [eqGuard, binOp, he, Result.andThen]
    · split at h
      · rename_i hc
        obtain ⟨r, hr, hk⟩ := optP_elim h
        have hx' := ifaceNil_elim hx hr
        have hy' := hY hc
        refine ⟨_, hk, rfl, fun w => ?_⟩
        have he := (equal_iface ht hx' hy' w).1
        have hc := isConst_elim hc; subst hc; subst hy'
        rcases hx' with ⟨rfl, rfl⟩ | ⟨⟨t', v, rfl⟩, rfl⟩ <;> simp [eqGuard, binOp, he, Result.andThen]
      · obtain ⟨hc, h⟩ := gd_elim h
        obtain ⟨r, hr, hk⟩ := optP_elim h
        have hy' := ifaceNil_elim hy hr
        have hx' := hX hc
        refine ⟨_, hk, rfl, fun w => ?_⟩
        have he := (equal_iface ht hy' hx' w).2
        have hc := isConst_elim hc; subst hc; subst hx'
        rcases hy' with ⟨rfl, rfl⟩ | ⟨⟨t', v, rfl⟩, rfl⟩ <;> simp [eqGuard, binOp, he, Result.andThen]
    · exact h.elim
  · obtain ⟨v, h1, h2, h3⟩ := binK_ok hx hy h
    exact ⟨v, h1, h2, fun w => by simp [eqGuard_ok hx hy h w, h3 w, Result.andThen]⟩
theorem isConst_eval {x : Operand} (h : isConst x = true) (a : Act) : a.eval x = .nilIface := by rw [isConst_elim h]; rfl

/-! slices of strings, slices, arrays -/
theorem run_underlying' {t : TypeId} {d : TypeDesc} (h : P.underlying t = some d) (w : World) : (underlying t).run P w = .ok d w := run_underlying h w
/-- An optional bound. -/
theorem boundK_ok {E : Operand → Option Value} (hE : ∀ x v, E x = some v → VR ρ v (a.eval x)) {o : Option Operand} {d : Int} {K : Int → Prop} (h : boundK E o d K) :
    ∃ m : Int, K m ∧ ((o = none ∧ m = d) ∨ ∃ x k, o = some x ∧ a.eval x = .int k m) := by
  unfold boundK at h
  split at h
  · exact ⟨d, h, .inl ⟨rfl, rfl⟩⟩
  · rename_i x
    split at h
    · rename_i k m hx
      exact ⟨m, h, .inr ⟨x, k, rfl, (hE _ _ hx).int_inv⟩⟩
    · exact h.elim
theorem run_bounds {isSlice : Bool} {len cap : Nat} {lo hi : Option Operand} {l h : Int} (hl : (lo = none ∧ l = 0) ∨ ∃ x k, lo = some x ∧ a.eval x = .int k l) (hh : (hi = none ∧ h = (len : Int)) ∨ ∃ x k, hi = some x ∧ a.eval x = .int k h)
    (h0 : 0 ≤ l) (h1 : l ≤ h) (h2 : h ≤ (len : Int)) (hc : len ≤ cap) (w : World) :
    (Instr.sliceBounds isSlice len cap (lo.map a.eval) (hi.map a.eval) none).run P w = .ok (l.toNat, h.toNat, cap) w := by
  have e1 : ∀ (k : IntKind) (m : Int) (y : Nat) (c : BoundsCode), 0 ≤ m → m ≤ (y : Int) → (Instr.sliceBound (.int k m) y c).run P w = .ok m.toNat w := by
    intro k m y c a1 a2
    simp [Instr.sliceBound, asIntOf, a1, a2]
  have hlen : ((len : Int)).toNat = len := by omega
  rcases hl with ⟨rfl, rfl⟩ | ⟨x, k, rfl, hx⟩ <;> rcases hh with ⟨rfl, rfl⟩ | ⟨y, k', rfl, hy⟩
  · simp [Instr.sliceBounds, hlen]
  · simp [Instr.sliceBounds, hy, e1 k' h cap _ (by omega) (by omega)]
  · simp [Instr.sliceBounds, hx, e1 k l len _ h0 h1, hlen]
  · have : l ≤ (h.toNat : Int) := by omega
    simp [Instr.sliceBounds, hx, hy, e1 k' h cap _ (by omega) (by omega), e1 k l h.toNat _ h0 this]
theorem sliceK_ok {E : Operand → Option Value} (hE : ∀ x v, E x = some v → VR ρ v (a.eval x)) {t : TypeId} {x x' : Value} {lo hi : Option Operand} {K : Value → Prop} (hx : VR ρ x x') (h : sliceK P E t x lo hi K) :
    ∃ v v', K v ∧ VR ρ v v' ∧ (Instr.sliceAt t x' (lo.map a.eval) (hi.map a.eval) (none : Option Value)).run P w = .ok v' w := by
  unfold sliceK at h
  split at h
  · rename_i s ht
    cases hx
    obtain ⟨l, h3, hl⟩ := boundK_ok hE h
    obtain ⟨m, h4, hm⟩ := boundK_ok hE h3
    obtain ⟨hb, hk⟩ := gd_elim h4
    simp only [Bool.and_eq_true, decide_eq_true_eq] at hb
    refine ⟨_, _, hk, .string _, ?_⟩
    have := run_bounds (P := P) (isSlice := false) (cap := s.size) hl hm hb.1.1 hb.1.2 hb.2 (Nat.le_refl _) w
    simp [Instr.sliceAt, Instr.slice, run_underlying ht, this, Result.andThen]
  · rename_i e p m k ht
    split at h
    · exact h.elim
    · rename_i i hi'
      obtain ⟨l, h3, hl⟩ := boundK_ok hE h
      obtain ⟨q, h4, hq⟩ := boundK_ok hE h3
      obtain ⟨hb, h5⟩ := gd_elim h4
      simp only [Bool.and_eq_true, decide_eq_true_eq] at hb
      rcases hx.slice_inv with ⟨rfl, rfl, rfl, rfl⟩ | ⟨b, o, lc, o', c, rfl, hlc, rfl, ho, hn, hc⟩
      · have := run_bounds (P := P) (isSlice := true) (cap := 0) hl hq hb.1.1 hb.1.2 hb.2 (Nat.le_refl _) w
        refine ⟨_, _, h5, .snil, ?_⟩
        have hq0 : q.toNat = 0 := by omega
        have hl0 : l.toNat = 0 := by omega
        simp [Instr.sliceAt, Instr.slice, run_underlying ht, this, Result.andThen, run_sizeOf hi', hq0, hl0]
      · have := run_bounds (P := P) (isSlice := true) (cap := c) hl hq hb.1.1 hb.1.2 hb.2 hn w
        simp only at h5
        refine ⟨_, .slice (some ⟨lc.blk, if c = l.toNat then o' else o' + l.toNat * i.size, none⟩) (q.toNat - l.toNat) (c - l.toNat), h5, ?_, ?_⟩
        · rw [show (q - l).toNat = q.toNat - l.toNat by omega]
          refine .slice hlc ?_ (by omega) ?_
          · split
            · right; omega
            · rename_i hne
              rcases ho with ho | ho
              · left; omega
              · exact (by omega : False).elim
          · intro hkn
            have hkm : k = i.size := by
              cases hk1 : Nat.beq k i.size with
              | true => exact Nat.eq_of_beq_eq_true hk1
              | false => rw [hk1] at hkn; simp at hkn
            have hk1 : Nat.beq k i.size = true := by rw [hkm]; exact Nat.beq_refl _
            rw [hk1] at hkn ⊢
            simp only [cond_true] at hkn ⊢
            obtain ⟨c1, c2, c3⟩ := hc (by omega)
            refine ⟨c1, by omega, ?_⟩
            rw [hkm] at c3
            split
            · rename_i hcl
              rw [show c - l.toNat = 0 by omega, Nat.zero_mul]
              have := Nat.le_trans (Nat.le_add_right o' (c * i.size)) c3
              omega
            · have hle : l.toNat ≤ c := by omega
              have : l.toNat * i.size + (c - l.toNat) * i.size = c * i.size := by rw [← Nat.add_mul, Nat.add_sub_cancel' hle]
              omega
        · simp [Instr.sliceAt, Instr.slice, run_underlying ht, this, Result.andThen, run_sizeOf hi', Addr.add_lit]
          split <;> rfl
  · rename_i len e p ht
    obtain ⟨ad, rfl, h0⟩ := optP_elim h
    clear h
    have h := h0
    clear h0
    obtain ⟨lc, hlc, hs, rfl⟩ := hx.ptr_some
    split at h
    · exact h.elim
    · rename_i i hi'
      obtain ⟨l, h3, hl⟩ := boundK_ok hE h
      obtain ⟨q, h4, hq⟩ := boundK_ok hE h3
      obtain ⟨hb, h5⟩ := gd_elim h4
      simp only [Bool.and_eq_true, decide_eq_true_eq] at hb
      have := run_bounds (P := P) (isSlice := false) (cap := len) hl hq hb.1.1 hb.1.2 hb.2 (Nat.le_refl _) w
      refine ⟨_, .slice (some ⟨lc.blk, if len = l.toNat then lc.off + ad.off else lc.off + ad.off + l.toNat * i.size, none⟩) (q.toNat - l.toNat) (len - l.toNat), h5, ?_, ?_⟩
      · rw [show (q - l).toNat = q.toNat - l.toNat by omega]
        refine .slice hlc ?_ (by omega) (fun h0 => (h0 rfl).elim)
        split
        · right; omega
        · left; omega
      · simp [Instr.sliceAt, Instr.sureAddr, run_underlying ht, this, Result.andThen, run_sizeOf hi', Addr.add_lit]
        split <;> rfl
  · exact h.elim
end Go.Proofs.Ytbikpfccdcblfaa.Eng
