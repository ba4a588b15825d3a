/- The lifter, part 11: reading and writing places. -/
import Derived.Test.YtbikpfccdcblfaaKc
import Derived.KernelRfl
import Derived.OpenShut
import Derived.SizedLaws
import Derived.Deep.Slices
import Derived.WalkKit
import Derived.ProofKit
import Derived.ChangeOld
import Derived.Below
import Derived.Carry
namespace Go.Proofs.Ytbikpfccdcblfaa.Eng
open Go
set_option linter.unusedVariables false
set_option linter.unusedSimpArgs false
variable {Γ : Nat → Ty} {ω ω' ω0 : Nat → Lab} {H H' H0 : Hp} {g X : Lab} {st : TS} {S : Dh Γ} {σ lσ : Env} {P : Program}
variable {K : TV → TS → Dh Γ → Prop} {KH : Value → Hp → Prop} {c : TCfg Γ} {cH : Cfg} {d : Nat}

theorem loadT_ok (hi : TInv ω st S σ lσ H) {T : TypeId} {a : A} {u : Value} (ha : ARep ω H a u) {K : TV → Prop} (h : loadT P T a st K) :
    ∃ ad v, u = .pointer (some ad) ∧ K v ∧ ∀ KH : Value → Prop, (∀ w, TRep ω H v w → KH w) → loadK P H ad.block ad.off T KH := by
  unfold loadT at h
  split at h
  · rename_i k p o
    obtain ⟨v, h1, h⟩ := optP_elim h
    obtain ⟨x, h2, h⟩ := optP_elim h
    obtain ⟨h3, h⟩ := gd_elim h
    simp only [Bool.and_eq_true] at h3
    obtain ⟨b, hb, hu⟩ := ha
    obtain ⟨b', e, cs, g1, g2, g3⟩ := hi.vars k v h1
    have hbb : b = b' := hi.own.inj b b' (hb.trans g1.symm) (by rw [hb]; intro e; cases e) (by rw [hb]; intro e; cases e)
    subst hbb
    obtain ⟨q1, q2⟩ := RepD.part h2 g3
    refine ⟨_, _, hu, h, fun KH hk => ?_⟩
    have ho := Nat.eq_of_beq_eq_true h3.1
    refine loadK_intro h3.2 q1 (fun i w hw => ?_) (hk _ ⟨_, q1, rfl⟩)
    rw [ho]
    exact part_cells g2 i w hw
  · rename_i own e t l xs i p o
    obtain ⟨y, h1, h⟩ := optP_elim h
    obtain ⟨x, h2, h⟩ := optP_elim h
    obtain ⟨h3, h⟩ := gd_elim h
    simp only [Bool.and_eq_true] at h3
    obtain ⟨b, off, k, ⟨a', k', g1, g2, g3⟩, hlt, hu⟩ := ha
    have ho := Nat.eq_of_beq_eq_true h3.1
    rcases g3 with ⟨rfl, _⟩ | ⟨rfl, rfl⟩ | ⟨b', off', w, e', cs, rfl, r2, r3, r4, r5⟩
    · cases g1
    · simp at hlt
    · simp only [List.cons.injEq, Value.slice.injEq, Option.some.injEq, Addr.mk.injEq, and_true] at g1
      obtain ⟨⟨rfl, rfl⟩, hk⟩ := g1
      have hr := r4 i y h1
      obtain ⟨q1, q2⟩ := RepD.part (v := ⟨t, y⟩) h2 hr
      simp only at q2
      refine ⟨_, _, hu, h, fun KH hk => ?_⟩
      have q3 := q1.any (ℓ' := nol) (by
        have : ∀ {p : List Nat} {v x : VT}, getP p v = some x → v.1.noOwn = true → x.1.noOwn = true := by
          intro p
          induction p with
          | nil => intro v x h hn; simp only [getP, Option.some.injEq] at h; subst h; exact hn
          | cons s p ih =>
            intro v x h hn
            obtain ⟨tv, xv⟩ := v
            cases tv <;> simp only [getP] at h <;> try cases h
            simp only [Ty.noOwn, Bool.and_eq_true] at hn
            split at h
            · exact ih h hn.1
            · exact ih h hn.2
            · cases h
        exact this h2 g2)
      refine loadK_intro h3.2 q3 (fun j w hw => ?_) (hk _ ⟨_, q3, rfl⟩)
      rw [List.getElem?_take] at hw
      split at hw
      · rename_i hj
        rw [List.getElem?_drop, List.getElem?_take] at hw
        split at hw
        · rename_i hj2
          rw [List.getElem?_drop] at hw
          unfold Hp.cell
          rw [r2, ho]
          simpa [Nat.add_assoc] using hw
        · cases hw
      · cases hw
  · exact h.elim
theorem knds_n : ∀ (t : Ty), t.knds.length = t.n
  | .int _ | .bool | .str | .unit | .fn | .ptr _ | .sl .. | .map .. => rfl
  | .stale n => by simp [Ty.knds, Ty.n]
  | .prod a b => by simp [Ty.knds, Ty.n, knds_n a, knds_n b]
theorem part_noOwn : ∀ {p : List Nat} {v x : VT}, getP p v = some x → v.1.noOwn = true → x.1.noOwn = true := by
  intro p
  induction p with
  | nil => intro v x h hn; simp only [getP, Option.some.injEq] at h; subst h; exact hn
  | cons s p ih =>
    intro v x h hn
    obtain ⟨tv, xv⟩ := v
    cases tv <;> simp only [getP] at h <;> try cases h
    simp only [Ty.noOwn, Bool.and_eq_true] at hn
    split at h
    · exact ih h hn.1
    · exact ih h hn.2
    · cases h
theorem load_ok' (hP : cH.P = c.P) (hi : TInv ω st S σ lσ H) (hf : Frm ω0 H0 ω H) (hk : Aft ω0 H0 σ lσ K KH) {draw : Bool} {t : TypeId} {a : Operand} (h : opT c draw d (.load t a) st S K) : opK cH draw (.load t a) (arg cH.G σ) H KH := by
  obtain ⟨p, h1, h⟩ := optP_elim h
  obtain ⟨u, q1, q2⟩ := argA_ok hi (G := cH.G) h1
  obtain ⟨ad, v, r1, r2, r3⟩ := loadT_ok hi q2 h
  refine optP_intro q1 (optP_intro (by rw [r1]; rfl) ?_)
  rw [hP]
  exact r3 _ fun w hw => hk _ _ _ _ _ _ r2 hi hw hf
theorem fieldAddr_ok' (hP : cH.P = c.P) (hi : TInv ω st S σ lσ H) (hf : Frm ω0 H0 ω H) (hk : Aft ω0 H0 σ lσ K KH) {draw : Bool} {t : TypeId} {x : Operand} {f : Nat} (h : opT c draw d (.fieldAddr t x f) st S K) : opK cH draw (.fieldAddr t x f) (arg cH.G σ) H KH := by
  obtain ⟨a, h1, h⟩ := optP_elim h
  obtain ⟨fd, h2, h⟩ := optP_elim h
  obtain ⟨h3, h⟩ := gd_elim h
  obtain ⟨u, q1, q2⟩ := argA_ok hi (G := cH.G) h1
  refine optP_intro q1 ?_
  unfold fieldAddrK
  rw [hP, h2]
  split at h
  · obtain ⟨b, r1, r2⟩ := q2
    rw [r2]
    exact gd_iff.2 ⟨h3, hk _ _ _ _ _ _ h hi ⟨b, r1, rfl⟩ hf⟩
  · obtain ⟨b, off, k, r1, r2, r3⟩ := q2
    rw [r3]
    refine gd_iff.2 ⟨h3, hk _ _ _ _ _ _ h hi ⟨b, off, k, r1, r2, by simp [Nat.add_assoc]⟩ hf⟩
  · exact h.elim
theorem field_ok' (hP : cH.P = c.P) (hi : TInv ω st S σ lσ H) (hf : Frm ω0 H0 ω H) (hk : Aft ω0 H0 σ lσ K KH) {draw : Bool} {t : TypeId} {x : Operand} {f : Nat} (h : opT c draw d (.field t x f) st S K) : opK cH draw (.field t x f) (arg cH.G σ) H KH := by
  obtain ⟨a, h1, h⟩ := optP_elim h
  obtain ⟨fd, h2, h⟩ := optP_elim h
  obtain ⟨u, q1, q2⟩ := argA_ok hi (G := cH.G) h1
  cases a with
  | d ty l y =>
    obtain ⟨z, h3, h⟩ := optP_elim h
    obtain ⟨h4, h⟩ := gd_elim h
    simp only [Bool.and_eq_true] at h4
    obtain ⟨h4, h5, h6⟩ := h4
    obtain ⟨vs, r1, r2⟩ := q2
    have hu : u = .agg ⟨vs⟩ := by rw [r2]; unfold ofC; rw [h4]
    obtain ⟨p1, p2⟩ := RepD.part (v := ⟨ty, y⟩) h3 r1
    obtain ⟨i, z0, dd, k1, k2, k3, k4, k5, k6, k7, k8, k9⟩ := fits_elim h6
    show (match arg cH.G σ x, fieldOf cH.P t f with
      | some (.agg cs), some fd => partK cH.P fd.type cs.toList fd.offset fun v => KH v H
      | _, _ => False)
    rw [q1, hP, h2, hu]
    dsimp only
    unfold partK
    rw [k1, k2]
    dsimp only
    rw [k4]
    have ho := Nat.eq_of_beq_eq_true h5
    cases e : z.1.agg with
    | true =>
      dsimp only
      refine hk _ _ _ _ _ _ h hi ⟨_, p1, ?_⟩ hf
      unfold ofC
      rw [e, ho, k6]
    | false =>
      dsimp only
      have hl := p1.len
      have hn : z.1.n = 1 := by rw [← knds_n, ← k8 e]; rfl
      rw [hn] at p1 hl
      match hw : (vs.drop (offP (fldP f) ty)).take 1, hl with
      | [w], _ =>
        have hc : vs[fd.offset]? = some w := by
          have := congrArg (fun l => l[0]?) hw
          simp only [List.getElem?_take, List.getElem?_drop] at this
          rw [ho]
          simpa using this
        refine optP_intro hc (hk _ _ _ _ _ _ h hi ⟨[w], by rw [← hw]; exact p1, ?_⟩ hf)
        unfold ofC
        rw [e]
        rfl
  | _ => exact h.elim
theorem indexAddr_ok' (hP : cH.P = c.P) (hi : TInv ω st S σ lσ H) (hf : Frm ω0 H0 ω H) (hk : Aft ω0 H0 σ lσ K KH) {draw : Bool} {t : TypeId} {x i : Operand} (h : opT c draw d (.indexAddr t x i) st S K) : opK cH draw (.indexAddr t x i) (arg cH.G σ) H KH := by
  obtain ⟨a, h1, h⟩ := optP_elim h
  obtain ⟨j, h2, h⟩ := optP_elim h
  obtain ⟨n, h3, h⟩ := optP_elim h
  obtain ⟨u, q1, q2⟩ := argA_ok hi (G := cH.G) h1
  obtain ⟨w, q3, q4⟩ := argA_ok hi (G := cH.G) h2
  obtain ⟨kk, q5⟩ := intA_ok q4 h3
  cases a with
  | d ty l y =>
    cases ty with
    | sl own e ty =>
      obtain ⟨h4, h⟩ := gd_elim h
      obtain ⟨h5, h⟩ := gd_elim h
      simp only [Bool.and_eq_true] at h4
      obtain ⟨h4, h6, h7⟩ := h4
      have hs := Nat.eq_of_beq_eq_true h6
      obtain ⟨vs, ⟨a', k', g1, g2, g3⟩, hu⟩ := q2
      subst g1
      have hu : u = .slice a' (List.length (α := Data ty) y) k' := hu
      refine optP_intro q1 (optP_intro q3 ?_)
      rw [q5, hu]
      unfold indexAddrK
      rw [hP, slTy_elim h4]
      dsimp only
      cases hii : c.P.info? e with
      | none => rw [hii] at h7; cases h7
      | some ii =>
        dsimp only
        have hsz : ii.size = ty.n := by rw [← hs]; simp [szOf, hii]
        have hlt : n.toNat < List.length (α := Data ty) y := by
          simp only [Bool.and_eq_true, decide_eq_true_eq] at h5
          omega
        rcases id g3 with ⟨rfl, rfl, _⟩ | ⟨rfl, rfl⟩ | ⟨b, off, w', e', cs, rfl, r2, r3, r4, r5⟩
        · simp at hlt
        · simp at hlt
        · refine optP_intro rfl (gd_iff.2 ⟨h5, hk _ _ _ _ _ _ h hi ⟨b, off, k', ⟨_, k', rfl, g2, g3⟩, hlt, ?_⟩ hf⟩)
          simp [hsz]
    | _ => exact h.elim
  | _ => exact h.elim
theorem index_ok' (hP : cH.P = c.P) (hi : TInv ω st S σ lσ H) (hf : Frm ω0 H0 ω H) (hk : Aft ω0 H0 σ lσ K KH) {draw : Bool} {t : TypeId} {x i : Operand} (h : opT c draw d (.index t x i) st S K) : opK cH draw (.index t x i) (arg cH.G σ) H KH := by
  obtain ⟨a, h1, h⟩ := optP_elim h
  obtain ⟨j, h2, h⟩ := optP_elim h
  obtain ⟨n, h3, h⟩ := optP_elim h
  obtain ⟨u, q1, q2⟩ := argA_ok hi (G := cH.G) h1
  obtain ⟨w, q3, q4⟩ := argA_ok hi (G := cH.G) h2
  obtain ⟨kk, q5⟩ := intA_ok q4 h3
  split at h
  · rename_i s hu hs
    obtain ⟨h5, h⟩ := gd_elim h
    refine optP_intro q1 (optP_intro q3 ?_)
    rw [q5, strA_ok q2 hs]
    unfold indexK
    rw [hP, hu]
    exact gd_iff.2 ⟨h5, hk _ _ _ _ _ _ h hi ⟨_, rfl, rfl⟩ hf⟩
  · exact h.elim
end Go.Proofs.Ytbikpfccdcblfaa.Eng
/- The lifter, part 12: writing. -/
namespace Go.Proofs.Ytbikpfccdcblfaa.Eng
open Go
set_option linter.unusedVariables false
set_option linter.unusedSimpArgs false
variable {Γ : Nat → Ty} {ω ω' ω0 : Nat → Lab} {H H' H0 : Hp} {g X : Lab} {st : TS} {S : Dh Γ} {σ lσ : Env} {P : Program}
variable {K : TV → TS → Dh Γ → Prop} {KH : Value → Hp → Prop} {c : TCfg Γ} {cH : Cfg} {d : Nat}

theorem obj_store {b o : Nat} {w : Bool} {e : TypeId} {cs vs : List Value} (hb : H.obj b = some (.cells w e cs)) : H.store b o vs = H.put b (some (.cells w e (setL cs o vs))) := by
  unfold Hp.store; rw [hb]
theorem put_obj (H : Hp) (b b' : Nat) (o : Option AObj) : (H.put b o).obj b' = if b' = b then o else H.obj b' := rfl
/-- A block that stands under the region, or is the variable's own, gets other cells. -/
theorem store_turn {g X : Lab} {b : Nat} {ob : Option AObj} (hX : X = nol ∨ ∃ k, X = [5, k]) (hb : inR g (ω b) = true ∨ (ω b = X ∧ X ≠ nol)) : Turn g X ω H (unlab g ω) (H.put b ob) := by
  refine ⟨fun b' hn hr => ⟨by unfold unlab; rw [if_neg (by rw [hr]; decide)], fun hne => ?_⟩, hX, (unlab_turn g ω H).fresh, Nat.le_refl _⟩
  rw [put_obj, if_neg]
  intro e
  subst e
  rcases hb with hb | hb
  · rw [hb] at hr; cases hr
  · exact hne hb.1
theorem own_put (h : Own ω H) (b : Nat) (ob : Option AObj) : Own ω (H.put b ob) := ⟨h.inj, h.out⟩
theorem cells_n {t : Ty} {l : Lab} {x : Data t} {vs : List Value} (h : RepD ω H t l x vs) (hn : (Nat.beq t.n 1 || t.agg) = true) : (ofC t vs).cells.toList = vs := by
  refine ofC_cells h ?_
  simp only [Bool.or_eq_true] at hn
  rcases hn with hn | hn
  · exact .inl (Nat.eq_of_beq_eq_true hn)
  · exact .inr hn
theorem storeK_intro {T : TypeId} {b o : Nat} {v : Value} {vs : List Value} {e : TypeId} {cs : List Value} (hi : (P.info? T).isSome = true) (hs : szOf P T = vs.length) (hv : v.cells.toList = vs) (h1 : ∀ u ∈ vs, oneCell u = true)
    (hb : H.obj b = some (.cells true e cs)) (ho : o + vs.length ≤ cs.length) {K : Hp → Prop} (hk : K (H.put b (some (.cells true e (setL cs o vs))))) : storeK P H b o T v K := by
  unfold storeK
  cases hii : P.info? T with
  | none => rw [hii] at hi; cases hi
  | some i =>
    dsimp only
    have hsz : v.cells.size = vs.length := by rw [← hv]; rfl
    have hi2 : i.size = vs.length := by rw [← hs]; simp [szOf, hii]
    refine gd_iff.2 ⟨by rw [hsz, hi2, Nat.beq_refl], ?_⟩
    rw [hv, hsz]
    refine allOne_intro h1 ⟨⟨e, cs, hb, ho⟩, ?_⟩
    rw [obj_store hb]
    exact hk
theorem asD_const {t : Ty} {a : A} {u : Value} {x : Data t} (h : ARep ω H a u) (hs : asD t a = some (none, x)) : ∀ ω H l, RepD ω H t l x u.cells.toList := by
  intro ω2 H2 l
  unfold asD at hs
  split at hs
  · split at hs
    · cases hs
    · cases hs
  · split at hs
    · cases hs
    · split at hs
      · rename_i y hy
        cases hs
        rw [h.1]
        exact constD_ok hy
      · cases hs
  · cases hs
theorem asPart_ok {t : Ty} {x : A} {v : Value} {y : (t : Ty) × (Option Lab × Data t)} (hx : ARep ω H x v) (h : asPart t x = some y) :
    ∃ vs, (∀ l, (∀ l', y.2.1 = some l' → l' = l) → RepD ω H y.1 l y.2.2 vs) ∧ v = ofC y.1 vs ∧ (y.2.1 = none → ∀ ω H l, RepD ω H y.1 l y.2.2 v.cells.toList) := by
  have gen : ∀ {t : Ty}, (match asD t x with | some z => some (⟨t, z⟩ : (t : Ty) × (Option Lab × Data t)) | none => none) = some y → ∃ vs, (∀ l, (∀ l', y.2.1 = some l' → l' = l) → RepD ω H y.1 l y.2.2 vs) ∧ v = ofC y.1 vs ∧ (y.2.1 = none → ∀ ω H l, RepD ω H y.1 l y.2.2 v.cells.toList) := by
    intro t h
    split at h
    · rename_i z hz
      cases h
      obtain ⟨vs, h1, h2⟩ := asD_ok hx (o := z.1) (x := z.2) hz
      exact ⟨vs, h1, h2, fun e => by
        obtain ⟨z1, z2⟩ := z
        dsimp only at e
        subst e
        exact asD_const hx hz⟩
    · cases h
  cases t with
  | stale n =>
    have h : staleFill n x = some y := h
    unfold staleFill at h
    split at h
    · split at h
      · cases h
        obtain ⟨vs, q1, q2⟩ := hx
        exact ⟨vs, fun l2 hl => by rw [← hl _ rfl]; exact q1, q2, fun e => by cases e⟩
      · cases h
    · cases h
  | _ => exact gen h
theorem part_n : ∀ {p : List Nat} {y v v' x : VT}, Eng.setP p y v = some v' → getP p v = some x → x.1.n = y.1.n := by
  intro p
  induction p with
  | nil =>
    intro y v v' x h hg
    have hb := setP_bound h
    simp only [Eng.setP] at h
    simp only [getP, Option.some.injEq] at hg
    subst hg
    split at h
    · rename_i e
      simp only [Bool.and_eq_true] at e
      exact (Nat.eq_of_beq_eq_true e.1).symm
    · cases h
  | cons s p ih =>
    intro y v v' x h hg
    obtain ⟨tv, xv⟩ := v
    cases tv <;> simp only [Eng.setP] at h <;> try cases h
    simp only [getP] at hg
    match s, h, hg with
    | 0, h, hg =>
      simp only at h
      split at h
      · rename_i z hz; exact ih hz hg
      · cases h
    | 1, h, hg =>
      simp only at h
      split at h
      · rename_i z hz; exact ih hz hg
      · cases h
    | s + 2, h, hg => simp at h
theorem chunk_set {cs vs : List Value} {i j n o : Nat} (ho : o + vs.length ≤ n) (hi : i * n + n ≤ cs.length) : ((setL cs (i * n + o) vs).drop (j * n)).take n = if j = i then setL ((cs.drop (i * n)).take n) o vs else (cs.drop (j * n)).take n := by
  apply List.ext_getElem?
  intro k
  rw [List.getElem?_take]
  by_cases hk : k < n
  · rw [if_pos hk, List.getElem?_drop, setL_get]
    by_cases hj : j = i
    · subst hj
      rw [if_pos rfl, setL_get, List.length_take, List.length_drop, List.getElem?_take, if_pos hk, List.getElem?_drop]
      by_cases hc : o ≤ k ∧ k < o + vs.length
      · rw [if_pos (by omega), if_pos (by omega)]
        congr 1
        omega
      · rw [if_neg (by omega), if_neg (by omega)]
    · rw [if_neg hj, List.getElem?_take, if_pos hk, List.getElem?_drop]
      rw [if_neg]
      intro hc
      rcases Nat.lt_or_gt_of_ne hj with h | h
      · have := Nat.mul_le_mul_right n (show j + 1 ≤ i from h)
        rw [Nat.succ_mul] at this
        omega
      · have := Nat.mul_le_mul_right n (show i + 1 ≤ j from h)
        rw [Nat.succ_mul] at this
        omega
  · rw [if_neg hk]
    by_cases hj : j = i
    · rw [if_pos hj, List.getElem?_eq_none]
      rw [setL_length, List.length_take]
      omega
    · rw [if_neg hj, List.getElem?_eq_none]
      rw [List.length_take]
      omega
theorem set_get {α : Type} {l : List α} {i j : Nat} {z y : α} (h : (l.set i z)[j]? = some y) : (j = i ∧ y = z) ∨ (j ≠ i ∧ l[j]? = some y) := by
  rw [List.getElem?_set] at h
  split at h
  · rename_i e
    split at h
    · cases h; exact .inl ⟨e.symm, rfl⟩
    · cases h
  · rename_i e; exact .inr ⟨fun x => e x.symm, h⟩
theorem storeT_ok (hi : TInv ω st S σ lσ H) (hf : Frm ω0 H0 ω H) {T : TypeId} {a x : A} {u v : Value} (ha : ARep ω H a u) (hx : ARep ω H x v) {K : TS → Prop} {KH : Hp → Prop} (hk : ∀ st' ω' H', K st' → TInv ω' st' S σ lσ H' → Frm ω0 H0 ω' H' → KH H') (h : storeT P T a x st K) :
    ∃ ad, u = .pointer (some ad) ∧ storeK P H ad.block ad.off T v KH := by
  unfold storeT at h
  split at h
  · rename_i k p o
    obtain ⟨var, h1, h⟩ := optP_elim h
    obtain ⟨old, h2, h⟩ := optP_elim h
    obtain ⟨h3, h⟩ := gd_elim h
    obtain ⟨y, h4, h⟩ := optP_elim h
    obtain ⟨h5, h⟩ := gd_elim h
    obtain ⟨v', h6, h⟩ := optP_elim h
    simp only [Bool.and_eq_true] at h3
    obtain ⟨⟨h3, h7⟩, h8⟩ := h3
    obtain ⟨b, hb, hu⟩ := ha
    obtain ⟨b', e, cs, g1, g2, g3⟩ := hi.vars k var h1
    have hbb : b = b' := hi.own.inj b b' (hb.trans g1.symm) (by rw [hb]; intro e; cases e) (by rw [hb]; intro e; cases e)
    subst hbb
    have ho := Nat.eq_of_beq_eq_true h3
    obtain ⟨vs, q1, q2, qc⟩ := asPart_ok hx h4
    have q0 := q1 (y.2.1.getD nol) (fun l' hl => by rw [hl]; rfl)
    have hcells : v.cells.toList = vs := by rw [q2]; exact cells_n q0 h5
    have hbd := setP_bound h6
    have hlen := q0.len
    have hcl := g3.len
    simp only at hbd
    have hbnd : o + vs.length ≤ cs.length := by rw [ho, hlen, hcl]; exact hbd.1
    have hpn := (RepD.part h2 g3).2
    have hold : old.1.n = y.1.n := part_n h6 h2
    refine ⟨_, hu, ?_⟩
    refine storeK_intro h8 (by rw [Nat.eq_of_beq_eq_true h7, hold, hlen]) hcells q0.one g2 hbnd ?_
    have ht : Turn (2 :: k :: p) [5, k] ω H (unlab (2 :: k :: p) ω) (H.put b (some (.cells true e (setL cs o vs)))) :=
      store_turn (.inr ⟨k, rfl⟩) (.inr ⟨hb, by intro e; cases e⟩)
    have hown := own_put (unlab_own (2 :: k :: p) hi.own) b (some (.cells true e (setL cs o vs)))
    -- the turned variable, wherever its new part reads
    have hvar : ∀ ω2, (∀ b', ω b' = fz → ω2 b' = fz) → (∀ b', ω b' = [5, k] → ω2 b' = [5, k]) → (∀ q b', ω b' = 0 :: ([2, k] ++ q) → pre p q = false → ω2 b' = ω b') → RepD ω2 (H.put b (some (.cells true e (setL cs o vs)))) y.1 (2 :: k :: p) y.2.2 vs → VarR ω2 (H.put b (some (.cells true e (setL cs o vs)))) k v' := by
      intro ω2 z1 z2 z3 hr
      refine ⟨b, e, setL cs o vs, z2 b hb, by rw [put_obj, if_pos rfl], ?_⟩
      have hne : ∀ b', ω b' ≠ [5, k] → (H.put b (some (.cells true e (setL cs o vs)))).obj b' = H.obj b' := fun b' hb' => by
        rw [put_obj, if_neg]
        intro e
        subst e
        exact hb' hb
      have key := RepD.setP (ω := ω) (H := H) (fun b' hb' => ⟨z1 b' hb', hne b' (by rw [hb']; intro e; cases e)⟩) h6 g3 hr (.inr fun q b' hb' hp => ⟨z3 q b' hb' hp, hne b' (by rw [hb']; intro e; cases e)⟩)
      rw [← ho] at key
      exact key
    have hrest : ∀ q b', ω b' = 0 :: ([2, k] ++ q) → pre p q = false → unlab (2 :: k :: p) ω b' = ω b' := fun q b' hb' hp => by
      unfold unlab
      rw [if_neg]
      rw [hb', inR_own]
      show ¬ pre (2 :: k :: p) (2 :: k :: q) = true
      simp only [pre, Nat.beq_refl, Bool.true_and, hp]
      decide
    have hvars : ∀ ω2, (∀ k' w, k' ≠ k → lk k' st.vars = some w → VarR ω2 (H.put b (some (.cells true e (setL cs o vs)))) k' w.v) → VarR ω2 (H.put b (some (.cells true e (setL cs o vs)))) k v' → VarsR ω2 (H.put b (some (.cells true e (setL cs o vs)))) (updV k (fun v => { v with v := v' }) st.vars) := by
      intro ω2 z1 z2 k' w hw
      rw [lk_updV] at hw
      split at hw
      · rename_i e
        subst e
        rw [h1] at hw
        cases hw
        exact z2
      · exact z1 k' w ‹_› hw
    split at h
    · rename_i l hno hlab
      obtain ⟨hl, h⟩ := gd_elim h
      match l, hlab, hl, h with
      | 1 :: d0 :: q0', hlab, _, h =>
        have q4 := q1 (1 :: d0 :: q0') (fun l' hl => by rw [hlab] at hl; cases hl; rfl)
        have q5 : RepD (unlab (2 :: k :: p) ω) (H.put b (some (.cells true e (setL cs o vs)))) y.1 (1 :: d0 :: q0') y.2.2 vs := q4.turn ht (by rw [show over (2 :: k :: p) (1 :: d0 :: q0') = false from rfl]; simp)
        have hfree := unlab_free (2 :: k :: p) ω
        have q6 := q5.ren (g := 1 :: d0 :: q0') (g' := 2 :: k :: p) (by
          have := pre_app (1 :: d0 :: q0') []
          rw [List.append_nil] at this
          rw [this]; simp)
        have e6 : mvL (1 :: d0 :: q0') (2 :: k :: p) (1 :: d0 :: q0') = 2 :: k :: p := by
          have := pre_app (1 :: d0 :: q0') []
          rw [List.append_nil] at this
          have h2 := rest_app (1 :: d0 :: q0') []
          rw [List.append_nil] at h2
          unfold mvL
          rw [this, cond_true, h2, List.append_nil]
        rw [e6] at q6
        refine hk _ (renL (1 :: d0 :: q0') (2 :: k :: p) (unlab (2 :: k :: p) ω)) _ h ?_ (renL_frm (hf.turn ht))
        have hlv : ∀ a : A, (a.under (1 :: d0 :: q0') || (a.live (1 :: d0 :: q0') && a.live (2 :: k :: p))) = true → (a.under (1 :: d0 :: q0') || a.live (1 :: d0 :: q0')) = true := fun a ha => by
          simp only [Bool.or_eq_true, Bool.and_eq_true] at ha ⊢
          rcases ha with ha | ha
          · exact .inl ha
          · exact .inr ha.1
        refine ⟨?_, ?_, ?_, ?_, renL_own hown hfree⟩
        · exact (hi.env.turn ht).ren hlv
        · exact (hi.low.turn ht).ren hlv
        · refine hvars _ (fun k' w hne hw => ?_) ?_
          · have z := (hi.vars k' w hw).turn ht (over_vars p hne) (by intro e; cases e; exact hne rfl)
            exact (VarsR.ren (vs := [(k', w)]) (fun k2 v2 h2 => by
              simp only [lk] at h2
              cases e : Nat.beq k2 k' with
              | true => rw [e] at h2; cases h2; rw [Nat.eq_of_beq_eq_true e]; exact z
              | false => rw [e] at h2; cases h2)) k' w (by simp [lk, Nat.beq_refl])
          · refine hvar _ (fun b' hb' => ?_) (fun b' hb' => ?_) (fun q b' hb' hp => ?_) q6
            · rw [renL_out] <;> (unfold unlab; rw [if_neg (by rw [hb']; intro e; cases e), hb']); rfl
            · rw [renL_out] <;> (unfold unlab; rw [if_neg (by rw [hb']; intro e; cases e), hb']); rfl
            · rw [renL_out]
              · exact hrest q b' hb' hp
              · rw [hrest q b' hb' hp, hb']; rfl
        · exact (hi.dyn.turn ht rfl).ren
      | [], _, hl, _ => cases hl
      | [1], _, hl, _ => cases hl
      | 0 :: _, _, hl, _ => cases hl
      | (_ + 2) :: _, _, hl, _ => cases hl
    · rename_i hcase
      have q5 : RepD (unlab (2 :: k :: p) ω) (H.put b (some (.cells true e (setL cs o vs)))) y.1 (2 :: k :: p) y.2.2 vs := by
        cases hno : y.1.noOwn with
        | true => exact (q0.any hno).turn ht (by rw [hno]; rfl)
        | false =>
          cases hlab : y.2.1 with
          | some l => exact absurd hlab (hcase l hno)
          | none => rw [← hcells]; exact qc hlab _ _ _
      refine hk _ (unlab (2 :: k :: p) ω) _ h ⟨hi.env.turn ht, hi.low.turn ht, ?_, hi.dyn.turn ht rfl, hown⟩ (hf.turn ht)
      refine hvars _ (fun k' w hne hw => ?_) ?_
      · exact (hi.vars k' w hw).turn ht (over_vars p hne) (by intro e; cases e; exact hne rfl)
      · refine hvar _ (fun b' hb' => ?_) (fun b' hb' => ?_) hrest q5
        · unfold unlab; rw [if_neg (by rw [hb']; intro e; cases e), hb']
        · unfold unlab; rw [if_neg (by rw [hb']; intro e; cases e), hb']
  · rename_i e t l xs i p o
    obtain ⟨old, h1, h⟩ := optP_elim h
    obtain ⟨part, h2, h⟩ := optP_elim h
    obtain ⟨h3, h⟩ := gd_elim h
    obtain ⟨h4, h⟩ := gd_elim h
    obtain ⟨y, h5, h⟩ := optP_elim h
    obtain ⟨z0, h6, h⟩ := optP_elim h
    obtain ⟨z, h7, h⟩ := optP_elim h
    obtain ⟨h8, hK⟩ := gd_elim h
    have hz0 := castTo_vt h7
    subst hz0
    simp only [Bool.and_eq_true] at h3
    obtain ⟨⟨⟨h3, h9⟩, h10⟩, h11⟩ := h3
    have ho := Nat.eq_of_beq_eq_true h3
    obtain ⟨b, off, k, ⟨a', k', g1, g2, g3⟩, hlt, hu⟩ := ha
    rcases g3 with ⟨rfl, _⟩ | ⟨e0, _⟩ | ⟨b', off', w, e', cs, rfl, r2, r3, r4, r5⟩
    · cases g1
    · cases e0
    · simp only [List.cons.injEq, Value.slice.injEq, Option.some.injEq, Addr.mk.injEq, and_true] at g1
      obtain ⟨⟨rfl, rfl⟩, hk'⟩ := g1
      rcases r5 with ⟨_, rfl, rfl, rfl, r6, rfl, r7, r8⟩ | ⟨e0, _⟩
      · have hr := r4 i old h1
        obtain ⟨vs, q1, q2, q3⟩ := asD_cells h4 hx (o := y.1) (x := y.2) h5
        have hbd := (setP_bound h6).1
        simp only at hbd
        have hlen := q1.len
        have hin : i * t.n + t.n ≤ cs.length := by
          rw [r7]
          have := Nat.mul_le_mul_right t.n (show i + 1 ≤ List.length (α := Data t) xs from hlt)
          rw [Nat.succ_mul] at this
          exact this
        refine ⟨_, hu, ?_⟩
        refine storeK_intro h10 (by rw [Nat.eq_of_beq_eq_true h9, hlen]) q3 q1.one r2 (by dsimp only; omega) ?_
        dsimp only
        have hreg : inR l (ω b) = true := by
          rw [r8, inR_own]
          have := pre_app l []
          rwa [List.append_nil] at this
        have ht : Turn l nol ω H ω (H.put b (some (.cells true e' (setL cs (0 + i * t.n + o) vs)))) := by
          refine ⟨fun b' hn hr' => ⟨rfl, fun _ => ?_⟩, .inl rfl, fun b' hb' => absurd rfl hb', Nat.le_refl _⟩
          rw [put_obj, if_neg]
          intro e
          subst e
          rw [hreg] at hr'
          cases hr'
        refine hk _ ω _ hK (hi.upd ht h8 (own_put hi.own _ _) ?_) (hf.turn ht)
        intro ys ws ⟨a2, k2, j1, j2, j3⟩
        rcases j3 with ⟨rfl, rfl, rfl⟩ | ⟨e0, _⟩ | ⟨b2, off2, w2, e2, cs2, rfl, s2, s3, s4, s5⟩
        · refine ⟨none, 0, ?_, j2, .inl ⟨rfl, rfl, rfl⟩⟩
          exact j1
        · cases e0
        · rcases s5 with ⟨_, rfl, rfl, rfl, s6, rfl, s7, s8⟩ | ⟨e0, _⟩
          · have hb2 : b2 = b := hi.own.inj b2 b (s8.trans r8.symm) (by rw [s8]; intro e; cases e) (by rw [s8]; intro e; cases e)
            subst hb2
            rw [r2] at s2
            cases s2
            refine ⟨some ⟨b2, 0, none⟩, t.n, ?_, j2, .inr (.inr ⟨b2, 0, true, _, setL cs (0 + i * t.n + o) vs, rfl, by rw [put_obj, if_pos rfl], ?_, fun j yj hj => ?_, .inl ⟨rfl, rfl, rfl, rfl, s6, rfl, ?_, s8⟩⟩)⟩
            · exact j1.trans (congrArg (fun n => [Value.slice (some ⟨b2, 0, none⟩) n t.n]) (List.length_set (α := Data t) (as := ys) (i := i) (a := z)).symm)
            · rw [setL_length]; exact Nat.le_trans (Nat.le_of_eq (congrArg (fun n => 0 + n * t.n) (List.length_set (α := Data t) (as := ys) (i := i) (a := z)))) s3
            · simp only [Nat.zero_add]
              rw [chunk_set (by omega) hin]
              rcases set_get (α := Data t) hj with ⟨rfl, rfl⟩ | ⟨hne, hj⟩
              · rw [if_pos rfl]
                rw [Nat.zero_add] at hr
                have hzz : ∀ b', ω b' = fz → ω b' = fz ∧ (H.put b2 (some (.cells true e2 (setL cs (j * t.n + o) vs)))).obj b' = H.obj b' := fun b' hb' => ⟨hb', by
                  rw [put_obj, if_neg]
                  intro e
                  subst e
                  rw [r8] at hb'
                  cases hb'⟩
                have key := RepD.setP (ω := ω) (H := H) hzz h6 hr ((q1.any (ℓ' := [] ++ p) h4).move hzz (.inl h4)) (.inl j2)
                rw [← ho] at key
                exact key
              · rw [if_neg hne]
                have := s4 j yj hj
                rw [Nat.zero_add] at this
                exact this.move (fun b' hb' => ⟨hb', by
                  rw [put_obj, if_neg]
                  intro e
                  subst e
                  rw [r8] at hb'
                  cases hb'⟩) (.inl j2)
            · rw [setL_length]; exact s7.trans (congrArg (fun n => n * t.n) (List.length_set (α := Data t) (as := ys) (i := i) (a := z)).symm)
          · cases e0
      · cases e0
  · exact h.elim
end Go.Proofs.Ytbikpfccdcblfaa.Eng
/- The lifter, part 13: slices of slices, append, conversions. -/
namespace Go.Proofs.Ytbikpfccdcblfaa.Eng
open Go
set_option linter.unusedVariables false
set_option linter.unusedSimpArgs false
variable {Γ : Nat → Ty} {ω ω' ω0 : Nat → Lab} {H H' H0 : Hp} {g X : Lab} {st : TS} {S : Dh Γ} {σ lσ : Env} {P : Program}
variable {K : TV → TS → Dh Γ → Prop} {KH : Value → Hp → Prop} {c : TCfg Γ} {cH : Cfg} {d : Nat}

theorem boundT_ok (hi : TInv ω st S σ lσ H) {G : Nat} {o : Option Operand} {n : Int} {K KH : Int → Prop} (hk : ∀ m, K m → KH m) (h : boundT st o n K) : boundK (arg G σ) o n KH := by
  cases o with
  | none => exact hk _ h
  | some x =>
    simp only [boundT] at h
    split at h
    · rename_i a ha
      obtain ⟨m, h1, h2⟩ := optP_elim h
      obtain ⟨u, q1, q2⟩ := argA_ok hi (G := G) ha
      obtain ⟨k, q3⟩ := intA_ok q2 h1
      simp only [boundK, q1, q3]
      exact hk _ h2
    · exact h.elim
theorem ro_sub {e : TypeId} {t : Ty} {l0 : Lab} {l : List (Data t)} {a : Option Addr} {n k k' : Nat} (hr : RepD ω H (.sl false e t) l0 l [.slice a n k]) {x h : Nat} (hx : x ≤ h) (hh : h ≤ l.length) :
    n = l.length ∧ (a = none → l = []) ∧ ∀ ad, a = some ad → RepD ω H (.sl false e t) nol ((l.take h).drop x) [.slice (some ⟨ad.block, ad.off + x * t.n, none⟩) (h - x) k'] := by
  obtain ⟨a', k0, h1, h2, h3⟩ := hr
  simp only [List.cons.injEq, Value.slice.injEq, and_true] at h1
  obtain ⟨rfl, h4, _⟩ := h1
  have hlen : h - x = List.length (α := Data t) ((l.take h).drop x) := by simp; omega
  refine ⟨h4, fun e => ?_, fun ad e => ?_⟩
  · rcases h3 with h3 | h3 | ⟨b, off, w, e', cs, g1, _⟩
    · exact h3.2.1
    · exact h3.2
    · rw [e] at g1; cases g1
  · subst e
    refine ⟨_, k', by rw [hlen], h2, ?_⟩
    rcases h3 with h3 | h3 | ⟨b, off, w, e', cs, g1, g2, g3, g4, g5⟩
    · cases h3.1
    · refine .inr (.inl ⟨rfl, ?_⟩)
      have : l = [] := h3.2
      subst this
      show List.drop x (List.take h ([] : List (Data t))) = []
      rw [List.take_nil, List.drop_nil]
    · cases g1
      refine .inr (.inr ⟨b, off + x * t.n, w, e', cs, rfl, g2, ?_, fun i y hy => ?_, ?_⟩)
      · rw [← hlen]
        have := Nat.mul_le_mul_right t.n hh
        have e1 : x * t.n + (h - x) * t.n = h * t.n := by rw [← Nat.add_mul]; congr 1; omega
        have g3' : off + l.length * t.n ≤ cs.length := g3
        omega
      · have hy' : ((l.take h).drop x)[i]? = some y := hy
        rw [List.getElem?_drop, List.getElem?_take] at hy'
        split at hy'
        · have := g4 (x + i) y hy'
          rw [Nat.add_mul, ← Nat.add_assoc] at this
          exact this
        · cases hy'
      · rcases g5 with ⟨e0, _⟩ | g5
        · cases e0
        · exact .inr g5
theorem mat_opt {α : Type} {o : Option α} {p : Prop} {q : α → Prop} : ((o = none → p) ∧ ∀ a, o = some a → q a) → (match o with | none => p | some a => q a) := by
  cases o with
  | none => exact fun h => h.1 rfl
  | some a => exact fun h => h.2 a rfl
theorem sliceT_ok (hP : cH.P = c.P) (hi : TInv ω st S σ lσ H) (hf : Frm ω0 H0 ω H) (hk : Aft ω0 H0 σ lσ K KH) {draw : Bool} {t : TypeId} {x : Operand} {lo hi' mx : Option Operand} (h : opT c draw d (.slice t x lo hi' mx) st S K) : opK cH draw (.slice t x lo hi' mx) (arg cH.G σ) H KH := by
  cases mx with
  | some _ => exact h.elim
  | none =>
    obtain ⟨a, h1, h⟩ := optP_elim h
    obtain ⟨u, q1, q2⟩ := argA_ok hi (G := cH.G) h1
    refine optP_intro q1 ?_
    unfold sliceT at h
    unfold sliceK
    rw [hP]
    split at h
    · rename_i s hs
      rw [strA_ok q2 hs]
      split at h
      · rename_i hu
        rw [hu]
        dsimp only
        refine boundT_ok hi (fun l hl => ?_) h
        refine boundT_ok hi (fun r hr => ?_) hl
        obtain ⟨g1, g2⟩ := gd_elim hr
        refine gd_iff.2 ⟨g1, ?_⟩
        rw [mkS_extract]
        exact hk _ _ _ _ _ _ g2 hi ⟨_, rfl, rfl⟩ hf
      · exact h.elim
    · cases a with
      | d ty l0 l =>
        cases ty with
        | sl o e ty =>
          obtain ⟨g0, h⟩ := gd_elim h
          simp only [Bool.and_eq_true] at g0
          obtain ⟨⟨g0, gs⟩, gi⟩ := g0
          have gs := Nat.eq_of_beq_eq_true gs
          obtain ⟨vs, hr, hu⟩ := q2
          obtain ⟨a', k, e1, hno, _⟩ := id hr
          rw [e1] at hr hu
          have hu : u = .slice a' (List.length (α := Data ty) l) k := hu
          rw [hu, slTy_elim g0]
          dsimp only
          cases hii : c.P.info? e with
          | none => rw [hii] at gi; cases gi
          | some ii =>
            dsimp only
            have hsz : ii.size = ty.n := by rw [← gs]; simp [szOf, hii]
            refine boundT_ok hi (fun x hx => ?_) h
            refine boundT_ok hi (fun y hy => ?_) hx
            obtain ⟨g1, g2⟩ := gd_elim hy
            refine gd_iff.2 ⟨g1, ?_⟩
            simp only [Bool.and_eq_true, decide_eq_true_eq] at g1
            -- behind freezing, if there was any
            have key : ∀ ω2 st2, TInv ω2 st2 S σ lσ H → Frm ω0 H0 ω2 H → RepD ω2 H (.sl false e ty) nol l [.slice a' (List.length (α := Data ty) l) k] → K (.a (.d (.sl false e ty) nol ((List.take (α := Data ty) y.toNat l).drop x.toNat))) st2 S →
                ((a' = none → KH (.slice none 0 0) H) ∧ ∀ ad, a' = some ad → KH (.slice (some ⟨ad.block, ad.off + x.toNat * ii.size, none⟩) (y - x).toNat (cond (Nat.beq k ii.size) ii.size 0)) H) := by
              intro ω2 st2 hi2 hf2 hr2 hk2
              obtain ⟨e2, e3, e4⟩ := ro_sub (k' := cond (Nat.beq k ii.size) ii.size 0) hr2 (x := x.toNat) (h := y.toNat) (by omega) (by omega)
              refine ⟨fun ea => ?_, fun ad ea => ?_⟩
              · have := e3 ea
                subst this
                have e5 : List.drop x.toNat (List.take y.toNat ([] : List (Data ty))) = [] := by rw [List.take_nil, List.drop_nil]
                have hk3 : K (.a (.d (.sl false e ty) nol (List.drop x.toNat (List.take y.toNat ([] : List (Data ty)))))) st2 S := hk2
                rw [e5] at hk3
                exact hk _ _ _ _ _ _ hk3 hi2 ⟨[.slice none 0 0], ⟨none, 0, rfl, hno, .inl ⟨rfl, rfl, rfl⟩⟩, rfl⟩ hf2
              · have := e4 ad ea
                rw [hsz] at this ⊢
                rw [show (y - x).toNat = y.toNat - x.toNat by omega]
                exact hk _ _ _ _ _ _ hk2 hi2 ⟨_, this, rfl⟩ hf2
            have z : (a' = none → KH (.slice none 0 0) H) ∧ ∀ ad, a' = some ad → KH (.slice (some ⟨ad.block, ad.off + x.toNat * ii.size, none⟩) (y - x).toNat (cond (Nat.beq k ii.size) ii.size 0)) H := by
              cases o with
              | false => exact key ω st hi hf (hr.any (by rfl)) g2
              | true =>
                obtain ⟨g3, g4⟩ := gd_elim g2
                exact key _ _ (hi.freeze g3) (hf.turn (frozeL_turn l0 ω H)) (RepD.frozen (t := .sl true e ty) (x := l) (by rfl) hr) g4
            clear key
            cases a' with
            | none => exact z.1 rfl
            | some ad => exact z.2 ad rfl
        | _ => exact h.elim
      | _ => exact h.elim
/-! sources -/
theorem src_sl {o : Bool} {e elem : TypeId} {t : Ty} {l0 : Lab} {l : List (Data t)} {v : Value} (hx : ARep ω H (.d (.sl o e t) l0 l) v) :
    srcTy (.slice elem) t.n v = true ∧ ∃ new, new.length = l.length * t.n ∧ (∀ (i : Nat) (y : Data t), l[i]? = some y → RepD ω H t [] y ((new.drop (i * t.n)).take t.n)) ∧ ∀ K : Nat → List Value → Prop, K l.length new → srcK t.n v H K := by
  obtain ⟨vs, ⟨a, k, h1, h2, h3⟩, hu⟩ := hx
  subst h1
  have hu : v = .slice a (List.length (α := Data t) l) k := hu
  subst hu
  refine ⟨rfl, ?_⟩
  rcases h3 with ⟨rfl, e1, rfl⟩ | ⟨_, e1⟩ | ⟨b, off, w, e2, cs, rfl, g2, g3, g4, g5⟩
  · have e1 : l = [] := e1
    subst e1
    exact ⟨[], by simp, fun i y hy => by simp at hy, fun K hk => hk⟩
  · have e1 : l = [] := e1
    subst e1
    refine ⟨[], by simp, fun i y hy => by simp at hy, fun K hk => ?_⟩
    cases a with
    | none => exact hk
    | some ad =>
      have e2 : List.length (α := Data t) [] = 0 := rfl
      refine ⟨.inl (by rw [e2, Nat.zero_mul]), ?_⟩
      rw [e2, Nat.zero_mul]
      simpa [Hp.take] using hk
  · refine ⟨H.take b off (List.length (α := Data t) l * t.n), ?_, fun i y hy => ?_, fun K hk => ?_⟩
    · simp only [Hp.take, Hp.row, g2, List.length_take, List.length_drop]
      omega
    · have := g4 i y hy
      have hi : i < List.length (α := Data t) l := (List.getElem?_eq_some_iff.1 hy).1
      have hb : i * t.n + t.n ≤ List.length (α := Data t) l * t.n := by
        have := Nat.mul_le_mul_right t.n (show i + 1 ≤ List.length (α := Data t) l from hi)
        rw [Nat.succ_mul] at this
        exact this
      have e3 : ((H.take b off (List.length (α := Data t) l * t.n)).drop (i * t.n)).take t.n = (cs.drop (off + i * t.n)).take t.n := by
        simp only [Hp.take, Hp.row, g2]
        rw [List.drop_take, List.take_take, List.drop_drop]
        congr 1
        omega
      rw [e3]
      exact this
    · exact ⟨.inr ⟨w, e2, cs, g2, g3⟩, hk⟩
theorem bytes_chunk (s : List UInt8) (i : Nat) (y : Int) (hy : (bytesD s)[i]? = some y) : ((bytesV (mkS s)).drop i).take 1 = [.int .u8 y] := by
  unfold bytesD at hy
  rw [List.getElem?_map] at hy
  cases hb : s[i]? with
  | none => rw [hb] at hy; cases hy
  | some b =>
    rw [hb] at hy
    cases hy
    apply List.ext_getElem?
    intro j
    rw [List.getElem?_take]
    cases j with
    | zero => simp [bytesV, mkS, hb]
    | succ j => simp
theorem src_bytes {t : Ty} {d2 : TypeDesc} {x : A} {v : Value} {s : List UInt8} {m : List (Data t)} (hx : ARep ω H x v) (hs : strA x = some s) (h : srcB t d2 s = some m) :
    srcTy d2 t.n v = true ∧ ∃ new, new.length = m.length * t.n ∧ (∀ (i : Nat) (y : Data t), m[i]? = some y → RepD ω H t [] y ((new.drop (i * t.n)).take t.n)) ∧ ∀ K : Nat → List Value → Prop, K m.length new → srcK t.n v H K := by
  rw [strA_ok hx hs]
  cases t with
  | int k =>
    cases k with
    | u8 =>
      simp only [srcB] at h
      split at h
      · cases h
        have hl : (bytesV (mkS s)).length = (bytesD s).length := by simp [bytesV, mkS, bytesD]
        refine ⟨rfl, bytesV (mkS s), ?_, fun i y hy => ?_, fun K hk => ?_⟩
        · rw [show Ty.n (.int .u8) = 1 from rfl, Nat.mul_one]; exact hl
        · rw [show Ty.n (.int .u8) = 1 from rfl, Nat.mul_one]
          exact bytes_chunk s i y hy
        · show K (mkS s).size _
          have : (mkS s).size = (bytesD s).length := by simp [mkS_size, bytesD]
          rw [this]
          exact hk
      · cases h
    | _ => cases h
  | _ => cases h
theorem srcT_ok {e : TypeId} {t : Ty} {d2 : TypeDesc} {x : A} {v : Value} {m : List (Data t)} (hx : ARep ω H x v) (h : srcT e t d2 x = some m) :
    srcTy d2 t.n v = true ∧ ∃ new, new.length = m.length * t.n ∧ (∀ (i : Nat) (y : Data t), m[i]? = some y → RepD ω H t [] y ((new.drop (i * t.n)).take t.n)) ∧ ∀ K : Nat → List Value → Prop, K m.length new → srcK t.n v H K := by
  unfold srcT at h
  split at h
  · rename_i o e' t' l0 l
    split at h
    · split at h
      · rename_i l2 hl
        cases h
        have hc := castTo_vt hl
        cases hc
        exact src_sl hx
      · cases h
    · cases h
  · split at h
    · cases h
      rw [hx.1]
      exact ⟨rfl, [], by simp, fun i y hy => by simp at hy, fun K hk => hk⟩
    · cases h
  · split at h
    · rename_i s hs
      exact src_bytes hx hs h
    · cases h
theorem chunks_append {t : Ty} {l m : List (Data t)} {cs new : List Value} (hl : cs.length = l.length * t.n) (h1 : ∀ (i : Nat) (y : Data t), l[i]? = some y → RepD ω H t [] y ((cs.drop (i * t.n)).take t.n)) (h2 : ∀ (i : Nat) (y : Data t), m[i]? = some y → RepD ω H t [] y ((new.drop (i * t.n)).take t.n)) :
    ∀ (i : Nat) (y : Data t), (l ++ m)[i]? = some y → RepD ω H t [] y (((cs ++ new).drop (i * t.n)).take t.n) := by
  intro i y hy
  by_cases hi : i < l.length
  · rw [List.getElem?_append_left hi] at hy
    have hb : i * t.n + t.n ≤ cs.length := by
      have := Nat.mul_le_mul_right t.n (show i + 1 ≤ l.length from hi)
      rw [Nat.succ_mul] at this
      omega
    rw [List.drop_append_of_le_length (by omega), List.take_append_of_le_length (by simp; omega)]
    exact h1 i y hy
  · rw [List.getElem?_append_right (by omega)] at hy
    have he : i * t.n = cs.length + (i - l.length) * t.n := by rw [hl, ← Nat.add_mul]; congr 1; omega
    rw [he, List.drop_append, List.drop_eq_nil_of_le (by omega), List.nil_append, show cs.length + (i - l.length) * t.n - cs.length = (i - l.length) * t.n by omega]
    exact h2 _ y hy
end Go.Proofs.Ytbikpfccdcblfaa.Eng
/- The lifter, part 14: append, make, conversions. -/
namespace Go.Proofs.Ytbikpfccdcblfaa.Eng
open Go
set_option linter.unusedVariables false
set_option linter.unusedSimpArgs false
variable {Γ : Nat → Ty} {ω ω' ω0 : Nat → Lab} {H H' H0 : Hp} {g X : Lab} {st : TS} {S : Dh Γ} {σ lσ : Env} {P : Program}
variable {K : TV → TS → Dh Γ → Prop} {KH : Value → Hp → Prop} {c : TCfg Γ} {cH : Cfg} {d : Nat}

/-- What was owned under a label is used up; its block may be gone. -/
theorem use_ok (hi : TInv ω st S σ lσ H) (hf : Frm ω0 H0 ω H) {o : Option Lab} {Kx : TS → Prop} (h : useL o TS.consume st Kx) {ob : Nat → Bool} (hob : ∀ b, ob b = true → ∃ l q, o = some l ∧ ω b = 0 :: (l ++ q)) :
    ∃ st' ω', Kx st' ∧ TInv ω' st' S σ lσ ⟨fun b => if ob b = true then none else H.obj b, H.next⟩ ∧ Frm ω0 H0 ω' ⟨fun b => if ob b = true then none else H.obj b, H.next⟩ ∧ (∀ (t : Ty) l (x : Data t) vs, t.noOwn = true → RepD ω H t l x vs → RepD ω' ⟨fun b => if ob b = true then none else H.obj b, H.next⟩ t l x vs) := by
  cases o with
  | none =>
    have e : (⟨fun b => if ob b = true then none else H.obj b, H.next⟩ : Hp) = H := by
      have : (fun b => if ob b = true then none else H.obj b) = H.obj := funext fun b => by
        rw [if_neg]
        intro hb
        obtain ⟨l, q, e, _⟩ := hob b hb
        cases e
      rw [this]
    rw [e]
    exact ⟨st, ω, h, hi, hf, fun _ _ _ _ _ hr => hr⟩
  | some l =>
    obtain ⟨h1, h2⟩ := gd_elim h
    have ht : Turn l nol ω H (unlab l ω) ⟨fun b => if ob b = true then none else H.obj b, H.next⟩ := by
      refine ⟨fun b hn hr => ⟨by unfold unlab; rw [if_neg (by rw [hr]; decide)], fun _ => ?_⟩, .inl rfl, (unlab_turn l ω H).fresh, Nat.le_refl _⟩
      show (if ob b = true then none else H.obj b) = H.obj b
      rw [if_neg]
      intro hb
      obtain ⟨l', q, e, e2⟩ := hob b hb
      cases e
      rw [e2, inR_own, pre_app] at hr
      cases hr
    exact ⟨_, _, h2, hi.consume ht h1 ⟨(unlab_own l hi.own).inj, (unlab_own l hi.own).out⟩, hf.turn ht, fun t l2 x vs hn hr => hr.turn ht (by rw [hn]; rfl)⟩
theorem append_ok' (hP : cH.P = c.P) (hi : TInv ω st S σ lσ H) (hf : Frm ω0 H0 ω H) (hk : Aft ω0 H0 σ lσ K KH) {T T2 : TypeId} {s x : A} {u v : Value} (hs : ARep ω H s u) (hx : ARep ω H x v) (h : appendT c.P T T2 (c.vty d) d s x st fun v st => K v st S) : appendK cH.P T T2 u v H KH := by
  unfold appendT at h
  split at h
  · rename_i e t d2 _ hd2
    obtain ⟨g0, h⟩ := gd_elim h
    simp only [Bool.and_eq_true] at g0
    obtain ⟨a1, a2, a3, a4, a5, a6⟩ := g0
    have a4 := Nat.eq_of_beq_eq_true a4
    have a3 := Nat.le_of_ble_eq_true a3
    split at h
    · rename_i o l m hl hm
      obtain ⟨g1, h⟩ := gd_elim h
      obtain ⟨m1, new, m2, m3, m4⟩ := srcT_ok hx hm
      obtain ⟨vs, r1, r2⟩ := asD_ok hs hl
      have r3 := r1 (o.getD nol) (fun l' hl => by rw [hl]; rfl)
      obtain ⟨a, k, r4, r5, r6⟩ := id r3
      subst r4
      have hu : u = .slice a (List.length (α := Data t) l) k := r2
      subst hu
      unfold appendK
      rw [hP, slTy_elim a1, hd2]
      dsimp only
      unfold zeroFits at a6
      cases hii : c.P.info? e with
      | none => rw [hii] at a6; cases a6
      | some ii =>
        dsimp only
        have hsz : ii.size = t.n := by rw [← a4]; simp [szOf, hii]
        have hby : bytesOf c.P e = ii.bytes := by simp [bytesOf, hii]
        rw [hby] at g1 a5
        rw [hsz]
        refine gd_iff.2 ⟨m1, gd_iff.2 ⟨by simp only [Bool.and_eq_true]; exact ⟨a5, by unfold zeroFits; exact a6⟩, ?_⟩⟩
        rcases r6 with ⟨rfl, e1, rfl⟩ | ⟨e0, _⟩ | ⟨b, off, w, e2, cs, rfl, g2, g3, g4, g5⟩
        · -- nil
          have e1 : l = [] := e1
          subst e1
          dsimp only
          refine m4 _ ?_
          obtain ⟨st', ω', p1, p2, p3, p4⟩ := use_ok hi hf h (ob := fun _ => false) (fun b hb => by cases hb)
          have eH : (⟨fun b => if (fun _ => false) b = true then none else H.obj b, H.next⟩ : Hp) = H := by
            have : (fun b => if (fun (_ : Nat) => false) b = true then none else H.obj b) = H.obj := funext fun b => by simp
            rw [this]
          rw [eH] at p2 p3 p4
          have p1' : K (.a (.d (.sl true e t) [1, d] m)) (st'.free [1, d]) S := p1
          cases hz : Nat.beq m.length 0 with
          | true =>
            dsimp only
            have hm0 : m = [] := List.eq_nil_of_length_eq_zero (Nat.eq_of_beq_eq_true hz)
            subst hm0
            exact hk _ _ _ _ _ _ p1' p2.free ⟨_, ⟨none, 0, rfl, a2, .inl ⟨rfl, rfl, rfl⟩⟩, rfl⟩ (p3.turn (unlab_turn _ _ _))
          | false =>
            dsimp only
            obtain ⟨ω2, s1, s2, s3⟩ := fresh_own (e := e) (d := d) p2 p3 a2 a3 (l := m) (cs := new) m2 (fun i y hy => p4 _ _ _ _ a2 (m3 i y hy))
            refine gd_iff.2 ⟨?_, hk _ _ _ _ _ _ p1' s1 s2 s3⟩
            simp only [List.length_nil, Nat.zero_add] at g1
            exact g1
        · cases e0
        · rcases g5 with ⟨_, rfl, rfl, rfl, g6, rfl, g7, g8⟩ | ⟨e0, _⟩
          · dsimp only
            refine gd_iff.2 ⟨by simp [Nat.beq_refl, Nat.ble_eq_true_of_le g6], ⟨cs, g2, by omega⟩, ?_⟩
            refine m4 _ (gd_iff.2 ⟨g1, ?_⟩)
            have hob : ∀ b', decide (b' = b) = true → ∃ l' q, o = some l' ∧ ω b' = 0 :: (l' ++ q) := fun b' hb' => by
              have := of_decide_eq_true hb'
              subst this
              cases o with
              | some l' => exact ⟨l', [], rfl, by rw [g8, List.append_nil]; rfl⟩
              | none =>
                exfalso
                have := asD_const hs hl (fun _ => nol) ⟨fun _ => none, 0⟩ nol
                obtain ⟨a', k', z1, z2, z3⟩ := this
                have z1 : [Value.slice (some ⟨b', 0, none⟩) (List.length (α := Data t) l) t.n] = [Value.slice a' (List.length (α := Data t) l) k'] := z1
                rcases z3 with ⟨rfl, _⟩ | ⟨e0, _⟩ | ⟨_, _, _, _, _, _, z4, _⟩
                · cases z1
                · cases e0
                · cases z4
            obtain ⟨st', ω', p1, p2, p3, p4⟩ := use_ok hi hf h (ob := fun b' => decide (b' = b)) hob
            have eH : (⟨fun b' => if decide (b' = b) = true then none else H.obj b', H.next⟩ : Hp) = H.put b none := by
              have : (fun b' => if decide (b' = b) = true then none else H.obj b') = (H.put b none).obj := funext fun b' => by simp [Hp.put]
              rw [this]
              rfl
            rw [eH] at p2 p3 p4
            have ht : H.take b 0 (List.length (α := Data t) l * t.n) = cs := by
              simp only [Hp.take, Hp.row, g2, List.drop_zero]
              rw [← g7, List.take_length]
            rw [ht]
            obtain ⟨ω2, s1, s2, s3⟩ := fresh_own (e := e2) (d := d) p2 p3 a2 a3 (l := List.append (α := Data t) l m) (cs := cs ++ new) (by
              have el : List.length (α := Data t) (List.append (α := Data t) l m) = List.length (α := Data t) l + m.length := List.length_append
              rw [el, List.length_append, Nat.add_mul, g7, m2]) (fun i y hy => p4 _ _ _ _ a2 (chunks_append (l := l) (m := m) g7 (fun j z hz => by
                have := g4 j z hz
                rw [Nat.zero_add] at this
                exact this) m3 i y hy))
            have el : List.length (α := Data t) (List.append (α := Data t) l m) = List.length (α := Data t) l + m.length := List.length_append
            rw [el] at s2
            exact hk _ _ _ _ _ _ p1 s1 s2 s3
          · cases e0
    · exact h.elim
  · exact h.elim
theorem i64A_ok {a : A} {u : Value} {n : Int} (h : ARep ω H a u) (hs : i64A a = some n) : u = .int .i64 n := by
  unfold i64A at hs
  split at hs <;> cases hs
  · obtain ⟨vs, h1, h2⟩ := h; cases h1; exact h2
  · exact h.1
theorem zeros_chunk {z : Value} {n i k : Nat} (hz : z.cells.size = n) (hi : i < k) : ((zerosN z k).drop (i * n)).take n = z.cells.toList := by
  have hz' : z.cells.toList.length = n := hz
  induction k generalizing i with
  | zero => omega
  | succ k ih =>
    rw [zerosN_succ]
    cases i with
    | zero => rw [Nat.zero_mul, List.drop_zero, ← hz', List.take_left]
    | succ i =>
      rw [Nat.succ_mul, Nat.add_comm, ← hz', List.drop_append, List.drop_eq_nil_of_le (by omega), List.nil_append, show z.cells.toList.length + i * z.cells.toList.length - z.cells.toList.length = i * z.cells.toList.length by omega, hz']
      exact ih (by omega)
theorem makeSlice_ok' (hP : cH.P = c.P) (hi : TInv ω st S σ lσ H) (hf : Frm ω0 H0 ω H) (hk : Aft ω0 H0 σ lσ K KH) {draw : Bool} {t : TypeId} {l m : Operand} (h : opT c draw d (.makeSlice t l m) st S K) : opK cH draw (.makeSlice t l m) (arg cH.G σ) H KH := by
  simp only [opT] at h
  split at h
  · rename_i e ty hv
    obtain ⟨g0, h⟩ := gd_elim h
    simp only [Bool.and_eq_true] at g0
    obtain ⟨a1, a2, a3, a4⟩ := g0
    obtain ⟨a, h1, h⟩ := optP_elim h
    obtain ⟨b, h2, h⟩ := optP_elim h
    obtain ⟨n, h3, h⟩ := optP_elim h
    obtain ⟨r, h4, h⟩ := optP_elim h
    obtain ⟨z, h5, h⟩ := optP_elim h
    obtain ⟨g1, h⟩ := gd_elim h
    obtain ⟨u, q1, q2⟩ := argA_ok hi (G := cH.G) h1
    obtain ⟨v, q3, q4⟩ := argA_ok hi (G := cH.G) h2
    refine optP_intro q1 (optP_intro q3 ?_)
    rw [i64A_ok q2 h3, i64A_ok q4 h4]
    unfold makeSliceK
    rw [hP, slTy_elim a1]
    dsimp only
    have a4 := Nat.eq_of_beq_eq_true a4
    unfold zeroD at h5
    split at h5
    · rename_i z0 hz
      split at h5
      · rename_i hn
        have hn := Nat.eq_of_beq_eq_true hn
        obtain ⟨ii, hii, _⟩ := zeroOf_elim hz
        rw [hii, hz]
        dsimp only
        have hsz : ii.size = ty.n := by rw [← a4]; simp [szOf, hii]
        have hby : bytesOf c.P e = ii.bytes := by simp [bytesOf, hii]
        rw [hby] at g1
        refine gd_iff.2 ⟨g1, gd_iff.2 ⟨by rw [hn, hsz, Nat.beq_refl], ?_⟩⟩
        rw [hsz]
        obtain ⟨ω2, s1, s2, s3⟩ := fresh_own (e := e) (d := d) hi hf a2 (Nat.le_of_ble_eq_true a3) (l := List.replicate n.toNat z) (cs := zerosN z0 n.toNat) (by rw [zerosN_length, List.length_replicate, hn]) (fun i y hy => by
          obtain ⟨hlt, hy⟩ := List.getElem?_eq_some_iff.1 hy
          simp only [List.getElem_replicate] at hy
          subst hy
          simp only [List.length_replicate] at hlt
          have hch : ((zerosN z0 n.toNat).drop (i * ty.n)).take ty.n = z0.cells.toList := zeros_chunk hn hlt
          rw [hch]
          exact constD_ok h5)
        rw [List.length_replicate] at s2
        exact hk _ _ _ _ _ _ h s1 s2 s3
      · cases h5
    · cases h5
  · exact h.elim
theorem makeMap_ok' (hP : cH.P = c.P) (hi : TInv ω st S σ lσ H) (hf : Frm ω0 H0 ω H) (hk : Aft ω0 H0 σ lσ K KH) {draw : Bool} {t : TypeId} {r : Option Operand} (h : opT c draw d (.makeMap t r) st S K) : opK cH draw (.makeMap t r) (arg cH.G σ) H KH := by
  simp only [opT] at h
  split at h
  · rename_i kt vt k v hv
    obtain ⟨g0, h⟩ := gd_elim h
    simp only [Bool.and_eq_true] at g0
    obtain ⟨g0, g1⟩ := g0
    unfold mapOK at g0
    split at g0
    · rename_i kt' vt' hu
      simp only [Bool.and_eq_true] at g0
      obtain ⟨e1, e2, e3, e4, e5, e6⟩ := g0
      have e1 := Nat.eq_of_beq_eq_true e1
      subst e1
      obtain ⟨ω2, s1, s2, s3⟩ := fresh_map (d := d) (kt := kt) (vt := vt) hi hf e5 e4
      have fin := hk _ _ _ _ _ _ h s1 s2 s3
      simp only [opK]
      rw [hP, hu]
      cases r with
      | none => exact fin
      | some x =>
        dsimp only at g1 ⊢
        split at g1
        · rename_i a ha
          obtain ⟨u, q1, q2⟩ := argA_ok hi (G := cH.G) ha
          cases hia : intA a with
          | none => rw [hia] at g1; cases g1
          | some n =>
            obtain ⟨kk, hkk⟩ := intA_ok q2 hia
            rw [q1, hkk]
            exact fin
        · cases g1
    · cases g0
  · exact h.elim
theorem u8_cells {b off : Nat} {w : Bool} {e : TypeId} {cs : List Value} (L : List Int) (hb : H.obj b = some (.cells w e cs)) (h : ∀ (i : Nat) (y : Int), L[i]? = some y → (cs.drop (off + i * 1)).take 1 = [.int .u8 y])
    (g : (L.all fun n : Int => decide (0 ≤ n) && decide (n < 256)) = true) : H.take b off L.length = L.map (fun n : Int => Value.int .u8 n) ∧ (H.take b off L.length).all isByte = true ∧ strOf (H.take b off L.length) = mkS (L.map fun n : Int => UInt8.ofNat n.toNat) := by
  have hc : H.take b off L.length = L.map (fun n : Int => Value.int .u8 n) := by
    simp only [Hp.take, Hp.row, hb]
    apply List.ext_getElem?
    intro i
    rw [List.getElem?_take, List.getElem?_map]
    by_cases hlt : i < L.length
    · rw [if_pos hlt, List.getElem?_drop]
      have hy : L[i]? = some L[i] := by simp [hlt]
      have h0 := congrArg (fun l => l[0]?) (h i _ hy)
      simp only [List.getElem?_take, List.getElem?_drop, Nat.mul_one] at h0
      rw [hy]
      simpa using h0
    · rw [if_neg hlt, List.getElem?_eq_none (by omega)]
      rfl
  refine ⟨hc, ?_, ?_⟩
  · rw [hc, List.all_map]
    rw [List.all_eq_true] at g ⊢
    intro n hn
    exact g n hn
  · rw [hc]
    simp only [strOf, mkS, List.map_map]
    rfl
theorem convert_ok' (hP : cH.P = c.P) (hi : TInv ω st S σ lσ H) (hf : Frm ω0 H0 ω H) (hk : Aft ω0 H0 σ lσ K KH) {draw : Bool} {s t : TypeId} {x : Operand} (h : opT c draw d (.convert s t x) st S K) : opK cH draw (.convert s t x) (arg cH.G σ) H KH := by
  obtain ⟨a, h1, h⟩ := optP_elim h
  obtain ⟨u, q1, q2⟩ := argA_ok hi (G := cH.G) h1
  refine optP_intro q1 ?_
  unfold convertK
  rw [hP]
  split at h
  · rename_i sd k hs ht
    obtain ⟨n, h2, h⟩ := optP_elim h
    obtain ⟨kk, hkk⟩ := intA_ok q2 h2
    rw [hs, ht, hkk]
    exact hk _ _ _ _ _ _ h hi ⟨_, rfl, rfl⟩ hf
  · rename_i sd hs ht
    rw [hs, ht]
    split at h
    · rename_i w hw
      rw [strA_ok q2 hw]
      exact hk _ _ _ _ _ _ h hi ⟨_, rfl, rfl⟩ hf
    · split at h
      · rename_i e o e' l0 l _
        obtain ⟨g1, h⟩ := gd_elim h
        obtain ⟨g2, h⟩ := gd_elim h
        simp only [Bool.and_eq_true] at g1
        obtain ⟨g1, g3⟩ := g1
        obtain ⟨vs, ⟨a', k, r4, r5, r6⟩, r2⟩ := q2
        subst r4
        have hu : u = .slice a' (List.length (α := Int) l) k := r2
        subst hu
        dsimp only
        split at g3
        · rename_i hu8
          rw [hu8]
          dsimp only
          have fin : KH (.string (mkS (List.map (fun n : Int => UInt8.ofNat n.toNat) l))) H := hk _ _ _ _ _ _ h hi ⟨_, rfl, rfl⟩ hf
          rcases r6 with ⟨rfl, e1, rfl⟩ | ⟨_, e1⟩ | ⟨b, off, w, e2, cs, rfl, j2, j3, j4, j5⟩
          · have e1 : l = [] := e1
            subst e1
            exact fin
          · have e1 : l = [] := e1
            subst e1
            cases a' with
            | none => exact fin
            | some ad =>
              refine ⟨.inl rfl, ?_, ?_⟩
              · show (List.take 0 ((H.row ad.block).drop ad.off)).all isByte = true
                rw [List.take_zero]; rfl
              · have e3 : strOf (List.take 0 ((H.row ad.block).drop ad.off)) = mkS (List.map (fun n : Int => UInt8.ofNat n.toNat) []) := by rw [List.take_zero]; rfl
                show KH (.string (strOf (List.take 0 ((H.row ad.block).drop ad.off)))) H
                rw [e3]
                exact fin
          · obtain ⟨z1, z2, z3⟩ := u8_cells (H := H) (b := b) (off := off) l j2 (fun i y hy => j4 i y hy) g2
            exact ⟨.inr ⟨w, e2, cs, j2, by have := j3; rw [show Ty.n (.int .u8) = 1 from rfl, Nat.mul_one] at this; exact this⟩, z2, by rw [z3]; exact fin⟩
        · cases g3
      · exact h.elim
  · rename_i sd e hs ht
    rw [hs, ht]
    split at h
    · rename_i e' hv
      obtain ⟨w, h2, h⟩ := optP_elim h
      obtain ⟨g1, h⟩ := gd_elim h
      obtain ⟨g2, h⟩ := gd_elim h
      simp only [Bool.and_eq_true] at g1
      obtain ⟨g1, g3, g4⟩ := g1
      have g1 := Nat.eq_of_beq_eq_true g1
      subst g1
      rw [strA_ok q2 h2]
      dsimp only
      split at g4
      · rename_i hu8
        rw [hu8]
        dsimp only
        obtain ⟨ω2, s1, s2, s3⟩ := fresh_own (e := e) (d := d) hi hf (t := .int .u8) rfl (Nat.le_refl 1) (l := bytesD w) (cs := bytesV (mkS w)) (by
          rw [show Ty.n (.int .u8) = 1 from rfl, Nat.mul_one]
          exact (List.length_map ..).trans (List.length_map (as := w) fun b : UInt8 => (b.toNat : Int)).symm) (fun i y hy => by
          show ((bytesV (mkS w)).drop (i * 1)).take 1 = [.int .u8 y]
          rw [Nat.mul_one]
          exact bytes_chunk w i y hy)
        refine gd_iff.2 ⟨by simp only [Bool.and_eq_true]; exact ⟨g3, g2⟩, ?_⟩
        have e1 : List.length (α := Data (.int .u8)) (bytesD w) = (mkS w).size := by
          show (bytesD w).length = _
          simp [mkS_size, bytesD]
        rw [e1] at s2
        exact hk _ _ _ _ _ _ h s1 s2 s3
      · cases g4
    · exact h.elim
  · exact h.elim
end Go.Proofs.Ytbikpfccdcblfaa.Eng
/- The lifter, part 15: maps. -/
namespace Go.Proofs.Ytbikpfccdcblfaa.Eng
open Go
set_option linter.unusedVariables false
set_option linter.unusedSimpArgs false
variable {Γ : Nat → Ty} {ω ω' ω0 : Nat → Lab} {H H' H0 : Hp} {g X : Lab} {st : TS} {S : Dh Γ} {σ lσ : Env} {P : Program}
variable {K : TV → TS → Dh Γ → Prop} {KH : Value → Hp → Prop} {c : TCfg Γ} {cH : Cfg} {d : Nat}

theorem sc_scalar {T : TypeId} {t : Ty} (h : binT.sc P T t = true) {l : Lab} {x : Data t} {vs : List Value} (hx : RepD ω H t l x vs) : scalarTy P T (ofC t vs) = true ∧ ∀ cs, ofC t vs ≠ .agg cs := by
  unfold binT.sc at h
  cases t with
  | int k =>
    cases hx
    dsimp only at h
    split at h
    · rename_i k' hu
      have e := of_decide_eq_true h
      subst e
      exact ⟨by simp [scalarTy, hu, ofC, Ty.agg], fun cs e => by cases e⟩
    · cases h
  | bool =>
    cases hx
    dsimp only at h
    split at h
    · rename_i hu; exact ⟨by simp [scalarTy, hu, ofC, Ty.agg], fun cs e => by cases e⟩
    · cases h
  | str =>
    cases hx
    dsimp only at h
    split at h
    · rename_i hu; exact ⟨by simp [scalarTy, hu, ofC, Ty.agg], fun cs e => by cases e⟩
    · cases h
  | _ => cases h
theorem flat_key : ∀ {t : Ty} {fs : List Field} {o : Nat}, binT.flatEq P t fs o = true → ∀ {l : Lab} {x : Data t} {vs : List Value}, RepD ω H t l x vs → fieldsKey P o fs vs = true
  | .unit, [], o, h, l, x, vs, hx => by cases hx; rfl
  | .prod a b, f :: fs, o, h, l, x, vs, hx => by
    simp only [binT.flatEq, Bool.and_eq_true, Bool.not_eq_true'] at h
    obtain ⟨h1, h2, h3, h4, h5⟩ := h
    obtain ⟨v1, v2, rfl, x1, x2⟩ := hx
    obtain ⟨n1, a1⟩ := scalar_n h4
    have lv := x1.len
    rw [n1] at lv
    match v1, lv with
    | [v], _ =>
      have e := (sc_scalar h4 x1).1
      have ev : ofC a [v] = v := by unfold ofC; rw [a1]; rfl
      rw [ev] at e
      have ih := flat_key h5 x2
      simp only [List.singleton_append, fieldsKey, Bool.and_eq_true, Bool.not_eq_true']
      exact ⟨h1, h2, h3, e, ih⟩
  | .unit, _ :: _, _, h, _, _, _, _ => by cases h
  | .prod _ _, [], _, h, _, _, _, _ => by cases h
  | .int _, _, _, h, _, _, _, _ => by cases h
  | .bool, _, _, h, _, _, _, _ => by cases h
  | .str, _, _, h, _, _, _, _ => by cases h
  | .fn, _, _, h, _, _, _, _ => by cases h
  | .ptr _, _, _, h, _, _, _, _ => by cases h
  | .stale _, _, _, h, _, _, _, _ => by cases h
  | .sl .., _, _, h, _, _, _, _ => by cases h
  | .map .., _, _, h, _, _, _, _ => by cases h
theorem key_ok {T : TypeId} {t : Ty} (h : keyOK P T t = true) {l : Lab} {x : Data t} {vs : List Value} (hx : RepD ω H t l x vs) : keyTy P T (ofC t vs) = true := by
  have sc : binT.sc P T t = true → keyTy P T (ofC t vs) = true := fun hs => by
    obtain ⟨h1, h2⟩ := sc_scalar hs hx
    unfold keyTy
    split
    · rename_i cs e; exact absurd e (h2 cs)
    · exact h1
  unfold keyOK at h
  split at h
  · rename_i a b
    obtain ⟨_, _, fs, e, h1, h2, h3, h4, h5⟩ := eqOK_elim h
    show keyTy P T (.agg ⟨vs⟩) = true
    simp only [keyTy, h1, h2, Bool.not_false, Bool.true_and]
    exact flat_key h5 hx
  · exact sc h
theorem keyEq_ok {T : TypeId} {t : Ty} (h : keyOK P T t = true) {x y : Data t} {l l' : Lab} {vs ws : List Value} (hx : RepD ω H t l x vs) (hy : RepD ω H t l' y ws) : keyEq P T (ofC t vs) (ofC t ws) = eqD t x y := by
  unfold keyEq
  unfold keyOK at h
  split at h
  · rw [structEq (D := 3) h hx hy]; rfl
  · rw [scalarEq (D := 4) h hx hy]; rfl

/-- The entries of a map as data. -/
def EsR (ω : Nat → Lab) (H : Hp) (k v : Ty) (l : List (Data k × Data v)) (es : List (Value × Value)) : Prop :=
  All2 (fun p e => ∃ ks ws, e = (ofC k ks, ofC v ws) ∧ RepD ω H k [] p.1 ks ∧ RepD ω H v [] p.2 ws) l es
theorem EsR.of {k v : Ty} : ∀ {l : List (Data k × Data v)} {es : List (Value × Value)}, es.length = l.length → (∀ (i : Nat) (p : Data k × Data v), nth l i = some p → ∃ ks ws, es[i]? = some (ofC k ks, ofC v ws) ∧ RepD ω H k [] p.1 ks ∧ RepD ω H v [] p.2 ws) → EsR ω H k v l es
  | [], [], _, _ => trivial
  | [], _ :: _, h, _ => by cases h
  | _ :: _, [], h, _ => by cases h
  | p :: l, e :: es, h, hr => by
    refine ⟨?_, EsR.of (by simpa using h) fun i q hq => by have := hr (i + 1) q hq; simpa using this⟩
    obtain ⟨ks, ws, h1, h2, h3⟩ := hr 0 p rfl
    simp at h1
    exact ⟨ks, ws, h1, h2, h3⟩
theorem EsR.to {k v : Ty} {l : List (Data k × Data v)} {es : List (Value × Value)} (h : EsR ω H k v l es) : es.length = l.length ∧ ∀ (i : Nat) (p : Data k × Data v), nth l i = some p → ∃ ks ws, es[i]? = some (ofC k ks, ofC v ws) ∧ RepD ω H k [] p.1 ks ∧ RepD ω H v [] p.2 ws := by
  refine ⟨(All2.len h).symm, fun i p hp => ?_⟩
  obtain ⟨e, h1, ks, ws, rfl, h3, h4⟩ := All2.get h hp
  exact ⟨ks, ws, h1, h3, h4⟩
theorem find_ok {T : TypeId} {k v : Ty} (hk : keyOK P T k = true) {x : Data k} {xs : List Value} {lx : Lab} (hx : RepD ω H k lx x xs) : ∀ {l : List (Data k × Data v)} {es : List (Value × Value)}, EsR ω H k v l es →
    match tfind x l with
    | some y => ∃ i ws, midx P T (ofC k xs) es = some i ∧ (es[i]?).map (·.2) = some (ofC v ws) ∧ RepD ω H v [] y ws
    | none => midx P T (ofC k xs) es = none
  | [], [], _ => rfl
  | p :: l, e :: es, ⟨⟨ks, ws, h1, h2, h3⟩, hr⟩ => by
    subst h1
    have he := keyEq_ok hk hx h2
    have ih := find_ok (v := v) hk hx hr
    simp only [tfind, midx, he]
    cases hb : eqD k x p.1 with
    | true => exact ⟨0, ws, rfl, rfl, h3⟩
    | false =>
      simp only [cond_false]
      split at ih
      · rename_i y hy
        obtain ⟨i, ws', q1, q2, q3⟩ := ih
        exact ⟨i + 1, ws', by rw [q1]; rfl, by simpa using q2, q3⟩
      · rename_i hy
        rw [ih]
        rfl
  | [], _ :: _, h => h.elim
  | _ :: _, [], h => h.elim
theorem set_ok {T : TypeId} {k v : Ty} (hk : keyOK P T k = true) {x : Data k} {y : Data v} {xs ys : List Value} (hx : RepD ω H k [] x xs) (hy : RepD ω H v [] y ys) : ∀ {l : List (Data k × Data v)} {es : List (Value × Value)}, EsR ω H k v l es → EsR ω H k v (tset x y l) (mset P T (ofC k xs) (ofC v ys) es)
  | [], [], _ => ⟨⟨xs, ys, rfl, hx, hy⟩, trivial⟩
  | p :: l, e :: es, ⟨⟨ks, ws, h1, h2, h3⟩, hr⟩ => by
    subst h1
    have he := keyEq_ok hk hx h2
    have ih := set_ok hk hx hy hr
    unfold mset at ih ⊢
    simp only [tset, midx, he]
    cases hb : eqD k x p.1 with
    | true => exact ⟨⟨xs, ys, rfl, hx, hy⟩, hr⟩
    | false =>
      simp only [cond_false]
      cases hm : midx P T (ofC k xs) es with
      | none =>
        rw [hm] at ih
        exact ⟨⟨ks, ws, rfl, h2, h3⟩, ih⟩
      | some i =>
        rw [hm] at ih
        exact ⟨⟨ks, ws, rfl, h2, h3⟩, ih⟩
  | [], _ :: _, h => h.elim
  | _ :: _, [], h => h.elim
theorem del_ok {T : TypeId} {k v : Ty} (hk : keyOK P T k = true) {x : Data k} {xs : List Value} (hx : RepD ω H k [] x xs) : ∀ {l : List (Data k × Data v)} {es : List (Value × Value)}, EsR ω H k v l es → EsR ω H k v (tdel x l) (mdel P T (ofC k xs) es)
  | [], [], _ => trivial
  | p :: l, e :: es, ⟨⟨ks, ws, h1, h2, h3⟩, hr⟩ => by
    subst h1
    have he := keyEq_ok hk hx h2
    have ih := del_ok hk hx hr
    unfold mdel at ih ⊢
    simp only [tdel, midx, he]
    cases hb : eqD k x p.1 with
    | true => exact hr
    | false =>
      simp only [cond_false]
      cases hm : midx P T (ofC k xs) es with
      | none =>
        rw [hm] at ih
        exact ⟨⟨ks, ws, rfl, h2, h3⟩, ih⟩
      | some i =>
        rw [hm] at ih
        exact ⟨⟨ks, ws, rfl, h2, h3⟩, ih⟩
  | [], _ :: _, h => h.elim
  | _ :: _, [], h => h.elim
theorem mapOK_elim {T kt vt : TypeId} {k v : Ty} (h : mapOK P T kt vt k v = true) : P.underlying T = some (.map kt vt) ∧ keyOK P kt k = true ∧ v.noOwn = true ∧ k.noOwn = true ∧ fits P vt v = true ∧ (zeroOf P vt).isSome = true := by
  unfold mapOK at h
  split at h
  · rename_i kt' vt' hu
    simp only [Bool.and_eq_true] at h
    obtain ⟨e1, e2, e3, e4, e5, e6, e7⟩ := h
    rw [Nat.eq_of_beq_eq_true e1, Nat.eq_of_beq_eq_true e2]
    exact ⟨hu, by rw [← Nat.eq_of_beq_eq_true e1]; exact e3, e4, e5, by rw [← Nat.eq_of_beq_eq_true e2]; exact e6, by rw [← Nat.eq_of_beq_eq_true e2]; exact e7⟩
  · cases h
theorem seenK_intro {z v : Value} {K : Value → Prop} (hk : kindOK (kndV z) v) (h : K v) : seenK z v K := by
  cases z <;> simp only [kndV, kindOK] at hk <;> unfold seenK <;> first
    | (obtain ⟨n, rfl⟩ := hk; exact ⟨n, rfl, h⟩)
    | (obtain ⟨a, n, k, rfl⟩ := hk; exact ⟨a, n, k, rfl, h⟩)
    | exact h
theorem seen_ok {T : TypeId} {t : Ty} {z : Value} (hf : fits P T t = true) (hz : zeroOf P T = some z) {l : Lab} {x : Data t} {vs : List Value} (hr : RepD ω H t l x vs) {K : Value → Prop} (h : K (ofC t vs)) : seenK z (ofC t vs) K := by
  obtain ⟨i, z0, d, h1, h2, h3, h4, h5, h6, h7, h8, h9⟩ := fits_elim hf
  obtain ⟨i', k1, k2, k3⟩ := zeroOf_elim hz
  rw [h1] at k1
  cases k1
  rw [h3] at k2
  cases k2
  cases e : t.agg with
  | true =>
    have hz2 := h9.trans e
    have hv : ofC t vs = .agg ⟨vs⟩ := by unfold ofC; rw [e]
    rw [hv]
    rw [hv] at h
    cases z <;> first | exact h | cases hz2
  | false =>
    have hkn := hr.kinds
    rw [← h8 e] at hkn
    match vs, hkn with
    | [v], hkn =>
      have ev : ofC t [v] = v := by unfold ofC; rw [e]; rfl
      rw [ev] at h ⊢
      exact seenK_intro hkn.1 h
theorem lookup_ok' (hP : cH.P = c.P) (hi : TInv ω st S σ lσ H) (hf : Frm ω0 H0 ω H) (hk : Aft ω0 H0 σ lσ K KH) {draw : Bool} {t : TypeId} {m k : Operand} {ok : Bool} (h : opT c draw d (.lookup t m k ok) st S K) : opK cH draw (.lookup t m k ok) (arg cH.G σ) H KH := by
  obtain ⟨a, h1, h⟩ := optP_elim h
  obtain ⟨b, h2, h⟩ := optP_elim h
  obtain ⟨u, q1, q2⟩ := argA_ok hi (G := cH.G) h1
  obtain ⟨w, q3, q4⟩ := argA_ok hi (G := cH.G) h2
  refine optP_intro q1 (optP_intro q3 ?_)
  cases a with
  | d ty l0 l =>
    cases ty with
    | map own kt vt kty vty =>
      obtain ⟨g0, h⟩ := gd_elim h
      obtain ⟨key, h3, h⟩ := optP_elim h
      obtain ⟨e1, e2, e3, e4, e5, hzo⟩ := mapOK_elim g0
      obtain ⟨ks, r1, r2, _⟩ := asD_cells e4 q4 (o := key.1) (x := key.2) h3
      obtain ⟨vs, ⟨mo, j1, j4, j5, j⟩, hu⟩ := q2
      subst j1
      have hu : u = .map mo := hu
      rw [hu, r2]
      unfold lookupK
      rw [hP, e1]
      obtain ⟨i, z, dd, z1, z2, z3, z4, z5, z6, z7, z8, z9⟩ := fits_elim e5
      refine gd_iff.2 ⟨key_ok e2 r1, ?_⟩
      rcases j with ⟨_, rfl, e0⟩ | ⟨mm, es, rfl, j3, j6, j7, j8⟩
      · have e0 : l = [] := e0
        subst e0
        have hzd : ∀ {z : Value} {zd : Data vty}, zeroOf c.P vt = some z → zeroD c.P vt vty = some zd → RepD ω H vty nol zd z.cells.toList ∧ z = ofC vty z.cells.toList := by
          intro zz zd hz h4
          unfold zeroD at h4
          rw [hz] at h4
          split at h4
          · rename_i z2 hz2
            cases hz2
            split at h4
            · obtain ⟨_, k1, k2, k3⟩ := zeroOf_elim hz
              rw [z1] at k1
              cases k1
              rw [z3] at k2
              cases k2
              exact ⟨constD_ok h4, constD_agg k3 h4 (by rw [z9]; cases vty.agg <;> rfl)⟩
            · cases h4
          · cases h4
        cases hz : zeroOf c.P vt with
        | none => rw [hz] at hzo; cases hzo
        | some zz =>
          cases ok with
          | true =>
            obtain ⟨zd, h4, h⟩ := optP_elim (o := zeroD c.P vt vty) h
            obtain ⟨k1, k2⟩ := hzd hz h4
            exact hk _ _ _ _ _ _ h hi ⟨[zz, .bool false], rfl, ⟨_, k1, k2⟩, ⟨_, rfl, rfl⟩, trivial⟩ hf
          | false =>
            obtain ⟨zd, h4, h⟩ := optP_elim (o := zeroD c.P vt vty) h
            obtain ⟨k1, k2⟩ := hzd hz h4
            exact hk _ _ _ _ _ _ h hi ⟨_, k1, k2⟩ hf
      have hes := EsR.of (l := l) j6 j7
      have hfd := find_ok (v := vty) e2 r1 hes
      split at h
      · rename_i v hv
        rw [hv] at hfd
        obtain ⟨ix, ws, p1, p2, p3⟩ := hfd
        cases hz : zeroOf c.P vt with
        | none => rw [hz] at hzo; cases hzo
        | some zz =>
          dsimp only
          refine ⟨es, j3, ?_⟩
          have hmf : mfind c.P kt (ofC kty ks) es = some (ofC vty ws) := by unfold mfind; rw [p1]; exact p2
          rw [hmf]
          dsimp only
          refine seen_ok e5 hz p3 ?_
          cases ok with
          | true => exact hk _ _ _ _ _ _ h hi ⟨[ofC vty ws, .bool true], rfl, ⟨ws, p3.any e3, rfl⟩, ⟨_, rfl, rfl⟩, trivial⟩ hf
          | false => exact hk _ _ _ _ _ _ h hi ⟨ws, p3.any e3, rfl⟩ hf
      · rename_i hv
        rw [hv] at hfd
        obtain ⟨zd, h4, h⟩ := optP_elim h
        unfold zeroD at h4
        split at h4
        · rename_i zz hz
          split at h4
          · rename_i hn
            rw [hz]
            dsimp only
            refine ⟨es, j3, ?_⟩
            have hmf : mfind c.P kt (ofC kty ks) es = none := by unfold mfind; rw [hfd]
            rw [hmf]
            dsimp only
            obtain ⟨_, k1, k2, k3⟩ := zeroOf_elim hz
            rw [z1] at k1
            cases k1
            rw [z3] at k2
            cases k2
            have hrz : RepD ω H vty nol zd z.cells.toList := constD_ok h4
            have hev : z = ofC vty z.cells.toList := constD_agg k3 h4 (by rw [z9]; cases vty.agg <;> rfl)
            cases ok with
            | true => exact hk _ _ _ _ _ _ h hi ⟨[z, .bool false], rfl, ⟨_, hrz, hev⟩, ⟨_, rfl, rfl⟩, trivial⟩ hf
            | false => exact hk _ _ _ _ _ _ h hi ⟨_, hrz, hev⟩ hf
          · cases h4
        · cases h4
    | _ => exact h.elim
  | _ => exact h.elim
/-- A map of the call's own gets other entries. -/
theorem map_turn (hi : TInv ω st S σ lσ H) (hf : Frm ω0 H0 ω H) {kt vt : TypeId} {k v : Ty} {l0 : Lab} {l : List (Data k × Data v)} {m : Nat} {es : List (Value × Value)} (hl : okL l0 = true) (hm : ω m = 0 :: l0) (ho : H.obj m = some (.map kt es)) (hkn : k.noOwn = true) (hvn : v.noOwn = true)
    {F : List (Data k × Data v) → List (Data k × Data v)} {es' : List (Value × Value)} (hF : ∀ l, EsR ω H k v l es → EsR ω H k v (F l) es') :
    TInv ω (st.upd l0 (.map true kt vt k v) F) S σ lσ (H.put m (some (.map kt es'))) ∧ Frm ω0 H0 ω (H.put m (some (.map kt es'))) := by
  have hreg : inR l0 (ω m) = true := by
    rw [hm, inR_own]
    have := pre_app l0 []
    rwa [List.append_nil] at this
  have ht : Turn l0 nol ω H ω (H.put m (some (.map kt es'))) := by
    refine ⟨fun b' hn hr' => ⟨rfl, fun _ => ?_⟩, .inl rfl, fun b' hb' => absurd rfl hb', Nat.le_refl _⟩
    rw [put_obj, if_neg]
    intro e
    subst e
    rw [hreg] at hr'
    cases hr'
  have hz : ∀ b, ω b = fz → ω b = fz ∧ (H.put m (some (.map kt es'))).obj b = H.obj b := ht.hz
  refine ⟨hi.upd ht hl (own_put hi.own _ _) fun x vs hx => ?_, hf.turn ht⟩
  obtain ⟨mo, j1, j4, j5, ⟨e0, _⟩ | ⟨mm, es2, rfl, j3, j6, j7, ⟨_, j2⟩ | ⟨e0, _⟩⟩⟩ := hx
  · cases e0
  rotate_left
  · cases e0
  have hmm : mm = m := hi.own.inj mm m (j2.trans hm.symm) (by rw [j2]; intro e; cases e) (by rw [j2]; intro e; cases e)
  subst hmm
  rw [ho] at j3
  cases j3
  have h1 := hF x (EsR.of j6 j7)
  obtain ⟨h2, h3⟩ := EsR.to h1
  refine ⟨some mm, j1, j4, j5, .inr ⟨mm, es', rfl, by rw [put_obj, if_pos rfl], h2, fun i p hp => ?_, .inl ⟨rfl, j2⟩⟩⟩
  obtain ⟨ks, ws, a, b, c⟩ := h3 i p hp
  exact ⟨ks, ws, a, b.move hz (.inl hkn), c.move hz (.inl hvn)⟩
theorem update_ok' (hP : cH.P = c.P) (hi : TInv ω st S σ lσ H) (hf : Frm ω0 H0 ω H) (hk : Aft ω0 H0 σ lσ K KH) {t : TypeId} {m k v : Operand} (h : optP (argA st m) fun m => optP (argA st k) fun k => optP (argA st v) fun v => match m with
    | .d (.map true kt vt kty vty) ℓ l => gd (mapOK c.P t kt vt kty vty) <| optP (asD kty k) fun key => optP (asD vty v) fun x => gd (okL ℓ) <| K (.a .un) (st.upd ℓ (.map true kt vt kty vty) fun l => tset key.2 x.2 l) S
    | _ => False) : optP (arg cH.G σ m) fun m => optP (arg cH.G σ k) fun k => optP (arg cH.G σ v) fun v => updateK cH.P t m k v H (KH undef) := by
  obtain ⟨a, h1, h⟩ := optP_elim h
  obtain ⟨b, h2, h⟩ := optP_elim h
  obtain ⟨cc, h3, h⟩ := optP_elim h
  obtain ⟨u, q1, q2⟩ := argA_ok hi (G := cH.G) h1
  obtain ⟨w, q3, q4⟩ := argA_ok hi (G := cH.G) h2
  obtain ⟨z, q5, q6⟩ := argA_ok hi (G := cH.G) h3
  refine optP_intro q1 (optP_intro q3 (optP_intro q5 ?_))
  cases a with
  | d ty l0 l =>
    cases ty with
    | map own kt vt kty vty =>
      cases own with
      | false => exact h.elim
      | true =>
      obtain ⟨g0, h⟩ := gd_elim h
      obtain ⟨key, h3, h⟩ := optP_elim h
      obtain ⟨x, h4, h⟩ := optP_elim h
      obtain ⟨g1, h⟩ := gd_elim h
      obtain ⟨e1, e2, e3, e4, e5, hzo⟩ := mapOK_elim g0
      obtain ⟨ks, r1, r2, _⟩ := asD_cells e4 q4 (o := key.1) (x := key.2) h3
      obtain ⟨ws, s1, s2, _⟩ := asD_cells e3 q6 (o := x.1) (x := x.2) h4
      obtain ⟨vs, ⟨mo, j1, j4, j5, ⟨e0, _⟩ | ⟨mm, es, rfl, j3, j6, j7, ⟨_, j2⟩ | ⟨e0, _⟩⟩⟩, hu⟩ := q2
      · cases e0
      rotate_left
      · cases e0
      subst j1
      have hu : u = .map (some mm) := hu
      rw [hu, r2, s2]
      unfold updateK
      rw [hP, e1]
      refine gd_iff.2 ⟨key_ok e2 r1, optP_intro rfl ⟨es, j3, ?_⟩⟩
      obtain ⟨p1, p2⟩ := map_turn (l := l) hi hf g1 j2 j3 e4 e3 (F := fun l => tset key.2 x.2 l) (fun l hl => set_ok e2 r1 s1 hl) (vt := vt)
      exact hk _ _ _ _ _ _ h p1 rfl p2
    | _ => exact h.elim
  | _ => exact h.elim
theorem delete_ok' (hP : cH.P = c.P) (hi : TInv ω st S σ lσ H) (hf : Frm ω0 H0 ω H) (hk : Aft ω0 H0 σ lσ K KH) {t : TypeId} {a b : A} {u w : Value} (h : match a with
    | .d (.map true kt vt kty vty) ℓ l => gd (mapOK c.P t kt vt kty vty) <| optP (asD kty b) fun key => gd (okL ℓ) <| K (.tup []) (st.upd ℓ (.map true kt vt kty vty) fun l => tdel key.2 l) S
    | _ => False) (q2 : ARep ω H a u) (q4 : ARep ω H b w) : deleteK cH.P t u w H (KH (.tuple #[])) := by
  cases a with
  | d ty l0 l =>
    cases ty with
    | map own kt vt kty vty =>
      cases own with
      | false => exact h.elim
      | true =>
      obtain ⟨g0, h⟩ := gd_elim h
      obtain ⟨key, h3, h⟩ := optP_elim h
      obtain ⟨g1, h⟩ := gd_elim h
      obtain ⟨e1, e2, e3, e4, e5, hzo⟩ := mapOK_elim g0
      obtain ⟨ks, r1, r2, _⟩ := asD_cells e4 q4 (o := key.1) (x := key.2) h3
      obtain ⟨vs, ⟨mo, j1, j4, j5, ⟨e0, _⟩ | ⟨mm, es, rfl, j3, j6, j7, ⟨_, j2⟩ | ⟨e0, _⟩⟩⟩, hu⟩ := q2
      · cases e0
      rotate_left
      · cases e0
      subst j1
      have hu : u = .map (some mm) := hu
      rw [hu, r2]
      unfold deleteK
      rw [hP, e1]
      refine gd_iff.2 ⟨key_ok e2 r1, ⟨es, j3, ?_⟩⟩
      obtain ⟨p1, p2⟩ := map_turn (l := l) hi hf g1 j2 j3 e4 e3 (F := fun l => tdel key.2 l) (fun l hl => del_ok e2 r1 hl) (vt := vt)
      exact hk (.tup []) _ _ _ _ _ h p1 ⟨[], rfl, trivial⟩ p2
    | _ => exact h.elim
  | _ => exact h.elim
end Go.Proofs.Ytbikpfccdcblfaa.Eng
/- The lifter, part 16: calls. -/
namespace Go.Proofs.Ytbikpfccdcblfaa.Eng
open Go
set_option linter.unusedVariables false
set_option linter.unusedSimpArgs false
variable {Γ : Nat → Ty} {ω ω' ω0 : Nat → Lab} {H H' H0 : Hp} {g X : Lab} {st : TS} {S : Dh Γ} {σ lσ : Env} {P : Program}
variable {K : TV → TS → Dh Γ → Prop} {KH : Value → Hp → Prop} {c : TCfg Γ} {cH : Cfg} {d : Nat}

def Pars (ω : Nat → Lab) (H : Hp) : (ts : List Ty) → DataL ts → List Value → Prop
  | [], _, [] => True
  | t :: ts, x, v :: vs => (t.noOwn = true ∧ ∃ cs, RepD ω H t nol x.1 cs ∧ v = ofC t cs) ∧ Pars ω H ts x.2 vs
  | _, _, _ => False
def Rets (ω : Nat → Lab) (H : Hp) (g : Lab) : (ts : List Ty) → Nat → DataL ts → List Value → Prop
  | [], _, _, [] => True
  | t :: ts, i, x, v :: vs => (∃ cs, RepD ω H t (g ++ [i]) x.1 cs ∧ v = ofC t cs) ∧ Rets ω H g ts (i + 1) x.2 vs
  | _, _, _, _ => False
def plainD : (t : Ty) → Data t → Value
  | .int k, n => .int k n
  | .bool, b => .bool b
  | .str, s => .string (mkS s)
  | _, _ => undef
def plainL : (ts : List Ty) → DataL ts → List Value
  | [], _ => []
  | t :: ts, x => plainD t x.1 :: plainL ts x.2
/-- All that lies there is set aside. -/
def keepW (ω : Nat → Lab) (n : Nat) (b : Nat) : Lab := if ω b = fz then fz else if b < n then [10, b] else nol
theorem keep_own (ho : Own ω H) : Own (keepW ω H.next) H := by
  refine ⟨fun b b' e h1 h2 => ?_, fun b hb => ?_⟩
  · unfold keepW at e h1 h2
    by_cases c1 : ω b = fz
    · rw [if_pos c1] at h1; exact absurd rfl h1
    · rw [if_neg c1] at e h1 h2
      by_cases c2 : b < H.next
      · rw [if_pos c2] at e
        split at e
        · cases e
        · split at e
          · simpa using e
          · cases e
      · rw [if_neg c2] at h2; exact absurd rfl h2
  · unfold keepW
    rw [if_neg, if_neg (by omega)]
    rw [ho.out b hb]
    decide
/-- A function's summary, over cells. -/
def spT (sp : TSp Γ) : Sp := ⟨sp.calm, fun vs H K => match sp.calm with
  | true => sp.rs.all plainT = true ∧ ∃ ω xs K0, Pars ω H sp.ps xs vs ∧ Own ω H ∧ sp.run xs Dh.empty K0 ∧ ∀ ys S', K0 ys S' → K (oneOf (plainL sp.rs ys)) H
  | false => match sp.keep with
    | false => ∃ ω S xs K0, Pars ω H sp.ps xs vs ∧ DynR ω H S ∧ Own ω H ∧ sp.run xs S K0 ∧
      ∀ ys S', K0 ys S' → ∀ ω' H' vs', Frm ω H ω' H' → DynR ω' H' S' → Own ω' H' → Rets ω' H' [7] sp.rs 0 ys vs' → K (oneOf vs') H'
    | true => ∃ ω xs K0, Pars ω H sp.ps xs vs ∧ Own ω H ∧ sp.run xs Dh.empty K0 ∧
      ∀ ys S', K0 ys S' → ∀ ω' H' vs', Frm (keepW ω H.next) H ω' H' → Own ω' H' → Rets ω' H' [7] sp.rs 0 ys vs' → K (oneOf vs') H', sp.keep && !sp.calm⟩
theorem Pars.move (hz : ∀ b, ω b = fz → ω' b = fz ∧ H'.obj b = H.obj b) : ∀ {ts : List Ty} {xs : DataL ts} {vs : List Value}, Pars ω H ts xs vs → Pars ω' H' ts xs vs
  | [], _, [], _ => trivial
  | t :: ts, x, v :: vs, ⟨⟨h1, cs, h2, h3⟩, h4⟩ => ⟨⟨h1, cs, h2.move hz (.inl h1), h3⟩, h4.move hz⟩
  | [], _, _ :: _, h => h.elim
  | _ :: _, _, [], h => h.elim
theorem Pars.len : ∀ {ts : List Ty} {xs : DataL ts} {vs : List Value}, Pars ω H ts xs vs → vs.length = ts.length
  | [], _, [], _ => rfl
  | t :: ts, x, v :: vs, h => by simp [Pars.len h.2]
  | [], _, _ :: _, h => h.elim
  | _ :: _, _, [], h => h.elim
theorem Rets.tv {g : Lab} : ∀ {ts : List Ty} {i : Nat} {xs : DataL ts} {vs : List Value}, Rets ω H g ts i xs vs → All2 (ARep ω H) (resL ts i g xs) vs
  | [], _, _, [], _ => trivial
  | t :: ts, i, x, v :: vs, h => ⟨h.1, Rets.tv h.2⟩
  | [], _, _, _ :: _, h => h.elim
  | _ :: _, _, _, [], h => h.elim
theorem All2.one {l : List A} {us : List Value} (h : All2 (ARep ω H) l us) : TRep ω H (tvOf l) (oneOf us) := by
  match l, us, h with
  | [], [], _ => exact ⟨[], rfl, trivial⟩
  | [a], [v], h2 => exact h2.1
  | a :: b :: l, v :: w :: vs, h2 => exact ⟨v :: w :: vs, rfl, h2⟩
  | [], _ :: _, h2 => exact h2.elim
  | [_], [], h2 => exact h2.elim
  | [_], _ :: _ :: _, h2 => exact h2.2.elim
  | _ :: _ :: _, [], h2 => exact h2.elim
  | _ :: _ :: _, [_], h2 => exact h2.2.elim
theorem resT_ok {g : Lab} {ts : List Ty} {xs : DataL ts} {vs : List Value} (h : Rets ω H g ts 0 xs vs) : TRep ω H (resT ts g xs) (oneOf vs) := by
  unfold resT
  exact h.tv.one

/-! arguments: frozen for good -/
theorem All2.frz {l : Lab} {as : List A} {us : List Value} (h : All2 (ARep ω H) as us) (hl : (as.map (A.frz l)).all (A.live l) = true) : All2 (ARep (frozeL l ω) H) (as.map (A.frz l)) us := by
  induction as generalizing us with
  | nil => cases us with
    | nil => trivial
    | cons u us => exact h.elim
  | cons a as ih => cases us with
    | nil => exact h.elim
    | cons u us =>
      simp only [List.map_cons, List.all_cons, Bool.and_eq_true] at hl
      exact ⟨h.1.frz hl.1, ih h.2 hl.2⟩
theorem takeL_ok : ∀ {ts : List Ty} {as : List A} {us : List Value} {st : TS} {ω : Nat → Lab} {Kx : DataL ts → TS → Prop}, takeL false ts as st Kx → TInv ω st S σ lσ H → Frm ω0 H0 ω H → All2 (ARep ω H) as us →
    ∃ xs st' ω', Kx xs st' ∧ TInv ω' st' S σ lσ H ∧ Frm ω0 H0 ω' H ∧ Pars ω' H ts xs us ∧ ∀ b, ω b = fz → ω' b = fz
  | [], [], us, st, ω, Kx, h, hi, hf, ha => by
    cases us with
    | nil => exact ⟨(), st, ω, h, hi, hf, trivial, fun _ h => h⟩
    | cons u us => exact ha.elim
  | t :: ts, a :: as, us, st, ω, Kx, h, hi, hf, ha => by
    cases us with
    | nil => exact ha.elim
    | cons u us =>
      have h : takeA false t a as st (fun x as st => takeL false ts as st fun xs st => Kx (x, xs) st) := h
      unfold takeA at h
      split at h
      · rename_i o x hx
        obtain ⟨hn, h⟩ := gd_elim h
        obtain ⟨cs, r1, r2, r3⟩ := asD_cells hn ha.1 hx
        obtain ⟨xs, st', ω', q1, q2, q3, q4, q5⟩ := takeL_ok h hi hf ha.2
        exact ⟨(x, xs), st', ω', q1, q2, q3, ⟨⟨hn, cs, r1.move (fun b hb => ⟨q5 b hb, rfl⟩) (.inl hn), r2⟩, q4⟩, q5⟩
      · split at h
        · rename_i t' l x _ _
          split at h
          · rename_i y hy
            obtain ⟨hn, h⟩ := gd_elim h
            obtain ⟨hl, h⟩ := gd_elim h
            simp only [Bool.and_eq_true] at hn
            have hc := castTo_vt hy
            obtain ⟨vs, r1, r2⟩ := ha.1
            have hno : (roS t' x).1.noOwn = true := by rw [hc]; exact hn.1
            have r3 := r1.frozen (l' := nol) hno
            have hag : ofC t' vs = ofC (roS t' x).1 vs := ofC_agg (roS_n t' x).2.symm vs
            rw [hc] at r3 hag
            obtain ⟨xs, st', ω', q1, q2, q3, q4, q5⟩ := takeL_ok h (hi.freeze hn.2) (hf.turn (frozeL_turn l ω H)) (All2.frz ha.2 hl)
            refine ⟨(y, xs), st', ω', q1, q2, q3, ⟨⟨hn.1, vs, r3.move (fun b hb => ⟨q5 b hb, rfl⟩) (.inl hn.1), by rw [r2, hag]⟩, q4⟩, fun b hb => q5 b ?_⟩
            exact ((frozeL_turn l ω H).hz b hb).1
          · exact h.elim
        · exact h.elim
  | [], _ :: _, _, _, _, _, h, _, _, _ => h.elim
  | _ :: _, [], _, _, _, _, h, _, _, _ => h.elim
/-! .. or borrowed -/
def calmW (ω : Nat → Lab) (b : Nat) : Lab := match ω b with | 0 :: _ => fz | l => l
theorem calmW_own (h : Own ω H) : Own (calmW ω) H := by
  refine ⟨fun b b' e h1 h2 => ?_, fun b hb => ?_⟩
  · unfold calmW at e h1 h2
    split at e
    · rename_i h3; rw [h3] at h1; exact absurd rfl h1
    · rename_i h3
      split at e
      · rename_i h4
        exfalso
        apply h1
        split
        · rfl
        · exact e
      · exact h.inj b b' e (by intro e2; apply h1; rw [e2]; rfl) (by intro e2; apply h2; rw [e2]; rfl)
  · unfold calmW
    rw [h.out b hb]
    rfl
theorem takeL_calm : ∀ {ts : List Ty} {as : List A} {us : List Value} {st : TS} {Kx : DataL ts → TS → Prop}, takeL true ts as st Kx → All2 (ARep ω H) as us → ∃ xs, Kx xs st ∧ Pars (calmW ω) H ts xs us
  | [], [], us, st, Kx, h, ha => by
    cases us with
    | nil => exact ⟨(), h, trivial⟩
    | cons u us => exact ha.elim
  | t :: ts, a :: as, us, st, Kx, h, ha => by
    have hz : ∀ b, ω b = fz → calmW ω b = fz ∧ H.obj b = H.obj b := fun b hb => ⟨by unfold calmW; rw [hb]; rfl, rfl⟩
    cases us with
    | nil => exact ha.elim
    | cons u us =>
      have h : takeA true t a as st (fun x as st => takeL true ts as st fun xs st => Kx (x, xs) st) := h
      unfold takeA at h
      split at h
      · rename_i o x hx
        obtain ⟨hn, h⟩ := gd_elim h
        obtain ⟨cs, r1, r2, r3⟩ := asD_cells hn ha.1 hx
        obtain ⟨xs, q1, q2⟩ := takeL_calm h ha.2
        exact ⟨(x, xs), q1, ⟨hn, cs, r1.move hz (.inl hn), r2⟩, q2⟩
      · split at h
        · rename_i t' l x _ _
          split at h
          · rename_i y hy
            obtain ⟨hn, h⟩ := gd_elim h
            simp only [Bool.and_eq_true] at hn
            have hc := castTo_vt hy
            obtain ⟨vs, r1, r2⟩ := ha.1
            have hno : (roS t' x).1.noOwn = true := by rw [hc]; exact hn.1
            have r3 := RepD.froze (ω' := calmW ω) (H' := H) (ℓ' := nol) hz (fun q b hb => ⟨by unfold calmW; rw [hb]; rfl, rfl⟩) hno r1
            have hag : ofC t' vs = ofC (roS t' x).1 vs := ofC_agg (roS_n t' x).2.symm vs
            rw [hc] at r3 hag
            obtain ⟨xs, q1, q2⟩ := takeL_calm h ha.2
            exact ⟨(y, xs), q1, ⟨hn.1, vs, r3, by rw [r2, hag]⟩, q2⟩
          · exact h.elim
        · exact h.elim
  | [], _ :: _, _, _, _, h, _ => h.elim
  | _ :: _, [], _, _, _, h, _ => h.elim

/-! the caller's labels are set aside and taken back -/
def pubL : Lab → Bool
  | [9] => true
  | [8] => true
  | 6 :: _ => true
  | 0 :: 3 :: _ => true
  | _ => false
def asideW (ω : Nat → Lab) (b : Nat) : Lab := if pubL (ω b) = true then ω b else 10 :: ω b
def backL (d : Nat) (l : Lab) : Lab := if pubL l = true then l else match l with
  | 10 :: l => l
  | 0 :: 7 :: r => 0 :: 1 :: d :: r
  | _ => nol
def backW (d : Nat) (ω : Nat → Lab) (b : Nat) : Lab := backL d (ω b)
theorem pub_fz {l : Lab} (h : l = fz) : pubL l = true := by rw [h]; rfl
theorem aside_own (h : Own ω H) : Own (asideW ω) H := by
  refine ⟨fun b b' e h1 h2 => ?_, fun b hb => ?_⟩
  · unfold asideW at e h1 h2
    by_cases p1 : pubL (ω b) = true <;> by_cases p2 : pubL (ω b') = true
    · rw [if_pos p1, if_pos p2] at e
      rw [if_pos p1] at h1 h2
      exact h.inj b b' e h1 h2
    · rw [if_pos p1, if_neg p2] at e
      rw [e] at p1
      cases p1
    · rw [if_neg p1, if_pos p2] at e
      rw [← e] at p2
      cases p2
    · rw [if_neg p1, if_neg p2] at e
      have e := List.cons.inj e
      exact h.inj b b' e.2 (fun e2 => p1 (by rw [e2]; rfl)) (fun e2 => p1 (by rw [e2]; rfl))
  · unfold asideW
    rw [h.out b hb]
    rfl
theorem aside_fz (b : Nat) (hb : ω b = fz) : asideW ω b = fz := by unfold asideW; rw [if_pos (pub_fz hb)]; exact hb
theorem aside_dyn (h : DynR ω H S) : DynR (asideW ω) H S := by
  intro c id x hx
  obtain ⟨h1, e, cs, h2, h3⟩ := h c id x hx
  refine ⟨by unfold asideW; rw [h1]; rfl, e, cs, h2, h3.move (fun b hb => ⟨aside_fz b hb, rfl⟩) (.inr fun q b hb => ⟨?_, rfl⟩)⟩
  unfold asideW
  rw [hb]
  rfl
/-- What a function that keeps all left behind, seen from its caller. -/
def mixW (ω : Nat → Lab) (n : Nat) (ω' : Nat → Lab) (b : Nat) : Lab := if b < n then asideW ω b else match ω' b with
  | [9] => fz
  | 0 :: 7 :: r => 0 :: 7 :: r
  | _ => nol
theorem mix_cases {n b : Nat} (h : ¬ b < n) : (mixW ω n ω' b = fz ∧ ω' b = fz) ∨ mixW ω n ω' b = nol ∨ ∃ r, mixW ω n ω' b = 0 :: 7 :: r ∧ ω' b = 0 :: 7 :: r := by
  unfold mixW
  rw [if_neg h]
  split
  · rename_i e; exact .inl ⟨rfl, e⟩
  · rename_i r e; exact .inr (.inr ⟨r, rfl, e⟩)
  · exact .inr (.inl rfl)
theorem aside_not7 (b : Nat) (r : Lab) : asideW ω b ≠ 0 :: 7 :: r := by
  unfold asideW
  intro e
  split at e
  · rename_i h; rw [e] at h; cases h
  · cases e
theorem mix_ok {S : Dh Γ} (ho : Own ω H) (hd : DynR ω H S) (f : Frm (keepW ω H.next) H ω' H') (ho' : Own ω' H') :
    Frm (asideW ω) H (mixW ω H.next ω') H' ∧ DynR (mixW ω H.next ω') H' S ∧ Own (mixW ω H.next ω') H' ∧ ∀ ts i (xs : DataL ts) vs, Rets ω' H' [7] ts i xs vs → Rets (mixW ω H.next ω') H' [7] ts i xs vs := by
  have low : ∀ b, b < H.next → mixW ω H.next ω' b = asideW ω b ∧ H'.obj b = H.obj b := fun b hb => by
    refine ⟨by unfold mixW; rw [if_pos hb], (f.keep b ?_).2⟩
    unfold keepW
    by_cases c1 : ω b = fz
    · rw [if_pos c1]; exact .inl rfl
    · rw [if_neg c1, if_pos hb]; exact .inr rfl
  have lown : ∀ b, asideW ω b ≠ nol → b < H.next := fun b hb => Nat.lt_of_not_le fun e => hb ((aside_own ho).out b e)
  refine ⟨⟨f.next, fun b hb => ?_, fun b hb => ?_⟩, fun c id x hx => ?_, ⟨fun b b' e h1 h2 => ?_, fun b hb => ?_⟩, fun ts i xs vs hr => ?_⟩
  · exact low b (lown b fun e => by rw [e] at hb; rcases hb with hb | hb <;> cases hb)
  · by_cases hl : b < H.next
    · exact (low b hl).1.symm
    · rcases mix_cases (ω := ω) (ω' := ω') hl with ⟨e, _⟩ | e | ⟨r, e, _⟩ <;> rw [e] at hb <;> cases hb
  · obtain ⟨h1, e, cs, h2, h3⟩ := aside_dyn hd c id x hx
    have hl := low id (lown id (by rw [h1]; intro e; cases e))
    refine ⟨hl.1.trans h1, e, cs, hl.2.trans h2, h3.move (fun b hb => ?_) (.inr fun q b hb => ?_)⟩
    · have := low b (lown b (by rw [hb]; decide)); exact ⟨this.1.trans hb, this.2⟩
    · have := low b (lown b (by rw [hb]; intro e; cases e)); exact ⟨this.1.trans hb, this.2⟩
  · by_cases l1 : b < H.next <;> by_cases l2 : b' < H.next
    · rw [(low b l1).1, (low b' l2).1] at e
      rw [(low b l1).1] at h1 h2
      exact (aside_own ho).inj b b' e h1 h2
    · rcases mix_cases (ω := ω) (ω' := ω') l2 with ⟨k, _⟩ | k | ⟨r, k, _⟩
      · exact absurd (e.trans k) h1
      · exact absurd (e.trans k) h2
      · rw [(low b l1).1, k] at e
        exact absurd e (aside_not7 b r)
    · rcases mix_cases (ω := ω) (ω' := ω') l1 with ⟨k, _⟩ | k | ⟨r, k, _⟩
      · exact absurd k h1
      · exact absurd k h2
      · rw [(low b' l2).1, k] at e
        exact absurd e.symm (aside_not7 b' r)
    · rcases mix_cases (ω := ω) (ω' := ω') l1 with ⟨k, _⟩ | k | ⟨r, k, k2⟩
      · exact absurd k h1
      · exact absurd k h2
      · rcases mix_cases (ω := ω) (ω' := ω') l2 with ⟨m, _⟩ | m | ⟨r', m, m2⟩
        · exact absurd (e.trans m) h1
        · exact absurd (e.trans m) h2
        · rw [k, m] at e
          exact ho'.inj b b' (by rw [k2, m2, e]) (by rw [k2]; intro e; cases e) (by rw [k2]; intro e; cases e)
  · have hl : ¬ b < H.next := by have := f.next; omega
    unfold mixW
    rw [if_neg hl, ho'.out b hb]
    rfl
  · have up : ∀ b, ω' b ≠ fz → keepW ω H.next b ≠ ω' b → ¬ b < H.next := fun b h1 h2 hl => by
      apply h2
      refine ((f.keep b ?_).1).symm
      unfold keepW
      by_cases c1 : ω b = fz
      · rw [if_pos c1]; exact .inl rfl
      · rw [if_neg c1, if_pos hl]; exact .inr rfl
    have hz : ∀ b, ω' b = fz → mixW ω H.next ω' b = fz ∧ H'.obj b = H'.obj b := fun b hb => by
      refine ⟨?_, rfl⟩
      by_cases hl : b < H.next
      · rw [(low b hl).1]
        by_cases c1 : ω b = fz
        · exact aside_fz b c1
        · have : keepW ω H.next b = [10, b] := by unfold keepW; rw [if_neg c1, if_pos hl]
          have := (f.keep b (.inr (by rw [this]; rfl))).1
          rw [hb] at this
          unfold keepW at this
          rw [if_neg c1, if_pos hl] at this
          cases this
      · unfold mixW
        rw [if_neg hl, hb]
        rfl
    have h7 : ∀ r b, ω' b = 0 :: 7 :: r → mixW ω H.next ω' b = 0 :: 7 :: r ∧ H'.obj b = H'.obj b := fun r b hb => by
      refine ⟨?_, rfl⟩
      have hl := up b (by rw [hb]; intro e; cases e) (by rw [hb]; unfold keepW; split <;> (try split) <;> (intro e; cases e))
      unfold mixW
      rw [if_neg hl, hb]
      rfl
    revert i xs vs
    induction ts with
    | nil => intro i xs vs hr; cases vs with | nil => trivial | cons v vs => exact hr.elim
    | cons t ts ih =>
      intro i xs vs hr
      cases vs with
      | nil => exact hr.elim
      | cons v vs =>
        obtain ⟨⟨cs, r1, r2⟩, r3⟩ := hr
        exact ⟨⟨cs, r1.move hz (.inr fun q b hb => by
          have := h7 ([i] ++ q) b (by simpa using hb)
          exact ⟨by rw [this.1]; simp, this.2⟩), r2⟩, ih _ _ _ r3⟩
theorem back_cases {d : Nat} (f : Frm (asideW ω) H ω' H') (b : Nat) : backW d ω' b = nol ∨ (pubL (ω' b) = true ∧ backW d ω' b = ω' b) ∨ (ω' b = 10 :: ω b ∧ pubL (ω b) = false ∧ backW d ω' b = ω b) ∨ ∃ r, ω' b = 0 :: 7 :: r ∧ backW d ω' b = 0 :: 1 :: d :: r := by
  unfold backW backL
  by_cases p : pubL (ω' b) = true
  · rw [if_pos p]; exact .inr (.inl ⟨p, rfl⟩)
  · rw [if_neg p]
    split
    · rename_i l hl
      have h1 := f.back b (by rw [hl]; rfl)
      rw [hl] at h1
      unfold asideW at h1
      split at h1
      · rename_i h2; rw [h1] at h2; cases h2
      · rename_i h2
        have h3 := (List.cons.inj h1).2
        exact .inr (.inr (.inl ⟨by rw [hl, h3], by simpa using h2, h3.symm⟩))
    · rename_i r hr
      exact .inr (.inr (.inr ⟨r, hr, rfl⟩))
    · exact .inl rfl
theorem back_inj {d : Nat} (hfree : ∀ b, inR [1, d] (ω b) = false) (f : Frm (asideW ω) H ω' H') (ho : Own ω' H') (b b' : Nat) (e : backW d ω' b = backW d ω' b') (h1 : backW d ω' b ≠ fz) (h2 : backW d ω' b ≠ nol) : b = b' := by
  have pr : ∀ r, inR [1, d] (0 :: 1 :: d :: r) = true := fun r => pre_app [1, d] r
  rcases back_cases (d := d) f b with c | ⟨c1, c2⟩ | ⟨c1, c2, c3⟩ | ⟨r, c1, c2⟩
  · exact absurd c h2
  · rcases back_cases (d := d) f b' with k | ⟨k1, k2⟩ | ⟨k1, k2, k3⟩ | ⟨r', k1, k2⟩
    · exact absurd (e.trans k) h2
    · rw [c2, k2] at e
      rw [c2] at h1 h2
      exact ho.inj b b' e h1 h2
    · rw [c2, k3] at e
      rw [e, k2] at c1; cases c1
    · rw [c2, k2] at e
      rw [e] at c1; cases c1
  · rcases back_cases (d := d) f b' with k | ⟨k1, k2⟩ | ⟨k1, k2, k3⟩ | ⟨r', k1, k2⟩
    · exact absurd (e.trans k) h2
    · rw [c3, k2] at e
      rw [← e, c2] at k1; cases k1
    · rw [c3, k3] at e
      refine ho.inj b b' (by rw [c1, k1, e]) (by rw [c1]; intro e; cases e) (by rw [c1]; intro e; cases e)
    · rw [c3, k2] at e
      have := hfree b
      rw [e, pr] at this; cases this
  · rcases back_cases (d := d) f b' with k | ⟨k1, k2⟩ | ⟨k1, k2, k3⟩ | ⟨r', k1, k2⟩
    · exact absurd (e.trans k) h2
    · rw [c2, k2] at e
      rw [← e] at k1; cases k1
    · rw [c2, k3] at e
      have := hfree b'
      rw [← e, pr] at this; cases this
    · rw [c2, k2] at e
      simp only [List.cons.injEq, true_and] at e
      subst e
      exact ho.inj b b' (c1.trans k1.symm) (by rw [c1]; intro e; cases e) (by rw [c1]; intro e; cases e)
/-- The caller's state behind a call. -/
theorem back_ok {d : Nat} (hi : TInv ω st S σ lσ H) (hfree : ∀ b, inR [1, d] (ω b) = false) (hf : Frm ω0 H0 ω H) {S' : Dh Γ} (f : Frm (asideW ω) H ω' H') (hd : DynR ω' H' S') (ho : Own ω' H') (hst : st = st.keep (A.live [3]) ∨ True) :
    TInv (backW d ω') (st.keep (A.live [3])) S' σ lσ H' ∧ Frm ω0 H0 (backW d ω') H' ∧ ∀ ts i (xs : DataL ts) vs, Rets ω' H' [7] ts i xs vs → Rets (backW d ω') H' [1, d] ts i xs vs := by
  have hz : ∀ b, ω b = fz → backW d ω' b = fz ∧ H'.obj b = H.obj b := fun b hb => by
    obtain ⟨h1, h2⟩ := f.keep b (.inl (aside_fz b hb))
    refine ⟨?_, h2⟩
    unfold backW backL
    rw [h1, aside_fz b hb]
    rfl
  have hz' : ∀ b, ω' b = fz → backW d ω' b = fz ∧ H'.obj b = H'.obj b := fun b hb => ⟨by unfold backW backL; rw [hb]; rfl, rfl⟩
  have hpriv : ∀ b, pubL (ω b) = false → backW d ω' b = ω b ∧ H'.obj b = H.obj b := fun b hb => by
    have e : asideW ω b = 10 :: ω b := by unfold asideW; rw [if_neg (by rw [hb]; decide)]
    obtain ⟨h1, h2⟩ := f.keep b (.inr (by rw [e]; rfl))
    refine ⟨?_, h2⟩
    unfold backW backL
    rw [h1, e]
    rfl
  have hlive : ∀ {l : Lab}, over [3] l = false → ∀ q b, ω b = 0 :: (l ++ q) → backW d ω' b = 0 :: (l ++ q) ∧ H'.obj b = H.obj b := fun {l} hl q b hb => by
    have hp : pubL (ω b) = false := by
      rw [hb]
      cases l with
      | nil => simp [over, pre] at hl
      | cons a l =>
        by_cases ha : a = 3
        · subst ha; simp [over, pre, Nat.beq_refl] at hl
        · show pubL (0 :: a :: (l ++ q)) = false
          unfold pubL
          split <;> simp_all
    have := hpriv b hp
    exact ⟨this.1.trans hb, this.2⟩
  have har : ∀ a u, A.live [3] a = true → ARep ω H a u → ARep (backW d ω') H' a u := fun a u ha hr => by
    cases a with
    | d t l x =>
      obtain ⟨vs, h1, h2⟩ := hr
      refine ⟨vs, h1.move hz ?_, h2⟩
      simp only [A.live, Bool.or_eq_true, Bool.not_eq_true'] at ha
      exact ha.imp id hlive
    | c v => exact hr
    | pv k p o =>
      obtain ⟨b, h1, h2⟩ := hr
      exact ⟨b, (hpriv b (by rw [h1]; rfl)).1.trans h1, h2⟩
    | pe own e t l xs i p o =>
      obtain ⟨b, off, k, h1, h2, h3⟩ := hr
      refine ⟨b, off, k, h1.move hz ?_, h2, h3⟩
      cases own with
      | false => exact .inl rfl
      | true =>
        simp only [A.live, Bool.not_true, Bool.false_or, Bool.not_eq_true'] at ha
        exact .inr (hlive ha)
    | un => exact hr
    | sk => exact hr
  refine ⟨⟨hi.env.on fun v u hr => hr.keep har, hi.low.on fun v u hr => hr.keep har, fun k v hk => ?_, ?_, ?_⟩, ?_, ?_⟩
  · obtain ⟨b, e, cs, h1, h2, h3⟩ := hi.vars k v hk
    have := hpriv b (by rw [h1]; rfl)
    exact ⟨b, e, cs, this.1.trans h1, by rw [this.2]; exact h2, h3.move hz (.inr (hlive (by rfl)))⟩
  · intro c id x hx
    obtain ⟨h1, e, cs, h2, h3⟩ := hd c id x hx
    refine ⟨by unfold backW backL; rw [h1]; rfl, e, cs, h2, h3.move hz' (.inr fun q b hb => ⟨?_, rfl⟩)⟩
    unfold backW backL
    rw [hb]
    rfl
  · exact ⟨fun b b' e h1 h2 => back_inj hfree f ho b b' e h1 h2, fun b hb => by unfold backW backL; rw [ho.out b hb]; rfl⟩
  · refine ⟨Nat.le_trans hf.next f.next, fun b hb => ?_, fun b hb => ?_⟩
    · obtain ⟨k1, k2⟩ := hf.keep b hb
      rcases hb with hb | hb
      · have := hz b (k1.trans hb)
        exact ⟨this.1.trans hb.symm, this.2.trans k2⟩
      · have hp : pubL (ω b) = false := by
          rw [k1]
          unfold foreign at hb
          split at hb
          · rename_i e; rw [e]; rfl
          · cases hb
        have := hpriv b hp
        exact ⟨this.1.trans k1, this.2.trans k2⟩
    · rcases back_cases (d := d) f b with c | ⟨c1, c2⟩ | ⟨c1, c2, c3⟩ | ⟨r, c1, c2⟩
      · rw [c] at hb; cases hb
      · rw [c2] at hb
        exfalso
        unfold foreign at hb
        split at hb
        · rename_i e; rw [e] at c1; cases c1
        · cases hb
      · rw [c3] at hb ⊢
        exact hf.back b hb
      · rw [c2] at hb; cases hb
  · intro ts
    induction ts with
    | nil => intro i xs vs h; cases vs <;> exact h
    | cons t ts ih =>
      intro i xs vs h
      cases vs with
      | nil => exact h.elim
      | cons v vs =>
        obtain ⟨⟨cs, h1, h2⟩, h3⟩ := h
        refine ⟨⟨cs, h1.move hz' (.inr fun q b hb => ⟨?_, rfl⟩), h2⟩, ih _ _ _ h3⟩
        unfold backW backL
        rw [hb]
        rfl
end Go.Proofs.Ytbikpfccdcblfaa.Eng
/- The lifter, part 17: every operation; regions; code. -/
namespace Go.Proofs.Ytbikpfccdcblfaa.Eng
open Go
set_option linter.unusedVariables false
set_option linter.unusedSimpArgs false
variable {Γ : Nat → Ty} {ω ω' ω0 : Nat → Lab} {H H' H0 : Hp} {g X : Lab} {st : TS} {S : Dh Γ} {σ lσ : Env} {P : Program}
variable {K : TV → TS → Dh Γ → Prop} {KH : Value → Hp → Prop} {c : TCfg Γ} {cH : Cfg} {d : Nat}

theorem plain_rep {t : Ty} (h : plainT t = true) (x : Data t) (ω : Nat → Lab) (H : Hp) (l : Lab) : ARep ω H (.d t l x) (plainD t x) := by
  cases t <;> first | exact ⟨_, rfl, rfl⟩ | cases h
theorem plain_eq {t : Ty} (h : plainT t = true) {x : Data t} {l : Lab} {cs : List Value} (hr : RepD ω H t l x cs) : ofC t cs = plainD t x := by
  cases t <;> first | (cases hr; rfl) | cases h
theorem plainL_tv {g : Lab} : ∀ {ts : List Ty} (i : Nat) (xs : DataL ts), ts.all plainT = true → ∀ (ω : Nat → Lab) (H : Hp), All2 (ARep ω H) (resL ts i g xs) (plainL ts xs)
  | [], _, _, _, _, _ => trivial
  | t :: ts, i, x, h, ω, H => by
    simp only [List.all_cons, Bool.and_eq_true] at h
    exact ⟨plain_rep h.1 _ _ _ _, plainL_tv (i + 1) x.2 h.2 ω H⟩
theorem callT_ok (hi : TInv ω st S σ lσ H) (hf : Frm ω0 H0 ω H) (hk : Aft ω0 H0 σ lσ K KH) {o : Option (TSp Γ)} {as : List A} {us : List Value} (ha : All2 (ARep ω H) as us) (h : callT o d as st S K) : ∃ sp, o = some sp ∧ (spT sp).run us H KH := by
  cases o with
  | none => exact h.elim
  | some sp =>
    refine ⟨sp, rfl, ?_⟩
    unfold callT at h
    unfold spT
    dsimp only at h ⊢
    cases hc : sp.calm with
    | true =>
      rw [hc] at h
      dsimp only at h ⊢
      obtain ⟨hp, h⟩ := gd_elim h
      obtain ⟨xs, h1, h2⟩ := takeL_calm h ha
      refine ⟨hp, calmW ω, xs, _, h2, calmW_own hi.own, h1, fun ys S' hK => ?_⟩
      exact hk _ _ _ _ _ _ hK hi ((plainL_tv 0 ys hp ω H).one) hf
    | false =>
      rw [hc] at h
      dsimp only at h ⊢
      cases hkp : sp.keep with
      | false =>
        rw [hkp] at h
        dsimp only at h ⊢
        obtain ⟨xs, st1, ω1, h1, i1, f1, p1, _⟩ := takeL_ok h hi hf ha
        have i2 : TInv (unlab [1, d] ω1) (st1.free [1, d]) S σ lσ H := i1.free
        have f2 := f1.turn (unlab_turn [1, d] ω1 H)
        have hfr := unlab_free [1, d] ω1
        refine ⟨asideW (unlab [1, d] ω1), S, xs, _, (p1.move (ω' := unlab [1, d] ω1) (H' := H) (unlab_turn [1, d] ω1 H).hz).move (fun b hb => ⟨aside_fz b hb, rfl⟩), aside_dyn i2.dyn, aside_own i2.own, h1, fun ys S' hK ω' H' vs' hfm hd ho hr => ?_⟩
        obtain ⟨q1, q2, q3⟩ := back_ok (d := d) i2 hfr f2 hfm hd ho (.inr trivial)
        exact hk _ _ _ _ _ _ hK q1 (resT_ok (q3 _ _ _ _ hr)) q2
      | true =>
        rw [hkp] at h
        dsimp only at h ⊢
        obtain ⟨xs, st1, ω1, h1, i1, f1, p1, _⟩ := takeL_ok h hi hf ha
        have i2 : TInv (unlab [1, d] ω1) (st1.free [1, d]) S σ lσ H := i1.free
        have f2 := f1.turn (unlab_turn [1, d] ω1 H)
        have hfr := unlab_free [1, d] ω1
        refine ⟨unlab [1, d] ω1, xs, _, p1.move (ω' := unlab [1, d] ω1) (H' := H) (unlab_turn [1, d] ω1 H).hz, i2.own, h1, fun ys S' hK ω' H' vs' hfm ho hr => ?_⟩
        obtain ⟨m1, m2, m3, m4⟩ := mix_ok i2.own i2.dyn hfm ho
        obtain ⟨q1, q2, q3⟩ := back_ok (d := d) i2 hfr f2 m1 m2 m3 (.inr trivial)
        exact hk _ _ _ _ _ _ hK q1 (resT_ok (q3 _ _ _ _ (m4 _ _ _ _ hr))) q2
/-- A function that leads from a place to a part of it. -/
def selSp (o : Nat) : Sp := ⟨true, fun vs H K => ∃ b off, vs = [.pointer (some ⟨b, off, none⟩)] ∧ K (.pointer (some ⟨b, off + o, none⟩)) H, false⟩
def emptyC (c : TCfg Γ) : Cfg := ⟨c.P, 0, fun k => match (c.T k).map spT with | some sp => some sp | none => (lk k c.sel).map fun q => selSp q.2, fun _ => none, fun _ => none, fun _ => none, fun _ => none, none, fun _ => none, c.perm⟩
theorem selT_elim {T : FuncId → Option (TSp Γ)} {k : Nat} {F : List Nat → Nat → Prop} : ∀ {l : List (FuncId × (List Nat × Nat))}, selT T k F l → ∃ q, lk k l = some q ∧ T k = none ∧ F q.1 q.2
  | [], h => h.elim
  | (i, q) :: r, h => by
    unfold selT at h
    simp only [lk]
    by_cases e : k = i
    · subst e
      rw [Nat.beq_refl] at h ⊢
      obtain ⟨h1, h2⟩ := gd_elim h
      exact ⟨q, rfl, Option.isNone_iff_eq_none.1 h1, h2⟩
    · rw [nbeq_ne e] at h ⊢
      exact selT_elim h
theorem opT_ok (hi : TInv ω st S σ lσ H) (hf : Frm ω0 H0 ω H) (hk : Aft ω0 H0 σ lσ K KH) {draw : Bool} {op : Op} (h : opT c draw d op st S K) : opK (emptyC c) draw op (arg (emptyC c).G σ) H KH := by
  cases op with
  | move x =>
    obtain ⟨v, h1, h2⟩ := optP_elim h
    obtain ⟨u, q1, q2⟩ := argT_ok hi (G := (emptyC c).G) h1
    exact optP_intro q1 (hk _ _ _ _ _ _ h2 hi q2 hf)
  | assign x =>
    obtain ⟨v, h1, h2⟩ := optP_elim h
    obtain ⟨u, q1, q2⟩ := argT_ok hi (G := (emptyC c).G) h1
    exact optP_intro q1 (hk _ _ _ _ _ _ h2 hi q2 hf)
  | pick t a b =>
    obtain ⟨x, h1, h⟩ := optP_elim h
    obtain ⟨u, q1, q2⟩ := argA_ok hi (G := (emptyC c).G) h1
    split at h
    · rename_i r hr
      simp only [opK, q1, scal_ok q2 hr]
      cases r with
      | true =>
        obtain ⟨v, h3, h4⟩ := optP_elim h
        obtain ⟨w, q3, q4⟩ := argT_ok hi (G := (emptyC c).G) h3
        exact optP_intro q3 (hk _ _ _ _ _ _ h4 hi q4 hf)
      | false =>
        obtain ⟨v, h3, h4⟩ := optP_elim h
        obtain ⟨w, q3, q4⟩ := argT_ok hi (G := (emptyC c).G) h3
        exact optP_intro q3 (hk _ _ _ _ _ _ h4 hi q4 hf)
    · exact h.elim
  | alloc e => exact alloc_ok rfl hi hf hk h
  | box e x => exact box_ok' hi hf hk h
  | build t ps => exact build_ok' rfl hi hf hk h
  | buildSlice t n ps => exact buildSliceT_ok rfl hi hf hk h
  | load t a => exact load_ok' rfl hi hf hk h
  | store t a x =>
    obtain ⟨p, h1, h⟩ := optP_elim h
    obtain ⟨v, h2, h⟩ := optP_elim h
    obtain ⟨u, q1, q2⟩ := argA_ok hi (G := (emptyC c).G) h1
    obtain ⟨w, q3, q4⟩ := argA_ok hi (G := (emptyC c).G) h2
    obtain ⟨ad, r1, r2⟩ := storeT_ok hi hf q2 q4 (KH := KH undef) (fun st' ω' H' k1 k2 k3 => hk (.a .un) _ _ _ _ _ k1 k2 rfl k3) h
    exact optP_intro q1 (optP_intro (by rw [r1]; rfl) (optP_intro q3 r2))
  | nilCheck x =>
    obtain ⟨v, h1, h⟩ := optP_elim h
    obtain ⟨u, q1, q2⟩ := argT_ok hi (G := (emptyC c).G) h1
    refine optP_intro q1 ?_
    split at h
    · rename_i k xs ys
      obtain ⟨us, ws, r1, r2, r3⟩ := q2
      rw [r1]
      exact hk _ _ _ _ _ _ h hi ⟨us, ws, rfl, r2, r3⟩ hf
    · obtain ⟨b, r1, r2⟩ := q2
      rw [r2]
      exact hk _ _ _ _ _ _ h hi ⟨b, r1, rfl⟩ hf
    · obtain ⟨b, off, k, r1, r2, r3⟩ := q2
      rw [r3]
      exact hk _ _ _ _ _ _ h hi ⟨b, off, k, r1, r2, rfl⟩ hf
    · exact h.elim
  | binOp op t x y _ =>
    obtain ⟨a, h1, h⟩ := optP_elim h
    obtain ⟨b, h2, h⟩ := optP_elim h
    obtain ⟨u, q1, q2⟩ := argA_ok hi (G := (emptyC c).G) h1
    obtain ⟨w, q3, q4⟩ := argA_ok hi (G := (emptyC c).G) h2
    exact optP_intro q1 (optP_intro q3 (binT_ok q2 q4 (fun r w k1 k2 => hk (.a r) _ _ _ _ _ k1 hi k2 hf) h))
  | unOp op t x =>
    obtain ⟨a, h1, h⟩ := optP_elim h
    obtain ⟨u, q1, q2⟩ := argA_ok hi (G := (emptyC c).G) h1
    cases hs : scal a with
    | none => rw [hs] at h; cases op <;> exact h.elim
    | some sv =>
      rw [hs] at h
      have hu := scal_ok q2 hs
      subst hu
      simp only [opK, q1]
      cases op with
      | neg =>
        cases u <;> first | exact h.elim | exact hk (.a (.d (.int _) nol _)) _ _ _ _ _ h hi ⟨_, rfl, rfl⟩ hf
      | xor =>
        cases u <;> first | exact h.elim | skip
        obtain ⟨v, h3, h4⟩ := optP_elim h
        obtain ⟨r, h5, h6⟩ := optP_elim h4
        exact optP_intro h3 (hk (.a r) _ _ _ _ _ h6 hi (ofV_ok h5) hf)
      | not =>
        cases u <;> first | exact h.elim | exact hk (.a (.d .bool nol _)) _ _ _ _ _ h hi ⟨_, rfl, rfl⟩ hf
      | _ => exact h.elim
  | convert s t x => exact convert_ok' rfl hi hf hk h
  | makeFunc fn xs ys =>
    cases fn with
    | func k =>
      obtain ⟨a, h1, h⟩ := optP_elim h
      obtain ⟨b, h2, h⟩ := optP_elim h
      obtain ⟨us, q1, q2⟩ := argsA_ok hi (G := (emptyC c).G) h1
      obtain ⟨ws, q3, q4⟩ := argsA_ok hi (G := (emptyC c).G) h2
      exact optP_intro q1 (optP_intro q3 (hk _ _ _ _ _ _ h hi ⟨us, ws, rfl, q2, q4⟩ hf))
    | _ => exact h.elim
  | makeMap t r => exact makeMap_ok' rfl hi hf hk h
  | makeSlice t l m => exact makeSlice_ok' rfl hi hf hk h
  | slice t x lo hi' mx => exact sliceT_ok rfl hi hf hk h
  | fieldAddr t x f => exact fieldAddr_ok' rfl hi hf hk h
  | field t x f => exact field_ok' rfl hi hf hk h
  | indexAddr t x i => exact indexAddr_ok' rfl hi hf hk h
  | index t x i => exact index_ok' rfl hi hf hk h
  | lookup t m k ok => exact lookup_ok' rfl hi hf hk h
  | mapUpdate t m k v => exact update_ok' (cH := emptyC c) rfl hi hf hk h
  | insert t m k v => exact update_ok' (cH := emptyC c) rfl hi hf hk h
  | extract x i =>
    obtain ⟨v, h1, h⟩ := optP_elim h
    obtain ⟨u, q1, q2⟩ := argT_ok hi (G := (emptyC c).G) h1
    split at h
    · rename_i l
      obtain ⟨a, h2, h⟩ := optP_elim h
      obtain ⟨us, r1, r2⟩ := q2
      obtain ⟨w, r3, r4⟩ := All2.get r2 h2
      simp only [opK, q1, r1]
      exact optP_intro r3 (hk _ _ _ _ _ _ h hi r4 hf)
    · exact h.elim
  | call cl =>
    obtain ⟨callee, xs, ts⟩ := cl
    cases callee with
    | invoke r m => exact h.elim
    | builtin b =>
      obtain ⟨as, h1, h⟩ := optP_elim h
      obtain ⟨us, q1, q2⟩ := argsA_ok hi (G := (emptyC c).G) h1
      refine optP_intro q1 ?_
      generalize hts : ts.toList = tl at h ⊢
      split at h
      · rename_i t x
        match us, q2 with
        | [u], q2 =>
          have q2 := q2.1
          show lenK c.P _ u H fun v => KH v H
          unfold lenK
          split at h
          · rename_i s hs hu
            rw [hu, strA_ok q2 hs]
            exact hk _ _ _ _ _ _ h hi ⟨_, rfl, rfl⟩ hf
          · rename_i e hs hu
            rw [hu]
            split at h
            · obtain ⟨vs, ⟨a', k, r1, r2, r3⟩, r4⟩ := q2
              subst r1
              rw [r4]
              exact hk _ _ _ _ _ _ h hi ⟨_, rfl, rfl⟩ hf
            · rw [q2.1]
              exact hk _ _ _ _ _ _ h hi ⟨_, rfl, rfl⟩ hf
            · exact h.elim
          · rename_i kt et hs hu
            rw [hu]
            split at h
            · rename_i lx hh2 hh
              obtain ⟨vs, ⟨mo, rfl, j4, j5, j⟩, r4⟩ := q2
              rw [r4]
              rcases j with ⟨_, rfl, e0⟩ | ⟨mm, es, rfl, j3, j6, j7, j8⟩
              · have e0 : lx = [] := e0
                subst e0
                exact hk _ _ _ _ _ _ h hi ⟨_, rfl, rfl⟩ hf
              · refine ⟨_, es, j3, ?_⟩
                rw [j6]
                exact hk _ _ _ _ _ _ h hi ⟨_, rfl, rfl⟩ hf
            · exact h.elim
          · exact h.elim
      · rename_i x y
        obtain ⟨u, h2, h⟩ := optP_elim h
        obtain ⟨v, h3, h⟩ := optP_elim h
        match us, q2 with
        | [a, b], q2 =>
          show maxK true (fun v => KH v H) [a, b]
          rw [scal_ok q2.1 h2, scal_ok q2.2.1 h3]
          obtain ⟨r, r1, r2⟩ := maxK_D1 true [u, v] _ h
          obtain ⟨a', r3, r4⟩ := optP_elim r1
          exact r2 _ (hk _ _ _ _ _ _ r4 hi (ofV_ok r3) hf)
      · rename_i x y
        obtain ⟨u, h2, h⟩ := optP_elim h
        obtain ⟨v, h3, h⟩ := optP_elim h
        match us, q2 with
        | [a, b], q2 =>
          show maxK false (fun v => KH v H) [a, b]
          rw [scal_ok q2.1 h2, scal_ok q2.2.1 h3]
          obtain ⟨r, r1, r2⟩ := maxK_D1 false [u, v] _ h
          obtain ⟨a', r3, r4⟩ := optP_elim r1
          exact r2 _ (hk _ _ _ _ _ _ r4 hi (ofV_ok r3) hf)
      · rename_i t t2 s x
        match us, q2 with
        | [a, b], q2 => exact append_ok' (cH := emptyC c) rfl hi hf hk q2.1 q2.2.1 h
      · rename_i t t2 m k
        match us, q2 with
        | [a, b], q2 => exact delete_ok' (cH := emptyC c) rfl hi hf hk h q2.1 q2.2.1
      · exact h.elim
    | value f =>
      obtain ⟨as, h1, h⟩ := optP_elim h
      obtain ⟨us, q1, q2⟩ := argsA_ok hi (G := (emptyC c).G) h1
      refine optP_intro q1 ?_
      cases f with
      | func k =>
        obtain ⟨sp, r1, r2⟩ := callT_ok hi hf hk q2 h
        show callS (match (c.T k).map spT with | some sp => some sp | none => (lk k c.sel).map fun q => selSp q.2) us H KH
        rw [r1]
        exact r2
      | _ =>
        obtain ⟨fv, h2, h⟩ := optP_elim h
        obtain ⟨w, q3, q4⟩ := argT_ok hi (G := (emptyC c).G) h2
        cases fv with
        | clo k a b =>
          obtain ⟨us', ws, r1, r2, r3⟩ := q4
          obtain ⟨g1, h⟩ := gd_elim h
          obtain ⟨sp, s1, s2⟩ := callT_ok hi hf hk ((r2.append q2).append r3) h
          have fin : callK ((emptyC c).T k) draw (us' ++ us ++ ws) H KH := by
            rw [s1] at g1
            show callK (match (c.T k).map spT with | some sp => some sp | none => (lk k c.sel).map fun q => selSp q.2) draw (us' ++ us ++ ws) H KH
            rw [s1]
            exact gd_iff.2 ⟨g1, s2⟩
          dsimp only
          rw [q3, r1]
          exact fin
        | a y =>
          cases y with
          | d t l f =>
            cases t with
            | fn =>
              obtain ⟨k, hfk, h⟩ := optP_elim h
              obtain ⟨vs, hvs, q5⟩ := q4
              have hfk : f = some k := hfk
              subst hfk
              have hvs : vs = [.func (.func k) #[] #[]] := hvs
              subst hvs
              have fin : ∀ {F : List Nat → Nat → Prop} {b off : Nat}, selT c.T k F c.sel → (∀ q o, F q o → KH (.pointer (some ⟨b, off + o, none⟩)) H) → callK ((emptyC c).T k) draw ([] ++ [.pointer (some ⟨b, off, none⟩)] ++ []) H KH := fun h1 h2 => by
                obtain ⟨q, r1, r2, r3⟩ := selT_elim h1
                show callK (match (c.T k).map spT with | some sp => some sp | none => (lk k c.sel).map fun q => selSp q.2) draw _ H KH
                rw [r2, r1]
                exact gd_iff.2 ⟨by simp [selSp], _, _, rfl, h2 _ _ r3⟩
              cases as with
              | nil => exact h.elim
              | cons a r =>
                cases r with
                | cons _ _ => cases a <;> exact h.elim
                | nil =>
                  match us, q2 with
                  | [u], q2 =>
                    cases a with
                    | pv key p o =>
                      obtain ⟨b, p1, p2⟩ := q2.1
                      subst p2
                      dsimp only
                      rw [q3, q5]
                      exact fin h fun q o hq => hk _ _ _ _ _ _ hq hi ⟨b, p1, rfl⟩ hf
                    | pe own e t l2 ll i p o =>
                      obtain ⟨b, off, kk, p1, p2, p3⟩ := q2.1
                      subst p3
                      dsimp only
                      rw [q3, q5]
                      exact fin h fun q o hq => hk _ _ _ _ _ _ hq hi ⟨b, off, kk, p1, p2, by rw [Nat.add_assoc]⟩ hf
                    | _ => exact h.elim
            | _ => exact h.elim
          | _ => exact h.elim
        | _ => exact h.elim
  | _ => exact h.elim

/-! regions -/
def AftS (ω0 : Nat → Lab) (H0 : Hp) (lσ : Env) (K : TS → Dh Γ → Prop) (KH : Env → Hp → Prop) : Prop :=
  ∀ st S σ H ω, K st S → TInv ω st S σ lσ H → Frm ω0 H0 ω H → KH σ H
theorem TInv.lit (hi : TInv ω st S σ lσ H) {d : Nat} {v : TV} {u : Value} (hv : TRep ω H v u) : TInv ω { st with env := (d, v) :: st.env } S ((d, u) :: σ) lσ H := by
  refine ⟨⟨fun t w hw => ?_⟩, hi.low, hi.vars, hi.dyn, hi.own⟩
  simp only [lk] at hw
  by_cases e : t = d
  · subst e
    rw [Nat.beq_refl] at hw
    simp only [cond_true, Option.some.injEq] at hw
    subst hw
    exact ⟨u, by simp [look, Nat.beq_refl], hv⟩
  · rw [nbeq_ne e] at hw
    obtain ⟨u', h1, h2⟩ := hi.env.get t w hw
    exact ⟨u', by simp only [look]; rw [nbeq_ne e]; exact h1, h2⟩
theorem frSlots_ok : ∀ (l : List Nat) {st : TS} {ω : Nat → Lab}, TInv ω st S σ lσ H → Frm ω0 H0 ω H → ∃ ω', TInv ω' (frSlots l st) S σ lσ H ∧ Frm ω0 H0 ω' H
  | [], st, ω, hi, hf => ⟨ω, hi, hf⟩
  | s :: r, st, ω, hi, hf => by
    unfold frSlots
    split
    · rename_i t l x _
      cases hc : (t.noOwn || !okL l) with
      | true => exact frSlots_ok r hi hf
      | false =>
        simp only [Bool.or_eq_false_iff, Bool.not_eq_false'] at hc
        exact frSlots_ok r (hi.freeze hc.2) (hf.turn (frozeL_turn l ω H))
    · exact frSlots_ok r hi hf
theorem putK_ok (hi : TInv ω st S σ lσ H) (hf : Frm ω0 H0 ω H) {K : TS → Dh Γ → Prop} {KH : Env → Hp → Prop} (hk : AftS ω0 H0 lσ K KH) {z : Nat → Bool} {n : Nat} {dst : Option Tmp} {v : TV} {u : Value} (hv : TRep ω H v u) (h : putK z n dst v st fun st => K st S) : putE n dst u σ fun σ => KH σ H := by
  cases dst with
  | none => exact hk _ _ _ _ _ h hi hf
  | some d =>
    obtain ⟨h1, h2⟩ := gd_elim h
    refine gd_iff.2 ⟨h1, ?_⟩
    cases hz : z d with
    | false =>
      rw [hz] at h2
      exact hk _ _ _ _ _ h2 (hi.lit hv) hf
    | true =>
      rw [hz] at h2
      obtain ⟨ω', k1, k2⟩ := frSlots_ok [d] (hi.lit hv) hf
      exact hk _ _ _ _ _ h2 k1 k2
theorem operT_ok (hi : TInv ω st S σ lσ H) (hf : Frm ω0 H0 ω H) {K : TS → Dh Γ → Prop} {KH : Env → Hp → Prop} (hk : AftS ω0 H0 lσ K KH) {n : Nat} {draw : Bool} {ops : Array Oper} {o : Oper} (h : operT c n draw ops o st S K) : operK (emptyC c) n draw ops o σ H KH := by
  have run : ∀ {st : TS} {σ : Env}, TInv ω st S σ lσ H → opT c draw (dstOf o) o.op st S (fun v st S => putK c.frz n o.dst v st fun st => K st S) → opK (emptyC c) draw o.op (arg (emptyC c).G σ) H fun v H => putE n o.dst v σ fun σ => KH σ H :=
    fun hi h => opT_ok hi hf (fun v st S u H ω k1 k2 k3 k4 => putK_ok k2 k4 hk k3 k1) h
  have skip : ∀ {st : TS} {σ : Env}, TInv ω st S σ lσ H → putK c.frz n o.dst (.a .un) st (fun st => K st S) → putE n o.dst undef σ fun σ => KH σ H :=
    fun hi h => putK_ok (v := .a .un) hi hf hk (u := undef) rfl h
  unfold operT at h
  unfold operK
  cases hg : gslot ops o with
  | none => rw [hg] at h; exact h.elim
  | some x =>
    rw [hg] at h
    cases x with
    | none => exact run hi h
    | some dw =>
      obtain ⟨d, want⟩ := dw
      dsimp only at h ⊢
      cases hl : lk d st.env with
      | none => rw [hl] at h; exact h.elim
      | some v =>
        rw [hl] at h
        obtain ⟨u, q1, q2⟩ := hi.env.get d v hl
        rw [q1]
        cases v with
        | a x =>
          by_cases hx : x = .un
          · subst hx
            have q2 : u = undef := q2
            subst q2
            exact skip hi h
          · have h : guardT c n draw o d want (scal x) st S K := by
              cases x <;> first | exact absurd rfl hx | exact h
            cases hs : scal x with
            | none => rw [hs] at h; exact h.elim
            | some sv =>
              rw [hs] at h
              have hu := scal_ok q2 hs
              subst hu
              cases u <;> first | exact h.elim | skip
              rename_i r
              cases r with
              | true =>
                have hi' := hi.lit (d := d) (v := .a (.c (.bool true))) (u := .bool true) ⟨rfl, rfl⟩
                cases want with
                | true => exact run hi' h
                | false => exact skip hi' h
              | false =>
                have hi' := hi.lit (d := d) (v := .a (.c (.bool false))) (u := .bool false) ⟨rfl, rfl⟩
                cases want with
                | true => exact skip hi' h
                | false => exact run hi' h
        | tup _ => exact h.elim
        | clo _ _ _ => exact h.elim
theorem opersT_ok {K : TS → Dh Γ → Prop} {KH : Env → Hp → Prop} (hk : AftS ω0 H0 lσ K KH) {n : Nat} {draw : Bool} {ops : Array Oper} : ∀ {os : List Oper} {st : TS} {S : Dh Γ} {σ : Env} {H : Hp} {ω : Nat → Lab}, opersT c n draw ops os st S K → TInv ω st S σ lσ H → Frm ω0 H0 ω H → opersK (emptyC c) n draw ops os σ H KH
  | [], st, S, σ, H, ω, h, hi, hf => hk _ _ _ _ _ h hi hf
  | o :: os, st, S, σ, H, ω, h, hi, hf => operT_ok hi hf (fun st S σ H ω k1 k2 k3 => opersT_ok hk k1 k2 k3) h

/-! what is kept -/
theorem TInv.relab1 (hi : TInv ω st S σ lσ H) (hf : Frm ω0 H0 ω H) {a b : Nat} {q r : Lab} : ∃ ω', TInv ω' (st.relab (1 :: a :: q) (1 :: b :: r)) S σ lσ H ∧ Frm ω0 H0 ω' H := by
  unfold TS.relab
  cases ho : over (1 :: a :: q) (1 :: b :: r) with
  | true => exact ⟨ω, hi, hf⟩
  | false =>
    rw [cond_false]
    have ht := unlab_turn (1 :: b :: r) ω H
    have hfr := unlab_free (1 :: b :: r) ω
    have hown := unlab_own (1 :: b :: r) hi.own
    have hlv : ∀ x : A, (x.under (1 :: a :: q) || (x.live (1 :: a :: q) && x.live (1 :: b :: r))) = true → (x.live (1 :: b :: r) = true ∧ (x.under (1 :: a :: q) || x.live (1 :: a :: q)) = true) := by
      intro x hx
      simp only [Bool.or_eq_true, Bool.and_eq_true] at hx ⊢
      rcases hx with hx | hx
      · refine ⟨?_, .inl hx⟩
        have key : ∀ l, pre (1 :: a :: q) l = true → over (1 :: b :: r) l = false := fun l hl => by
          have e := pre_elim hl
          rw [e]
          simp only [over, Bool.or_eq_false_iff] at ho ⊢
          refine ⟨over_false (by simp only [over, ho.1, ho.2]; rfl) _, ?_⟩
          cases hp : pre (1 :: a :: q ++ rest (1 :: a :: q) l) (1 :: b :: r) with
          | false => rfl
          | true =>
            have e2 := pre_elim hp
            rw [List.append_assoc] at e2
            have := pre_app (1 :: a :: q) (rest (1 :: a :: q) l ++ rest (1 :: a :: q ++ rest (1 :: a :: q) l) (1 :: b :: r))
            rw [← e2, ho.1] at this
            cases this
        cases x with
        | d t l y => simp only [A.under] at hx; simp only [A.live, key l hx]; simp
        | pe own e t l xs i p o => simp only [A.under] at hx; simp only [A.live, key l hx]; simp
        | _ => rfl
      · exact ⟨hx.2, .inr hx.1⟩
    have har : ∀ x u, (x.under (1 :: a :: q) || (x.live (1 :: a :: q) && x.live (1 :: b :: r))) = true → ARep ω H x u → ARep (renL (1 :: a :: q) (1 :: b :: r) (unlab (1 :: b :: r) ω)) H (x.mv (1 :: a :: q) (1 :: b :: r)) u := fun x u hx hr => (hr.turn ht (hlv x hx).1).ren (hlv x hx).2
    have hen : ∀ {env : TEnv} {σ : Env}, EnvR ω H env σ → EnvR (renL (1 :: a :: q) (1 :: b :: r) (unlab (1 :: b :: r) ω)) H (onEnv (TV.map (A.mv (1 :: a :: q) (1 :: b :: r))) (onEnv (TV.keep fun x => x.under (1 :: a :: q) || (x.live (1 :: a :: q) && x.live (1 :: b :: r))) env)) σ := fun he => by
      rw [onEnv_on]
      exact he.on fun v u hr => hr.keepMap rfl har
    refine ⟨_, ⟨hen hi.env, hen hi.low, ?_, ?_, renL_own hown hfr⟩, renL_frm (hf.turn ht)⟩
    · exact VarsR.ren fun k v hv => (hi.vars k v hv).turn ht rfl (by intro e; cases e)
    · exact (hi.dyn.turn ht rfl).ren
theorem relabS_ok (hi : TInv ω st S σ lσ H) (hf : Frm ω0 H0 ω H) (g g' : Lab) : ∃ ω', TInv ω' (relabS g g' st) S σ lσ H ∧ Frm ω0 H0 ω' H := by
  unfold relabS
  split
  · rename_i b r
    match g with
    | 1 :: a :: q => exact hi.relab1 hf
    | [] => exact ⟨ω, hi, hf⟩
    | [1] => exact ⟨ω, hi, hf⟩
    | 0 :: _ => exact ⟨ω, hi, hf⟩
    | (_ + 2) :: _ => exact ⟨ω, hi, hf⟩
  · exact ⟨ω, hi, hf⟩
theorem mvSlots_ok : ∀ (l : List (Nat × Lab)) {st : TS} {ω : Nat → Lab}, TInv ω st S σ lσ H → Frm ω0 H0 ω H → ∃ ω', TInv ω' (mvSlots l st) S σ lσ H ∧ Frm ω0 H0 ω' H
  | [], st, ω, hi, hf => ⟨ω, hi, hf⟩
  | (s, g) :: r, st, ω, hi, hf => by
    unfold mvSlots
    split
    · rename_i t l x _
      cases t.noOwn with
      | true => exact mvSlots_ok r hi hf
      | false =>
        obtain ⟨ω1, h1, h2⟩ := relabS_ok hi hf l g
        exact mvSlots_ok r h1 h2
    · exact mvSlots_ok r hi hf
theorem norm_ok {o : Option (Ty × Lab)} {v : TV} {u : Value} (h : TRep ω H v u) : TRep ω H (normT o v) u := by
  unfold normT
  split
  · rename_i ty g a
    split
    · rename_i l x hx
      obtain ⟨vs, h1, h2⟩ := asD_ok h hx
      cases hn : ty.noOwn with
      | true => exact ⟨vs, (h1 (l.getD nol) (fun l' hl => by rw [hl]; rfl)).any hn, h2⟩
      | false =>
        cases l with
        | some l => exact ⟨vs, h1 l (fun l' hl => by cases hl; rfl), h2⟩
        | none => exact ⟨vs, h1 g (fun l' hl => by cases hl), h2⟩
    · exact h
  · exact h
theorem keepS_ok {env : TEnv} (h : EnvR ω H env σ) : ∀ (l : List (Nat × Option (Ty × Lab))), EnvR ω H (keepS env l) σ
  | [] => ⟨fun t v hv => by cases hv⟩
  | (s, o) :: r => by
    unfold keepS
    split
    · rename_i v hv
      refine ⟨fun t w hw => ?_⟩
      simp only [lk] at hw
      cases e : Nat.beq t s with
      | true =>
        rw [e] at hw
        cases hw
        have := Nat.eq_of_beq_eq_true e
        subst this
        obtain ⟨u, h1, h2⟩ := h.get t v hv
        exact ⟨u, h1, norm_ok h2⟩
      | false =>
        rw [e] at hw
        exact (keepS_ok h r).get t w hw
    · exact keepS_ok h r
theorem keepV_ok {vs : List (Nat × Var)} (h : VarsR ω H vs) : ∀ (l : List Nat), VarsR ω H (keepV vs l)
  | [] => fun k v hv => by cases hv
  | k0 :: r => by
    unfold keepV
    split
    · rename_i v hv
      intro k w hw
      simp only [lk] at hw
      cases e : Nat.beq k k0 with
      | true =>
        rw [e] at hw
        cases hw
        rw [Nat.eq_of_beq_eq_true e]
        exact h k0 v hv
      | false =>
        rw [e] at hw
        exact keepV_ok h r k w hw
    · exact keepV_ok h r
theorem keep_same (hi : TInv ω st S σ lσ H) (f : A → Bool) : TInv ω (st.keep f) S σ lσ H :=
  ⟨hi.env.on fun v u hr => hr.keep fun a u _ h => h, hi.low.on fun v u hr => hr.keep fun a u _ h => h, hi.vars, hi.dyn, hi.own⟩
theorem cut_ok (u : Cut) (hi : TInv ω st S σ lσ H) (hf : Frm ω0 H0 ω H) : ∃ ω', TInv ω' (u.on st) S σ lσ H ∧ Frm ω0 H0 ω' H := by
  obtain ⟨ω2, h4, h5⟩ := frSlots_ok u.fr hi hf
  obtain ⟨ω1, h1, h2⟩ := mvSlots_ok u.mv h4 h5
  have h3 := keep_same h1 (A.inKeys u.vars)
  exact ⟨ω1, ⟨keepS_ok h3.env _, h3.low, keepV_ok h3.vars _, h3.dyn, h3.own⟩, h2⟩
theorem cutO_ok (u : Option Cut) (hi : TInv ω st S σ lσ H) (hf : Frm ω0 H0 ω H) : ∃ ω', TInv ω' (cutO u st) S σ lσ H ∧ Frm ω0 H0 ω' H := by
  cases u with
  | none => exact ⟨ω, hi, hf⟩
  | some u => exact cut_ok u hi hf
theorem cutAt_ok (c : TCfg Γ) (b : Code) (hi : TInv ω st S σ lσ H) (hf : Frm ω0 H0 ω H) : ∃ ω', TInv ω' (cutAtT c b st) S σ lσ H ∧ Frm ω0 H0 ω' H := by
  unfold cutAtT
  split
  · exact ⟨ω, hi, hf⟩
  · exact cutO_ok _ hi hf
theorem cutEnd_ok (c : TCfg Γ) (b : Code) (hi : TInv ω st S σ lσ H) (hf : Frm ω0 H0 ω H) : ∃ ω', TInv ω' (cutEndT c b st) S σ lσ H ∧ Frm ω0 H0 ω' H := by
  unfold cutEndT
  split
  · exact ⟨ω, hi, hf⟩
  · exact cutO_ok _ hi hf
end Go.Proofs.Ytbikpfccdcblfaa.Eng
/- The lifter, part 18: code; a function. -/
namespace Go.Proofs.Ytbikpfccdcblfaa.Eng
open Go
set_option linter.unusedVariables false
set_option linter.unusedSimpArgs false
variable {Γ : Nat → Ty} {ω ω' ω0 : Nat → Lab} {H H' H0 : Hp} {st : TS} {S : Dh Γ} {σ lσ : Env} {P : Program} {c : TCfg Γ}

def AftE (ω0 : Nat → Lab) (H0 : Hp) (lσ : Env) (K : Ex → TS → Dh Γ → Prop) (KH : Ex → Env → Hp → Prop) : Prop :=
  ∀ ex st S σ H ω, K ex st S → TInv ω st S σ lσ H → Frm ω0 H0 ω H → KH ex σ H
def LoopsT (c : TCfg Γ) (n : Nat) (body : Code) : Prop :=
  ∀ b ∈ loopsOf body, ∀ l, fragAt c.loops b = some l → ∀ st S K, l st S K → loopT (cutAtT c b) (fun st S K => evT c n b st S K) big st S K
def JoinsT (c : TCfg Γ) (n : Nat) (body : Code) : Prop :=
  ∀ b ∈ tailsOf body, ∀ j, fragAt c.joins b = some j → ∀ st S K, j st S K → evT c n b st S (endsT c b K)
def TabsT (c : TCfg Γ) (n : Nat) (body : Code) : Prop := LoopsT c n body ∧ JoinsT c n body
theorem tabE (b : Code) : tableAt (emptyC c).joins b = none ∧ tableAt (emptyC c).loops b = none := by
  unfold tableAt
  cases firstR b <;> exact ⟨rfl, rfl⟩
theorem cutE (b : Code) (σ : Env) : cutAt (emptyC c) b σ = σ := by
  unfold cutAt
  cases firstR b <;> rfl
theorem loop_step {cf : TS → TS} {step : TFrag Γ} {stepH : Frag} {K : Ex → TS → Dh Γ → Prop} {KH : Ex → Env → Hp → Prop} (hk : AftE ω0 H0 lσ K KH)
    (hcf : ∀ {st : TS} {S : Dh Γ} {σ : Env} {H : Hp} {ω : Nat → Lab}, TInv ω st S σ lσ H → Frm ω0 H0 ω H → ∃ ω', TInv ω' (cf st) S σ lσ H ∧ Frm ω0 H0 ω' H)
    (hs : ∀ {K : Ex → TS → Dh Γ → Prop} {KH : Ex → Env → Hp → Prop}, AftE ω0 H0 lσ K KH → ∀ {st : TS} {S : Dh Γ} {σ : Env} {H : Hp} {ω : Nat → Lab}, step st S K → TInv ω st S σ lσ H → Frm ω0 H0 ω H → stepH σ H KH) :
    ∀ (m : Nat) {st : TS} {S : Dh Γ} {σ : Env} {H : Hp} {ω : Nat → Lab}, loopT cf step m st S K → TInv ω st S σ lσ H → Frm ω0 H0 ω H → loopK (fun σ => σ) stepH m σ H KH
  | 0, _, _, _, _, _, h, _, _ => h.elim
  | m + 1, st, S, σ, H, ω, h, hi, hf => by
    refine hs (K := roundT (fun st S => loopT cf step m (cf st) S K) K) (fun ex st S σ H ω k1 k2 k3 => ?_) h hi hf
    cases ex with
    | normal =>
      obtain ⟨ω', q1, q2⟩ := hcf k2 k3
      exact loop_step hk hcf hs m k1 q1 q2
    | exit i => exact hk (.exit i) _ _ _ _ _ k1 k2 k3
    | ret => exact hk .ret _ _ _ _ _ k1 k2 k3
theorem evT_ok {n : Nat} : ∀ (code : Code), TabsT c n code → ∀ {K : Ex → TS → Dh Γ → Prop} {KH : Ex → Env → Hp → Prop}, AftE ω0 H0 lσ K KH → ∀ {st : TS} {S : Dh Γ} {σ : Env} {H : Hp} {ω : Nat → Lab},
    evT c n code st S K → TInv ω st S σ lσ H → Frm ω0 H0 ω H → ev (emptyC c) n code σ H KH := by
  intro code
  induction code with
  | skip => exact fun _ _ _ hk _ _ _ _ _ h hi hf => hk _ _ _ _ _ _ h hi hf
  | region id ops draw =>
    intro _ K KH hk st S σ H ω h hi hf
    exact opersT_ok (fun st S σ H ω k1 k2 k3 => hk .normal st S σ H ω k1 k2 k3) h hi hf
  | seq x y ihx ihy =>
    intro ht K KH hk st S σ H ω h hi hf
    have t1 : TabsT c n x := ⟨fun b hb => ht.1 b (by simp [loopsOf, hb]), fun b hb => ht.2 b (by simp [tailsOf, hb])⟩
    have t2 : TabsT c n y := ⟨fun b hb => ht.1 b (by simp [loopsOf, hb]), fun b hb => ht.2 b (by simp [tailsOf, hb])⟩
    refine ihx t1 (fun ex st S σ H ω k1 k2 k3 => ?_) h hi hf
    cases ex with
    | normal =>
      dsimp only at k1 ⊢
      rw [(tabE y).1]
      dsimp only
      rw [cutE]
      obtain ⟨ω1, q1, q2⟩ := cutAt_ok c y k2 k3
      split at k1
      · rename_i j hj
        refine ihy t2 (fun ex st S σ H ω r1 r2 r3 => ?_) (ht.2 y (by simp [tailsOf]) j hj _ _ _ k1) q1 q2
        cases ex with
        | normal =>
          obtain ⟨ω2, s1, s2⟩ := cutEnd_ok c y r2 r3
          exact hk .normal _ _ _ _ _ r1 s1 s2
        | exit i => exact hk (.exit i) _ _ _ _ _ r1 r2 r3
        | ret => exact hk .ret _ _ _ _ _ r1 r2 r3
      · exact ihy t2 hk k1 q1 q2
    | exit i => exact hk (.exit i) _ _ _ _ _ k1 k2 k3
    | ret => exact hk .ret _ _ _ _ _ k1 k2 k3
  | cond t x y ihx ihy =>
    intro ht K KH hk st S σ H ω h hi hf
    have t1 : TabsT c n x := ⟨fun b hb => ht.1 b (by simp [loopsOf, hb]), fun b hb => ht.2 b (by simp [tailsOf, hb])⟩
    have t2 : TabsT c n y := ⟨fun b hb => ht.1 b (by simp [loopsOf, hb]), fun b hb => ht.2 b (by simp [tailsOf, hb])⟩
    simp only [evT] at h
    split at h
    · rename_i a ha
      obtain ⟨u, q1, q2⟩ := argA_ok hi (G := (emptyC c).G) ha
      split at h
      · rename_i r hr
        have hu := scal_ok q2 hr
        subst hu
        simp only [ev, q1]
        cases r with
        | true => exact ihx t1 hk h hi hf
        | false => exact ihy t2 hk h hi hf
      · exact h.elim
    · exact h.elim
  | block id x ihx =>
    intro ht K KH hk st S σ H ω h hi hf
    refine ihx ⟨fun b hb => ht.1 b (by simpa [loopsOf] using hb), fun b hb => ht.2 b (by simpa [tailsOf] using hb)⟩ (fun ex st S σ H ω k1 k2 k3 => ?_) h hi hf
    cases ex with
    | normal => exact hk .normal _ _ _ _ _ k1 k2 k3
    | exit j =>
      dsimp only at k1 ⊢
      cases e : Nat.beq j id with
      | true => rw [e] at k1; exact hk .normal _ _ _ _ _ k1 k2 k3
      | false => rw [e] at k1; exact hk (.exit j) _ _ _ _ _ k1 k2 k3
    | ret => exact hk .ret _ _ _ _ _ k1 k2 k3
  | loop x ihx =>
    intro ht K KH hk st S σ H ω h hi hf
    have t1 : TabsT c n x := ⟨fun b hb => ht.1 b (by simp [loopsOf, hb]), fun b hb => ht.2 b (by simpa [tailsOf] using hb)⟩
    have hl : loopT (cutAtT c x) (fun st S K => evT c n x st S K) big (cutAtT c x st) S K := by
      simp only [evT] at h
      split at h
      · rename_i l hl; exact ht.1 x (by simp [loopsOf]) l hl _ _ _ h
      · exact h
    obtain ⟨ω1, q1, q2⟩ := cutAt_ok c x hi hf
    show (match tableAt (emptyC c).loops x with
      | some l => l (cutAt (emptyC c) x σ) H KH
      | none => loopK (cutAt (emptyC c) x) (fun σ H K => ev (emptyC c) n x σ H K) big (cutAt (emptyC c) x σ) H KH)
    rw [(tabE x).2]
    dsimp only
    rw [cutE]
    have e : cutAt (emptyC c) x = fun σ => σ := funext fun σ => cutE x σ
    rw [e]
    exact loop_step hk (fun k1 k2 => cutAt_ok c x k1 k2) (fun hk' _ _ _ _ _ r1 r2 r3 => ihx t1 hk' r1 r2 r3) big hl q1 q2
  | label l => exact fun _ _ _ hk _ _ _ _ _ h hi hf => hk _ _ _ _ _ _ h hi hf
  | exit id =>
    intro _ K KH hk st S σ H ω h hi hf
    obtain ⟨ω1, q1, q2⟩ := cutO_ok (c.cutX id) hi hf
    exact hk _ _ _ _ _ _ h q1 q2
  | ret =>
    intro _ K KH hk st S σ H ω h hi hf
    obtain ⟨ω1, q1, q2⟩ := cutO_ok c.cutR hi hf
    exact hk _ _ _ _ _ _ h q1 q2
  | rangeFunc _ _ _ _ => exact fun _ _ _ _ _ _ _ _ _ h => h.elim
  | scope x ihx =>
    intro ht K KH hk st S σ H ω h hi hf
    exact ihx ⟨fun b hb => ht.1 b (by simpa [loopsOf] using hb), fun b hb => ht.2 b (by simpa [tailsOf] using hb)⟩ hk h hi hf
  | goto _ => exact fun _ _ _ _ _ _ _ _ _ h => h.elim
  | refuse _ => exact fun _ _ _ _ _ _ _ _ _ h => h.elim

/-! a function -/
def finalW (ω : Nat → Lab) (b : Nat) : Lab := match ω b with
  | 0 :: 3 :: r => 0 :: 3 :: r
  | 0 :: _ => fz
  | l => l
theorem final_cases (ω : Nat → Lab) (b : Nat) : finalW ω b = fz ∨ finalW ω b = ω b := by
  unfold finalW
  split
  · rename_i e; exact .inr e.symm
  · exact .inl rfl
  · exact .inr rfl
theorem final_own (h : Own ω H) : Own (finalW ω) H := by
  refine ⟨fun b b' e h1 h2 => ?_, fun b hb => ?_⟩
  · rcases final_cases ω b with c1 | c1
    · exact absurd c1 h1
    · rcases final_cases ω b' with c2 | c2
      · exact absurd (e.trans c2) h1
      · rw [c1] at h1 h2
        exact h.inj b b' (c1.symm.trans (e.trans c2)) h1 h2
  · unfold finalW
    rw [h.out b hb]
    rfl
theorem final_fz {b : Nat} (hb : ω b = fz) : finalW ω b = fz := by unfold finalW; rw [hb]; rfl
theorem final_frm (h : Frm ω0 H0 ω H) : Frm ω0 H0 (finalW ω) H := by
  refine ⟨h.next, fun b hb => ?_, fun b hb => ?_⟩
  · obtain ⟨h1, h2⟩ := h.keep b hb
    refine ⟨?_, h2⟩
    rcases hb with hb | hb
    · rw [hb]; exact final_fz (h1.trans hb)
    · unfold foreign at hb
      split at hb
      · rename_i e
        unfold finalW
        rw [h1, e]
        rfl
      · cases hb
  · rcases final_cases ω b with c1 | c1
    · rw [c1] at hb; cases hb
    · rw [c1] at hb ⊢; exact h.back b hb
theorem final_dyn (h : DynR ω H S) : DynR (finalW ω) H S := by
  intro c id x hx
  obtain ⟨h1, e, cs, h2, h3⟩ := h c id x hx
  refine ⟨by unfold finalW; rw [h1]; rfl, e, cs, h2, h3.move (fun b hb => ⟨final_fz hb, rfl⟩) (.inr fun q b hb => ⟨?_, rfl⟩)⟩
  unfold finalW
  rw [hb]
  rfl
theorem giveT_ok {t : Ty} {v : TV} {K : Data t → Prop} (h : giveT t v K) : ∃ x, K x ∧ t.noOwn = true ∧ ∀ u, TRep ω H v u → ∃ cs, RepD (finalW ω) H t nol x cs ∧ u = ofC t cs := by
  have hz : ∀ b, ω b = fz → finalW ω b = fz ∧ H.obj b = H.obj b := fun b hb => ⟨final_fz hb, rfl⟩
  unfold giveT at h
  split at h
  · rename_i a
    unfold giveA at h
    split at h
    · rename_i o x hx
      obtain ⟨hn, h⟩ := gd_elim h
      refine ⟨x, h, hn, fun u hr => ?_⟩
      obtain ⟨cs, r1, r2, _⟩ := asD_cells hn hr hx
      exact ⟨cs, r1.move hz (.inl hn), r2⟩
    · split at h
      · rename_i t' l x _
        split at h
        · rename_i y hy
          obtain ⟨hn, h⟩ := gd_elim h
          simp only [Bool.and_eq_true] at hn
          have hc := castTo_vt hy
          refine ⟨y, h, hn.1, fun u hr => ?_⟩
          obtain ⟨vs, r1, r2⟩ := hr
          have hno : (roS t' x).1.noOwn = true := by rw [hc]; exact hn.1
          have r3 := RepD.froze (ω' := finalW ω) (H' := H) (ℓ' := nol) hz (fun q b hb => ⟨(by
            unfold finalW
            rw [hb]
            have := hn.2
            unfold okL at this
            split at this
            · rfl
            · rfl
            · cases this), rfl⟩) hno r1
          have hag : ofC t' vs = ofC (roS t' x).1 vs := ofC_agg (roS_n t' x).2.symm vs
          rw [hc] at r3 hag
          exact ⟨vs, r3, by rw [r2, hag]⟩
        · exact h.elim
      · exact h.elim
  · exact h.elim
theorem retT_ok (hi : TInv ω st S σ lσ H) : ∀ {rs : List ResultVar} {ts : List Ty} {K : DataL ts → Prop} (i : Nat), retT P st rs ts K → ∃ ys, K ys ∧ ∀ KH : List Value → Prop, (∀ vs, Rets (finalW ω) H [7] ts i ys vs → KH vs) → resK P H σ rs KH
  | [], [], K, i, h => ⟨(), h, fun KH hk => hk [] trivial⟩
  | .tmp t :: rs, ty :: ts, K, i, h => by
    obtain ⟨v, h1, h⟩ := optP_elim h
    obtain ⟨u, q1, q2⟩ := hi.env.get t v h1
    obtain ⟨x, h2, hn, hu⟩ := giveT_ok (ω := ω) (H := H) h
    obtain ⟨cs, r1, r2⟩ := hu u q2
    obtain ⟨ys, k1, k2⟩ := retT_ok hi (i + 1) h2
    exact ⟨(x, ys), k1, fun KH hk => optP_intro q1 (k2 _ fun vs hvs => hk _ ⟨⟨cs, r1.any hn, r2⟩, hvs⟩)⟩
  | .cell b t :: rs, ty :: ts, K, i, h => by
    obtain ⟨v, h1, h⟩ := optP_elim h
    obtain ⟨u, q1, q2⟩ := hi.env.get b v h1
    cases v with
    | a p =>
      obtain ⟨ad, w, s1, s2, s3⟩ := loadT_ok hi q2 h
      subst s1
      obtain ⟨x, h2, hn, hu⟩ := giveT_ok (ω := ω) (H := H) s2
      obtain ⟨ys, k1, k2⟩ := retT_ok hi (i + 1) h2
      refine ⟨(x, ys), k1, fun KH hk => ?_⟩
      simp only [resK, q1]
      refine optP_intro rfl (s3 _ fun u' hu' => ?_)
      obtain ⟨cs, r1, r2⟩ := hu u' hu'
      exact k2 _ fun vs hvs => hk _ ⟨⟨cs, r1.any hn, r2⟩, hvs⟩
    | _ => exact h.elim
  | [], _ :: _, _, _, h => h.elim
  | .tmp _ :: _, [], _, _, h => h.elim
  | .cell _ _ :: _, [], _, _, h => h.elim
theorem params_ok : ∀ {ps : List Ty} {xs : DataL ps} {vs : List Value} (i : Nat), Pars ω H ps xs vs → EnvR ω H (paramsL i ps xs) (env0 i vs)
  | [], _, [], i, _ => ⟨fun t v h => by cases h⟩
  | p :: ps, x, v :: vs, i, ⟨⟨hn, cs, h1, h2⟩, h3⟩ => ⟨fun t w hw => by
      simp only [paramsL, lk] at hw
      cases e : Nat.beq t i with
      | true =>
        rw [e] at hw
        cases hw
        exact ⟨v, by simp only [env0, look, e, cond_true], cs, h1.any hn, h2⟩
      | false =>
        rw [e] at hw
        obtain ⟨u, k1, k2⟩ := (params_ok (i + 1) h3).get t w hw
        exact ⟨u, by simp only [env0, look, e, cond_false]; exact k1, k2⟩⟩
  | [], _, _ :: _, _, h => h.elim
  | _ :: _, _, [], _, h => h.elim
/-- A function's code does over cells what it does over data. -/
theorem fnT_ok {fn : Func} {ps rs : List Ty} {xs : DataL ps} {vs : List Value} {K0 : DataL rs → Dh Γ → Prop} (h : fnT c fn ps rs xs S K0) (ht : TabsT c fn.ntmps (bodyOf fn)) (hp : Pars ω H ps xs vs) (hd : DynR ω H S) (ho : Own ω H) {KH : Value → Hp → Prop}
    (hk : ∀ ys S', K0 ys S' → ∀ ω' H' vs', Frm ω H ω' H' → DynR ω' H' S' → Own ω' H' → Rets ω' H' [7] rs 0 ys vs' → KH (oneOf vs') H') : fnK (emptyC c) fn vs H KH := by
  unfold fnT at h
  unfold fnK
  cases hb : fn.body with
  | none => rw [hb] at h; exact h.elim
  | some b =>
    rw [hb] at h
    obtain ⟨h1, h2⟩ := gd_elim h
    have hbo : bodyOf fn = b := by simp [bodyOf, hb]
    rw [hbo] at ht
    refine gd_iff.2 ⟨by rw [hp.len]; exact h1, ?_⟩
    refine evT_ok (ω0 := ω) (H0 := H) (lσ := []) b ht (fun ex st S σ H' ω' k1 k2 k3 => ?_) h2 ⟨params_ok 0 hp, ⟨fun t v h => by cases h⟩, (fun k v h => by cases h), hd, ho⟩ (Frm.refl ω H)
    have fin : retT c.P st fn.results.toList rs (fun ys => K0 ys S) → resK (emptyC c).P H' σ fn.results.toList fun vs => KH (oneOf vs) H' := fun hr => by
      obtain ⟨ys, q1, q2⟩ := retT_ok k2 0 hr
      exact q2 _ fun vs' hvs => hk ys S q1 (finalW ω') H' vs' (final_frm k3) (final_dyn k2.dyn) (final_own k2.own) hvs
    cases ex with
    | normal => exact fin k1
    | exit i => exact k1.elim
    | ret => exact fin k1
/-- What is known of a function of the program. -/
def TOK (P : Program) (k : FuncId) (sp : TSp Γ) : Prop := SpOK P 0 k (spT sp)
theorem spT_mono (sp : TSp Γ) : ∀ args H K K', (∀ v H', K v H' → K' v H') → (spT sp).run args H K → (spT sp).run args H K' := by
  intro args H K K' hk h
  unfold spT at h ⊢
  dsimp only at h ⊢
  cases e : sp.calm with
  | true =>
    rw [e] at h
    obtain ⟨hp, ω, xs, K0, h1, h2, h3, h4⟩ := h
    exact ⟨hp, ω, xs, K0, h1, h2, h3, fun ys S' hy => hk _ _ (h4 ys S' hy)⟩
  | false =>
    rw [e] at h
    cases e2 : sp.keep with
    | false =>
      rw [e2] at h
      obtain ⟨ω, S, xs, K0, h1, h2, h3, h4, h5⟩ := h
      exact ⟨ω, S, xs, K0, h1, h2, h3, h4, fun ys S' hy ω' H' vs' a b c d => hk _ _ (h5 ys S' hy ω' H' vs' a b c d)⟩
    | true =>
      rw [e2] at h
      obtain ⟨ω, xs, K0, h1, h2, h3, h4⟩ := h
      exact ⟨ω, xs, K0, h1, h2, h3, fun ys S' hy ω' H' vs' a b c => hk _ _ (h4 ys S' hy ω' H' vs' a b c)⟩
theorem tok_of_fn (hT : ∀ k sp, c.T k = some sp → TOK c.P k sp) (hS : ∀ p ∈ c.sel, SpOK c.P 0 p.1 (selSp p.2.2)) (hm : c.P.follows .mixedOrders = true) {k : FuncId} {fn : Func} (hf : c.P.funcs[k]? = some fn) (hb : fn.body.isSome = true) (hn : (fn.name == "runtime.NumGoroutine") = false)
    (hc : codeOK (emptyC c) (bodyOf fn) = true) (ht : TabsT c fn.ntmps (bodyOf fn)) {sp : TSp Γ} (hq : sp.calm = false) (hkp : sp.keep = false) (hs : ∀ xs S K, sp.run xs S K → fnT c fn sp.ps sp.rs xs S K) : TOK c.P k sp := by
  refine sp_of_fn (c := emptyC c) (fun k' sp' h => ?_) hm hf hb hn hc ⟨fun b _ l hl => ?_, fun b _ j hj => ?_⟩ hq (by show (sp.keep && !sp.calm) = false; rw [hkp]; rfl) (spT_mono sp) fun args H K h => ?_
  · show SpOK c.P 0 k' sp'
    have h : (match (c.T k').map spT with | some sp => some sp | none => (lk k' c.sel).map fun q => selSp q.2) = some sp' := h
    cases e : c.T k' with
    | none =>
      rw [e] at h
      cases e2 : lk k' c.sel with
      | none => rw [e2] at h; cases h
      | some q =>
        rw [e2] at h
        cases h
        exact hS _ (lk_mem e2)
    | some t =>
      rw [e] at h
      cases h
      exact hT k' t e
  · rw [(tabE b).2] at hl; cases hl
  · rw [(tabE b).1] at hj; cases hj
  · unfold spT at h
    dsimp only at h
    rw [hq, hkp] at h
    obtain ⟨ω, S, xs, K0, h1, h2, h3, h4, h5⟩ := h
    exact fnT_ok (hs xs S K0 h4) ht h1 h2 h3 h5
/-- A function that only reckons: it leaves the heap alone. -/
theorem tok_calm {k : FuncId} {ps rs : List Ty} {run : DataL ps → Dh Γ → (DataL rs → Dh Γ → Prop) → Prop} (h : TOK P k ⟨false, ps, rs, run, false⟩)
    (hd : ∀ xs K, run xs Dh.empty K → ∃ ys S', K ys S' ∧ ∀ K' : DataL rs → Dh Γ → Prop, K' ys S' → run xs Dh.empty K') (hc : ∀ xs : DataL rs, rs.all plainT = true → constOK (oneOf (plainL rs xs)) = true) : TOK P k ⟨true, ps, rs, run, false⟩ := by
  refine SpOK.calm h (spT_mono _) (fun args H K hr => ?_) (fun _ args H K hr => ?_) rfl
  · obtain ⟨hp, ω, xs, K0, h1, h2, h3, h4⟩ := hr
    have hz : ∀ b, ω b = fz → keepW ω H.next b = fz ∧ H.obj b = H.obj b := fun b hb => ⟨by unfold keepW; rw [if_pos hb], rfl⟩
    refine ⟨keepW ω H.next, Dh.empty, xs, K0, h1.move hz, (fun c id x hx => by cases hx), keep_own h2, h3, fun ys S' hy ω' H' vs' f1 f2 f3 f4 => ?_⟩
    have hv : vs' = plainL rs ys := by
      have : ∀ {ts : List Ty} {i : Nat} {g : Lab} {xs : DataL ts} {vs : List Value}, ts.all plainT = true → Rets ω' H' g ts i xs vs → vs = plainL ts xs := by
        intro ts
        induction ts with
        | nil => intro i g xs vs _ hr; cases vs with | nil => rfl | cons v vs => exact hr.elim
        | cons t ts ih =>
          intro i g xs vs hp hr
          cases vs with
          | nil => exact hr.elim
          | cons v vs =>
            simp only [List.all_cons, Bool.and_eq_true] at hp
            obtain ⟨⟨cs, r1, r2⟩, r3⟩ := hr
            rw [r2, plain_eq hp.1 r1, ih hp.2 r3]
            rfl
      exact this hp f4
    subst hv
    refine ⟨⟨f1.next, fun b hb => (f1.keep b ?_).2⟩, hc ys hp, h4 ys S' hy⟩
    unfold keepW
    by_cases c1 : ω b = fz
    · rw [if_pos c1]; exact .inl rfl
    · rw [if_neg c1, if_pos hb]; exact .inr rfl
  · obtain ⟨hp, ω, xs, K0, h1, h2, h3, h4⟩ := hr
    obtain ⟨ys, S', h5, h6⟩ := hd xs K0 h3
    exact ⟨_, h4 ys S' h5, fun K2 hk => ⟨hp, ω, xs, fun y _ => y = ys, h1, h2, h6 _ rfl, fun y S2 e => by
      have e : y = ys := e
      subst e
      exact hk⟩⟩
/-- A function that needs no objects of the program's heap: it keeps what lies there. -/
theorem tok_keep {k : FuncId} {ps rs : List Ty} {run : DataL ps → Dh Γ → (DataL rs → Dh Γ → Prop) → Prop} (h : TOK P k ⟨false, ps, rs, run, false⟩) : TOK P k ⟨false, ps, rs, run, true⟩ := by
  refine SpOK.weak h (spT_mono _) (fun args H K hr => ?_) (fun e => by cases e) (fun _ args H K hw hr => ?_)
  · obtain ⟨ω, xs, K0, h1, h2, h3, h4⟩ := hr
    have hz : ∀ b, ω b = fz → keepW ω H.next b = fz ∧ H.obj b = H.obj b := fun b hb => ⟨by unfold keepW; rw [if_pos hb], rfl⟩
    exact ⟨keepW ω H.next, Dh.empty, xs, K0, h1.move hz, (fun c id x hx => by cases hx), keep_own h2, h3, fun ys S' hy ω' H' vs' f1 f2 f3 f4 => h4 ys S' hy ω' H' vs' f1 f3 f4⟩
  · obtain ⟨ω, xs, K0, h1, h2, h3, h4⟩ := hr
    refine ⟨ω, xs, K0, h1, h2, h3, fun ys S' hy ω' H' vs' f1 f3 f4 => ⟨h4 ys S' hy ω' H' vs' f1 f3 f4, fun b hb => (f1.keep b ?_).2⟩⟩
    have hlt : b < H.next := Nat.lt_of_not_le fun e => hb (hw b e)
    unfold keepW
    by_cases c1 : ω b = fz
    · rw [if_pos c1]; exact .inl rfl
    · rw [if_neg c1, if_pos hlt]; exact .inr rfl
end Go.Proofs.Ytbikpfccdcblfaa.Eng
/- The lifter, part 19: how a printed function is tied to its code. -/
namespace Go.Proofs.Ytbikpfccdcblfaa.Eng
open Go
set_option linter.unusedVariables false
set_option linter.unusedSimpArgs false

/-- What a slot holds where pieces of code meet. -/
inductive Sh where
  | d (ty : Ty) (ℓ : Lab)
  | pv (k : Nat) (p : List Nat) (o : Nat)
  | clo (k : FuncId)
def ShD : List (Nat × Sh) → Type
  | [] => Unit
  | (_, .d ty _) :: r => Data ty × ShD r
  | (_, .pv ..) :: r => ShD r
  | (_, .clo _) :: r => ShD r
def mkE : (l : List (Nat × Sh)) → ShD l → TEnv
  | [], _ => []
  | (s, .d ty ℓ) :: r, x => (s, .a (.d ty ℓ x.1)) :: mkE r x.2
  | (s, .pv k p o) :: r, x => (s, .a (.pv k p o)) :: mkE r x
  | (s, .clo k) :: r, x => (s, .clo k [] []) :: mkE r x
def deD (ty : Ty) (ℓ : Lab) : TV → Option (Data ty)
  | .a (.d t l x) => match decide (l = ℓ) with | true => castTo ty ⟨t, x⟩ | false => none
  | _ => none
def isPV (k : Nat) (p : List Nat) (o : Nat) : TV → Bool
  | .a (.pv k' p' o') => Nat.beq k' k && (decide (p' = p) && Nat.beq o' o)
  | _ => false
def isClo (k : FuncId) : TV → Bool
  | .clo k' [] [] => Nat.beq k' k
  | _ => false
def deE : (l : List (Nat × Sh)) → TEnv → Option (ShD l)
  | [], [] => some ()
  | (s, .d ty ℓ) :: r, (s', v) :: e => match Nat.beq s' s with
    | true => match deD ty ℓ v, deE r e with
      | some x, some y => some (x, y)
      | _, _ => none
    | false => none
  | (s, .pv k p o) :: r, (s', v) :: e => match Nat.beq s' s && isPV k p o v with | true => deE r e | false => none
  | (s, .clo k) :: r, (s', v) :: e => match Nat.beq s' s && isClo k v with | true => deE r e | false => none
  | _, _ => none
theorem deD_ok {ty : Ty} {ℓ : Lab} {v : TV} {x : Data ty} (h : deD ty ℓ v = some x) : v = .a (.d ty ℓ x) := by
  unfold deD at h
  split at h
  · split at h
    · rename_i e
      have := castTo_vt h
      cases this
      rw [of_decide_eq_true e]
    · cases h
  · cases h
theorem deE_ok : ∀ {l : List (Nat × Sh)} {e : TEnv} {x : ShD l}, deE l e = some x → e = mkE l x
  | [], [], _, _ => rfl
  | (s, .d ty ℓ) :: r, (s', v) :: e, x, h => by
    simp only [deE] at h
    split at h
    · rename_i hs
      split at h
      · rename_i y z h1 h2
        cases h
        rw [Nat.eq_of_beq_eq_true hs, deD_ok h1, deE_ok h2]
        rfl
      · cases h
    · cases h
  | (s, .pv k p o) :: r, (s', v) :: e, x, h => by
    simp only [deE] at h
    split at h
    · rename_i hs
      simp only [Bool.and_eq_true] at hs
      have h2 := hs.2
      unfold isPV at h2
      split at h2
      · simp only [Bool.and_eq_true] at h2
        rw [Nat.eq_of_beq_eq_true hs.1, Nat.eq_of_beq_eq_true h2.1, of_decide_eq_true h2.2.1, Nat.eq_of_beq_eq_true h2.2.2, deE_ok h]
        rfl
      · cases h2
    · cases h
  | (s, .clo k) :: r, (s', v) :: e, x, h => by
    simp only [deE] at h
    split at h
    · rename_i hs
      simp only [Bool.and_eq_true] at hs
      have h2 := hs.2
      unfold isClo at h2
      split at h2
      · rw [Nat.eq_of_beq_eq_true hs.1, Nat.eq_of_beq_eq_true h2, deE_ok h]
        rfl
      · cases h2
    · cases h
  | [], _ :: _, _, h => by cases h
  | (_, .d _ _) :: _, [], _, h => by cases h
  | (_, .pv ..) :: _, [], _, h => by cases h
  | (_, .clo _) :: _, [], _, h => by cases h
def VD : List (Nat × Ty) → Type
  | [] => Unit
  | (_, t) :: r => Data t × VD r
def mkV : (l : List (Nat × Ty)) → VD l → List (Nat × Var)
  | [], _ => []
  | (k, t) :: r, x => (k, ⟨⟨t, x.1⟩, none⟩) :: mkV r x.2
def deV : (l : List (Nat × Ty)) → List (Nat × Var) → Option (VD l)
  | [], [] => some ()
  | (k, t) :: r, (k', v) :: e => match Nat.beq k' k && v.dyn.isNone with
    | true => match castTo t v.v, deV r e with
      | some x, some y => some (x, y)
      | _, _ => none
    | false => none
  | _, _ => none
theorem deV_ok : ∀ {l : List (Nat × Ty)} {e : List (Nat × Var)} {x : VD l}, deV l e = some x → e = mkV l x
  | [], [], _, _ => rfl
  | (k, t) :: r, (k', v) :: e, x, h => by
    simp only [deV] at h
    split at h
    · rename_i hs
      simp only [Bool.and_eq_true] at hs
      split at h
      · rename_i y z h1 h2
        cases h
        obtain ⟨vv, dyn⟩ := v
        have h3 := castTo_vt h1
        dsimp only at h3 hs
        subst h3
        cases dyn with
        | none => rw [Nat.eq_of_beq_eq_true hs.1, deV_ok h2]; rfl
        | some _ => cases hs.2
      · cases h
    · cases h
  | [], _ :: _, _, h => by cases h
  | _ :: _, [], _, h => by cases h
variable {Γ : Nat → Ty}
def stOf (l : List (Nat × Sh)) (vl : List (Nat × Ty)) (x : ShD l) (y : VD vl) : TS := ⟨mkE l x, [], mkV vl y⟩
def fragT (l : List (Nat × Sh)) (vl : List (Nat × Ty)) (f : ShD l → VD vl → Dh Γ → (Ex → TS → Dh Γ → Prop) → Prop) : TFrag Γ := fun st S K =>
  match deE l st.env, st.low, deV vl st.vars with
  | some x, [], some y => f x y S K
  | _, _, _ => False
theorem fragT_elim {l : List (Nat × Sh)} {vl : List (Nat × Ty)} {f : ShD l → VD vl → Dh Γ → (Ex → TS → Dh Γ → Prop) → Prop} {st : TS} {S : Dh Γ} {K : Ex → TS → Dh Γ → Prop} (h : fragT l vl f st S K) : ∃ x y, st = stOf l vl x y ∧ f x y S K := by
  unfold fragT at h
  split at h
  · rename_i x y h1 h2 h3
    refine ⟨x, y, ?_, h⟩
    obtain ⟨e, lo, vs⟩ := st
    dsimp only at h1 h2 h3
    rw [deE_ok h1, h2, deV_ok h3]
    rfl
  · exact h.elim
theorem fragAt_of {t : List (Nat × TFrag Γ)} {b : Code} {l : TFrag Γ} (h : fragAt (fun k => lk k t) b = some l) : ∃ i, (i, l) ∈ t ∧ firstIs i b = true := by
  unfold fragAt at h
  split at h
  · cases h
  · rename_i i hi
    exact ⟨i, lk_mem h, by simp [firstIs, hi]⟩
/-- Each told loop: where its body stands; that it asks at least what the body asks. -/
def LoopTied (c : TCfg Γ) (n : Nat) (body : Code) (p : Nat × TFrag Γ) : Prop :=
  ∃ cl, (loopsOf body).filter (firstIs p.1) = [cl] ∧ ∀ st S K, p.2 st S K → loopT (cutAtT c cl) (fun st S K => evT c n cl st S K) big st S K
def JoinTied (c : TCfg Γ) (n : Nat) (body : Code) (p : Nat × TFrag Γ) : Prop :=
  ∃ cl, (tailsOf body).filter (firstIs p.1) = [cl] ∧ ∀ st S K, p.2 st S K → evT c n cl st S (endsT c cl K)
def AllP {α : Type} (p : α → Prop) : List α → Prop
  | [] => True
  | a :: l => p a ∧ AllP p l
theorem AllP.get {α : Type} {p : α → Prop} : ∀ {l : List α}, AllP p l → ∀ a ∈ l, p a
  | [], _, a, h => by cases h
  | b :: l, h, a, ha => by
    rcases List.mem_cons.1 ha with rfl | ha
    · exact h.1
    · exact AllP.get h.2 a ha
theorem tabsT {c : TCfg Γ} {n : Nat} {body : Code} (tl tj : List (Nat × TFrag Γ)) (h1 : c.loops = fun k => lk k tl) (h2 : c.joins = fun k => lk k tj) (hl : AllP (LoopTied c n body) tl) (hj : AllP (JoinTied c n body) tj) : TabsT c n body := by
  refine ⟨fun b hb l h st S K hk => ?_, fun b hb j h st S K hk => ?_⟩
  · rw [h1] at h
    obtain ⟨i, h3, h4⟩ := fragAt_of h
    obtain ⟨cl, h5, h6⟩ := hl.get _ h3
    have : b ∈ (loopsOf body).filter (firstIs i) := List.mem_filter.2 ⟨hb, h4⟩
    rw [show (loopsOf body).filter (firstIs i) = [cl] from h5, List.mem_singleton] at this
    subst this
    exact h6 st S K hk
  · rw [h2] at h
    obtain ⟨i, h3, h4⟩ := fragAt_of h
    obtain ⟨cl, h5, h6⟩ := hj.get _ h3
    have : b ∈ (tailsOf body).filter (firstIs i) := List.mem_filter.2 ⟨hb, h4⟩
    rw [show (tailsOf body).filter (firstIs i) = [cl] from h5, List.mem_singleton] at this
    subst this
    exact h6 st S K hk
theorem funsT {c : TCfg Γ} (t : List (Nat × TSp Γ)) (hj : c.T = fun k => lk k t) (h : AllP (fun p : Nat × TSp Γ => TOK c.P p.1 p.2) t) : ∀ k sp, c.T k = some sp → TOK c.P k sp := by
  intro k sp hk
  rw [hj] at hk
  exact h.get (k, sp) (lk_mem hk)
theorem joinTie {c : TCfg Γ} {n : Nat} {cl : Code} {l : List (Nat × Sh)} {vl : List (Nat × Ty)} {f : ShD l → VD vl → Dh Γ → (Ex → TS → Dh Γ → Prop) → Prop} (je : ∀ K x y S, evT c n cl (stOf l vl x y) S (endsT c cl K) = f x y S K) :
    ∀ st S K, fragT l vl f st S K → evT c n cl st S (endsT c cl K) := fun st S K h => by
  obtain ⟨x, y, rfl, h2⟩ := fragT_elim h
  rw [je]
  exact h2
theorem loopTie {c : TCfg Γ} {n : Nat} {cl : Code} {l : List (Nat × Sh)} {vl : List (Nat × Ty)} {f : Nat → ShD l → VD vl → Dh Γ → (Ex → TS → Dh Γ → Prop) → Prop}
    (le : ∀ K S m x y, loopT (cutAtT c cl) (fun st S K => evT c n cl st S K) m (stOf l vl x y) S K = f m x y S K) (m : Nat) :
    ∀ st S K, fragT l vl (f m) st S K → loopT (cutAtT c cl) (fun st S K => evT c n cl st S K) m st S K := fun st S K h => by
  obtain ⟨x, y, rfl, h2⟩ := fragT_elim h
  rw [le]
  exact h2
theorem tok_of_eq {c : TCfg Γ} (hT : ∀ k sp, c.T k = some sp → TOK c.P k sp) (hS : AllP (fun p : FuncId × (List Nat × Nat) => SpOK c.P 0 p.1 (selSp p.2.2)) c.sel) (hm : c.P.follows .mixedOrders = true) {k : FuncId} {fn : Func} (hf : c.P.funcs[k]? = some fn) (hb : fn.body.isSome = true) (hn : (fn.name == "runtime.NumGoroutine") = false)
    (hc : codeOK (emptyC c) (bodyOf fn) = true) (ht : TabsT c fn.ntmps (bodyOf fn)) {sp : TSp Γ} (hq : sp.calm = false) (hkp : sp.keep = false) (hs : ∀ xs S K, fnT c fn sp.ps sp.rs xs S K = sp.run xs S K) : TOK c.P k sp :=
  tok_of_fn hT (fun p hp => hS.get p hp) hm hf hb hn hc ht hq hkp fun xs S K h => (hs xs S K).symm ▸ h
/-- A function that leads to a part: how it is tied. -/
theorem sel_ok {c : Cfg} (hT : ∀ k sp, c.T k = some sp → SpOK c.P c.G k sp) (hm : c.P.follows .mixedOrders = true) {k : FuncId} {fn : Func} (hf : c.P.funcs[k]? = some fn) (hb : fn.body.isSome = true) (hn : (fn.name == "runtime.NumGoroutine") = false)
    (hc : codeOK c (bodyOf fn) = true) (ht : TabsOK c fn.ntmps (bodyOf fn)) {o : Nat} (hs : ∀ b off H K, fnK c fn [.pointer (some ⟨b, off, none⟩)] H K = K (.pointer (some ⟨b, off + o, none⟩)) H) : SpOK c.P c.G k (selSp o) := by
  refine sp_of_fnq hT hm hf hb hn hc ht (sp := selSp o) (fun args H K h => ?_) fun args H K h => ?_
  · obtain ⟨b, off, h1, h2⟩ := h
    exact ⟨_, h2, fun K' hk => ⟨b, off, h1, hk⟩⟩
  · obtain ⟨b, off, h1, h2⟩ := h
    subst h1
    rw [hs]
    exact h2
def cfgS (P : Program) : Cfg := ⟨P, 0, fun _ => none, fun _ => none, fun _ => none, fun _ => none, fun _ => none, none, fun _ => none, fun _ => none⟩
theorem tabsS (P : Program) (n : Nat) (body : Code) : TabsOK (cfgS P) n body := by
  refine ⟨fun b _ l hl => ?_, fun b _ j hj => ?_⟩
  · unfold tableAt at hl; cases h : firstR b <;> rw [h] at hl <;> cases hl
  · unfold tableAt at hj; cases h : firstR b <;> rw [h] at hj <;> cases hj
end Go.Proofs.Ytbikpfccdcblfaa.Eng
/- An input is opened: what a law's arguments read as is typed data, read-only. -/
namespace Go.Proofs.Ytbikpfccdcblfaa.Eng
open Go Go.ChangeShapes Go.WideShapes
set_option linter.unusedVariables false
set_option linter.unusedSimpArgs false

/-- Is a type of the program (a struct's last fields, from a cell on) read as ty? -/
def inT (P : Program) : Sum TypeId (List Field × Nat) → Ty → Bool
  | .inl t, .int k => match P.underlying t with | some (.int k') => decide (k' = k) | _ => false
  | .inl t, .bool => match P.underlying t with | some .bool => true | _ => false
  | .inl t, .str => match P.underlying t with | some .string => true | _ => false
  | .inl t, .sl false e ty => match P.underlying t with | some (.slice e') => decide (e' = e) && (decide (P.cellsOf e = ty.n) && (Nat.ble 1 ty.n && (ty.noOwn && inT P (.inl e) ty))) | _ => false
  | .inl t, .unit => match P.underlying t with | some (.struct fs) => fs.toList.isEmpty && decide (P.cellsOf t = 0) | _ => false
  | .inl t, .prod a b => match P.underlying t with
    | some (.struct fs) => match fs.toList with
      | f :: r => decide (P.cellsOf t = a.n + b.n) && (decide (f.offset = 0) && (decide (P.cellsOf f.type = a.n) && (inT P (.inl f.type) a && inT P (.inr (r, a.n)) b)))
      | [] => false
    | _ => false
  | .inr ([], _), .unit => true
  | .inr (f :: r, off), .prod a b => decide (f.offset = off) && (decide (P.cellsOf f.type = a.n) && (inT P (.inl f.type) a && inT P (.inr (r, off + a.n)) b))
  | _, _ => false
/-- What is known of an input's numbers and lengths. -/
def FitD (P : Program) : (t : Ty) → Data t → Prop
  | .int k, n => k.min ≤ (show Int from n) ∧ (show Int from n) ≤ k.max
  | .str, s => List.length (α := UInt8) s ≤ reachBytes
  | .sl _ e t, l => List.length (α := Data t) l * P.bytesOf e ≤ reachBytes ∧ ∀ y, List.Mem (α := Data t) y l → FitD P t y
  | .prod a b, x => FitD P a x.1 ∧ FitD P b x.2
  | _, _ => True
def wz (H : Hp) (b : Nat) : Lab := if b < H.next then fz else nol
theorem wz_own (H : Hp) : Own (wz H) H := by
  refine ⟨fun b b' _ h1 h2 => ?_, fun b hb => ?_⟩
  · unfold wz at h1 h2
    split at h1
    · exact absurd rfl h1
    · rename_i c; rw [if_neg c] at h2; exact absurd rfl h2
  · unfold wz; rw [if_neg (by omega)]
structure HExt (H H' : Hp) : Prop where
  next : H.next ≤ H'.next
  obj : ∀ b, b < H.next → H'.obj b = H.obj b
theorem HExt.refl (H : Hp) : HExt H H := ⟨Nat.le_refl _, fun _ _ => rfl⟩
theorem HExt.trans {A B C : Hp} (h : HExt A B) (k : HExt B C) : HExt A C := ⟨Nat.le_trans h.next k.next, fun b hb => (k.obj b (Nat.lt_of_lt_of_le hb h.next)).trans (h.obj b hb)⟩
theorem HExt.rep {H H' : Hp} (h : HExt H H') {t : Ty} (hn : t.noOwn = true) {l l' : Lab} {x : Data t} {vs : List Value} (hr : RepD (wz H) H t l x vs) : RepD (wz H') H' t l' x vs := by
  refine RepD.move (fun b hb => ?_) (.inl hn) hr
  unfold wz at hb
  split at hb
  · rename_i c
    refine ⟨?_, h.obj b c⟩
    unfold wz; rw [if_pos (Nat.lt_of_lt_of_le c h.next)]
  · exact absurd hb (by decide)
section
variable {Hh : Type} {enc : TypeId × Value → Hh} {P : Program} {W : World}
/-- What is opened. -/
def Opened (P : Program) (W : World) (t : Ty) (ρ : Ren) (H : Hp) (cs : List Value) : Prop :=
  ∃ (ρ' : Ren) (H' : Hp) (x : Data t) (vs : List Value), Rep P 0 ρ' W.heap.size H' W.heap ∧ ρ.ext ρ' ∧ HExt H H' ∧ RepD (wz H') H' t [] x vs ∧ VRs ρ' vs cs ∧ FitD P t x
def Reads1 (enc : TypeId × Value → Hh) (P : Program) (W : World) (t : TypeId) (cs : List Value) : Prop :=
  ∃ (fuel : Nat) (d : DataW Hh) (ps : List MemPlace), DataW.trod enc P W 0 (fun _ => true) true fuel t cs = some (d, ps) ∧ ∀ n ∈ d.weights P t, n ≤ reachBytes
def ReadsS (enc : TypeId × Value → Hh) (P : Program) (W : World) : Sum TypeId (List Field × Nat) → List Value → Prop
  | .inl t, cs => Reads1 enc P W t cs
  | .inr (fs, _), cs => ∀ f ∈ fs, Reads1 enc P W f.type ((cs.drop f.offset).take (P.cellsOf f.type))
def cellsS : Sum TypeId (List Field × Nat) → Ty → List Value → List Value
  | .inl _, _, cs => cs
  | .inr (_, off), t, cs => (cs.drop off).take t.n
theorem weightsAll_mem {e : TypeId} : ∀ {l : List (DataW Hh)} {d : DataW Hh}, d ∈ l → ∀ n ∈ d.weights P e, n ∈ DataW.weightsAll P e l
  | d0 :: l, d, hd, n, hn => by
    simp only [DataW.weightsAll, List.mem_append]
    rcases List.mem_cons.1 hd with rfl | hd
    · exact .inl hn
    · exact .inr (weightsAll_mem hd n hn)
theorem reads_fields {t : TypeId} {fs : Array Field} (hu : P.underlying t = some (.struct fs)) {cs : List Value} (h : Reads1 enc P W t cs) : cs.length = P.cellsOf t ∧ ∀ f ∈ fs.toList, Reads1 enc P W f.type ((cs.drop f.offset).take (P.cellsOf f.type)) := by
  obtain ⟨fuel, d, ps, hf, hw⟩ := h
  obtain ⟨xs, n, _, hx, hl, hxl, hfl⟩ := DataW.trod_struct hu hf
  refine ⟨hl, fun f hfm => ?_⟩
  obtain ⟨i, hi⟩ := List.getElem?_of_mem hfm
  have hi' : fs[i]? = some f := by simpa using hi
  have g := hfl i f hi'
  have hlt : i < xs.length := by
    have := (Array.getElem?_eq_some_iff.1 hi').1
    omega
  rw [List.getElem?_eq_getElem hlt] at g
  refine ⟨n, xs[i].1, xs[i].2, g, fun m hm => hw m ?_⟩
  simp only [Prod.mk.injEq] at hx
  rw [hx.1]
  simp only [DataW.weights, hu]
  exact DataW.weights_mem_each (j := i) (by simp [hi']) (by simp [hlt]) m hm
theorem addr_eq {b o : Nat} (j : Nat) : ((⟨b, o, none⟩ : Addr).add j) = ⟨b, o + j, none⟩ := by
  unfold Addr.add
  split
  · rename_i e; subst e; rfl
  · rfl
theorem open_ok : ∀ (ty : Ty) (s : Sum TypeId (List Field × Nat)), inT P s ty = true → ty.noOwn = true → ∀ (ρ : Ren) (H : Hp) (cs : List Value), Rep P 0 ρ W.heap.size H W.heap → ReadsS enc P W s cs →
    (∀ fs off, s = .inr (fs, off) → off + ty.n ≤ cs.length) → Opened P W ty ρ H (cellsS s ty cs)
  | .int k, .inl t, h, _, ρ, H, cs, r, ⟨fuel, d, ps, hf, hw⟩, _ => by
    simp only [inT] at h
    split at h
    · rename_i k' hu
      have e := of_decide_eq_true h
      subst e
      obtain ⟨n, rfl, _, wf⟩ := DataW.trod_int hu hf
      refine ⟨ρ, H, n, [.int _ n], r, .refl _, .refl _, rfl, .cons (.int _ _) (.nil _), ?_⟩
      simpa [Lit.wf, FitD] using wf
    · cases h
  | .bool, .inl t, h, _, ρ, H, cs, r, ⟨fuel, d, ps, hf, hw⟩, _ => by
    simp only [inT] at h
    split at h
    · rename_i hu
      obtain ⟨b, rfl, _⟩ := DataW.trod_bool hu hf
      exact ⟨ρ, H, b, [.bool b], r, .refl _, .refl _, rfl, .cons (.bool _) (.nil _), trivial⟩
    · cases h
  | .str, .inl t, h, _, ρ, H, cs, r, ⟨fuel, d, ps, hf, hw⟩, _ => by
    simp only [inT] at h
    split at h
    · rename_i hu
      obtain ⟨s, rfl, hd, _⟩ := DataW.trod_string hu hf
      refine ⟨ρ, H, s.data.toList, [.string (mkS s.data.toList)], r, .refl _, .refl _, rfl, .cons (.string _) (.nil _), ?_⟩
      simp only [Prod.mk.injEq] at hd
      refine hw _ ?_
      rw [hd.1]
      simp [DataW.weights]
    · cases h
  | .unit, .inl t, h, _, ρ, H, cs, r, hd, _ => by
    simp only [inT] at h
    split at h
    · rename_i fs hu
      simp only [Bool.and_eq_true, decide_eq_true_eq] at h
      have := (reads_fields hu hd).1
      rw [h.2] at this
      have e : cs = [] := List.length_eq_zero_iff.1 this
      subst e
      exact ⟨ρ, H, (), [], r, .refl _, .refl _, rfl, .nil _, trivial⟩
    · cases h
  | .unit, .inr ([], off), h, _, ρ, H, cs, r, hd, _ => ⟨ρ, H, (), [], r, .refl _, .refl _, rfl, by simp [cellsS, Ty.n]; exact .nil _, trivial⟩
  | .sl own e ty, .inl t, h, hno, ρ, H, cs, r, hd, _ => by
    cases own with
    | true => simp [inT] at h
    | false =>
    simp only [inT] at h
    split at h
    rotate_left
    · cases h
    rename_i e' hu
    simp only [Bool.and_eq_true, decide_eq_true_eq] at h
    obtain ⟨rfl, hc, hn1, hno1, hin⟩ := h
    have hn1 : 1 ≤ ty.n := Nat.le_of_ble_eq_true hn1
    obtain ⟨fuel, d, ps, hf, hw⟩ := hd
    rcases Deep.open_slice hu hf with ⟨rfl, hx⟩ | ⟨a, len, cap, m, n, D, Pl, rfl, _, hl, _, hm, hx, hel⟩
    · exact ⟨ρ, H, [], [.slice none 0 0], r, .refl _, .refl _, ⟨none, 0, rfl, hno1, .inl ⟨rfl, rfl, rfl⟩⟩, .cons .snil (.nil _), by simp [FitD], fun y hy => by cases hy⟩
    simp only [if_true] at hm
    subst hm
    simp only [Prod.mk.injEq] at hx
    have hwl : (((List.range len).map D).length + ((List.range (m - len)).map fun j => D (len + j)).length) * P.bytesOf e' ≤ reachBytes := hw _ (by rw [hx.1]; simp [DataW.weights, hu])
    have hwe : ∀ i, i < len → ∀ k ∈ (D i).weights P e', k ≤ reachBytes := fun i hi k hk => hw k (by
      rw [hx.1]
      simp only [DataW.weights, hu]
      exact List.mem_cons_of_mem _ (List.mem_append.2 (.inl (weightsAll_mem (List.mem_map.2 ⟨i, List.mem_range.2 hi, rfl⟩) k hk))))
    by_cases hz : len = 0
    · subst hz
      exact ⟨ρ, H, [], [.slice (some ⟨0, 0, none⟩) 0 0], r, .refl _, .refl _, ⟨_, 0, rfl, hno1, .inr (.inl ⟨rfl, rfl⟩)⟩, .cons (.slice0 0 0 a m) (.nil _), by simp [FitD], fun y hy => by cases hy⟩
    -- the block
    obtain ⟨cs0, h0, _⟩ := hel 0 (by omega)
    obtain ⟨_, hl0, hc0⟩ := World.cells?_some h0
    have hat := hc0 0 (by omega)
    obtain ⟨b, o, sp⟩ := a
    have hblk : sp = none ∧ ∃ C te fz, W.heap[b]? = some (.cells C te fz) := by
      have e1 : (cs0[0]?).isSome = true := by simp; omega
      rw [← hat] at e1
      unfold World.cell? at e1
      simp only [Nat.zero_mul] at e1
      have e2 : (((⟨b, o, sp⟩ : Addr).add 0).add 0) = ⟨b, o, sp⟩ := by simp [Addr.add]
      rw [e2] at e1
      split at e1
      · rename_i C te fz hC
        refine ⟨?_, C, te, fz, hC⟩
        cases sp with
        | none => rfl
        | some q => simp at e1
      · simp at e1
    obtain ⟨rfl, C, te, fz0, hC⟩ := hblk
    -- the elements, one by one
    have key : ∀ j, j ≤ len → ∃ (ρ' : Ren) (H' : Hp) (l : List (Data ty)) (vs : List Value), Rep P 0 ρ' W.heap.size H' W.heap ∧ ρ.ext ρ' ∧ HExt H H' ∧ l.length = j ∧ vs.length = j * ty.n ∧
        (∀ (i : Nat) (y : Data ty), l[i]? = some y → RepD (wz H') H' ty [] y ((vs.drop (i * ty.n)).take ty.n)) ∧ (∀ (i : Nat) (v : Value), vs[i]? = some v → ∃ v', C[o + i]? = some v' ∧ VR ρ' v v' ∧ oneCell v = true) ∧ ∀ y ∈ l, FitD P ty y := by
      intro j
      induction j with
      | zero => exact fun _ => ⟨ρ, H, [], [], r, .refl _, .refl _, rfl, by simp, fun i y hy => by simp at hy, fun i v hv => by simp at hv, fun y hy => by cases hy⟩
      | succ j ih =>
        intro hj
        obtain ⟨ρ1, H1, l, vs, r1, e1, x1, hl1, hv1, hr1, hc1, hf1⟩ := ih (by omega)
        obtain ⟨cs1, g1, g2⟩ := hel j (by omega)
        obtain ⟨_, hl2, hc2⟩ := World.cells?_some g1
        obtain ⟨ρ2, H2, y, us, r2, e2, x2, hr2, hv2, hf2⟩ := open_ok ty (.inl e') hin hno1 ρ1 H1 cs1 r1 ⟨n, D j, Pl j, g2, hwe j (by omega)⟩ (fun _ _ h => by cases h)
        have hv2 : VRs ρ2 us cs1 := hv2
        have hus : us.length = ty.n := hr2.len
        refine ⟨ρ2, H2, l ++ [y], vs ++ us, r2, e1.trans e2, x1.trans x2, by simp [hl1], by rw [List.length_append, hv1, hus, Nat.succ_mul], fun i z hz => ?_, fun i v hv => ?_, fun z hz => ?_⟩
        · by_cases hi : i < l.length
          · rw [List.getElem?_append_left hi] at hz
            have h1 : i * ty.n + ty.n ≤ vs.length := by
              rw [hv1, ← hl1, ← Nat.succ_mul]
              exact Nat.mul_le_mul_right _ hi
            rw [List.drop_append_of_le_length (by omega), List.take_append_of_le_length (by simp; omega)]
            exact x2.rep hno1 (hr1 i z hz)
          · have hi2 : i = l.length := by
              have := (List.getElem?_eq_some_iff.1 hz).1
              simp at this
              omega
            subst hi2
            simp at hz
            subst hz
            rw [hl1, List.drop_append, List.drop_eq_nil_of_le (by omega), List.nil_append, hv1, Nat.sub_self, List.drop_zero, ← hus, List.take_length]
            exact hr2
        · by_cases hi : i < vs.length
          · rw [List.getElem?_append_left hi] at hv
            obtain ⟨v', a1, a2, a3⟩ := hc1 i v hv
            exact ⟨v', a1, a2.mono e2, a3⟩
          · rw [List.getElem?_append_right (by omega)] at hv
            obtain ⟨v', a1, a2⟩ := hv2.get hv
            refine ⟨v', ?_, a2, hr2.one v (List.mem_of_getElem? hv)⟩
            have hlt : i - vs.length < ty.n := by have := (List.getElem?_eq_some_iff.1 hv).1; omega
            have := hc2 (i - vs.length) (by omega)
            rw [a1, addr_eq, addr_eq, cell_of_block hC, hc] at this
            rw [show o + i = o + j * ty.n + (i - vs.length) by omega]
            exact this
        · rcases List.mem_append.1 hz with hz | hz
          · exact hf1 z hz
          · rw [List.mem_singleton] at hz; subst hz; exact hf2
    obtain ⟨ρ1, H1, l, vs, r1, e1, x1, hl1, hv1, hr1, hc1, hf1⟩ := key len (Nat.le_refl _)
    have hlt : b < W.heap.size := (Array.getElem?_eq_some_iff.1 hC).1
    have r2 := r1.see (o := o) (e := e') (cs := vs) hC hlt hc1
    have x2 : HExt H1 (H1.new (.cells false e' vs)) := ⟨Nat.le_succ _, fun c hc => by simp only [Hp.new]; rw [if_neg (by omega)]⟩
    refine ⟨_, _, l, [.slice (some ⟨H1.next, 0, none⟩) len 0], r2, e1.trans (Ren.add_ext _ (r1.dom _ (Nat.le_refl _))), x1.trans x2, ?_, .cons (.slice (Ren.add_self _ _ _) (.inl rfl) hl (fun h => absurd rfl h)) (.nil _), ?_, fun y hy => hf1 y hy⟩
    · refine ⟨some ⟨H1.next, 0, none⟩, 0, by rw [hl1], hno1, .inr (.inr ⟨H1.next, 0, false, e', vs, rfl, by simp [Hp.new], by rw [hl1]; omega, fun i y hy => ?_, .inr ⟨rfl, ?_⟩⟩)⟩
      · rw [Nat.zero_add]; exact x2.rep hno1 (hr1 i y hy)
      · unfold wz; rw [if_pos (show H1.next < (H1.new (.cells false e' vs)).next from Nat.lt_succ_self _)]
    · rw [hl1]
      refine Nat.le_trans (Nat.mul_le_mul_right _ ?_) hwl
      simp
  | .prod a b, .inl t, h, hno, ρ, H, cs, r, hd, _ => by
    simp only [inT] at h
    split at h
    rotate_left
    · cases h
    rename_i fs hu
    split at h
    rotate_left
    · cases h
    rename_i f rst hfs
    simp only [Bool.and_eq_true, decide_eq_true_eq] at h
    obtain ⟨h1, h2, h3, h4, h5⟩ := h
    simp only [Ty.noOwn, Bool.and_eq_true] at hno
    obtain ⟨hl, hfl⟩ := reads_fields hu hd
    rw [hfs] at hfl
    have hd1 := hfl f List.mem_cons_self
    rw [h2, h3, List.drop_zero] at hd1
    obtain ⟨ρ1, H1, x, us, r1, e1, x1, hr1, hv1, f1⟩ := open_ok a (.inl f.type) h4 hno.1 ρ H _ r hd1 (fun _ _ h => by cases h)
    obtain ⟨ρ2, H2, y, vs, r2, e2, x2, hr2, hv2, f2⟩ := open_ok b (.inr (rst, a.n)) h5 hno.2 ρ1 H1 cs r1 (fun g hg => hfl g (List.mem_cons_of_mem _ hg)) (fun fs off e => by cases e; omega)
    have hv1 : VRs ρ1 us (cs.take a.n) := hv1
    have hv2 : VRs ρ2 vs ((cs.drop a.n).take b.n) := hv2
    refine ⟨ρ2, H2, (x, y), us ++ vs, r2, e1.trans e2, x1.trans x2, ⟨us, vs, rfl, x2.rep hno.1 hr1, hr2.any hno.2⟩, ?_, f1, f2⟩
    have e : cs = cs.take a.n ++ (cs.drop a.n).take b.n := by
      conv => lhs; rw [← List.take_append_drop a.n cs]
      congr 1
      rw [List.take_of_length_le (by simp; omega)]
    show VRs ρ2 (us ++ vs) cs
    rw [e]
    exact (hv1.mono e2).append hv2
  | .prod a b, .inr (f :: rst, off), h, hno, ρ, H, cs, r, hd, hlen => by
    simp only [inT, Bool.and_eq_true, decide_eq_true_eq] at h
    obtain ⟨h2, h3, h4, h5⟩ := h
    simp only [Ty.noOwn, Bool.and_eq_true] at hno
    have hd1 := hd f List.mem_cons_self
    rw [h2, h3] at hd1
    have hlen := hlen _ _ rfl
    simp only [Ty.n] at hlen
    obtain ⟨ρ1, H1, x, us, r1, e1, x1, hr1, hv1, f1⟩ := open_ok a (.inl f.type) h4 hno.1 ρ H _ r hd1 (fun _ _ h => by cases h)
    obtain ⟨ρ2, H2, y, vs, r2, e2, x2, hr2, hv2, f2⟩ := open_ok b (.inr (rst, off + a.n)) h5 hno.2 ρ1 H1 cs r1 (fun g hg => hd g (List.mem_cons_of_mem _ hg)) (fun fs off e => by cases e; omega)
    have hv1 : VRs ρ1 us ((cs.drop off).take a.n) := hv1
    have hv2 : VRs ρ2 vs ((cs.drop (off + a.n)).take b.n) := hv2
    refine ⟨ρ2, H2, (x, y), us ++ vs, r2, e1.trans e2, x1.trans x2, ⟨us, vs, rfl, x2.rep hno.1 hr1, hr2.any hno.2⟩, ?_, f1, f2⟩
    show VRs ρ2 (us ++ vs) ((cs.drop off).take (a.n + b.n))
    rw [List.take_add, List.drop_drop]
    exact (hv1.mono e2).append hv2
  | .int _, .inr (l, off), h, _, _, _, _, _, _, _ => by cases l <;> simp [inT] at h
  | .bool, .inr (l, off), h, _, _, _, _, _, _, _ => by cases l <;> simp [inT] at h
  | .str, .inr (l, off), h, _, _, _, _, _, _, _ => by cases l <;> simp [inT] at h
  | .fn, .inr (l, off), h, _, _, _, _, _, _, _ => by cases l <;> simp [inT] at h
  | .ptr _, .inr (l, off), h, _, _, _, _, _, _, _ => by cases l <;> simp [inT] at h
  | .stale _, .inr (l, off), h, _, _, _, _, _, _, _ => by cases l <;> simp [inT] at h
  | .sl _ _ _, .inr (l, off), h, _, _, _, _, _, _, _ => by cases l <;> simp [inT] at h
  | .map _ _ _ _ _, .inr (l, off), h, _, _, _, _, _, _, _ => by cases l <;> simp [inT] at h
  | .fn, .inl _, h, _, _, _, _, _, _, _ => by simp [inT] at h
  | .ptr _, .inl _, h, _, _, _, _, _, _, _ => by simp [inT] at h
  | .stale _, .inl _, h, _, _, _, _, _, _, _ => by simp [inT] at h
  | .map _ _ _ _ _, .inl _, h, _, _, _, _, _, _, _ => by simp [inT] at h
  | .unit, .inr (_ :: _, _), h, _, _, _, _, _, _, _ => by simp [inT] at h
  | .prod _ _, .inr ([], _), h, _, _, _, _, _, _, _ => by simp [inT] at h
end
end Go.Proofs.Ytbikpfccdcblfaa.Eng
/- A law over typed data, as a law of the program: its call answers true and leaves what lay there. -/
namespace Go.Proofs.Ytbikpfccdcblfaa.Eng
open Go Go.RowKit Go.ChangeShapes Go.WideShapes
set_option linter.unusedVariables false
set_option linter.unusedSimpArgs false

section
variable {Hh : Type} {enc : TypeId × Value → Hh} {P : Program} {W : World}
def FitL (P : Program) : (ts : List Ty) → DataL ts → Prop
  | [], _ => True
  | t :: ts, x => FitD P t x.1 ∧ FitL P ts x.2
def inL (P : Program) : List TypeId → List Ty → Bool
  | [], [] => true
  | t :: ts, y :: ys => inT P (.inl t) y && (y.noOwn && inL P ts ys)
  | _, _ => false
/-- A value's cells, and the value. -/
theorem arg_one {t : TypeId} {y : Ty} (h : inT P (.inl t) y = true) {v : Value} {base : Nat} (hv : Value.okWide P W .any base t v) {ρ : Ren} {vs : List Value} (hr : VRs ρ vs v.cells.toList) : VR ρ (ofC y vs) v := by
  have one : ∀ u, v.cells.toList = [u] → v = u → y.agg = false → VR ρ (ofC y vs) v := fun u e1 e2 e3 => by
    rw [e1] at hr
    match vs, hr.1 with
    | [a], _ =>
      unfold ofC
      rw [e3]
      show VR ρ a v
      rw [e2]
      exact hr.uncons.1
  cases y with
  | int k =>
    simp only [inT] at h
    split at h
    · rename_i hu
      unfold Value.okWide at hv
      rw [hu] at hv
      unfold Cell.okWide at hv
      rw [hu] at hv
      unfold Cell.ok at hv
      rw [hu] at hv
      cases v <;> first | exact one _ rfl rfl rfl | cases hv
    · cases h
  | bool =>
    simp only [inT] at h
    split at h
    · rename_i hu
      unfold Value.okWide at hv
      rw [hu] at hv
      unfold Cell.okWide at hv
      rw [hu] at hv
      unfold Cell.ok at hv
      rw [hu] at hv
      cases v <;> first | exact one _ rfl rfl rfl | cases hv
    · cases h
  | str =>
    simp only [inT] at h
    split at h
    · rename_i hu
      unfold Value.okWide at hv
      rw [hu] at hv
      unfold Cell.okWide at hv
      rw [hu] at hv
      unfold Cell.ok at hv
      rw [hu] at hv
      cases v <;> first | exact one _ rfl rfl rfl | cases hv
    · cases h
  | sl own e ty =>
    cases own with
    | true => simp [inT] at h
    | false =>
      simp only [inT] at h
      split at h
      · rename_i hu
        unfold Value.okWide at hv
        rw [hu] at hv
        unfold Cell.okWide at hv
        rw [hu] at hv
        unfold Cell.ok at hv
        rw [hu] at hv
        cases v <;> first | exact one _ rfl rfl rfl | cases hv
      · cases h
  | unit =>
    simp only [inT] at h
    split at h
    · rename_i hu
      unfold Value.okWide at hv
      rw [hu] at hv
      obtain ⟨cs, rfl, _⟩ := hv
      exact vr_agg (cs := vs) hr
    · cases h
  | prod a b =>
    simp only [inT] at h
    split at h
    · rename_i hu
      unfold Value.okWide at hv
      rw [hu] at hv
      obtain ⟨cs, rfl, _⟩ := hv
      exact vr_agg (cs := vs) hr
    · cases h
  | fn => simp [inT] at h
  | ptr _ => simp [inT] at h
  | stale _ => simp [inT] at h
  | map _ _ _ _ _ => simp [inT] at h
theorem args_ok : ∀ (ts : List TypeId) (ys : List Ty), inL P ts ys = true → ∀ (ρ : Ren) (H : Hp) (vs : List Value) (ds : List (DataW Hh)) (ps : List MemPlace), Rep P 0 ρ W.heap.size H W.heap → DataW.TrodAll enc P W 0 (fun _ => true) true ts vs ds ps →
    (∀ n ∈ DataW.weightsEach P ts ds, n ≤ reachBytes) → ∀ base, (∀ (j : Nat) t v, ts[j]? = some t → vs[j]? = some v → Value.okWide P W .any base t v) →
    ∃ (ρ' : Ren) (H' : Hp) (xs : DataL ys) (us : List Value), Rep P 0 ρ' W.heap.size H' W.heap ∧ ρ.ext ρ' ∧ HExt H H' ∧ Pars (wz H') H' ys xs us ∧ VRs ρ' us vs ∧ FitL P ys xs
  | [], [], h, ρ, H, [], [], ps, r, hd, hw, base, hv => ⟨ρ, H, (), [], r, .refl _, .refl _, trivial, .nil _, trivial⟩
  | t :: ts, y :: ys, h, ρ, H, v :: vs, d :: ds, ps, r, ⟨p, q, ⟨fuel, h1⟩, h2, h3⟩, hw, base, hv => by
    simp only [inL, Bool.and_eq_true] at h
    obtain ⟨g1, g2, g3⟩ := h
    simp only [DataW.weightsEach, List.mem_append] at hw
    obtain ⟨ρ1, H1, x, us, r1, e1, x1, hr1, hv1, f1⟩ := open_ok y (.inl t) g1 g2 ρ H _ r ⟨fuel, d, p, h1, fun n hn => hw n (.inl hn)⟩ (fun _ _ h => by cases h)
    obtain ⟨ρ2, H2, xs, ws, r2, e2, x2, hr2, hv2, f2⟩ := args_ok ts ys g3 ρ1 H1 vs ds q r1 h2 (fun n hn => hw n (.inr hn)) base (fun j t v a b => hv (j + 1) t v (by simpa using a) (by simpa using b))
    have hv1 : VRs ρ1 us v.cells.toList := hv1
    exact ⟨ρ2, H2, (x, xs), ofC y us :: ws, r2, e1.trans e2, x1.trans x2, ⟨⟨g2, us, x2.rep g2 hr1, rfl⟩, hr2⟩, .cons ((arg_one g1 (hv 0 t v rfl rfl) hv1).mono e2) hv2, f1, f2⟩
  | [], [], _, _, _, _ :: _, _, _, _, hd, _, _, _ => by simp [DataW.TrodAll] at hd
  | [], [], _, _, _, [], _ :: _, _, _, hd, _, _, _ => by simp [DataW.TrodAll] at hd
  | _ :: _, _ :: _, _, _, _, [], _, _, _, hd, _, _, _ => by simp [DataW.TrodAll] at hd
  | _ :: _, _ :: _, _, _, _, _ :: _, [], _, _, hd, _, _, _ => by simp [DataW.TrodAll] at hd
  | [], _ :: _, h, _, _, _, _, _, _, _, _, _, _ => by simp [inL] at h
  | _ :: _, [], h, _, _, _, _, _, _, _, _, _, _ => by simp [inL] at h
/-- A law's call. -/
theorem law_calls {Γ : Nat → Ty} {k : FuncId} {fn : Func} (hf : P.funcs[k]? = some fn) (hb : fn.body.isSome = true) (hn : (fn.name == "runtime.NumGoroutine") = false)
    {ys : List Ty} {run : DataL ys → Dh Γ → (DataL [.bool] → Dh Γ → Prop) → Prop} (tok : TOK P k ⟨false, ys, [.bool], run, false⟩) (hin : inL P fn.params.toList ys = true)
    (pure : ∀ xs : DataL ys, FitL P ys xs → run xs Dh.empty fun r _ => r.1 = true)
    {args : Array Value} {ds : List (DataW Hh)} {ps : List MemPlace} (hA : DataW.TrodAll enc P W 0 (fun _ => true) true fn.params.toList args.toList ds ps)
    (hw : ∀ n ∈ DataW.weightsEach P fn.params.toList ds, n ≤ reachBytes) {base : Nat} (hv : ∀ (j : Nat) t v, fn.params[j]? = some t → args[j]? = some v → Value.okWide P W .any base t v) :
    Calls P k args W fun e w' => e = .returned (.bool true) ∧ Below W.heap.size W w' := by
  obtain ⟨ρ, H, xs, us, r, _, _, hp, hvr, hfit⟩ := args_ok fn.params.toList ys hin (fun _ => none) ⟨fun _ => none, 0⟩ args.toList ds ps (Rep.empty P W) hA hw base (fun j t v a b => hv j t v (by simpa using a) (by simpa using b))
  refine (SpOK.calls tok hf hb hn (args := us) (H := H) (K := fun v _ => v = .bool true) ?_ r hvr).mono fun e w' ⟨v, he, ρ', v0, H', hk, _, hvr, _, hbl⟩ => ?_
  · refine ⟨wz H, Dh.empty, xs, _, hp, (show DynR (wz H) H (Dh.empty (Γ := Γ)) from fun c id x hx => nomatch hx), wz_own H, pure xs hfit, fun y S' hy ω' H' vs' _ _ _ hrets => ?_⟩
    match vs', hrets with
    | [u], ⟨⟨cs, h1, h2⟩, _⟩ =>
      have h1 : cs = [.bool y.1] := h1
      rw [h1, hy] at h2
      exact h2
    | u :: w :: r, ⟨_, h⟩ => exact h.elim
  · subst hk
    rw [hvr.bool_inv] at he
    exact ⟨he, hbl⟩
end
end Go.Proofs.Ytbikpfccdcblfaa.Eng
