/- The engine, part 9: places, literals, maps, built-in functions. -/
import Derived.Test.YtbikpfccdcblfaaEng8
import Derived.Laws.Tables
import Derived.Great.BuildSlice
import Derived.DeepKeys3
namespace Go.Proofs.Ytbikpfccdcblfaa.Eng
open Go Go.RowKit
set_option linter.unusedVariables false
set_option linter.unusedSimpArgs false
variable {P : Program} {G : Nat} {ρ : Ren} {B : Nat} {H : Hp} {w : World} {n : Nat} {σ : Env} {a : Act}

theorem partK_ok {t : TypeId} {cs : List Value} {cs' : Array Value} {off : Nat} {K : Value → Prop} (hc : VRs ρ cs cs'.toList) (h : partK P t cs off K) :
    ∃ v v', K v ∧ VR ρ v v' ∧ ∀ (w : World), (part t cs' off).run P w = .ok v' w := by
  unfold partK at h
  split at h
  · rename_i i d hi hd
    split at h
    · rename_i hagg
      refine ⟨_, .agg (cs'.extract off (off + i.size)), h, ?_, fun w => ?_⟩
      · have := (hc.drop off).take i.size
        refine .agg ?_ ?_
        · have := this.1; simp at this ⊢; omega
        · have e : (cs'.extract off (off + i.size)).toList = (cs'.toList.drop off).take i.size := by simp
          rw [e]; exact this.2
      · simp [part, run_isAgg hd, hagg, run_sizeOf hi, Result.andThen]
    · rename_i hagg
      obtain ⟨v, hv, hk⟩ := optP_elim h
      obtain ⟨v', h1, h2⟩ := hc.get hv
      refine ⟨v, v', hk, h2, fun w => ?_⟩
      have : cs'[off]? = some v' := by simpa using h1
      simp [part, run_isAgg hd, hagg, this, Result.andThen]
  · exact h.elim
theorem fieldOf_elim {t : TypeId} {f : Nat} {fd : Field} (h : fieldOf P t f = some fd) : ∃ fs, P.underlying t = some (.struct fs) ∧ fs[f]? = some fd := by
  unfold fieldOf at h
  split at h
  · exact ⟨_, ‹_›, by simpa using h⟩
  · cases h
theorem szOf_pos {t : TypeId} (h : szOf P t ≠ 0) : ∃ i, P.info? t = some i ∧ i.size = szOf P t := by
  unfold szOf at h ⊢
  split at h
  · rename_i i hi; exact ⟨i, hi, by simp [hi]⟩
  · exact (h rfl).elim
theorem fieldAddrK_ok {t : TypeId} {f : Nat} {x x' : Value} {K : Value → Prop} (hx : VR ρ x x') (h : fieldAddrK P t f x K) :
    ∃ v v', K v ∧ VR ρ v v' ∧ ∀ (w : World), (Instr.fieldAt t x' f).run P w = .ok v' w := by
  unfold fieldAddrK at h
  split at h
  · rename_i fd p hf
    obtain ⟨ad, rfl, h1⟩ := optP_elim h
    obtain ⟨hz, hk⟩ := gd_elim h1
    obtain ⟨l, hl, hs, rfl⟩ := hx.ptr_some
    obtain ⟨fs, hu, hfs⟩ := fieldOf_elim hf
    have hz' : szOf P fd.type ≠ 0 := fun e => by rw [e] at hz; cases hz
    obtain ⟨i, hi, hsz⟩ := szOf_pos hz'
    refine ⟨_, _, hk, .ptr hl, fun w => ?_⟩
    have hne : ¬ i.size = 0 := by omega
    simp [Instr.fieldAt, run_underlying hu, hfs, Instr.sureAddr, fieldPlace, run_sizeOf hi, hne, Addr.add_lit, Result.andThen, Nat.add_assoc]
  · exact h.elim
theorem indexAddrK_ok {t : TypeId} {x ix x' ix' : Value} {K : Value → Prop} (hx : VR ρ x x') (hi : VR ρ ix ix') (h : indexAddrK P t x ix K) :
    ∃ v v', K v ∧ VR ρ v v' ∧ ∀ (w : World), (Instr.indexAt t x' ix').run P w = .ok v' w := by
  unfold indexAddrK at h
  split at h
  · rename_i k j
    cases hi
    split at h
    · rename_i len e p ht
      split at h
      · exact h.elim
      · rename_i i hie
        obtain ⟨ad, rfl, h1⟩ := optP_elim h
        obtain ⟨hb, hk⟩ := gd_elim h1
        simp only [Bool.and_eq_true, decide_eq_true_eq] at hb
        obtain ⟨l, hl, hs, rfl⟩ := hx.ptr_some
        refine ⟨_, _, hk, .ptr hl, fun w => ?_⟩
        simp [Instr.indexAt, asIntOf, run_underlying ht, Instr.sureAddr, hb.1, hb.2, run_sizeOf hie, Addr.add_lit, Result.andThen, Nat.add_assoc]
    · rename_i e p m k' ht
      split at h
      · exact h.elim
      · rename_i i hie
        obtain ⟨ad, rfl, h1⟩ := optP_elim h
        obtain ⟨hb, hk⟩ := gd_elim h1
        simp only [Bool.and_eq_true, decide_eq_true_eq] at hb
        rcases hx.slice_inv with ⟨hne, _⟩ | ⟨b, o, l, o', c, hne, hl, rfl, ho, hn, hc⟩
        · cases hne
        · cases hne
          have ho' : o' = l.off + o := by rcases ho with ho | ho; exact ho; omega
          subst ho'
          refine ⟨_, _, hk, .ptr hl, fun w => ?_⟩
          simp [Instr.indexAt, asIntOf, run_underlying ht, hb.1, hb.2, run_sizeOf hie, Addr.add_lit, Result.andThen, Nat.add_assoc]
    · exact h.elim
  · exact h.elim
theorem indexK_ok {t : TypeId} {x ix x' ix' : Value} {K : Value → Prop} (hx : VR ρ x x') (hi : VR ρ ix ix') (h : indexK P t x ix K) :
    ∃ v v', K v ∧ VR ρ v v' ∧ ∀ (w : World), (Instr.index t x' ix').run P w = .ok v' w := by
  unfold indexK at h
  split at h
  · rename_i k j
    cases hi
    split at h
    · rename_i len e cs ht
      split at h
      · exact h.elim
      · rename_i i hie
        obtain ⟨hb, hk⟩ := gd_elim h
        simp only [Bool.and_eq_true, decide_eq_true_eq] at hb
        obtain ⟨cs', rfl, hcs⟩ := hx.agg_inv
        obtain ⟨v, v', h1, h2, h3⟩ := partK_ok hcs hk
        refine ⟨v, v', h1, h2, fun w => ?_⟩
        simp [Instr.index, asIntOf, run_underlying ht, hb.1, hb.2, run_sizeOf hie, h3, Result.andThen]
    · rename_i s ht
      cases hx
      obtain ⟨hb, hk⟩ := gd_elim h
      simp only [Bool.and_eq_true, decide_eq_true_eq] at hb
      refine ⟨_, _, hk, .int _ _, fun w => ?_⟩
      have hlt : j.toNat < s.size := by omega
      have hg : s[j.toNat]? = some s[j.toNat] := getElem?_pos s j.toNat hlt
      have hv : byteAt s j.toNat = ((s[j.toNat]).toNat : Int) := by
        have h2 : j.toNat < s.data.toList.length := by simpa using hlt
        simp [byteAt, List.getD, List.getElem?_eq_getElem h2]
        rfl
      simp [Instr.index, asIntOf, run_underlying ht, hb.1, hg, hv, Result.andThen]
    · exact h.elim
  · exact h.elim

/-! literals -/
theorem foldl_setL (off : Nat) : ∀ (l : List Value) (k : Nat) (cells : Array Value), ((l.zipIdx k).foldl (fun (cs : Array Value) (x : Value × Nat) => cs.setIfInBounds (off + x.2) x.1) cells).toList = setL cells.toList (off + k) l
  | [], k, cells => rfl
  | v :: l, k, cells => by
    rw [List.zipIdx_cons, List.foldl_cons, foldl_setL off l (k + 1)]
    simp [setL, Nat.add_assoc]
theorem fill_ok {place : Nat → Option (Nat × Nat)} : ∀ {vs vs' : List (Nat × Value)} {zs : List Value} {zs' : Array Value} {cs : List Value}, VRs ρ zs zs'.toList →
    vs.map (·.1) = vs'.map (·.1) → VRs ρ (vs.map (·.2)) (vs'.map (·.2)) → fillL place zs vs = some cs → ∃ cs', Instr.fill place zs' vs' = some cs' ∧ VRs ρ cs cs'.toList
  | [], vs', zs, zs', cs, hz, hi, hv, h => by
    cases vs' with
    | cons a b => simp at hi
    | nil => simp only [fillL, Option.some.injEq] at h; subst h; exact ⟨zs', rfl, hz⟩
  | (i, v) :: r, vs', zs, zs', cs, hz, hi, hv, h => by
    cases vs' with
    | nil => simp at hi
    | cons a b =>
      obtain ⟨i', v'⟩ := a
      simp only [List.map_cons, List.cons.injEq] at hi
      obtain ⟨rfl, hi⟩ := hi
      obtain ⟨hv1, hv2⟩ := hv.uncons
      unfold fillL at h
      split at h
      · cases h
      · rename_i off size hp
        split at h
        · rename_i hc
          simp only [Bool.and_eq_true] at hc
          have c1 : v.cells.size = size := Nat.eq_of_beq_eq_true hc.1
          have c2 : off + v.cells.size ≤ zs.length := Nat.le_of_ble_eq_true hc.2
          have e1 : v'.cells.size = v.cells.size := by have := hv1.cells.1; simp at this; exact this.symm
          have e2 : zs'.size = zs.length := by have := hz.1; simp at this; exact this.symm
          unfold Instr.fill
          simp only [hp]
          rw [if_neg (by simp [e1, e2, c1]; omega)]
          refine fill_ok (zs' := _) ?_ hi hv2 h
          have : (v'.cells.zipIdx.foldl (fun (cs : Array Value) (x : Value × Nat) => cs.setIfInBounds (off + x.2) x.1) zs').toList = setL zs'.toList off v'.cells.toList := by
            rw [← Array.foldl_toList, Array.toList_zipIdx, foldl_setL]
            rfl
          rw [this]
          exact hv1.cells.setL hz off
        · cases h
theorem partsL_ok {E : Operand → Option Value} (hE : ∀ x v, E x = some v → VR ρ v (a.eval x)) : ∀ {ps : List (Nat × Operand)} {vs : List (Nat × Value)}, partsL E ps = some vs →
    vs.map (·.1) = (ps.map fun (i, x) => (i, a.eval x)).map (·.1) ∧ VRs ρ (vs.map (·.2)) ((ps.map fun (i, x) => (i, a.eval x)).map (·.2))
  | [], vs, h => by cases h; exact ⟨rfl, .nil ρ⟩
  | (i, x) :: ps, vs, h => by
    simp only [partsL] at h
    split at h
    · cases h
    · rename_i v hv
      split at h
      · cases h
      · rename_i us hus
        cases h
        obtain ⟨h1, h2⟩ := partsL_ok hE hus
        exact ⟨by simp only [List.map_cons]; rw [h1], .cons (hE _ _ hv) h2⟩
theorem placesL_eq : ∀ {fs : List Field} {l : List (Nat × Nat)}, placesL P fs = some l → fs.mapM (fun f => (P.info? f.type).map fun i => (f.offset, i.size)) = some l
  | [], l, h => by cases h; rfl
  | f :: fs, l, h => by
    simp only [placesL] at h
    split at h
    · rename_i i r hi hr
      cases h
      simp [List.mapM_cons, hi, placesL_eq hr]
    · cases h
theorem build_ok {t : TypeId} {z : Value} {pl : Nat → Option (Nat × Nat)} {ps : Array (Nat × Value)} {cs : List Value} {vs : List (Nat × Value)} (hz : zeroOf P t = some z) (hpl : places P t = some pl)
    (hi : vs.map (·.1) = ps.toList.map (·.1)) (hv : VRs ρ (vs.map (·.2)) (ps.toList.map (·.2))) (h : fillL pl z.cells.toList vs = some cs) :
    ∃ cs', VRs ρ cs cs'.toList ∧ ∀ (w : World), (Instr.build t ps).run P w = .ok (.agg cs') w := by
  obtain ⟨it, hit, hz', hzc⟩ := zeroOf_elim hz
  obtain ⟨cs', h1, h2⟩ := fill_ok (zs' := z.cells) (constCells hzc ρ) hi hv h
  refine ⟨cs', h2, fun w => run_build w t ps cs' ?_⟩
  unfold Program.built
  unfold places at hpl
  split at hpl
  · rename_i fs hu
    split at hpl
    · rename_i l hl
      cases hpl
      simp only [hit, hu, hz', placesL_eq hl]
      have : (fun (i : Nat) => (l.toArray)[i]?) = fun (i : Nat) => l[i]? := by funext i; simp
      rw [this]; exact h1
    · cases hpl
  · rename_i len e hu
    split at hpl
    · rename_i i hi
      cases hpl
      simp only [hit, hu, hz', hi]; exact h1
    · cases hpl
  · cases hpl
theorem buildSlice_ok (r : Rep P G ρ B H w.heap) {t e : TypeId} {z : Value} {m : Nat} {ps : Array (Nat × Value)} {cs : List Value} {vs : List (Nat × Value)} (ht : P.underlying t = some (.slice e)) (hz : zeroOf P e = some z)
    (hsz : z.cells.size = szOf P e) (hsmall : m * szOf P e ≤ 16777216) (hi : vs.map (·.1) = ps.toList.map (·.1)) (hv : VRs ρ (vs.map (·.2)) (ps.toList.map (·.2)))
    (h : fillL (fun i => some (i * szOf P e, szOf P e)) (zerosN z m) vs = some cs) (h1 : ∀ v ∈ cs, oneCell v = true) {K : Value → Hp → Prop}
    (hk : K (.slice (some ⟨H.next, 0, none⟩) m (szOf P e)) (H.new (.cells true e cs))) :
    ∃ v' w', (Instr.buildSlice t m ps).run P w = .ok v' w' ∧ Post P G ρ B w K v' w' := by
  obtain ⟨ie, hie, hz', hzc⟩ := zeroOf_elim hz
  have hs := szOf_eq hie
  rw [hs] at hsz hsmall h hk
  have hzl : (madeCells z.cells (m * ie.size)).toList = zerosN z m := by
    apply List.ext_getElem?
    intro j
    by_cases hj : j < m * ie.size
    · have hj2 : j < (zerosN z m).length := by rw [zerosN_length, hsz]; exact hj
      rw [List.getElem?_eq_getElem hj2]
      have := zerosN_get (k := m) (Nat.le_refl _) (List.getElem?_eq_getElem hj2)
      rw [hsz] at this
      simpa using this
    · have z1 : (zerosN z m)[j]? = none := List.getElem?_eq_none (by rw [zerosN_length, hsz]; omega)
      have z2 : (madeCells z.cells (m * ie.size)).toList[j]? = none := List.getElem?_eq_none (by rw [Array.length_toList, size_madeCells]; omega)
      rw [z1, z2]
  have hmade : VRs ρ (zerosN z m) (madeCells z.cells (m * ie.size)).toList := by
    rw [hzl]
    refine ⟨rfl, fun i v v' hv hv' => ?_⟩
    rw [hv] at hv'; cases hv'
    have hz2 : v ∈ z.cells.toList := by
      have := List.mem_of_getElem? hv
      simp only [zerosN, List.mem_flatten, List.mem_replicate] at this
      obtain ⟨_, ⟨_, rfl⟩, hv⟩ := this
      exact hv
    obtain ⟨q, hq⟩ := List.getElem?_of_mem hz2
    exact (constCells hzc ρ).2 q v v hq hq
  obtain ⟨cs', f1, f2⟩ := fill_ok (zs' := madeCells z.cells (m * ie.size)) hmade hi hv h
  have hlen : ∀ {pl : Nat → Option (Nat × Nat)} {vs : List (Nat × Value)} {zs cs : List Value}, fillL pl zs vs = some cs → cs.length = zs.length := by
    intro pl vs
    induction vs with
    | nil => intro zs cs h; cases h; rfl
    | cons x vs ih =>
      obtain ⟨i, v⟩ := x
      intro zs cs h
      unfold fillL at h
      split at h
      · cases h
      · split at h
        · rw [ih h, setL_length]
        · cases h
  have hcl : cs.length = m * ie.size := by rw [hlen h, zerosN_length, hsz]
  have hcl' : cs'.size = m * ie.size := by have := f2.1; simp at this; omega
  have hrun : (Instr.buildSlice t m ps).run P w = .ok (.slice (some ⟨w.heap.size, 0, none⟩) m m) (w.alloc (.cells cs' e)) := by
    by_cases hp : m * ie.size = 0
    · have f1' : Instr.fill (fun i => some (i * ie.size, ie.size)) #[] ps.toList = some cs' := by
        have : madeCells z.cells (m * ie.size) = #[] := by rw [hp]; exact Array.eq_empty_of_size_eq_zero (size_madeCells _ _)
        rwa [this] at f1
      simp [Instr.buildSlice, run_underlying ht, run_sizeOf hie, hp, newRow, Array.range_zero', f1', Result.andThen]
    · exact run_buildSlice w t e m ps cs' ie z ht hie hz' (by omega) hp (by simpa [madeCells] using f1)
  refine ⟨_, _, hrun, ?_⟩
  have hrow := r.row (e := e) (e' := e) (cs := cs) (C := cs') (row := true) (fz := (0, 0)) (by omega)
    (fun j v hj => by
      obtain ⟨v', a1, a2⟩ := f2.get hj
      exact ⟨v', by simpa using a1, a2, h1 v (List.mem_of_getElem? hj)⟩) (by simp)
  refine ⟨_, _, _, hk, Ren.add_ext _ (r.dom _ (Nat.le_refl _)), ?_, hrow, below_push w _ r.base⟩
  have := VR.slice (ρ := ρ.add H.next ⟨w.heap.size, 0, cs'.size, szOf P e, true⟩) (b := H.next) (o := 0) (n := m) (k := ie.size) (o' := 0) (c := m) (Ren.add_self _ _ _) (.inl rfl) (Nat.le_refl _)
    (fun _ => ⟨rfl, by simp [hs], by simp only [hcl']; omega⟩)
  exact this
end Go.Proofs.Ytbikpfccdcblfaa.Eng
