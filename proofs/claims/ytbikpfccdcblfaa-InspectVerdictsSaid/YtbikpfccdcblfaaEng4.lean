/- The engine, part 4: each operation of the model does what the engine asks of it (all but calls, append, maps). -/
import Derived.Test.YtbikpfccdcblfaaEng3
namespace Go.Proofs.Ytbikpfccdcblfaa.Eng
open Go Go.RowKit
set_option linter.unusedVariables false
set_option linter.unusedSimpArgs false

def ER (ρ : Ren) (n : Nat) (σ : Env) (a : Act) : Prop := a.tmps.size = n ∧ ∀ (t : Nat) (v : Value), look t σ = some v → t < n ∧ VR ρ v (a.tmps.getD t undef)
/-- What stands behind an operation or a call. -/
def Post (P : Program) (G : Nat) (ρ : Ren) (B : Nat) (w : World) (K : Value → Hp → Prop) (v' : Value) (w' : World) : Prop :=
  ∃ (ρ' : Ren) (v : Value) (H' : Hp), K v H' ∧ ρ.ext ρ' ∧ VR ρ' v v' ∧ Rep P G ρ' B H' w'.heap ∧ Below B w w'

variable {P : Program} {G : Nat} {ρ : Ren} {B : Nat} {H : Hp} {w : World} {n : Nat} {σ : Env} {a : Act}

theorem Post.still (r : Rep P G ρ B H w.heap) {K : Value → Hp → Prop} {v v' : Value} (hk : K v H) (hv : VR ρ v v') : Post P G ρ B w K v' w :=
  ⟨ρ, v, H, hk, .refl ρ, hv, r, Below.refl _ _⟩

theorem arg_ok (r : Rep P G ρ B H w.heap) (he : ER ρ n σ a) {x : Operand} {v : Value} (h : arg G σ x = some v) : VR ρ v (a.eval x) := by
  cases x with
  | tmp t => exact (he.2 t v h).2
  | const u =>
    simp only [arg] at h
    split at h
    · cases h; exact const_VR ‹_› ρ
    · cases h
  | global g =>
    simp only [arg] at h
    split at h
    · rename_i e
      cases h
      obtain ⟨l, hl, hb, ho⟩ := r.glob.2 g (Nat.le_of_ble_eq_true e)
      have := VR.ptr (o := 0) hl
      rw [hb, ho] at this
      exact this
    · cases h
  | func f => cases h; exact .func rfl (fun i v v' h => by simp at h) rfl (fun i v v' h => by simp at h)
theorem argsL_ok {E : Operand → Option Value} (hE : ∀ x v, E x = some v → VR ρ v (a.eval x)) : ∀ {xs : List Operand} {vs : List Value}, argsL E xs = some vs → VRs ρ vs (xs.map a.eval)
  | [], vs, h => by cases h; exact .nil ρ
  | x :: xs, vs, h => by
    simp only [argsL] at h
    split at h
    · cases h
    · rename_i v hv
      split at h
      · cases h
      · rename_i us hus
        cases h
        exact .cons (hE x v hv) (argsL_ok hE hus)

/-! inversion of the relation -/
theorem VR.bool_inv {b : Bool} {v : Value} (h : VR ρ (.bool b) v) : v = .bool b := by cases h; rfl
theorem VR.int_inv {k : IntKind} {m : Int} {v : Value} (h : VR ρ (.int k m) v) : v = .int k m := by cases h; rfl
theorem VR.string_inv {s : ByteArray} {v : Value} (h : VR ρ (.string s) v) : v = .string s := by cases h; rfl
theorem VR.ptr_inv {p : Option Addr} {v : Value} (h : VR ρ (.pointer p) v) : (p = none ∧ v = .pointer none) ∨ ∃ b o l, p = some ⟨b, o, none⟩ ∧ ρ b = some l ∧ v = .pointer (some ⟨l.blk, l.off + o, none⟩) := by
  cases h with
  | pnil => exact .inl ⟨rfl, rfl⟩
  | ptr h => exact .inr ⟨_, _, _, rfl, h, rfl⟩
theorem VR.ptr_some {ad : Addr} {v : Value} (h : VR ρ (.pointer (some ad)) v) : ∃ l, ρ ad.block = some l ∧ ad.spot = none ∧ v = .pointer (some ⟨l.blk, l.off + ad.off, none⟩) := by
  cases h with
  | ptr h => exact ⟨_, h, rfl, rfl⟩
theorem VR.map_inv {m : Option Nat} {v : Value} (h : VR ρ (.map m) v) : (m = none ∧ v = .map none) ∨ ∃ b l, m = some b ∧ ρ b = some l ∧ v = .map (some l.blk) := by
  cases h with
  | mnil => exact .inl ⟨rfl, rfl⟩
  | map h => exact .inr ⟨_, _, rfl, h, rfl⟩
theorem VR.slice_inv {p : Option Addr} {m k : Nat} {v : Value} (h : VR ρ (.slice p m k) v) : (p = none ∧ m = 0 ∧ k = 0 ∧ v = .slice none 0 0) ∨
    ∃ b o l o' c, p = some ⟨b, o, none⟩ ∧ ρ b = some l ∧ v = .slice (some ⟨l.blk, o', none⟩) m c ∧ (o' = l.off + o ∨ c = 0) ∧ m ≤ c ∧ (k ≠ 0 → l.row = true ∧ l.sz = k ∧ o' + c * k ≤ l.off + l.lim) := by
  cases h with
  | snil => exact .inl ⟨rfl, rfl, rfl, rfl⟩
  | slice h ho hn hc => exact .inr ⟨_, _, _, _, _, rfl, h, rfl, ho, hn, hc⟩
theorem VR.agg_inv {cs : Array Value} {v : Value} (h : VR ρ (.agg cs) v) : ∃ cs', v = .agg cs' ∧ VRs ρ cs.toList cs'.toList := by
  cases h with
  | agg hx hx' => exact ⟨_, rfl, hx, hx'⟩
theorem VR.tuple_inv {cs : Array Value} {v : Value} (h : VR ρ (.tuple cs) v) : ∃ cs', v = .tuple cs' ∧ VRs ρ cs.toList cs'.toList := by
  cases h with
  | tuple hx hx' => exact ⟨_, rfl, hx, hx'⟩
theorem VR.func_inv {fn : Fn} {xs ys : Array Value} {v : Value} (h : VR ρ (.func fn xs ys) v) : ∃ xs' ys', v = .func fn xs' ys' ∧ VRs ρ xs.toList xs'.toList ∧ VRs ρ ys.toList ys'.toList := by
  cases h with
  | func a b c d => exact ⟨_, _, rfl, ⟨a, b⟩, ⟨c, d⟩⟩

theorem vr_agg {cs cs' : List Value} (h : VRs ρ cs cs') : VR ρ (.agg ⟨cs⟩) (.agg ⟨cs'⟩) := .agg h.1 h.2
theorem vr_tuple {cs cs' : List Value} (h : VRs ρ cs cs') : VR ρ (.tuple ⟨cs⟩) (.tuple ⟨cs'⟩) := .tuple h.1 h.2

/-! reading -/
theorem getK_elim {b o : Nat} {z : Value} {K : Value → Prop} (h : getK H b o z K) : ∃ v, H.cell b o = some v ∧ K v := by
  unfold getK at h
  split at h
  · obtain ⟨_, h1, h2⟩ := h; exact ⟨_, h1, h2⟩
  · obtain ⟨_, h1, h2⟩ := h; exact ⟨_, h1, h2⟩
  · obtain ⟨_, h1, h2⟩ := h; exact ⟨_, h1, h2⟩
  · obtain ⟨_, h1, h2⟩ := h; exact ⟨_, h1, h2⟩
  · obtain ⟨_, _, _, h1, h2⟩ := h; exact ⟨_, h1, h2⟩
  · obtain ⟨_, h1, h2⟩ := h; exact ⟨_, h1, h2⟩
  · obtain ⟨_, h1, _, h2⟩ := h; exact ⟨_, h1, h2⟩
theorem getsK_elim {b : Nat} : ∀ {zs : List Value} {o : Nat} {K : List Value → Prop}, getsK H b o zs K → ∃ vs, K vs ∧ vs.length = zs.length ∧ ∀ (j : Nat) (v : Value), vs[j]? = some v → H.cell b (o + j) = some v
  | [], o, K, h => ⟨[], h, rfl, fun j v hv => by simp at hv⟩
  | z :: zs, o, K, h => by
    obtain ⟨v, hv, h⟩ := getK_elim (K := fun v => getsK H b (o + 1) zs fun vs => K (v :: vs)) h
    obtain ⟨vs, hk, hl, hc⟩ := getsK_elim h
    refine ⟨v :: vs, hk, by simp [hl], fun j u hu => ?_⟩
    cases j with
    | zero => simp at hu; subst hu; exact hv
    | succ j => rw [show o + (j + 1) = o + 1 + j by omega]; exact hc j u (by simpa using hu)
theorem run_isAgg {t : TypeId} {d : TypeDesc} (hd : P.underlying t = some d) : (isAgg t).run P w = .ok (aggTy P t) w := by
  simp only [isAgg, Sem.run_bind, run_underlying hd, Result.andThen, aggTy, hd]
  cases d <;> rfl
theorem run_sizeOf {t : TypeId} {i : TypeInfo} (hi : P.info? t = some i) : (sizeOf t).run P w = .ok i.size w := by
  simp [sizeOf, typeInfo, hi]
theorem zeroOf_elim {t : TypeId} {z : Value} (hz : zeroOf P t = some z) : ∃ i, P.info? t = some i ∧ i.zero = some z ∧ constOK z = true := by
  unfold zeroOf at hz
  split at hz
  · cases hz
  · rename_i i hi
    split at hz
    · cases hz
    · split at hz
      · cases hz; exact ⟨i, hi, ‹_›, ‹_›⟩
      · cases hz
theorem run_zeroValue {t : TypeId} {z : Value} (hz : zeroOf P t = some z) : (zeroValue t).run P w = .ok z w := by
  obtain ⟨i, hi, h1, _⟩ := zeroOf_elim hz
  simp [zeroValue, typeInfo, hi, h1]
theorem szOf_eq {t : TypeId} {i : TypeInfo} (hi : P.info? t = some i) : szOf P t = i.size := by simp [szOf, hi]
/-- The cells of a block, read in a row. -/
theorem run_cells (r : Rep P G ρ B H w.heap) {b o : Nat} {l : Loc} (hl : ρ b = some l) {vs : List Value} (hc : ∀ (j : Nat) (v : Value), vs[j]? = some v → H.cell b (o + j) = some v) :
    ∃ vs', (loadCells ⟨l.blk, l.off + o, none⟩ vs.length).run P w = .ok vs'.toArray w ∧ VRs ρ vs vs' ∧ (∀ v ∈ vs, oneCell v = true) ∧ (∀ (j : Nat) (u : Value), vs'[j]? = some u → w.cell? ⟨l.blk, l.off + o + j, none⟩ = some u) := by
  have key : ∀ (vs : List Value) (o : Nat), (∀ (j : Nat) (v : Value), vs[j]? = some v → H.cell b (o + j) = some v) → ∃ vs' : List Value, VRs ρ vs vs' ∧ (∀ v ∈ vs, oneCell v = true) ∧ (∀ (j : Nat) (u : Value), vs'[j]? = some u → w.cell? ⟨l.blk, l.off + o + j, none⟩ = some u) := by
    intro vs
    induction vs with
    | nil => exact fun o _ => ⟨[], .nil ρ, (fun v h => by cases h), (fun j u h => by simp at h)⟩
    | cons v vs ih =>
      intro o hc
      obtain ⟨v', h1, h2, h3⟩ := r.cell hl (hc 0 v rfl)
      obtain ⟨vs', k1, k2, k3⟩ := ih (o + 1) (fun j u hu => by rw [show o + 1 + j = o + (j + 1) by omega]; exact hc (j + 1) u (by simpa using hu))
      refine ⟨v' :: vs', .cons h2 k1, fun u hu => ?_, fun j u hu => ?_⟩
      · rcases List.mem_cons.1 hu with rfl | hu
        · exact h3
        · exact k2 u hu
      · cases j with
        | zero => simp at hu; subst hu; simpa using h1
        | succ j => rw [show l.off + o + (j + 1) = l.off + (o + 1) + j by omega]; exact k3 j u (by simpa using hu)
  obtain ⟨vs', h1, h2, h3⟩ := key vs o hc
  refine ⟨vs', ?_, h1, h2, h3⟩
  rw [h1.1]
  exact run_loadCells_list w _ vs' (fun j v hv => by rw [Addr.add_lit]; exact h3 j v hv)
theorem loadK_ok (r : Rep P G ρ B H w.heap) {b o : Nat} {t : TypeId} {K : Value → Prop} {l : Loc} (hl : ρ b = some l) (h : loadK P H b o t K) :
    ∃ v v', (loadVar t ⟨l.blk, l.off + o, none⟩).run P w = .ok v' w ∧ VR ρ v v' ∧ K v := by
  unfold loadK at h
  split at h
  · exact h.elim
  · rename_i i hi
    split at h
    · exact h.elim
    · exact h.elim
    · rename_i d z hd hz
      split at h
      · rename_i hagg
        split at h
        · rename_i hs
          obtain ⟨vs, hk, hlen, hc⟩ := getsK_elim h
          obtain ⟨vs', h1, h2, _⟩ := run_cells r hl hc
          have hn : vs.length = i.size := by rw [hlen, Array.length_toList]; exact Nat.eq_of_beq_eq_true hs
          rw [hn] at h1
          refine ⟨_, .agg ⟨vs'⟩, ?_, vr_agg h2, hk⟩
          simp [loadVar, run_isAgg hd, hagg, run_sizeOf hi, h1, Result.andThen]
        · exact h.elim
      · rename_i hagg
        obtain ⟨v, hv, hk⟩ := getK_elim h
        obtain ⟨v', h1, h2, _⟩ := r.cell hl hv
        refine ⟨v, v', ?_, h2, hk⟩
        simp [loadVar, run_isAgg hd, hagg, h1, Result.andThen]

/-! writing -/
theorem allOne_elim : ∀ {vs : List Value} {p : Prop}, allOne vs p → (∀ v ∈ vs, oneCell v = true) ∧ p
  | [], p, h => ⟨(fun v h => by cases h), h⟩
  | v :: vs, p, h => by
    obtain ⟨h1, h2⟩ := gd_elim h
    obtain ⟨h3, h4⟩ := allOne_elim h2
    exact ⟨fun u hu => by rcases List.mem_cons.1 hu with rfl | hu; exact h1; exact h3 u hu, h4⟩
theorem setL_length : ∀ (vs cs : List Value) (o : Nat), (setL cs o vs).length = cs.length
  | [], _, _ => rfl
  | v :: vs, cs, o => by rw [setL, setL_length vs]; simp
theorem setL_get : ∀ (vs cs : List Value) (o i : Nat), (setL cs o vs)[i]? = if o ≤ i ∧ i < o + vs.length ∧ i < cs.length then vs[i - o]? else cs[i]?
  | [], cs, o, i => by rw [setL, if_neg (by simp; omega)]
  | v :: vs, cs, o, i => by
    rw [setL, setL_get vs (cs.set o v) (o + 1) i]
    simp only [List.length_set, List.length_cons]
    by_cases h1 : o + 1 ≤ i ∧ i < o + 1 + vs.length ∧ i < cs.length
    · rw [if_pos h1, if_pos (by omega), show i - o = (i - (o + 1)) + 1 by omega]; simp
    · rw [if_neg h1]
      by_cases h2 : i = o
      · subst h2
        by_cases h3 : i < cs.length
        · rw [if_pos (by omega)]; simp [h3]
        · rw [if_neg (by omega)]; simp [h3, List.getElem?_eq_none (Nat.le_of_not_lt h3)]
      · rw [if_neg (by omega), List.getElem?_set_ne (by omega)]
theorem setCells_heap (b : Nat) : ∀ (vs : List Value) (o : Nat) (w : World) (C : Array Value) (e : TypeId) (fz : Nat × Nat), w.heap[b]? = some (.cells C e fz) →
    ∃ C' : Array Value, C'.toList = setL C.toList o vs ∧ (w.setCells b o vs).heap = w.heap.setIfInBounds b (.cells C' e fz)
  | [], o, w, C, e, fz, hw => by
    refine ⟨C, rfl, ?_⟩
    apply Array.ext_getElem?
    intro i
    by_cases hi : b = i
    · subst hi
      rw [Array.getElem?_setIfInBounds_self_of_lt (Array.getElem?_eq_some_iff.1 hw).1]
      exact hw
    · rw [Array.getElem?_setIfInBounds_ne hi]; rfl
  | v :: vs, o, w, C, e, fz, hw => by
    have h1 : (w.setCell ⟨b, o, none⟩ v).heap = w.heap.setIfInBounds b (.cells (C.setIfInBounds o v) e fz) := by
      apply Array.ext_getElem?
      intro i
      simp only [World.setCell, Array.getElem?_modify]
      by_cases hi : b = i
      · subst hi
        rw [if_pos rfl, hw, Array.getElem?_setIfInBounds_self_of_lt (Array.getElem?_eq_some_iff.1 hw).1]
        simp
      · rw [if_neg hi, Array.getElem?_setIfInBounds_ne hi]
    have hb : b < w.heap.size := (Array.getElem?_eq_some_iff.1 hw).1
    obtain ⟨C', k1, k2⟩ := setCells_heap b vs (o + 1) (w.setCell ⟨b, o, none⟩ v) (C.setIfInBounds o v) e fz (by rw [h1]; simp [hb])
    refine ⟨C', by rw [k1, setL]; simp, ?_⟩
    show (World.setCells _ b (o + 1) vs).heap = _
    rw [k2, h1]
    apply Array.ext_getElem?
    intro i
    by_cases hi : b = i
    · subst hi; simp [hb]
    · rw [Array.getElem?_setIfInBounds_ne hi, Array.getElem?_setIfInBounds_ne hi, Array.getElem?_setIfInBounds_ne hi]
theorem setCells_below (b : Nat) (hB : B ≤ b) : ∀ (vs : List Value) (o : Nat) (w : World), Below B w (w.setCells b o vs)
  | [], _, w => .refl _ _
  | v :: vs, o, w => ((Below.refl B w).setCell (p := ⟨b, o, none⟩) hB v).trans (setCells_below b hB vs (o + 1) _)
/-- n cells stored into a block of the call's own. -/
theorem Rep.store (r : Rep P G ρ B H w.heap) {b o : Nat} {l : Loc} (hl : ρ b = some l) {vs vs' : List Value} (hm : H.may b o vs.length) (hv : VRs ρ vs vs') (h1 : ∀ v ∈ vs, oneCell v = true) :
    (storeCells ⟨l.blk, l.off + o, none⟩ vs').run P w = .ok () (w.setCells l.blk (l.off + o) vs') ∧
      Rep P G ρ B (H.store b o vs) (w.setCells l.blk (l.off + o) vs').heap ∧ Below B w (w.setCells l.blk (l.off + o) vs') := by
  obtain ⟨e, cs, hb, hlen⟩ := hm
  obtain ⟨l', C, e', fz, hl', hC, hcells, hown⟩ := r.cells hb
  rw [hl] at hl'; cases hl'
  obtain ⟨o1, o2, o3, o4, o5⟩ := hown rfl
  have one' : ∀ v ∈ vs', oneCell v = true := by
    intro v hvm
    obtain ⟨i, hi⟩ := List.getElem?_of_mem hvm
    have hi' : i < vs.length := hv.1 ▸ (List.getElem?_eq_some_iff.1 hi).1
    exact (hv.2 i _ v (List.getElem?_eq_getElem hi') hi).one (h1 _ (List.getElem_mem hi'))
  have hst := run_storeCells_cells (P := P) l.blk (l.off + o) vs' 0 w
    (fun j hj => by rw [cell_of_block hC]; have := hv.1; simp; omega)
    (fun j hj => by
      have hlt : l.off + o + 0 + j < C.size := by have := hv.1; omega
      have := o4 _ hlt
      simp only [World.frozen?, hC]; exact this)
    (fun v hv => oneCell_eq (one' v hv))
  simp only [Nat.add_zero] at hst
  refine ⟨hst, ?_, setCells_below _ o1 _ _ _⟩
  obtain ⟨C', k1, k2⟩ := setCells_heap l.blk vs' (l.off + o) w C e' fz hC
  have hs : H.store b o vs = H.put b (some (.cells true e (setL cs o vs))) := by simp [Hp.store, hb]
  have hsz : C'.size = C.size := by rw [← Array.length_toList, k1, setL_length, Array.length_toList]
  rw [hs, k2]
  refine r.turn hb rfl hl rfl ⟨C', e', fz, by simp [(Array.getElem?_eq_some_iff.1 hC).1], fun i v hi => ?_, fun _ => ⟨o1, by omega, by rw [setL_length]; exact o3, fun i hi => o4 i (by omega), o5⟩⟩
  rw [setL_get] at hi
  have hg : C'[l.off + i]? = (setL C.toList (l.off + o) vs')[l.off + i]? := by rw [← k1]; simp
  rw [hg, setL_get]
  have hcs : i < cs.length → l.off + i < C.size := fun h => by omega
  split at hi
  · rename_i hc
    have hl2 := hv.1
    rw [if_pos (by simp; omega)]
    obtain ⟨v', a1, a2⟩ := hv.get hi
    exact ⟨v', by rw [show l.off + i - (l.off + o) = i - o by omega]; exact a1, a2, h1 v (List.mem_of_getElem? hi)⟩
  · rename_i hc
    have hi' : i < cs.length := (List.getElem?_eq_some_iff.1 hi).1
    have hl2 := hv.1
    rw [if_neg (by simp; omega)]
    obtain ⟨v', a1, a2, a3⟩ := hcells i v hi
    exact ⟨v', by simpa using a1, a2, a3⟩
theorem storeK_ok (r : Rep P G ρ B H w.heap) {b o : Nat} {t : TypeId} {v v' : Value} {K : Hp → Prop} {l : Loc} (hl : ρ b = some l) (hv : VR ρ v v') (h : storeK P H b o t v K) :
    ∃ w' H', (storeVar t ⟨l.blk, l.off + o, none⟩ v').run P w = .ok () w' ∧ Rep P G ρ B H' w'.heap ∧ Below B w w' ∧ K H' := by
  unfold storeK at h
  split at h
  · exact h.elim
  · rename_i i hi
    obtain ⟨h1, h2⟩ := gd_elim h
    obtain ⟨h3, h4, h5⟩ := allOne_elim h2
    obtain ⟨k1, k2, k3⟩ := r.store hl (by simpa using h4) hv.cells h3
    refine ⟨_, _, ?_, k2, k3, h5⟩
    have e1 : v'.cells.size = i.size := by
      have := hv.cells.1
      simp only [Array.length_toList] at this
      rw [← this]; exact Nat.eq_of_beq_eq_true h1
    simp only [storeVar, Sem.run_bind, run_sizeOf hi, Result.andThen, e1]
    simp [k1]
/-- A new block of the call's own. -/
theorem Rep.made (r : Rep P G ρ B H w.heap) {e e' : TypeId} {cs cs' : List Value} {rest : Array Value} {row : Bool} {fz : Nat × Nat} (hv : VRs ρ cs cs') (h1 : ∀ v ∈ cs, oneCell v = true)
    (hfz : ∀ i, i < cs'.length + rest.size → (decide (fz.1 ≤ i) && decide (i < fz.2)) = false) :
    Rep P G (ρ.add H.next ⟨w.heap.size, 0, cs'.length + rest.size, szOf P e, row⟩) B (H.new (.cells true e cs)) (w.heap.push (.cells (cs'.toArray ++ rest) e' fz)) := by
  refine r.new rfl ⟨cs'.toArray ++ rest, e', fz, by simp, fun i v hi => ?_, fun _ => ⟨r.base, by simp, by rw [hv.1]; simp, fun i hi => hfz i (by simpa using hi), fun _ => rfl⟩⟩
  obtain ⟨v', a1, a2⟩ := hv.get hi
  have hi' : i < cs'.length := (List.getElem?_eq_some_iff.1 a1).1
  refine ⟨v', ?_, a2.mono (Ren.add_ext _ (r.dom _ (Nat.le_refl _))), h1 v (List.mem_of_getElem? hi)⟩
  simp only [Nat.zero_add]
  rw [Array.getElem?_append_left (by simpa using hi')]
  simpa using a1
theorem below_push (w : World) (o : Obj) (hB : B ≤ w.heap.size) : Below B w (w.alloc o) := (Below.refl B w).alloc hB o
end Go.Proofs.Ytbikpfccdcblfaa.Eng
