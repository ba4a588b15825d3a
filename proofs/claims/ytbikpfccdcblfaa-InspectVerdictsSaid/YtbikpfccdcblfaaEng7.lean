/- The engine, part 7: make, append, copy, conversions, places, literals. -/
import Derived.Test.YtbikpfccdcblfaaEng6
namespace Go.Proofs.Ytbikpfccdcblfaa.Eng
open Go Go.RowKit
set_option linter.unusedVariables false
set_option linter.unusedSimpArgs false
variable {P : Program} {G : Nat} {ρ : Ren} {B : Nat} {H : Hp} {w : World} {n : Nat} {σ : Env} {a : Act}

/-- A new row of the call's own. -/
theorem Rep.row (r : Rep P G ρ B H w.heap) {e e' : TypeId} {cs : List Value} {C : Array Value} {row : Bool} {fz : Nat × Nat} (hl : cs.length ≤ C.size)
    (hv : ∀ (i : Nat) (v : Value), cs[i]? = some v → ∃ v', C[i]? = some v' ∧ VR ρ v v' ∧ oneCell v = true)
    (hfz : ∀ i, i < C.size → (decide (fz.1 ≤ i) && decide (i < fz.2)) = false) :
    Rep P G (ρ.add H.next ⟨w.heap.size, 0, C.size, szOf P e, row⟩) B (H.new (.cells true e cs)) (w.heap.push (.cells C e' fz)) := by
  refine r.new rfl ⟨C, e', fz, by simp, fun i v hi => ?_, fun _ => ⟨r.base, by simp, hl, hfz, fun _ => rfl⟩⟩
  obtain ⟨v', a1, a2, a3⟩ := hv i v hi
  exact ⟨v', by simpa using a1, a2.mono (Ren.add_ext _ (r.dom _ (Nat.le_refl _))), a3⟩
theorem flat_get (l : List Value) : ∀ (n i : Nat), (List.replicate n l).flatten[i]? = if i < n * l.length then l[i % l.length]? else none
  | 0, i => by simp
  | n + 1, i => by
    rw [List.replicate_succ, List.flatten_cons, List.getElem?_append, flat_get l n]
    by_cases h : i < l.length
    · have : i < (n + 1) * l.length := by rw [Nat.succ_mul]; omega
      rw [if_pos h, if_pos this, Nat.mod_eq_of_lt h]
    · rw [if_neg h]
      by_cases h2 : i - l.length < n * l.length
      · rw [if_pos h2, if_pos (by rw [Nat.succ_mul]; omega), Nat.mod_eq_sub_mod (a := i) (by omega)]
      · rw [if_neg h2, if_neg (by rw [Nat.succ_mul]; omega)]
theorem zerosN_length (z : Value) (n : Nat) : (zerosN z n).length = n * z.cells.size := by simp [zerosN]
theorem zerosN_get {z : Value} {m k i : Nat} (hk : m ≤ k) {v : Value} (h : (zerosN z m)[i]? = some v) : (madeCells z.cells (k * z.cells.size))[i]? = some v := by
  rw [zerosN, flat_get] at h
  split at h
  · rename_i hi
    simp only [Array.length_toList] at hi h
    have hlt : i < k * z.cells.size := Nat.lt_of_lt_of_le hi (Nat.mul_le_mul_right _ hk)
    have hpos : 0 < z.cells.size := by
      rcases Nat.eq_zero_or_pos z.cells.size with e | e
      · rw [e] at hi; omega
      · exact e
    have hm : i % z.cells.size < z.cells.size := Nat.mod_lt _ hpos
    have hv : z.cells[i % z.cells.size]! = v := by
      have h' : z.cells[i % z.cells.size]? = some v := by simpa using h
      rw [getElem!_def, h']
    simp only [madeCells]
    rw [Array.getElem?_map, Array.getElem?_range, if_pos hlt]
    simp [hv]
  · cases h
theorem room_int : ((room : Nat) : Int) = 140737488355328 := rfl
theorem makeSliceK_ok (r : Rep P G ρ B H w.heap) {t : TypeId} {l m l' m' : Value} {K : Value → Hp → Prop} (hl : VR ρ l l') (hm : VR ρ m m') (h : makeSliceK P t l m H K) :
    ∃ v' w', (Instr.makeSlice t l' m').run P w = .ok v' w' ∧ Post P G ρ B w K v' w' := by
  unfold makeSliceK at h
  split at h
  · rename_i e n m ht
    cases hl; cases hm
    split at h
    · exact h.elim
    · rename_i i hi
      split at h
      · exact h.elim
      · rename_i z hz
        obtain ⟨h1, h2⟩ := gd_elim h
        obtain ⟨h3, h4⟩ := gd_elim h2
        simp only [Bool.and_eq_true, decide_eq_true_eq] at h1
        obtain ⟨i', hi', hz', hzc⟩ := zeroOf_elim hz
        rw [hi] at hi'; cases hi'
        have hs : z.cells.size = i.size := Nat.eq_of_beq_eq_true h3
        have hr := run_make (P := P) w t e i z ht hi hz' .i64 .i64 n m h1.1.1.1 h1.1.1.2 (by have := h1.1.2; rw [room_int] at this; rw [Int.mul_comm]; omega) (by have := h1.2; rw [room_int] at this; omega)
        refine ⟨_, _, hr, ?_⟩
        have hnm : n.toNat ≤ m.toNat := by have := h1.1.1; omega
        have hrow := r.row (e := e) (e' := e) (cs := zerosN z n.toNat) (C := madeCells z.cells (m.toNat * i.size)) (row := true) (fz := (0, 0))
          (by rw [zerosN_length, size_madeCells, hs]; exact Nat.mul_le_mul_right _ hnm)
          (fun j v hj => ⟨v, by rw [← hs]; exact zerosN_get hnm hj, by
            have hz2 : v ∈ z.cells.toList := by
              have := List.mem_of_getElem? hj
              simp only [zerosN, List.mem_flatten, List.mem_replicate] at this
              obtain ⟨_, ⟨_, rfl⟩, hv⟩ := this
              exact hv
            refine ⟨?_, const_one hzc v hz2⟩
            obtain ⟨q, hq⟩ := List.getElem?_of_mem hz2
            exact (constCells hzc ρ).2 q v v hq hq⟩) (by simp)
        refine ⟨_, _, _, h4, Ren.add_ext _ (r.dom _ (Nat.le_refl _)), ?_, hrow, below_push w _ r.base⟩
        have := VR.slice (ρ := ρ.add H.next ⟨w.heap.size, 0, (madeCells z.cells (m.toNat * i.size)).size, szOf P e, true⟩) (b := H.next) (o := 0) (n := n.toNat) (k := i.size) (o' := 0) (c := m.toNat) (Ren.add_self _ _ _) (.inl rfl) hnm
          (fun _ => ⟨rfl, by simp [szOf_eq hi], by simp [size_madeCells]⟩)
        exact this
  · exact h.elim

/-! append, copy -/
theorem Hp.take_get {H : Hp} {b o m : Nat} {j : Nat} {v : Value} (h : (H.take b o m)[j]? = some v) : j < m ∧ H.cell b (o + j) = some v := by
  unfold Hp.take Hp.row at h
  rw [List.getElem?_take] at h
  split at h
  · rename_i hj
    refine ⟨hj, ?_⟩
    unfold Hp.cell
    split at h
    · simpa using h
    · simp at h
  · cases h
theorem Hp.take_length {H : Hp} {b o m : Nat} {own : Bool} {e : TypeId} {cs : List Value} (hb : H.obj b = some (.cells own e cs)) (hl : o + m ≤ cs.length) : (H.take b o m).length = m := by
  simp [Hp.take, Hp.row, hb]; omega
/-- What an append or a copy reads. -/
theorem srcK_ok (r : Rep P G ρ B H w.heap) {sz : Nat} {x x' : Value} {tx : TypeId} {K : Nat → List Value → Prop} (hx : VR ρ x x')
    {d : TypeDesc} (hd : P.underlying tx = some d) (hty : srcTy d sz x = true)
    (h : srcK sz x H K) : ∃ m new new', K m new ∧ VRs ρ new new' ∧ (∀ v ∈ new, oneCell v = true) ∧ new.length = m * sz ∧ Src P sz tx x' m new' w ∧ (m = 0 → new' = []) := by
  unfold srcK at h
  split at h
  · rename_i p m k
    obtain ⟨e', he'⟩ : ∃ e, P.underlying tx = some (.slice e) := by
      unfold srcTy at hty
      split at hty
      · exact ⟨_, hd⟩
      · rename_i hne; cases hne
      · cases hty
    split at h
    · rcases hx.slice_inv with ⟨_, rfl, rfl, rfl⟩ | ⟨b, o, l, o', c, hne, _⟩
      · exact ⟨0, [], [], h, .nil ρ, (fun v hv => by cases hv), by simp, Src.ofNil w he' 0, fun _ => rfl⟩
      · cases hne
    · rename_i ad
      obtain ⟨⟨own, e, cs, hb, hl⟩, hk⟩ := h
      rcases hx.slice_inv with ⟨hne, _⟩ | ⟨b, o, l, o', c, hne, hlb, rfl, ho, hn, hc⟩
      · cases hne
      · cases hne
        simp only at hb hl hk
        have hlen := Hp.take_length hb hl
        obtain ⟨vs', k1, k2, k3, k4⟩ := run_cells r hlb (vs := H.take b o (m * sz)) (o := o) (fun j v hj => (Hp.take_get hj).2)
        have hlen' : vs'.length = m * sz := by rw [← k2.1]; exact hlen
        refine ⟨m, _, vs', hk, k2, k3, hlen, ?_, fun hm => ?_⟩
        · refine Src.ofSlice w he' ⟨l.blk, o', none⟩ m c vs' hlen' (fun j u hu => ?_) (fun u hu => ?_)
          · rw [Addr.add_lit]
            rcases ho with ho | ho
            · rw [ho]; exact k4 j u hu
            · have hj : j < vs'.length := (List.getElem?_eq_some_iff.1 hu).1
              have : m = 0 := by omega
              rw [hlen', this] at hj; omega
          · obtain ⟨j, hj⟩ := List.getElem?_of_mem hu
            have hj' : j < (H.take b o (m * sz)).length := k2.1 ▸ (List.getElem?_eq_some_iff.1 hj).1
            exact oneCell_eq ((k2.2 j _ u (List.getElem?_eq_getElem hj') hj).one (k3 _ (List.getElem_mem hj')))
        · subst hm
          rw [Nat.zero_mul] at hlen'
          exact List.eq_nil_of_length_eq_zero hlen'
  · rename_i s
    cases hx
    obtain ⟨hu, rfl⟩ : P.underlying tx = some .string ∧ sz = 1 := by
      unfold srcTy at hty
      split at hty
      · rename_i hne; cases hne
      · exact ⟨hd, Nat.eq_of_beq_eq_true hty⟩
      · cases hty
    refine ⟨s.size, _, byteCells s, h, ?_, ?_, ?_, Src.ofString w hu s, fun hm => ?_⟩
    · refine ⟨by simp [bytesV, byteCells], fun i v v' hv hv' => ?_⟩
      have e : bytesV s = byteCells s := rfl
      rw [e] at hv; rw [hv] at hv'; cases hv'
      obtain ⟨_, _, rfl⟩ := List.mem_map.1 (List.mem_of_getElem? hv)
      exact .int _ _
    · intro v hv
      obtain ⟨_, _, rfl⟩ := List.mem_map.1 hv; rfl
    · show (byteCells s).length = _
      rw [byteCells_length, Nat.mul_one]
    · exact List.eq_nil_of_length_eq_zero (by rw [byteCells_length]; exact hm)
  · exact h.elim
theorem drew_heap (w : World) : w.drew.heap = w.heap := rfl
theorem Rep.drew (r : Rep P G ρ B H w.heap) : Rep P G ρ B H w.drew.heap := r
/-- The arm of append that makes a new row. -/
theorem grow_ok (r : Rep P G ρ B H w.heap) {H0 : Hp} (hH : H0.next = H.next) (r0 : Rep P G ρ B H0 w.heap) {e : TypeId} {i : TypeInfo} {z : Value} {cs cs' : List Value} {need cap : Nat} (hi : P.info? e = some i)
    (hv : VRs ρ cs cs') (h1 : ∀ v ∈ cs, oneCell v = true) (hneed : cs.length = need * i.size) (hcap : need ≤ cap) (rest : Array Value) (hrest : need * i.size + rest.size = cap * i.size) {K : Value → Hp → Prop}
    (hk : K (.slice (some ⟨H.next, 0, none⟩) need i.size) (H0.new (.cells true e cs))) :
    Post P G ρ B w K (.slice (some ⟨w.heap.size, 0, none⟩) need cap) (w.drew.alloc (.cells (cs'.toArray ++ rest) e)) := by
  have hsz : (cs'.toArray ++ rest).size = cap * i.size := by
    have := hv.1
    simp; omega
  have hrow := r0.row (e := e) (e' := e) (cs := cs) (C := cs'.toArray ++ rest) (row := true) (fz := (0, 0)) (by have := hv.1; simp; omega)
    (fun j v hj => by
      obtain ⟨v', a1, a2⟩ := hv.get hj
      have hj' : j < cs'.length := (List.getElem?_eq_some_iff.1 a1).1
      exact ⟨v', by rw [Array.getElem?_append_left (by simpa using hj')]; simpa using a1, a2, h1 v (List.mem_of_getElem? hj)⟩) (by simp)
  refine ⟨_, _, _, hk, Ren.add_ext _ (r.dom _ (Nat.le_refl _)), ?_, by rw [← hH]; exact hrow, ((Below.refl B w).drew).alloc r.base _⟩
  have := VR.slice (ρ := ρ.add H.next ⟨w.heap.size, 0, (cs'.toArray ++ rest).size, szOf P e, true⟩) (b := H.next) (o := 0) (n := need) (k := i.size) (o' := 0) (c := cap) (Ren.add_self _ _ _) (.inl rfl) hcap
    (fun _ => ⟨rfl, by simp [szOf_eq hi], by simp only [hsz]; omega⟩)
  exact this
theorem zeroCells_size (z : Array Value) (n : Nat) : (Builtin.zeroCells z n).size = n * z.size := by simp [Builtin.zeroCells]
theorem zeroFits_elim {e : TypeId} {i : TypeInfo} (hi : P.info? e = some i) (h : zeroFits P e = true) : ∃ z, i.zero = some z ∧ z.cells.size = i.size := by
  unfold zeroFits at h
  split at h
  · rename_i i' z he hz
    rw [hi] at he
    cases he
    obtain ⟨i', hi', hz', _⟩ := zeroOf_elim hz
    rw [hi] at hi'; cases hi'
    exact ⟨z, hz', Nat.eq_of_beq_eq_true h⟩
  · cases h
theorem renew_obj (H : Hp) (b : Nat) (o2 : AObj) (c : Nat) : ((H.put b none).new o2).obj c = if c = H.next then some o2 else if c = b then none else H.obj c := rfl
/-- A block of the call's own under a new name. -/
theorem Rep.renew {h : Array Obj} (r : Rep P G ρ B H h) {b : Nat} {o o2 : AObj} {l l2 : Loc} {x : Obj} (hb : H.obj b = some o) (hm : o.mut = true) (hl : ρ b = some l) (hblk : l2.blk = l.blk)
    (ho : ObjR P (ρ.add H.next l2) B l2 (h.setIfInBounds l.blk x) o2) : Rep P G (ρ.add H.next l2) B ((H.put b none).new o2) (h.setIfInBounds l.blk x) := by
  have hnone := r.dom H.next (Nat.le_refl _)
  have hext := Ren.add_ext (ρ := ρ) l2 hnone
  have other : ∀ c oc, H.obj c = some oc → c ≠ b → ∀ lc, ρ c = some lc → l.blk ≠ lc.blk := fun c oc hc hne lc hlc => r.sep b c l lc o oc hb hc hl hlc hm (fun e => hne e.symm)
  refine ⟨by simpa using r.base, ⟨Nat.le_succ_of_le r.glob.1, fun g hg => ?_⟩, fun c hc => ?_, fun c oc hc => ?_, fun c c' l1 l3 o1 o3 h1 h2 k1 k2 hmm hne => ?_⟩
  · obtain ⟨l', a, b⟩ := r.glob.2 g hg
    exact ⟨l', hext _ _ a, b⟩
  · have hc' : H.next + 1 ≤ c := hc
    unfold Ren.add; rw [if_neg (by omega)]; exact r.dom c (by omega)
  · rw [renew_obj] at hc
    by_cases e1 : c = H.next
    · rw [if_pos e1] at hc; subst e1; cases hc
      exact ⟨l2, Ren.add_self _ _ _, ho⟩
    · rw [if_neg e1] at hc
      by_cases e2 : c = b
      · rw [if_pos e2] at hc; cases hc
      · rw [if_neg e2] at hc
        obtain ⟨l', a, b'⟩ := r.obj c oc hc
        refine ⟨l', hext _ _ a, (b'.mono hext).heap ?_⟩
        rw [Array.getElem?_setIfInBounds_ne (other c oc hc e2 l' a)]
  · rw [renew_obj] at h1 h2
    by_cases e1 : c = H.next
    · rw [if_pos e1] at h1; cases h1
      rw [if_neg (fun e => hne (e1.trans e.symm))] at h2
      by_cases e3 : c' = b
      · rw [if_pos e3] at h2; cases h2
      · rw [if_neg e3] at h2
        subst e1
        rw [Ren.add_self] at k1; cases k1
        obtain ⟨l', a, _⟩ := r.obj c' o3 h2
        rw [hext _ _ a] at k2; cases k2
        rw [hblk]; exact other c' o3 h2 e3 _ a
    · rw [if_neg e1] at h1
      by_cases e3 : c = b
      · rw [if_pos e3] at h1; cases h1
      · rw [if_neg e3] at h1
        obtain ⟨l', a, _⟩ := r.obj c o1 h1
        rw [hext _ _ a] at k1; cases k1
        by_cases e2 : c' = H.next
        · rw [if_pos e2] at h2; cases h2
          subst e2
          rw [Ren.add_self] at k2; cases k2
          rw [hblk]; exact fun e => other c o1 h1 e3 _ a e.symm
        · rw [if_neg e2] at h2
          by_cases e4 : c' = b
          · rw [if_pos e4] at h2; cases h2
          · rw [if_neg e4] at h2
            obtain ⟨l'', a', _⟩ := r.obj c' o3 h2
            rw [hext _ _ a'] at k2; cases k2
            exact r.sep c c' _ _ o1 o3 h1 h2 a a' hmm hne
theorem appendK_ok (r : Rep P G ρ B H w.heap) {t t2 ty : TypeId} {s x s' x' : Value} {K : Value → Hp → Prop} (hs : VR ρ s s') (hx : VR ρ x x') (h : appendK P t t2 s x H K) :
    ∃ v' w', (Builtin.append_ #[t, t2] ty #[s', x']).run P w = .ok v' w' ∧ Post P G ρ B w K v' w' := by
  unfold appendK at h
  split at h
  · rename_i e d2 ht ht2
    split at h
    · exact h.elim
    · rename_i i hi
      obtain ⟨hty, h1⟩ := gd_elim h
      obtain ⟨hb, h2⟩ := gd_elim h1
      simp only [Bool.and_eq_true] at hb
      obtain ⟨hb, hzf⟩ := hb
      have hb : 1 ≤ i.bytes := Nat.le_of_ble_eq_true hb
      obtain ⟨z, hz, hzs⟩ := zeroFits_elim hi hzf
      split at h2
      · rename_i p m k
        split at h2
        · rcases hs.slice_inv with ⟨_, rfl, rfl, rfl⟩ | ⟨b, o, l, o', c, hne, _⟩
          · obtain ⟨q, new, new', hk, k2, k3, k4, k5, k6⟩ := srcK_ok r hx ht2 hty h2
            split at hk
            · rename_i hq
              have hq : q = 0 := Nat.eq_of_beq_eq_true hq
              subst hq
              rw [k6 rfl] at k5
              refine ⟨_, _, run_append_nothing w t t2 ty e i ht hi none 0 0 (Nat.le_refl _) x' k5, Post.still r hk .snil⟩
            · rename_i hq
              have hq : q ≠ 0 := fun e => by subst e; simp at hq
              obtain ⟨hr, hk⟩ := gd_elim hk
              have hr : q * i.bytes ≤ 140737488355328 := of_decide_eq_true hr
              have hq2 : q ≤ q * i.bytes := Nat.le_mul_of_pos_right _ hb
              have hold := run_firstCells_none (P := P) w.drew i.size 0 0 0
              have := run_append_grow_src w t t2 ty e i z ht hi hz none 0 0 [] (by simpa using hold) x' q new' k5 (by omega) (by omega) (growslice_fits (by omega) (by simpa using hr))
              refine ⟨_, _, this, ?_⟩
              have hcap := grownCap_ge w (0 + q) 0 e
              have g := grow_ok (e := e) (z := z) r rfl r hi k2 k3 (cap := grownCap w (0 + q) 0 e) k4 (by omega) (Builtin.zeroCells z.cells (grownCap w (0 + q) 0 e - (0 + q))) (by rw [zeroCells_size, hzs, ← Nat.add_mul]; congr 1; omega) (by simpa using hk)
              simpa using g
          · cases hne
        · rename_i ad
          obtain ⟨hkz, ⟨cs, hob, hlen⟩, hsrc⟩ := gd_elim h2
          simp only [Bool.and_eq_true] at hkz
          have hk1 : k = i.size := Nat.eq_of_beq_eq_true hkz.1
          have hk2 : 1 ≤ k := Nat.le_of_ble_eq_true hkz.2
          rcases hs.slice_inv with ⟨hne, _⟩ | ⟨b, o, l, o', c, hne, hlb, rfl, ho, hn, hc⟩
          · cases hne
          · cases hne
            simp only at hob hlen hsrc
            obtain ⟨q, new, new', hk, s2, s3, s4, s5, s6⟩ := srcK_ok r hx ht2 hty hsrc
            obtain ⟨hr, hk⟩ := gd_elim hk
            have hr : (m + q) * i.bytes ≤ 140737488355328 := of_decide_eq_true hr
            have hq2 : m + q ≤ (m + q) * i.bytes := Nat.le_mul_of_pos_right _ hb
            obtain ⟨c1, c2, c3⟩ := hc (by omega)
            obtain ⟨l', C, e', fz, hl', hC, hcells, hown⟩ := r.cells hob
            rw [hlb] at hl'; cases hl'
            obtain ⟨o1, o2, o3, o4, o5⟩ := hown rfl
            rw [hk1] at c3
            have hlt := Hp.take_length hob hlen
            obtain ⟨olds, k1, k2, k3, k4⟩ := run_cells r hlb (vs := H.take b o (m * i.size)) (o := o) (fun j v hj => (Hp.take_get hj).2)
            have hol : olds.length = m * i.size := by rw [← k2.1]; exact hlt
            have hnl : new'.length = q * i.size := by rw [← s2.1]; exact s4
            have holds : ∀ (j : Nat) (u : Value), olds[j]? = some u → w.cell? ⟨l.blk, o' + j, none⟩ = some u := by
              intro j u hj
              rcases ho with ho | ho
              · rw [ho]; exact k4 j u hj
              · have hj' : j < olds.length := (List.getElem?_eq_some_iff.1 hj).1
                have : m = 0 := by omega
                rw [hol, this] at hj'; omega
            by_cases hroom : m + q ≤ c
            · have hfit : o' + (m + q) * i.size ≤ C.size := by
                have := Nat.mul_le_mul_right i.size hroom
                omega
              have hmq : (m + q) * i.size = m * i.size + q * i.size := Nat.add_mul _ _ _
              have hrun := run_append_room_src w t t2 ty e i ht hi l.blk o' m c x' q new' s5 hroom
                (fun j hj => by rw [cell_of_block hC]; simp; omega)
                (fun j hj => by
                  have hj2 : o' + m * i.size + j < C.size := by omega
                  have := o4 _ hj2
                  simp only [World.frozen?, hC]; exact this)
              refine ⟨_, _, hrun, ?_⟩
              obtain ⟨C', q1, q2⟩ := setCells_heap l.blk new' (o' + m * i.size) w C e' fz hC
              have hsz : C'.size = C.size := by rw [← Array.length_toList, q1, setL_length, Array.length_toList]
              have hlim : l.off + l.lim ≤ C.size := o2
              refine ⟨ρ.add H.next ⟨l.blk, o', l.off + l.lim - o', szOf P e, true⟩, _, _, hk, Ren.add_ext _ (r.dom _ (Nat.le_refl _)), ?_, ?_, setCells_below _ o1 _ _ _⟩
              · have := VR.slice (ρ := ρ.add H.next ⟨l.blk, o', l.off + l.lim - o', szOf P e, true⟩) (b := H.next) (o := 0) (n := m + q) (k := i.size) (o' := o') (c := c) (Ren.add_self _ _ _) (.inl rfl) hroom
                  (fun _ => ⟨rfl, by simp [szOf_eq hi], by simp only; omega⟩)
                exact this
              · rw [q2]
                refine r.renew hob rfl hlb rfl ⟨C', e', fz, by simp [(Array.getElem?_eq_some_iff.1 hC).1], fun j v hj => ?_, fun _ => ⟨o1, by simp only; omega, ?_, fun j hj => o4 j (by omega), fun _ => rfl⟩⟩
                · have hext := Ren.add_ext (ρ := ρ) ⟨l.blk, o', l.off + l.lim - o', szOf P e, true⟩ (r.dom _ (Nat.le_refl _))
                  have hg : C'[o' + j]? = (setL C.toList (o' + m * i.size) new')[o' + j]? := by rw [← q1]; simp
                  simp only
                  rw [hg, setL_get]
                  rw [List.getElem?_append] at hj
                  split at hj
                  · rename_i hj1
                    rw [if_neg (by omega)]
                    obtain ⟨u, u1, u2⟩ := k2.get hj
                    have hcell := holds j u u1
                    rw [cell_of_block hC] at hcell
                    exact ⟨u, by simpa using hcell, u2.mono hext, k3 v (List.mem_of_getElem? hj)⟩
                  · rename_i hj1
                    rw [hlt] at hj hj1
                    obtain ⟨u, u1, u2⟩ := s2.get hj
                    have hjn : j - m * i.size < new'.length := (List.getElem?_eq_some_iff.1 u1).1
                    rw [if_pos (by simp; omega)]
                    exact ⟨u, by rw [show o' + j - (o' + m * i.size) = j - m * i.size by omega]; exact u1, u2.mono hext, s3 v (List.mem_of_getElem? hj)⟩
                · have := Nat.mul_le_mul_right i.size hroom
                  rw [List.length_append, hlt, s4]; simp only; omega
            · have hgr : c < m + q := by omega
              have hold := run_firstCells_some (P := P) w.drew i.size m ⟨l.blk, o', none⟩ m c olds hol (fun j v hj => by rw [Addr.add_lit]; exact holds j v hj)
              have hrun := run_append_grow_src w t t2 ty e i z ht hi hz (some ⟨l.blk, o', none⟩) m c olds hold x' q new' s5 hgr (by omega) (growslice_fits hgr hr)
              refine ⟨_, _, hrun, ?_⟩
              have hcap := grownCap_ge w (m + q) c e
              exact grow_ok (H0 := H.put b none) (e := e) (z := z) r rfl (r.drop b) hi (k2.append s2) (fun v hv => by
                  rcases List.mem_append.1 hv with hv | hv
                  · exact k3 v hv
                  · exact s3 v hv) (by rw [List.length_append, hlt, s4, Nat.add_mul]) hcap (Builtin.zeroCells z.cells (grownCap w (m + q) c e - (m + q))) (by rw [zeroCells_size, hzs, ← Nat.add_mul]; congr 1; omega) hk
      · exact h2.elim
  · exact h.elim
end Go.Proofs.Ytbikpfccdcblfaa.Eng
