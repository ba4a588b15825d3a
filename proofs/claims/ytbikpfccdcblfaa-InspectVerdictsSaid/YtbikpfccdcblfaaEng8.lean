/- The engine, part 8: copy, conversions, places, literals. -/
import Derived.Test.YtbikpfccdcblfaaEng7
import Derived.Lib.ConvBytes
import Derived.Laws.BytesArg
namespace Go.Proofs.Ytbikpfccdcblfaa.Eng
open Go Go.RowKit
set_option linter.unusedVariables false
set_option linter.unusedSimpArgs false
variable {P : Program} {G : Nat} {ρ : Ren} {B : Nat} {H : Hp} {w : World} {n : Nat} {σ : Env} {a : Act}

/-- The first cells of what an append or a copy reads. -/
theorem src_first (r : Rep P G ρ B H w.heap) {sz : Nat} {x x' : Value} {tx : TypeId} {K : Nat → List Value → Prop} (hx : VR ρ x x') {d : TypeDesc} (hd : P.underlying tx = some d) (hty : srcTy d sz x = true)
    (h : srcK sz x H K) : ∃ m new new', K m new ∧ VRs ρ new new' ∧ (∀ v ∈ new, oneCell v = true) ∧ new.length = m * sz ∧ (Builtin.lenOf x').run P w = .ok m w ∧
      ∀ k, k ≤ m → (Builtin.firstCells sz k x').run P w = .ok (new'.take (k * sz)).toArray w := by
  unfold srcK at h
  split at h
  · rename_i p m k
    split at h
    · rcases hx.slice_inv with ⟨_, rfl, rfl, rfl⟩ | ⟨b, o, l, o', c, hne, _⟩
      · exact ⟨0, [], [], h, .nil ρ, (fun v hv => by cases hv), by simp, rfl, fun k hk => by simp [Builtin.firstCells]⟩
      · cases hne
    · rename_i ad
      obtain ⟨⟨own, e, cs, hb, hl⟩, hk⟩ := h
      rcases hx.slice_inv with ⟨hne, _⟩ | ⟨b, o, l, o', c, hne, hlb, rfl, ho, hn, hc⟩
      · cases hne
      · cases hne
        simp only at hb hl hk
        have hlen := Hp.take_length hb hl
        obtain ⟨vs', k1, k2, k3, k4⟩ := run_cells r hlb (vs := H.take b o (m * sz)) (o := o) (fun j v hj => (Hp.take_get hj).2)
        have hlen' : vs'.length = m * sz := by rw [← k2.1]; exact hlen
        refine ⟨m, _, vs', hk, k2, k3, hlen, rfl, fun q hq => ?_⟩
        have hqm : q * sz ≤ m * sz := Nat.mul_le_mul_right _ hq
        refine run_firstCells_some w sz q ⟨l.blk, o', none⟩ m c (vs'.take (q * sz)) (by simp; omega) (fun j u hu => ?_)
        rw [List.getElem?_take] at hu
        split at hu
        · rename_i hj
          rw [Addr.add_lit]
          rcases ho with ho | ho
          · rw [ho]; exact k4 j u hu
          · have : m = 0 := by omega
            rw [this] at hqm; omega
        · cases hu
  · rename_i s
    cases hx
    obtain ⟨hu, rfl⟩ : P.underlying tx = some .string ∧ sz = 1 := by
      unfold srcTy at hty
      split at hty
      · rename_i hne; cases hne
      · exact ⟨hd, Nat.eq_of_beq_eq_true hty⟩
      · cases hty
    refine ⟨s.size, _, byteCells s, h, ?_, ?_, ?_, rfl, fun k hk => ?_⟩
    · refine ⟨by simp [bytesV, byteCells], fun i v v' hv hv' => ?_⟩
      have e : bytesV s = byteCells s := rfl
      rw [e] at hv; rw [hv] at hv'; cases hv'
      obtain ⟨_, _, rfl⟩ := List.mem_map.1 (List.mem_of_getElem? hv)
      exact .int _ _
    · intro v hv
      obtain ⟨_, _, rfl⟩ := List.mem_map.1 hv; rfl
    · show (byteCells s).length = _
      rw [byteCells_length, Nat.mul_one]
    · rw [Nat.mul_one]
      simp [Builtin.firstCells, byteCells]
      apply Array.ext'
      simp [List.map_take]
  · exact h.elim
theorem copyK_ok (r : Rep P G ρ B H w.heap) {t t2 ty : TypeId} {d s d' s' : Value} {K : Value → Hp → Prop} (hd : VR ρ d d') (hs : VR ρ s s') (h : copyK P t t2 d s H K) :
    ∃ v' w', (Builtin.copy_ #[t, t2] ty #[d', s']).run P w = .ok v' w' ∧ Post P G ρ B w K v' w' := by
  unfold copyK at h
  split at h
  · rename_i e ht
    split at h
    · exact h.elim
    · exact h.elim
    · rename_i i d2 hi ht2
      obtain ⟨hty, h1⟩ := gd_elim h
      split at h1
      · rename_i p m k
        split at h1
        · rename_i ad
          rcases hd.slice_inv with ⟨hne, _⟩ | ⟨b, o, l, o', c, hne, hlb, rfl, ho, hn, hc⟩
          · cases hne
          · cases hne
            obtain ⟨q, new, new', ⟨hm, hk⟩, k2, k3, k4, k5, k6⟩ := src_first r hs ht2 hty h1
            have hmin : Nat.min q m = min q m := rfl
            have k7 := k6 (min q m) (Nat.min_le_left _ _)
            have hle : min q m * i.size ≤ q * i.size := Nat.mul_le_mul_right _ (Nat.min_le_left _ _)
            have hlen : (new.take (min q m * i.size)).length = min q m * i.size := by simp; omega
            by_cases hz : min q m * i.size = 0
            · have e1 : new.take (min q m * i.size) = [] := by rw [hz]; rfl
              have e2 : new'.take (min q m * i.size) = [] := by rw [hz]; rfl
              rw [e2] at k7
              refine ⟨.int .i64 (min q m : Nat), w, ?_, ?_⟩
              · simp [Builtin.copy_, run_underlying ht, run_sizeOf hi, k5, k7, hmin, storeCells, Result.andThen]; rfl
              · refine ⟨ρ, _, _, hk, .refl ρ, .int _ _, ?_, Below.refl _ _⟩
                rw [e1]
                have : H.store b o [] = H := by
                  obtain ⟨e', cs, hb, _⟩ := hm
                  simp only [Hp.store, hb, setL, Hp.put]
                  cases H with
                  | mk obj next =>
                    simp only [Hp.mk.injEq, and_true]
                    funext j
                    by_cases hj : j = b
                    · subst hj; simp; exact hb.symm
                    · simp [hj]
                rw [this]; exact r
            · have ho' : o' = l.off + o := by
                rcases ho with ho | ho
                · exact ho
                · exfalso
                  have : m = 0 := by omega
                  subst this
                  simp at hz
              subst ho'
              obtain ⟨s1, s2, s3⟩ := r.store hlb (vs := new.take (min q m * i.size)) (vs' := new'.take (min q m * i.size)) (by rw [hlen]; exact hm) (k2.take _) (fun v hv => k3 v (List.mem_of_mem_take hv))
              refine ⟨.int .i64 (min q m : Nat), _, ?_, ⟨ρ, _, _, hk, .refl ρ, .int _ _, s2, s3⟩⟩
              simp [Builtin.copy_, run_underlying ht, run_sizeOf hi, k5, k7, hmin, s1, Result.andThen]; rfl
        · rcases hd.slice_inv with ⟨_, rfl, rfl, rfl⟩ | ⟨b, o, l, o', c, hne, _⟩
          · have hsrc : ∃ q, (Builtin.lenOf s').run P w = .ok q w ∧ (Builtin.firstCells i.size 0 s').run P w = .ok #[] w := by
              unfold srcTy at hty
              split at hty
              · rcases hs.slice_inv with ⟨_, _, _, rfl⟩ | ⟨b, o, l, o', c, _, _, rfl, _⟩
                · exact ⟨0, rfl, rfl⟩
                · exact ⟨_, rfl, by simp [Builtin.firstCells, loadCells, loadCellsFrom]⟩
              · cases hs
                exact ⟨_, rfl, by simp [Builtin.firstCells]⟩
              · cases hty
            obtain ⟨q, q1, q2⟩ := hsrc
            refine ⟨.int .i64 0, w, ?_, Post.still r h1 (.int _ _)⟩
            have hmin : Nat.min q 0 = 0 := Nat.min_zero _
            simp [Builtin.copy_, run_underlying ht, run_sizeOf hi, q1, q2, hmin, Result.andThen]; rfl
          · cases hne
      · exact h1.elim
  · exact h.elim

/-! conversions -/
theorem Rep.frozenHeap {h h' : Array Obj} (e : h = h') (r : Rep P G ρ B H h) : Rep P G ρ B H h' := e ▸ r
theorem bytesWorld_heap (w : World) (e : TypeId) (s : ByteArray) : (Lib.bytesWorld w e s).heap = w.heap.push (.cells (Lib.bytesCells w e s) e ((Lib.bytesCells w e s).size, (Lib.bytesCells w e s).size + 1)) := by
  apply Array.ext_getElem?
  intro j
  rcases Nat.lt_trichotomy j w.heap.size with hj | hj | hj
  · rw [Lib.bytesWorld_at_old w e s j hj, Array.getElem?_push, if_neg (by omega)]
  · subst hj; rw [Lib.bytesWorld_at_new, Array.getElem?_push, if_pos rfl]
  · rw [Array.getElem?_eq_none (by rw [Lib.bytesWorld_size]; omega), Array.getElem?_push, if_neg (by omega), Array.getElem?_eq_none (by omega)]
theorem bytesWorld_below (w : World) (e : TypeId) (s : ByteArray) (hB : B ≤ w.heap.size) : Below B w (Lib.bytesWorld w e s) :=
  ⟨rfl, rfl, rfl, by rw [Lib.bytesWorld_size]; omega, fun k hk => Lib.bytesWorld_at_old w e s k (by omega)⟩
theorem isByte_elim {v : Value} (h : isByte v = true) : ∃ m : Int, v = .int .u8 m ∧ byteOfV v = UInt8.ofNat m.toNat := by
  unfold isByte at h
  split at h
  · exact ⟨_, rfl, rfl⟩
  · cases h
theorem convertK_ok (r : Rep P G ρ B H w.heap) {src dst : TypeId} {x x' : Value} {K : Value → Hp → Prop} (hx : VR ρ x x') (h : convertK P src dst x H K) :
    ∃ v' w', (convert src dst x').run P w = .ok v' w' ∧ Post P G ρ B w K v' w' := by
  unfold convertK at h
  split at h
  · rename_i d k k' m hs hd
    cases hx
    exact ⟨_, w, by simp [convert, run_underlying hs, run_underlying hd, Conv.intToInt, Result.andThen], Post.still r h (.int _ _)⟩
  · rename_i d s hs hd
    cases hx
    exact ⟨_, w, by simp [convert, run_underlying hs, run_underlying hd, Result.andThen], Post.still r h (.string _)⟩
  · rename_i d e s hs hd
    cases hx
    split at h
    · rename_i he
      obtain ⟨hb, hk⟩ := gd_elim h
      simp only [Bool.and_eq_true] at hb
      have hsz : szOf P e = 1 := Nat.eq_of_beq_eq_true hb.1
      refine ⟨_, _, Lib.run_convert_string_bytes w src dst e s hs hd he, ?_⟩
      have hcap := grownCap_ge w s.size 0 e
      have hcs : (Lib.bytesCells w e s).size = grownCap w s.size 0 e := by
        have : s.data.size = s.size := rfl
        simp [Lib.bytesCells, this]; omega
      have hrow := r.row (e := e) (e' := e) (cs := bytesV s) (C := Lib.bytesCells w e s) (row := true) (fz := ((Lib.bytesCells w e s).size, (Lib.bytesCells w e s).size + 1))
        (by rw [hcs]; show (byteCells s).length ≤ _; rw [byteCells_length]; exact hcap)
        (fun j v hj => by
          have hj' : j < s.data.toList.length := by have := (List.getElem?_eq_some_iff.1 hj).1; simpa [bytesV] using this
          refine ⟨v, ?_, ?_, ?_⟩
          · rw [Lib.bytesCells, Array.getElem?_append_left (by simpa using hj')]
            simpa [bytesV] using hj
          · obtain ⟨_, _, rfl⟩ := List.mem_map.1 (List.mem_of_getElem? hj); exact .int _ _
          · obtain ⟨_, _, rfl⟩ := List.mem_map.1 (List.mem_of_getElem? hj); rfl)
        (fun j hj => by simp; omega)
      refine ⟨_, _, _, hk, Ren.add_ext _ (r.dom _ (Nat.le_refl _)), ?_, by rw [bytesWorld_heap]; exact hrow, bytesWorld_below w e s r.base⟩
      have := VR.slice (ρ := ρ.add H.next ⟨w.heap.size, 0, (Lib.bytesCells w e s).size, szOf P e, true⟩) (b := H.next) (o := 0) (n := s.size) (k := 1) (o' := 0) (c := grownCap w s.size 0 e) (Ren.add_self _ _ _) (.inl rfl) hcap
        (fun _ => ⟨rfl, hsz, by simp only [hcs]; omega⟩)
      exact this
    · exact h.elim
  · rename_i e p m k hs hd
    split at h
    · rename_i he
      split at h
      · rcases hx.slice_inv with ⟨_, rfl, rfl, rfl⟩ | ⟨b, o, l, o', c, hne, _⟩
        · exact ⟨_, w, run_convert_bytes_nil w src e hs he 0 0 dst hd, Post.still r h (.string _)⟩
        · cases hne
      · rename_i ad
        obtain ⟨⟨own, e', cs, hb, hl⟩, hby, hk⟩ := h
        rcases hx.slice_inv with ⟨hne, _⟩ | ⟨b, o, l, o', c, hne, hlb, rfl, ho, hn, hc⟩
        · cases hne
        · cases hne
          simp only at hb hl hk hby
          have hlen := Hp.take_length hb hl
          obtain ⟨vs', k1, k2, k3, k4⟩ := run_cells r hlb (vs := H.take b o m) (o := o) (fun j v hj => (Hp.take_get hj).2)
          have hall := List.all_eq_true.1 hby
          let ns : List Int := (H.take b o m).map fun v => match v with | .int _ q => q | _ => 0
          have hns : ∀ j, j < m → w.cell? ⟨l.blk, o' + j, none⟩ = some (.int .u8 (ns.getD j 0)) := by
            intro j hj
            have hj1 : j < (H.take b o m).length := by omega
            obtain ⟨q, hq, _⟩ := isByte_elim (hall _ (List.getElem_mem hj1))
            obtain ⟨u, u1, u2⟩ := k2.get (List.getElem?_eq_getElem hj1)
            rw [hq] at u2
            cases u2
            have : ns.getD j 0 = q := by simp [ns, List.getD, hj1, hq]
            rw [this]
            rcases ho with ho | ho
            · rw [ho]; exact k4 j _ u1
            · omega
          have hrun := run_convert_bytes_arg w src e hs he l.blk o' m c ns (by simp [ns, hlen]) hns dst hd
          refine ⟨_, w, hrun, ?_⟩
          have hstr : strOfNums ns = strOf (H.take b o m) := by
            unfold strOf strOfNums
            congr 1
            congr 1
            simp only [ns, List.map_map]
            apply List.map_congr_left
            intro v hv
            obtain ⟨q, rfl, h2⟩ := isByte_elim (hall v hv)
            simp [h2]
          rw [hstr]
          exact Post.still r hk (.string _)
    · exact h.elim
  · exact h.elim
end Go.Proofs.Ytbikpfccdcblfaa.Eng
