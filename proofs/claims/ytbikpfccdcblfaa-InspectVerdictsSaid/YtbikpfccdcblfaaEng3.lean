/- The engine, part 3: how the abstract heap stands to the model's world; first lemmas. -/
import Derived.Test.YtbikpfccdcblfaaEng2
import Derived.Deep.AppendSrc
import Derived.Deep.Upon
import Derived.Laws.AppendOwn
import Derived.Laws.MakeOwn
import Derived.ProofKit
namespace Go.Proofs.Ytbikpfccdcblfaa.Eng
open Go Go.RowKit
set_option linter.unusedVariables false
set_option linter.unusedSimpArgs false

theorem gd_iff {b : Bool} {p : Prop} : gd b p ↔ b = true ∧ p := by cases b <;> simp [gd]
theorem gd_elim {b : Bool} {p : Prop} (h : gd b p) : b = true ∧ p := gd_iff.1 h
theorem optP_elim {α : Type} {o : Option α} {f : α → Prop} (h : optP o f) : ∃ x, o = some x ∧ f x := by
  cases o with
  | none => exact h.elim
  | some x => exact ⟨x, rfl, h⟩

/-- Where an abstract block lies: from cell off of block blk on; lim cells may be used; row: elements of sz cells. -/
structure Loc where
  blk : Nat
  off : Nat
  lim : Nat
  sz : Nat
  row : Bool
abbrev Ren := Nat → Option Loc
def Ren.ext (ρ ρ' : Ren) : Prop := ∀ b l, ρ b = some l → ρ' b = some l
theorem Ren.ext.refl (ρ : Ren) : ρ.ext ρ := fun _ _ h => h
theorem Ren.ext.trans {a b c : Ren} (h : a.ext b) (k : b.ext c) : a.ext c := fun x l hx => k x l (h x l hx)
def Ren.add (ρ : Ren) (b : Nat) (l : Loc) : Ren := fun x => if x = b then some l else ρ x
theorem Ren.add_ext {ρ : Ren} {b : Nat} (l : Loc) (h : ρ b = none) : ρ.ext (ρ.add b l) := fun x l' hx => by
  unfold Ren.add
  split
  · rename_i e; subst e; rw [h] at hx; cases hx
  · exact hx
theorem Ren.add_self (ρ : Ren) (b : Nat) (l : Loc) : (ρ.add b l) b = some l := by simp [Ren.add]

/-- An abstract value and the model's. -/
inductive VR (ρ : Ren) : Value → Value → Prop where
  | bool (b : Bool) : VR ρ (.bool b) (.bool b)
  | int (k : IntKind) (n : Int) : VR ρ (.int k n) (.int k n)
  | float (k : FloatKind) (n : Nat) : VR ρ (.float k n) (.float k n)
  | complex (k : FloatKind) (m n : Nat) : VR ρ (.complex k m n) (.complex k m n)
  | string (s : ByteArray) : VR ρ (.string s) (.string s)
  | pnil : VR ρ (.pointer none) (.pointer none)
  | ptr {b o : Nat} {l : Loc} (h : ρ b = some l) : VR ρ (.pointer (some ⟨b, o, none⟩)) (.pointer (some ⟨l.blk, l.off + o, none⟩))
  | snil : VR ρ (.slice none 0 0) (.slice none 0 0)
  | slice {b o n k o' c : Nat} {l : Loc} (h : ρ b = some l) (ho : o' = l.off + o ∨ c = 0) (hn : n ≤ c)
      (hc : k ≠ 0 → l.row = true ∧ l.sz = k ∧ o' + c * k ≤ l.off + l.lim) : VR ρ (.slice (some ⟨b, o, none⟩) n k) (.slice (some ⟨l.blk, o', none⟩) n c)
  | mnil : VR ρ (.map none) (.map none)
  | map {b : Nat} {l : Loc} (h : ρ b = some l) : VR ρ (.map (some b)) (.map (some l.blk))
  | func {fn : Fn} {xs ys xs' ys' : Array Value} (hx : xs.toList.length = xs'.toList.length) (hx' : ∀ (i : Nat) (v v' : Value), xs.toList[i]? = some v → xs'.toList[i]? = some v' → VR ρ v v')
      (hy : ys.toList.length = ys'.toList.length) (hy' : ∀ (i : Nat) (v v' : Value), ys.toList[i]? = some v → ys'.toList[i]? = some v' → VR ρ v v') : VR ρ (.func fn xs ys) (.func fn xs' ys')
  | nilFunc : VR ρ .nilFunc .nilFunc
  | nilIface : VR ρ .nilIface .nilIface
  | iface {t : TypeId} {v v' : Value} (h : VR ρ v v') : VR ρ (.iface t v) (.iface t v')
  | agg {xs xs' : Array Value} (hx : xs.toList.length = xs'.toList.length) (hx' : ∀ (i : Nat) (v v' : Value), xs.toList[i]? = some v → xs'.toList[i]? = some v' → VR ρ v v') : VR ρ (.agg xs) (.agg xs')
  | tuple {xs xs' : Array Value} (hx : xs.toList.length = xs'.toList.length) (hx' : ∀ (i : Nat) (v v' : Value), xs.toList[i]? = some v → xs'.toList[i]? = some v' → VR ρ v v') : VR ρ (.tuple xs) (.tuple xs')

def VRs (ρ : Ren) (vs vs' : List Value) : Prop := vs.length = vs'.length ∧ ∀ (i : Nat) (v v' : Value), vs[i]? = some v → vs'[i]? = some v' → VR ρ v v'

theorem VR.mono {ρ ρ' : Ren} (hρ : ρ.ext ρ') {v v' : Value} (h : VR ρ v v') : VR ρ' v v' := by
  induction h with
  | bool b => exact .bool b
  | int k n => exact .int k n
  | float k n => exact .float k n
  | complex k m n => exact .complex k m n
  | string s => exact .string s
  | pnil => exact .pnil
  | ptr h => exact .ptr (hρ _ _ h)
  | snil => exact .snil
  | slice h ho hn hc => exact .slice (hρ _ _ h) ho hn hc
  | mnil => exact .mnil
  | map h => exact .map (hρ _ _ h)
  | func hx _ hy _ ih1 ih2 => exact .func hx ih1 hy ih2
  | nilFunc => exact .nilFunc
  | nilIface => exact .nilIface
  | iface _ ih => exact .iface ih
  | agg hx _ ih => exact .agg hx ih
  | tuple hx _ ih => exact .tuple hx ih
theorem VRs.mono {ρ ρ' : Ren} (hρ : ρ.ext ρ') {v v' : List Value} (h : VRs ρ v v') : VRs ρ' v v' := ⟨h.1, fun i a b ha hb => (h.2 i a b ha hb).mono hρ⟩

theorem VRs.nil (ρ : Ren) : VRs ρ [] [] := ⟨rfl, fun i v v' h => by simp at h⟩
theorem VRs.cons {ρ : Ren} {v v' : Value} {vs vs' : List Value} (h : VR ρ v v') (hs : VRs ρ vs vs') : VRs ρ (v :: vs) (v' :: vs') := by
  refine ⟨by simp [hs.1], fun i a b ha hb => ?_⟩
  cases i with
  | zero => simp at ha hb; subst ha; subst hb; exact h
  | succ i => exact hs.2 i a b (by simpa using ha) (by simpa using hb)
theorem VRs.get {ρ : Ren} {vs vs' : List Value} (h : VRs ρ vs vs') {i : Nat} {v : Value} (hv : vs[i]? = some v) : ∃ v', vs'[i]? = some v' ∧ VR ρ v v' := by
  have hi : i < vs.length := (List.getElem?_eq_some_iff.1 hv).1
  have hi' : i < vs'.length := h.1 ▸ hi
  exact ⟨vs'[i], by simp [hi'], h.2 i v _ hv (by simp [hi'])⟩
theorem VRs.uncons {ρ : Ren} {v v' : Value} {vs vs' : List Value} (h : VRs ρ (v :: vs) (v' :: vs')) : VR ρ v v' ∧ VRs ρ vs vs' :=
  ⟨h.2 0 _ _ rfl rfl, by simpa using h.1, fun i a b ha hb => h.2 (i + 1) a b (by simpa using ha) (by simpa using hb)⟩
theorem VRs.cons_left {ρ : Ren} {v : Value} {vs ws : List Value} (h : VRs ρ (v :: vs) ws) : ∃ v' vs', ws = v' :: vs' ∧ VR ρ v v' ∧ VRs ρ vs vs' := by
  cases ws with
  | nil => have := h.1; simp at this
  | cons v' vs' => exact ⟨v', vs', rfl, h.uncons⟩
theorem VRs.nil_left {ρ : Ren} {ws : List Value} (h : VRs ρ [] ws) : ws = [] := by
  cases ws with
  | nil => rfl
  | cons v' vs' => have := h.1; simp at this
theorem VRs.append {ρ : Ren} {a b a' b' : List Value} (h : VRs ρ a a') (k : VRs ρ b b') : VRs ρ (a ++ b) (a' ++ b') := by
  induction a generalizing a' with
  | nil => rw [h.nil_left]; exact k
  | cons v vs ih =>
    obtain ⟨v', vs', rfl, hv, hs⟩ := h.cons_left
    exact .cons hv (ih hs)
theorem VRs.drop {ρ : Ren} {a a' : List Value} (h : VRs ρ a a') (n : Nat) : VRs ρ (a.drop n) (a'.drop n) :=
  ⟨by simp [h.1], fun i v v' hv hv' => h.2 (n + i) v v' (by simpa using hv) (by simpa using hv')⟩
theorem VRs.take {ρ : Ren} {a a' : List Value} (h : VRs ρ a a') (n : Nat) : VRs ρ (a.take n) (a'.take n) := by
  refine ⟨by simp [h.1], fun i v v' hv hv' => ?_⟩
  rw [List.getElem?_take] at hv hv'
  split at hv
  · rename_i hi; rw [if_pos hi] at hv'; exact h.2 i v v' hv hv'
  · cases hv
theorem VRs.set {ρ : Ren} {a a' : List Value} (h : VRs ρ a a') {v v' : Value} (hv : VR ρ v v') (i : Nat) : VRs ρ (a.set i v) (a'.set i v') := by
  refine ⟨by simp [h.1], fun j x x' hx hx' => ?_⟩
  rw [List.getElem?_set] at hx hx'
  split at hx
  · rename_i e
    rw [if_pos e] at hx'
    split at hx
    · rename_i hi
      rw [if_pos (h.1 ▸ hi)] at hx'
      cases hx; cases hx'; exact hv
    · cases hx
  · rename_i e
    rw [if_neg e] at hx'
    exact h.2 j x x' hx hx'
theorem VRs.setL {ρ : Ren} {vs vs' : List Value} (hv : VRs ρ vs vs') : ∀ {a a' : List Value}, VRs ρ a a' → ∀ o, VRs ρ (setL a o vs) (setL a' o vs') := by
  induction vs generalizing vs' with
  | nil => rw [hv.nil_left]; exact fun h _ => h
  | cons v r ih =>
    obtain ⟨v', r', rfl, h1, h2⟩ := hv.cons_left
    exact fun h o => ih h2 (h.set h1 o) (o + 1)

theorem oneCell_eq {v : Value} (h : oneCell v = true) : v.oneCell' = true := by cases v <;> simp_all [oneCell, Value.oneCell']
theorem VR.one {ρ : Ren} {v v' : Value} (h : VR ρ v v') (ho : oneCell v = true) : oneCell v' = true := by cases h <;> simp_all [oneCell]
/-- The cells of a value. -/
theorem VR.cells {ρ : Ren} {v v' : Value} (h : VR ρ v v') : VRs ρ v.cells.toList v'.cells.toList := by
  cases h <;> first | exact ⟨‹_›, ‹_›⟩ | exact .cons (by first | exact .bool _ | exact .int _ _ | exact .float _ _ | exact .complex _ _ _ | exact .string _ | exact .pnil | exact .ptr ‹_› | exact .snil | exact .slice ‹_› ‹_› ‹_› ‹_› | exact .mnil | exact .map ‹_› | exact .func ‹_› ‹_› ‹_› ‹_› | exact .nilFunc | exact .nilIface | exact .iface ‹_› | exact .tuple ‹_› ‹_›) (.nil _)
theorem plain_VR {v : Value} (h : plainV v = true) (ρ : Ren) : VR ρ v v := by
  unfold plainV at h
  split at h <;> first | exact .bool _ | exact .int _ _ | exact .float _ _ | exact .complex _ _ _ | exact .string _ | exact .pnil | exact .snil | exact .mnil | exact .nilFunc | exact .nilIface | cases h
theorem const_VR {v : Value} (h : constOK v = true) (ρ : Ren) : VR ρ v v := by
  unfold constOK at h
  split at h
  · rename_i cs
    refine .agg rfl fun i v v' hv hv' => ?_
    rw [hv] at hv'; cases hv'
    exact plain_VR (List.all_eq_true.1 h v (List.mem_of_getElem? hv)) ρ
  · exact plain_VR h ρ
/-- A value of plain data (a zero value). -/
theorem constCells {v : Value} (h : constOK v = true) (ρ : Ren) : VRs ρ v.cells.toList v.cells.toList := (const_VR h ρ).cells

/-! the heap -/
def CellsR (ρ : Ren) (l : Loc) (cs : List Value) (C : Array Value) : Prop := ∀ (i : Nat) (v : Value), cs[i]? = some v → ∃ v', C[l.off + i]? = some v' ∧ VR ρ v v' ∧ oneCell v = true

def AObj.mut : AObj → Bool
  | .cells own _ _ => own
  | .map _ _ => true

def ObjR (P : Program) (ρ : Ren) (B : Nat) (l : Loc) (h : Array Obj) : AObj → Prop
  | .cells own e cs => ∃ C e' fz, h[l.blk]? = some (.cells C e' fz) ∧ CellsR ρ l cs C ∧
      (own = true → B ≤ l.blk ∧ l.off + l.lim ≤ C.size ∧ cs.length ≤ l.lim ∧ (∀ i, i < C.size → (decide (fz.1 ≤ i) && decide (i < fz.2)) = false) ∧ (l.row = true → l.sz = szOf P e))
  | .map kt es => ∃ E clock, h[l.blk]? = some (.map E clock) ∧ B ≤ l.blk ∧ E.size = es.length ∧
      (∀ (i : Nat) (k v : Value), es[i]? = some (k, v) → ∃ en, E[i]? = some en ∧ VR ρ k en.key ∧ VR ρ v en.val ∧ keyTy P kt k = true) ∧
      (∀ (i : Nat) (en : MapEntry), E[i]? = some en → en.born < clock) ∧ (∀ (i j : Nat) (en en' : MapEntry), i < j → E[i]? = some en → E[j]? = some en' → en.born < en'.born)

structure Rep (P : Program) (G : Nat) (ρ : Ren) (B : Nat) (H : Hp) (h : Array Obj) : Prop where
  base : B ≤ h.size
  glob : G ≤ H.next ∧ ∀ g, g < G → ∃ l, ρ g = some l ∧ l.blk = g ∧ l.off = 0
  dom : ∀ b, H.next ≤ b → ρ b = none
  obj : ∀ b o, H.obj b = some o → ∃ l, ρ b = some l ∧ ObjR P ρ B l h o
  sep : ∀ b b' l l' o o', H.obj b = some o → H.obj b' = some o' → ρ b = some l → ρ b' = some l' → o.mut = true → b ≠ b' → l.blk ≠ l'.blk

theorem ObjR.mono {P : Program} {ρ ρ' : Ren} (hρ : ρ.ext ρ') {B : Nat} {l : Loc} {h : Array Obj} {o : AObj} (k : ObjR P ρ B l h o) : ObjR P ρ' B l h o := by
  cases o with
  | cells own e cs =>
    obtain ⟨C, e', fz, h1, h2, h3⟩ := k
    exact ⟨C, e', fz, h1, fun i v hv => let ⟨v', a, b, c⟩ := h2 i v hv; ⟨v', a, b.mono hρ, c⟩, h3⟩
  | map kt es =>
    obtain ⟨E, clock, h1, h2, h3, h4, h5, h6⟩ := k
    exact ⟨E, clock, h1, h2, h3, fun i a b hv => let ⟨en, x, y, z, u⟩ := h4 i a b hv; ⟨en, x, y.mono hρ, z.mono hρ, u⟩, h5, h6⟩
theorem ObjR.heap {P : Program} {ρ : Ren} {B : Nat} {l : Loc} {h h' : Array Obj} {o : AObj} (k : ObjR P ρ B l h o) (hh : h'[l.blk]? = h[l.blk]?) : ObjR P ρ B l h' o := by
  cases o with
  | cells own e cs => obtain ⟨C, e', fz, h1, h2⟩ := k; exact ⟨C, e', fz, hh.trans h1, h2⟩
  | map kt es => obtain ⟨E, clock, h1, h2⟩ := k; exact ⟨E, clock, hh.trans h1, h2⟩
theorem ObjR.lt {P : Program} {ρ : Ren} {B : Nat} {l : Loc} {h : Array Obj} {o : AObj} (k : ObjR P ρ B l h o) : l.blk < h.size := by
  cases o with
  | cells own e cs => obtain ⟨C, e', fz, h1, _⟩ := k; exact (Array.getElem?_eq_some_iff.1 h1).1
  | map kt es => obtain ⟨E, clock, h1, _⟩ := k; exact (Array.getElem?_eq_some_iff.1 h1).1

variable {P : Program} {G : Nat} {ρ : Ren} {B : Nat} {H : Hp} {h : Array Obj}

theorem Rep.lt (r : Rep P G ρ B H h) {b : Nat} {o : AObj} (hb : H.obj b = some o) : b < H.next := by
  obtain ⟨l, hl, _⟩ := r.obj b o hb
  refine Nat.lt_of_not_le fun hle => ?_
  rw [r.dom b hle] at hl; cases hl

/-- A new block. -/
theorem Rep.new (r : Rep P G ρ B H h) {l : Loc} {o : AObj} {x : Obj} (hl : l.blk = h.size) (ho : ObjR P (ρ.add H.next l) B l (h.push x) o) :
    Rep P G (ρ.add H.next l) B (H.new o) (h.push x) := by
  have hnone := r.dom H.next (Nat.le_refl _)
  have hext := Ren.add_ext (ρ := ρ) l hnone
  have old : ∀ b o', H.obj b = some o' → b ≠ H.next := fun b o' hb e => by have := r.lt hb; omega
  have keep : ∀ (l' : Loc), l'.blk < h.size → (h.push x)[l'.blk]? = h[l'.blk]? := fun l' hlt => by rw [Array.getElem?_push, if_neg (by omega)]
  refine ⟨by simp; have := r.base; omega, ⟨Nat.le_succ_of_le r.glob.1, fun g hg => ?_⟩, fun b hb => ?_, fun b o' hb => ?_, fun b b' l1 l2 o1 o2 h1 h2 k1 k2 hm hne => ?_⟩
  · obtain ⟨l', a, b⟩ := r.glob.2 g hg
    exact ⟨l', hext _ _ a, b⟩
  · have hb' : H.next + 1 ≤ b := hb
    unfold Ren.add; rw [if_neg (by omega)]; exact r.dom b (by omega)
  · simp only [Hp.new] at hb
    split at hb
    · rename_i e; subst e; cases hb
      exact ⟨l, Ren.add_self _ _ _, ho⟩
    · obtain ⟨l', a, b'⟩ := r.obj b o' hb
      exact ⟨l', hext _ _ a, (b'.mono hext).heap (keep l' b'.lt)⟩
  · simp only [Hp.new] at h1 h2
    split at h1 <;> split at h2
    · omega
    · rename_i e1 e2
      subst e1
      rw [Ren.add_self] at k1; cases k1
      obtain ⟨l', a, b''⟩ := r.obj b' o2 h2
      rw [hext _ _ a] at k2; cases k2
      have := b''.lt; omega
    · rename_i e1 e2
      subst e2
      rw [Ren.add_self] at k2; cases k2
      obtain ⟨l', a, b''⟩ := r.obj b o1 h1
      rw [hext _ _ a] at k1; cases k1
      have := b''.lt; omega
    · obtain ⟨l', a, _⟩ := r.obj b o1 h1
      obtain ⟨l'', a', _⟩ := r.obj b' o2 h2
      rw [hext _ _ a] at k1; cases k1
      rw [hext _ _ a'] at k2; cases k2
      exact r.sep b b' _ _ o1 o2 h1 h2 a a' hm hne

/-- A block let go. -/
theorem Rep.drop (r : Rep P G ρ B H h) (b : Nat) : Rep P G ρ B (H.put b none) h := by
  refine ⟨r.base, r.glob, r.dom, fun c o hc => ?_, fun c c' l l' o o' h1 h2 k1 k2 hm hne => ?_⟩
  · simp only [Hp.put] at hc
    split at hc
    · cases hc
    · exact r.obj c o hc
  · simp only [Hp.put] at h1 h2
    split at h1
    · cases h1
    · split at h2
      · cases h2
      · exact r.sep c c' l l' o o' h1 h2 k1 k2 hm hne

/-- A block of the call's own turned. -/
theorem Rep.turn (r : Rep P G ρ B H h) {b : Nat} {o o' : AObj} {l : Loc} {x : Obj} (hb : H.obj b = some o) (hm : o.mut = true) (hl : ρ b = some l) (hm' : o'.mut = true)
    (ho : ObjR P ρ B l (h.setIfInBounds l.blk x) o') : Rep P G ρ B (H.put b (some o')) (h.setIfInBounds l.blk x) := by
  refine ⟨by simpa using r.base, r.glob, r.dom, fun c oc hc => ?_, fun c c' l1 l2 o1 o2 h1 h2 k1 k2 hmm hne => ?_⟩
  · simp only [Hp.put] at hc
    split at hc
    · rename_i e; subst e; cases hc; exact ⟨l, hl, ho⟩
    · rename_i e
      obtain ⟨l', a, b'⟩ := r.obj c oc hc
      refine ⟨l', a, b'.heap ?_⟩
      have := r.sep b c l l' o oc hb hc hl a hm (fun e' => e e'.symm)
      rw [Array.getElem?_setIfInBounds_ne this]
  · simp only [Hp.put] at h1 h2
    split at h1 <;> split at h2
    · omega
    · rename_i e1 e2; subst e1
      exact r.sep c c' l1 l2 o o2 hb h2 k1 k2 hm hne
    · rename_i e1 e2; subst e2
      exact fun e => (r.sep c' c l2 l1 o o1 hb h1 k2 k1 hm (fun e' => hne e'.symm)) e.symm
    · exact r.sep c c' l1 l2 o1 o2 h1 h2 k1 k2 hmm hne

/-! reading -/
theorem Rep.cells (r : Rep P G ρ B H h) {b : Nat} {own : Bool} {e : TypeId} {cs : List Value} (hb : H.obj b = some (.cells own e cs)) :
    ∃ l C e' fz, ρ b = some l ∧ h[l.blk]? = some (.cells C e' fz) ∧ CellsR ρ l cs C ∧
      (own = true → B ≤ l.blk ∧ l.off + l.lim ≤ C.size ∧ cs.length ≤ l.lim ∧ (∀ i, i < C.size → (decide (fz.1 ≤ i) && decide (i < fz.2)) = false) ∧ (l.row = true → l.sz = szOf P e)) := by
  obtain ⟨l, hl, C, e', fz, h1, h2, h3⟩ := r.obj b _ hb
  exact ⟨l, C, e', fz, hl, h1, h2, h3⟩
theorem Hp.cell_some {H : Hp} {b o : Nat} {v : Value} (hc : H.cell b o = some v) : ∃ own e cs, H.obj b = some (.cells own e cs) ∧ cs[o]? = some v := by
  unfold Hp.cell at hc
  split at hc
  · rename_i own e cs hb; exact ⟨own, e, cs, hb, hc⟩
  · cases hc
theorem cell_of_block {w : World} {g i : Nat} {C : Array Value} {e : TypeId} {fz : Nat × Nat} (hg : w.heap[g]? = some (.cells C e fz)) : w.cell? ⟨g, i, none⟩ = C[i]? := by
  simp [World.cell?, hg]
/-- A cell that the abstract heap shows stands in the world. -/
theorem Rep.cell {w : World} (r : Rep P G ρ B H w.heap) {b o : Nat} {v : Value} {l : Loc} (hl : ρ b = some l) (hc : H.cell b o = some v) :
    ∃ v', w.cell? ⟨l.blk, l.off + o, none⟩ = some v' ∧ VR ρ v v' ∧ oneCell v = true := by
  obtain ⟨own, e, cs, hb, hv⟩ := Hp.cell_some hc
  obtain ⟨l', C, e', fz, hl', h1, h2, _⟩ := r.cells hb
  rw [hl] at hl'; cases hl'
  obtain ⟨v', a, b', c⟩ := h2 o v hv
  exact ⟨v', by rw [cell_of_block h1]; exact a, b', c⟩
end Go.Proofs.Ytbikpfccdcblfaa.Eng
