/- The abstract machine's values and blocks held against the model's: the relation, and what keeps it. -/
import Derived.Test.YtkglccolonpnlaaAmDefs
import Derived.Below
import Derived.Deep.Draws
import GoSem.Machine.Frame
import Derived.Laws.Sem
set_option linter.unusedVariables false
set_option linter.unusedSimpArgs false
set_option maxRecDepth 100000
namespace Go.AM
open Go.RowKit

abbrev plain : Value → Bool := Value.oneCell'

abbrev Prot := Addr → Option Value
abbrev Map := Nat → Option (Nat × Nat)

/-- Values that name no block of the call's own. -/
inductive RelC (φ : Prot) : Val → Value → Prop
  | bool (b : Bool) : RelC φ (.bool b) (.bool b)
  | int (k : IntKind) (n : Int) : RelC φ (.int k n) (.int k n)
  | str (s : ByteArray) : RelC φ (.str s) (.string s)
  | nilp : RelC φ .nilp (.pointer none)
  | rptr (cs : List Val) (a : Addr) (vals : Nat → Value) (hφ : ∀ j, j < cs.length → φ (a.add j) = some (vals j)) (h1 : ∀ j, j < cs.length → plain (vals j) = true)
      (hr : ∀ j, j < cs.length → RelC φ (cs.getD j .und) (vals j)) : RelC φ (.rptr cs) (.pointer (some a))
  | ext (sz n : Nat) (get : Nat → List Val) (a : Addr) (c : Nat) (vals : Nat → Nat → Value) (hc : n ≤ c) (hl : ∀ i, i < n → (get i).length = sz)
      (hφ : ∀ i j, i < n → j < sz → φ (a.add (i * sz + j)) = some (vals i j)) (h1 : ∀ i j, i < n → j < sz → plain (vals i j) = true)
      (hr : ∀ i j, i < n → j < sz → RelC φ ((get i).getD j .und) (vals i j)) : RelC φ (.ext sz n get) (.slice (some a) n c)
  | extNil (sz : Nat) (get : Nat → List Val) : RelC φ (.ext sz 0 get) (.slice none 0 0)
  | nils : RelC φ .nils (.slice none 0 0)
  | emp (a : Addr) : RelC φ .emp (.slice (some a) 0 0)
  | fn (f : FuncId) : RelC φ (.fn f [] []) (.func (.func f) #[] #[])
  | nilf : RelC φ .nilf .nilFunc
  | nilm : RelC φ .nilm (.map none)
  | ifc (t : TypeId) (v : Val) (u : Value) (h : RelC φ v u) : RelC φ (.ifc t v) (.iface t u)
  | nili : RelC φ .nili .nilIface

inductive Rel (ι : Map) (φ : Prot) : Val → Value → Prop
  | c {v : Val} {u : Value} (h : RelC φ v u) : Rel ι φ v u
  | ptr (b off g c : Nat) (h : ι b = some (g, c)) : Rel ι φ (.ptr b off) (.pointer (some ⟨g, off, none⟩))
  | ep (b sz i j g c : Nat) (h : ι b = some (g, c)) : Rel ι φ (.ep b sz i j) (.pointer (some ⟨g, i * sz + j, none⟩))
  | row (b n g c : Nat) (h : ι b = some (g, c)) (hn : n ≤ c) : Rel ι φ (.row b n) (.slice (some ⟨g, 0, none⟩) n c)
  | asl (b off n g c cap : Nat) (h : ι b = some (g, c)) (hn : n ≤ cap) : Rel ι φ (.asl b off n) (.slice (some ⟨g, off, none⟩) n cap)
  | map (b g c : Nat) (h : ι b = some (g, c)) : Rel ι φ (.map b) (.map (some g))
  | fn (f : FuncId) (fs cs : List Val) (us ws : Array Value) (h1 : us.size = fs.length) (h2 : ws.size = cs.length)
      (r1 : ∀ i, i < fs.length → Rel ι φ (fs.getD i .und) (us.getD i undef)) (r2 : ∀ i, i < cs.length → Rel ι φ (cs.getD i .und) (ws.getD i undef)) : Rel ι φ (.fn f fs cs) (.func (.func f) us ws)
  | ifc (t : TypeId) (v : Val) (u : Value) (h : Rel ι φ v u) : Rel ι φ (.ifc t v) (.iface t u)
  | agg (cs : List Val) (us : Array Value) (h : us.size = cs.length) (h1 : ∀ i, i < cs.length → plain (us.getD i undef) = true)
      (hr : ∀ i, i < cs.length → Rel ι φ (cs.getD i .und) (us.getD i undef)) : Rel ι φ (.agg cs) (.agg us)
  | tup (cs : List Val) (us : Array Value) (h : us.size = cs.length) (hr : ∀ i, i < cs.length → Rel ι φ (cs.getD i .und) (us.getD i undef)) : Rel ι φ (.tup cs) (.tuple us)
  | und (u : Value) : Rel ι φ .und u

def ProtLe (φ φ' : Prot) : Prop := ∀ a v, φ a = some v → φ' a = some v
def MapLe (ι ι' : Map) : Prop := ∀ b p, ι b = some p → ι' b = some p
theorem ProtLe.refl (φ : Prot) : ProtLe φ φ := fun _ _ h => h
theorem ProtLe.trans {a b c : Prot} (h : ProtLe a b) (k : ProtLe b c) : ProtLe a c := fun x v hx => k x v (h x v hx)
theorem MapLe.refl (ι : Map) : MapLe ι ι := fun _ _ h => h
theorem MapLe.trans {a b c : Map} (h : MapLe a b) (k : MapLe b c) : MapLe a c := fun x v hx => k x v (h x v hx)

theorem RelC.mono {φ φ' : Prot} (hp : ProtLe φ φ') {v : Val} {u : Value} (h : RelC φ v u) : RelC φ' v u := by
  induction h with
  | bool b => exact .bool b
  | int k n => exact .int k n
  | str s => exact .str s
  | nilp => exact .nilp
  | rptr cs a vals hφ h1 hr ih => exact .rptr cs a vals (fun j hj => hp _ _ (hφ j hj)) h1 ih
  | ext sz n get a c vals hc hl hφ h1 hr ih => exact .ext sz n get a c vals hc hl (fun i j hi hj => hp _ _ (hφ i j hi hj)) h1 ih
  | extNil sz get => exact .extNil sz get
  | nils => exact .nils
  | emp a => exact .emp a
  | fn f => exact .fn f
  | nilf => exact .nilf
  | nilm => exact .nilm
  | ifc t v u h ih => exact .ifc t v u ih
  | nili => exact .nili

theorem Rel.mono {ι ι' : Map} {φ φ' : Prot} (hm : MapLe ι ι') (hp : ProtLe φ φ') {v : Val} {u : Value} (h : Rel ι φ v u) : Rel ι' φ' v u := by
  induction h with
  | c h => exact .c (h.mono hp)
  | ptr b off g c h => exact .ptr b off g c (hm _ _ h)
  | ep b sz i j g c h => exact .ep b sz i j g c (hm _ _ h)
  | row b n g c h hn => exact .row b n g c (hm _ _ h) hn
  | asl b off n g c cap h hn => exact .asl b off n g c cap (hm _ _ h) hn
  | map b g c h => exact .map b g c (hm _ _ h)
  | fn f fs cs us ws h1 h2 r1 r2 i1 i2 => exact .fn f fs cs us ws h1 h2 i1 i2
  | ifc t v u h ih => exact .ifc t v u ih
  | agg cs us h h1 hr ih => exact .agg cs us h h1 ih
  | tup cs us h hr ih => exact .tup cs us h ih
  | und u => exact .und u

/-! ### blocks -/
/-- cells that name no block of the call's own -/
def CellsR (φ : Prot) (vs : List Val) (us : List Value) : Prop :=
  us.length = vs.length ∧ ∀ k, k < vs.length → (us.getD k undef).oneCell' = true ∧ RelC φ (vs.getD k .und) (us.getD k undef)
theorem CellsR.mono {φ φ' : Prot} (hp : ProtLe φ φ') {vs : List Val} {us : List Value} (h : CellsR φ vs us) : CellsR φ' vs us := ⟨h.1, fun k hk => ⟨(h.2 k hk).1, (h.2 k hk).2.mono hp⟩⟩
def keyV (kag : Bool) (k : List Leaf) (u : Value) : Prop := match kag with
  | true => u = .agg (k.map leafVal).toArray
  | false => ∃ l, k = [l] ∧ u = leafVal l
/-- An entry of a map. -/
structure EntR (φ : Prot) (kag vag : Bool) (ks : List LK) (p : MEnt) (e : MapEntry) : Prop where
  key : keyV kag p.1 e.key
  shape : p.1.map Leaf.lk = ks
  cells : CellsR φ p.2 e.val.cells.toList
  agg : vag = true → ∃ us, e.val = .agg us
  one : vag = false → e.val.oneCell' = true
def EntsR (φ : Prot) (kag vag : Bool) (ks : List LK) : List MEnt → List MapEntry → Prop
  | [], [] => True
  | p :: ps, e :: es => EntR φ kag vag ks p e ∧ EntsR φ kag vag ks ps es
  | _, _ => False
theorem EntsR.mono {φ φ' : Prot} (hp : ProtLe φ φ') {kag vag : Bool} {ks : List LK} : ∀ {ps : List MEnt} {es : List MapEntry}, EntsR φ kag vag ks ps es → EntsR φ' kag vag ks ps es
  | [], [], _ => trivial
  | p :: ps, e :: es, h => ⟨⟨h.1.key, h.1.shape, h.1.cells.mono hp, h.1.agg, h.1.one⟩, EntsR.mono hp h.2⟩
  | [], _ :: _, h => h.elim
  | _ :: _, [], h => h.elim
def BlkOk (ι : Map) (φ : Prot) (w : World) (b : Nat) : Blk → Prop
  | .gone => True
  | .cells cs => ∃ g c arr t, ι b = some (g, c) ∧ w.heap[g]? = some (.cells arr t (0, 0)) ∧ arr.size = cs.length ∧
      (∀ i, i < cs.length → plain (arr.getD i undef) = true ∧ Rel ι φ (cs.getD i .und) (arr.getD i undef)) ∧ ∀ off sp, φ ⟨g, off, sp⟩ = none
  | .row t sz n get pr => ∃ g c arr, ι b = some (g, c) ∧ w.heap[g]? = some (.cells arr t (0, 0)) ∧ 0 < sz ∧ arr.size = c * sz ∧ n ≤ c ∧ c ≤ 9223372036854775807 ∧ pr ≤ n ∧
      (∀ i, i < n → (get i).length = sz) ∧ (∀ i j, i < n → j < sz → RelC φ ((get i).getD j .und) (arr.getD (i * sz + j) undef)) ∧
      (∀ i, i < arr.size → plain (arr.getD i undef) = true) ∧ ∀ off sp, pr * sz ≤ off → φ ⟨g, off, sp⟩ = none
  | .map kag vag ks es => ∃ g c arr clock, ι b = some (g, c) ∧ w.heap[g]? = some (.map arr clock) ∧ EntsR φ kag vag ks es arr.toList

structure Sim (ι : Map) (φ : Prot) (H : Nat → Blk) (w : World) : Prop where
  blk : ∀ b, BlkOk ι φ w b (H b)
  inj : ∀ b b' g c c', H b ≠ .gone → H b' ≠ .gone → ι b = some (g, c) → ι b' = some (g, c') → b = b'
  prot : ∀ a v, φ a = some v → w.cell? a = some v

/-- What a call may have done to the world, seen from its begin (w0): S the blocks that it was handed. -/
structure Keeps (S : Nat → Prop) (w w' : World) : Prop where
  os : w'.os = w.os
  tape : w'.tape = w.tape
  output : w'.output = w.output
  size : w.heap.size ≤ w'.heap.size
  block : ∀ g, g < w.heap.size → ¬ S g → w'.heap[g]? = w.heap[g]?
theorem Keeps.refl (S : Nat → Prop) (w : World) : Keeps S w w := ⟨rfl, rfl, rfl, Nat.le_refl _, fun _ _ _ => rfl⟩

structure Inv (w0 : World) (S : Nat → Prop) (φ0 : Prot) (ι : Map) (φ : Prot) (H : Nat → Blk) (w : World) : Prop where
  sim : Sim ι φ H w
  keep : Keeps S w0 w
  own : ∀ b g c, H b ≠ .gone → ι b = some (g, c) → S g ∨ w0.heap.size ≤ g
  new : ∀ a, φ a ≠ none → φ0 a ≠ none ∨ S a.block ∨ w0.heap.size ≤ a.block
  le : ProtLe φ0 φ

/-- A block that is there stands below the heap's end. -/
theorem lt_of_get {w : World} {g : Nat} {o : Obj} (h : w.heap[g]? = some o) : g < w.heap.size := (Array.getElem?_eq_some_iff.1 h).1

section
variable {ι : Map} {φ : Prot} {w : World} {b : Nat}
/-- The map and the protected cells may grow, the block's own memory unchanged. -/
theorem BlkOk.mono {ι' : Map} {φ' : Prot} {w' : World} (hm : MapLe ι ι') (hp : ProtLe φ φ') {x : Blk}
    (hw : ∀ g c, ι b = some (g, c) → x ≠ .gone → w'.heap[g]? = w.heap[g]?) (hn : ∀ g c, ι b = some (g, c) → x ≠ .gone → ∀ off sp, φ ⟨g, off, sp⟩ = none → φ' ⟨g, off, sp⟩ = none)
    (h : BlkOk ι φ w b x) : BlkOk ι' φ' w' b x := by
  cases x with
  | gone => trivial
  | cells cs =>
    obtain ⟨g, c, arr, t, e, hh, hs, hr, hf⟩ := h
    exact ⟨g, c, arr, t, hm _ _ e, (hw g c e (by simp)).trans hh, hs, fun i hi => ⟨(hr i hi).1, (hr i hi).2.mono hm hp⟩, fun off sp => hn g c e (by simp) off sp (hf off sp)⟩
  | row t sz n get pr =>
    obtain ⟨g, c, arr, e, hh, h0, hs, hnc, hc, hpr, hl, hr, h1, hf⟩ := h
    exact ⟨g, c, arr, hm _ _ e, (hw g c e (by simp)).trans hh, h0, hs, hnc, hc, hpr, hl, fun i j hi hj => (hr i j hi hj).mono hp, h1, fun off sp ho => hn g c e (by simp) off sp (hf off sp ho)⟩
  | map kag vag ks es =>
    obtain ⟨g, c, arr, clock, e, hh, hr⟩ := h
    exact ⟨g, c, arr, clock, hm _ _ e, (hw g c e (by simp)).trans hh, hr.mono hp⟩
/-- A block that is there has its place. -/
theorem BlkOk.place {x : Blk} (h : BlkOk ι φ w b x) (hx : x ≠ .gone) : ∃ g c, ι b = some (g, c) ∧ g < w.heap.size := by
  cases x with
  | gone => exact absurd rfl hx
  | cells cs => obtain ⟨g, c, arr, t, e, hh, _⟩ := h; exact ⟨g, c, e, lt_of_get hh⟩
  | row t sz n get pr => obtain ⟨g, c, arr, e, hh, _⟩ := h; exact ⟨g, c, e, lt_of_get hh⟩
  | map kag vag ks es => obtain ⟨g, c, arr, clock, e, hh, _⟩ := h; exact ⟨g, c, e, lt_of_get hh⟩
end

def setM (ι : Map) (b : Nat) (p : Nat × Nat) : Map := fun x => if x = b then some p else ι x
def setH (H : Nat → Blk) (b : Nat) (x : Blk) : Nat → Blk := fun y => if y = b then x else H y
theorem setM_le {ι : Map} {b : Nat} {p : Nat × Nat} (h : ι b = none) : MapLe ι (setM ι b p) := by
  intro x q hx
  unfold setM
  by_cases e : x = b
  · subst e; rw [h] at hx; cases hx
  · rw [if_neg e]; exact hx

section
variable {w0 : World} {S : Nat → Prop} {φ0 : Prot} {ι : Map} {φ : Prot} {H : Nat → Blk} {w : World}

theorem Inv.drew (h : Inv w0 S φ0 ι φ H w) (n : Nat) : Inv w0 S φ0 ι φ H { w with drawn := n } :=
  ⟨⟨fun b => (h.sim.blk b).mono (.refl _) (.refl _) (fun _ _ _ _ => rfl) (fun _ _ _ _ _ _ h => h), h.sim.inj, h.sim.prot⟩, ⟨h.keep.os, h.keep.tape, h.keep.output, h.keep.size, h.keep.block⟩, h.own, h.new, h.le⟩

theorem cell_lt {a : Addr} {v : Value} (h : w.cell? a = some v) : a.block < w.heap.size := World.block_lt_of_cell? w a h

/-- A new block, of whatever make, at a name that was free. -/
theorem Inv.alloc (h : Inv w0 S φ0 ι φ H w) {b c : Nat} {o : Obj} {x : Blk} (hb : ι b = none)
    (hx : BlkOk (setM ι b (w.heap.size, c)) φ (w.alloc o) b x) : Inv w0 S φ0 (setM ι b (w.heap.size, c)) φ (setH H b x) (w.alloc o) := by
  have hm : MapLe ι (setM ι b (w.heap.size, c)) := setM_le hb
  have old : ∀ g, g < w.heap.size → (w.alloc o).heap[g]? = w.heap[g]? := fun g hg => Below.heap_alloc w o g hg
  have hlt : ∀ y g c', H y ≠ .gone → ι y = some (g, c') → g < w.heap.size := fun y g c' hy e => by
    obtain ⟨g', c'', e', hl⟩ := (h.sim.blk y).place hy
    rw [e] at e'; injection e' with e'; injection e' with e1 e2; omega
  refine ⟨⟨fun y => ?_, fun y y' g c1 c2 hy hy' e e' => ?_, fun a v ha => ?_⟩, ⟨h.keep.os, h.keep.tape, h.keep.output, ?_, fun g hg hs => ?_⟩, fun y g c' hy e => ?_, h.new, h.le⟩
  · unfold setH
    by_cases hyb : y = b
    · subst hyb; rw [if_pos rfl]; exact hx
    · rw [if_neg hyb]
      exact (h.sim.blk y).mono hm (.refl _) (fun g c' e hne => old g (hlt y g c' hne e)) (fun _ _ _ _ _ _ h => h)
  · unfold setH at hy hy'
    unfold setM at e e'
    by_cases hyb : y = b <;> by_cases hyb' : y' = b
    · rw [hyb, hyb']
    · rw [if_pos hyb] at e; rw [if_neg hyb'] at e' hy'
      have := hlt y' g c2 hy' e'
      injection e with e; injection e with e1 _; omega
    · rw [if_neg hyb] at e hy; rw [if_pos hyb'] at e'
      have := hlt y g c1 hy e
      injection e' with e'; injection e' with e1 _; omega
    · rw [if_neg hyb] at e hy; rw [if_neg hyb'] at e' hy'
      exact h.sim.inj y y' g c1 c2 hy hy' e e'
  · have hc := h.sim.prot a v ha
    rw [← hc]
    exact World.cell?_of_block (old a.block (cell_lt hc))
  · have := h.keep.size; show w0.heap.size ≤ (w.heap.push o).size; rw [Array.size_push]; omega
  · rw [old g (by have := h.keep.size; omega)]; exact h.keep.block g hg hs
  · unfold setH at hy
    unfold setM at e
    by_cases hyb : y = b
    · rw [if_pos hyb] at e; injection e with e; injection e with e1 _
      exact .inr (by have := h.keep.size; omega)
    · rw [if_neg hyb] at e hy; exact h.own y g c' hy e

/-- A block of the call's own is written anew. -/
theorem Inv.write (h : Inv w0 S φ0 ι φ H w) {b g c : Nat} {x : Blk} {w' : World} (hb : ι b = some (g, c)) (hH : H b ≠ .gone)
    (hos : w'.os = w.os) (htape : w'.tape = w.tape) (hout : w'.output = w.output) (hsize : w'.heap.size = w.heap.size) (hold : ∀ k, k ≠ g → w'.heap[k]? = w.heap[k]?)
    (hprot : ∀ a v, φ a = some v → a.block = g → w'.cell? a = some v) (hx : BlkOk ι φ w' b x) : Inv w0 S φ0 ι φ (setH H b x) w' := by
  have hne : ∀ y, y ≠ b → H y ≠ .gone → ∀ g' c', ι y = some (g', c') → g' ≠ g := fun y hy hg g' c' e e' => by
    subst e'; exact hy (h.sim.inj y b g' c' c hg hH e hb)
  refine ⟨⟨fun y => ?_, fun y y' g1 c1 c2 hy hy' e e' => ?_, fun a v ha => ?_⟩, ⟨hos.trans h.keep.os, htape.trans h.keep.tape, hout.trans h.keep.output, by rw [hsize]; exact h.keep.size, fun k hk hs => ?_⟩, fun y g' c' hy e => ?_, h.new, h.le⟩
  · unfold setH
    by_cases hyb : y = b
    · subst hyb; rw [if_pos rfl]; exact hx
    · rw [if_neg hyb]
      exact (h.sim.blk y).mono (.refl _) (.refl _) (fun g' c' e hg => hold g' (hne y hyb hg g' c' e)) (fun _ _ _ _ _ _ h => h)
  · have fix : ∀ y, setH H b x y ≠ .gone → H y ≠ .gone := fun y hy => by
      unfold setH at hy
      by_cases hyb : y = b
      · subst hyb; exact hH
      · rw [if_neg hyb] at hy; exact hy
    exact h.sim.inj y y' g1 c1 c2 (fix y hy) (fix y' hy') e e'
  · by_cases hag : a.block = g
    · exact hprot a v ha hag
    · rw [← h.sim.prot a v ha]; exact World.cell?_of_block (hold a.block hag)
  · by_cases hkg : k = g
    · subst hkg
      rcases h.own b k c hH hb with h1 | h1
      · exact absurd h1 hs
      · omega
    · rw [hold k hkg]; exact h.keep.block k hk hs
  · unfold setH at hy
    by_cases hyb : y = b
    · subst hyb; exact h.own y g' c' hH e
    · rw [if_neg hyb] at hy; exact h.own y g' c' hy e

/-- More cells of a block of the call's own are never written again. -/
theorem Inv.lend (h : Inv w0 S φ0 ι φ H w) {b g c : Nat} {x : Blk} {φ' : Prot} (hb : ι b = some (g, c)) (hH : H b ≠ .gone) (hp : ProtLe φ φ')
    (hout : ∀ a, a.block ≠ g → φ' a = φ a) (hin : ∀ a v, φ' a = some v → a.block = g → w.cell? a = some v) (hx : BlkOk ι φ' w b x) : Inv w0 S φ0 ι φ' (setH H b x) w := by
  have hne : ∀ y, y ≠ b → H y ≠ .gone → ∀ g' c', ι y = some (g', c') → g' ≠ g := fun y hy hg g' c' e e' => by
    subst e'; exact hy (h.sim.inj y b g' c' c hg hH e hb)
  refine ⟨⟨fun y => ?_, fun y y' g1 c1 c2 hy hy' e e' => ?_, fun a v ha => ?_⟩, h.keep, fun y g' c' hy e => ?_, fun a ha => ?_, h.le.trans hp⟩
  · unfold setH
    by_cases hyb : y = b
    · subst hyb; rw [if_pos rfl]; exact hx
    · rw [if_neg hyb]
      exact (h.sim.blk y).mono (.refl _) hp (fun _ _ _ _ => rfl) (fun g' c' e hg off sp hφ => by rw [hout _ (hne y hyb hg g' c' e)]; exact hφ)
  · have fix : ∀ y, setH H b x y ≠ .gone → H y ≠ .gone := fun y hy => by
      unfold setH at hy
      by_cases hyb : y = b
      · subst hyb; exact hH
      · rw [if_neg hyb] at hy; exact hy
    exact h.sim.inj y y' g1 c1 c2 (fix y hy) (fix y' hy') e e'
  · by_cases hag : a.block = g
    · exact hin a v ha hag
    · rw [hout a hag] at ha; exact h.sim.prot a v ha
  · unfold setH at hy
    by_cases hyb : y = b
    · subst hyb; exact h.own y g' c' hH e
    · rw [if_neg hyb] at hy; exact h.own y g' c' hy e
  · by_cases hag : a.block = g
    · rw [hag]; exact .inr (h.own b g c hH hb)
    · rw [hout a hag] at ha; exact h.new a ha

/-- A block is forgotten. -/
theorem Inv.forget (h : Inv w0 S φ0 ι φ H w) (b : Nat) : Inv w0 S φ0 ι φ (setH H b .gone) w := by
  have fix : ∀ y, setH H b .gone y ≠ .gone → y ≠ b ∧ H y ≠ .gone := fun y hy => by
    unfold setH at hy
    by_cases hyb : y = b
    · rw [if_pos hyb] at hy; exact absurd rfl hy
    · rw [if_neg hyb] at hy; exact ⟨hyb, hy⟩
  refine ⟨⟨fun y => ?_, fun y y' g1 c1 c2 hy hy' e e' => h.sim.inj y y' g1 c1 c2 (fix y hy).2 (fix y' hy').2 e e', h.sim.prot⟩, h.keep, fun y g' c' hy e => h.own y g' c' (fix y hy).2 e, h.new, h.le⟩
  unfold setH
  by_cases hyb : y = b
  · rw [if_pos hyb]; trivial
  · rw [if_neg hyb]; exact h.sim.blk y
end
end Go.AM
