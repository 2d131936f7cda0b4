/- The operations one by one: values, memory. -/
import Derived.Test.YtkglccolonpnlaaAmOps
set_option linter.unusedVariables false
set_option linter.unusedSimpArgs false
set_option maxRecDepth 100000
namespace Go.AM
noncomputable section
open Go.RowKit

def Does (p : Prog) (H : Nat → Blk) (r : List Nat) (v : Val) (u : Upd) (r' : List Nat) : Prop := p.run H r (fun v' u' r'' => v' = v ∧ u' = u ∧ r'' = r')
theorem does_valK {x : Val} {H : Nat → Blk} {r : List Nat} {v : Val} {u : Upd} {r' : List Nat} (h : Does (valK x) H r v u r') : v = x ∧ u = [] := ⟨h.1.symm, h.2.1.symm⟩

theorem add_eq (g off j : Nat) : (⟨g, off, none⟩ : Addr).add j = ⟨g, off + j, none⟩ := by unfold Addr.add; split <;> simp_all
theorem add_add (a : Addr) (i j : Nat) : (a.add i).add j = a.add (i + j) := by
  unfold Addr.add
  by_cases hi : i = 0 <;> by_cases hj : j = 0 <;> simp [hi, hj, Nat.add_assoc]

theorem getD_take {l : List Val} {n k : Nat} (h : k < n) : (l.take n).getD k .und = l.getD k .und := by
  simp [List.getD_eq_getElem?_getD, h]
theorem getD_drop {l : List Val} {n k : Nat} : (l.drop n).getD k .und = l.getD (n + k) .und := by
  simp [List.getD_eq_getElem?_getD, List.getElem?_drop]

section
variable {P : Program} {ι : Map} {φ : Prot}
/-- Cells as a value of a type: what 'wrapVal' gives, and the model. -/
theorem does_from {d : TD} {cs : List Val} {off : Nat} {H : Nat → Blk} {r : List Nat} {v : Val} {u : Upd} {r' : List Nat} (h : Does (fromP d cs off) H r v u r') :
    u = [] ∧ ((cs.drop off).take d.size).length = d.size ∧ (d.isAgg = true ∧ v = .agg ((cs.drop off).take d.size) ∨ d.isAgg = false ∧ (cs.drop off).take d.size = [v]) := by
  unfold Does fromP at h
  rw [dropK_eq, takeK_eq] at h
  split at h
  · rename_i hl
    rw [beq_iff_eq] at hl
    unfold wrapVal at h
    split at h
    · rename_i ha
      exact ⟨h.2.1.symm, hl, .inl ⟨ha, h.1.symm⟩⟩
    · rename_i ha
      split at h
      · rename_i x hx
        exact ⟨h.2.1.symm, hl, .inr ⟨ha, by rw [hx, h.1]⟩⟩
      · exact h.elim
  · exact h.elim
theorem load_sound {t : TypeId} {d : TD} (hg : Good P d t) {cs : List Val} {off : Nat} {H : Nat → Blk} {r : List Nat} {v : Val} {u : Upd} {r' : List Nat} (h : Does (fromP d cs off) H r v u r')
    {w : World} {A : Addr} (hc : ∀ j, off + j < cs.length → ∃ u, w.cell? (A.add j) = some u ∧ u.oneCell' = true ∧ Rel ι φ (cs.getD (off + j) .und) u) :
    u = [] ∧ ∃ cv, (loadVar t A).run P w = .ok cv w ∧ Rel ι φ v cv := by
  obtain ⟨hu, hl, hv⟩ := does_from h
  refine ⟨hu, ?_⟩
  have hlen : ∀ j, j < d.size → off + j < cs.length := fun j hj => by
    simp only [List.length_take, List.length_drop] at hl
    omega
  have hget : ∀ j, j < d.size → ((cs.drop off).take d.size).getD j .und = cs.getD (off + j) .und := fun j hj => by rw [getD_take hj, getD_drop]
  rcases hv with ⟨ha, rfl⟩ | ⟨ha, hx⟩
  · let f : Nat → Value := fun j => (w.cell? (A.add j)).getD undef
    have hf : ∀ j, j < d.size → w.cell? (A.add j) = some (f j) := fun j hj => by
      obtain ⟨x, hx, _⟩ := hc j (hlen j hj)
      simp [f, hx]
    refine ⟨.agg ((List.range d.size).map f).toArray, ?_, ?_⟩
    · simp [loadVar, hg.isAgg_run, hg.size_run, ha, run_loadCells w A d.size f hf]
    · have e : ∀ i, i < d.size → (((List.range d.size).map f).toArray).getD i undef = f i := fun i hi => by
        simp [hi]
      refine .agg _ _ (by simp [hl]) (fun i hi => ?_) (fun i hi => ?_)
      · rw [hl] at hi
        obtain ⟨x, hx, h1, _⟩ := hc i (hlen i hi)
        rw [e i hi]
        simp only [f, hx]
        exact h1
      · rw [hl] at hi
        obtain ⟨x, hx, _, hr⟩ := hc i (hlen i hi)
        rw [e i hi, hget i hi]
        simp only [f, hx]
        exact hr
  · have h1 : d.size = 1 := by rw [hx] at hl; simpa using hl.symm
    obtain ⟨x, hx2, _, hr⟩ := hc 0 (hlen 0 (by omega))
    rw [add_zero_] at hx2
    refine ⟨x, ?_, ?_⟩
    · simp [loadVar, hg.isAgg_run, ha, hx2]
    · have := hget 0 (by omega)
      rw [hx] at this
      rw [← this] at hr
      exact hr
where add_zero_ {A : Addr} : A.add 0 = A := by simp [Addr.add]
/-- The same of an aggregate's cells. -/
theorem part_sound {t : TypeId} {d : TD} (hg : Good P d t) {cs : List Val} {off : Nat} {H : Nat → Blk} {r : List Nat} {v : Val} {u : Upd} {r' : List Nat} (h : Does (fromP d cs off) H r v u r')
    {w : World} {us : Array Value} (hs : us.size = cs.length) (h1 : ∀ i, i < cs.length → (us.getD i undef).oneCell' = true) (hr : ∀ i, i < cs.length → Rel ι φ (cs.getD i .und) (us.getD i undef)) :
    u = [] ∧ ∃ cv, (part t us off).run P w = .ok cv w ∧ Rel ι φ v cv := by
  obtain ⟨hu, hl, hv⟩ := does_from h
  refine ⟨hu, ?_⟩
  have hlen : ∀ j, j < d.size → off + j < cs.length := fun j hj => by
    simp only [List.length_take, List.length_drop] at hl
    omega
  have hget : ∀ j, j < d.size → ((cs.drop off).take d.size).getD j .und = cs.getD (off + j) .und := fun j hj => by rw [getD_take hj, getD_drop]
  rcases hv with ⟨ha, rfl⟩ | ⟨ha, hx⟩
  · refine ⟨.agg (us.extract off (off + d.size)), ?_, ?_⟩
    · simp [part, hg.isAgg_run, hg.size_run, ha]
    · have hsz : (us.extract off (off + d.size)).size = d.size := by
        simp only [List.length_take, List.length_drop] at hl
        simp only [Array.size_extract, hs]
        omega
      have e : ∀ i, i < d.size → (us.extract off (off + d.size)).getD i undef = us.getD (off + i) undef := fun i hi => by
        have := hlen i hi
        rw [Array.getD_eq_getD_getElem?, Array.getD_eq_getD_getElem?, Array.getElem?_extract]
        rw [if_pos (by omega)]
      refine .agg _ _ (by rw [hsz, hl]) (fun i hi => ?_) (fun i hi => ?_)
      · rw [hl] at hi; rw [e i hi]; exact h1 _ (hlen i hi)
      · rw [hl] at hi; rw [e i hi, hget i hi]; exact hr _ (hlen i hi)
  · have hz : d.size = 1 := by rw [hx] at hl; simpa using hl.symm
    have hlt := hlen 0 (by omega)
    have he : us[off]? = some (us.getD off undef) := by
      rw [Array.getD_eq_getD_getElem?, Array.getElem?_eq_getElem (by omega)]; rfl
    refine ⟨us.getD off undef, ?_, ?_⟩
    · generalize us.getD off undef = x at he
      simp [part, hg.isAgg_run, ha, he]
    · have := hget 0 (by omega)
      rw [hx] at this
      have hr0 := hr off hlt
      rw [Nat.add_zero] at this
      rw [← this] at hr0
      exact hr0
end

/-- Cells of a block of the call's own, as the model reads them. -/
theorem blk_cell {ι : Map} {φ : Prot} {w : World} {b g c : Nat} {cs : List Val} (hb : BlkOk ι φ w b (.cells cs)) (he : ι b = some (g, c)) :
    ∃ arr t, w.heap[g]? = some (.cells arr t (0, 0)) ∧ arr.size = cs.length ∧ (∀ off sp, φ ⟨g, off, sp⟩ = none) ∧
      ∀ off, off < cs.length → w.cell? ⟨g, off, none⟩ = some (arr.getD off undef) ∧ (arr.getD off undef).oneCell' = true ∧ Rel ι φ (cs.getD off .und) (arr.getD off undef) := by
  obtain ⟨g', c', arr, t, e, hh, hs, hr, hf⟩ := hb
  rw [he] at e; injection e with e; injection e with e1 e2; subst e1
  refine ⟨arr, t, hh, hs, hf, fun off ho => ⟨?_, (hr off ho).1, (hr off ho).2⟩⟩
  simp only [World.cell?, hh]
  rw [Array.getD_eq_getD_getElem?, Array.getElem?_eq_getElem (by omega)]
  simp
theorem blk_row {ι : Map} {φ : Prot} {w : World} {b g c : Nat} {t : TypeId} {sz n pr : Nat} {get : Nat → List Val} (hb : BlkOk ι φ w b (.row t sz n get pr)) (he : ι b = some (g, c)) :
    ∃ arr, w.heap[g]? = some (.cells arr t (0, 0)) ∧ 0 < sz ∧ arr.size = c * sz ∧ n ≤ c ∧ c ≤ 9223372036854775807 ∧ pr ≤ n ∧ (∀ i, i < n → (get i).length = sz) ∧
      (∀ i j, i < n → j < sz → w.cell? ⟨g, i * sz + j, none⟩ = some (arr.getD (i * sz + j) undef) ∧ (arr.getD (i * sz + j) undef).oneCell' = true ∧ RelC φ ((get i).getD j .und) (arr.getD (i * sz + j) undef)) ∧
      (∀ i, i < arr.size → (arr.getD i undef).oneCell' = true) ∧ ∀ off sp, pr * sz ≤ off → φ ⟨g, off, sp⟩ = none := by
  obtain ⟨g', c', arr, e, hh, h0, hs, hnc, hc, hpr, hl, hr, h1, hf⟩ := hb
  rw [he] at e; injection e with e; injection e with e1 e2; subst e1; subst e2
  refine ⟨arr, hh, h0, hs, hnc, hc, hpr, hl, fun i j hi hj => ?_, h1, hf⟩
  have hlt : i * sz + j < arr.size := by
    rw [hs]
    calc i * sz + j < i * sz + sz := by omega
      _ = (i + 1) * sz := by rw [Nat.add_mul, Nat.one_mul]
      _ ≤ c * sz := Nat.mul_le_mul_right _ (by omega)
  refine ⟨?_, h1 _ hlt, hr i j hi hj⟩
  simp only [World.cell?, hh]
  rw [Array.getD_eq_getD_getElem?, Array.getElem?_eq_getElem hlt]
  simp

/-! ### memory -/
section
variable {P : Program} {T : TypeId → TD} {a : Act} {w w0 : World} {S : Nat → Prop} {φ0 : Prot} {ι : Map} {φ : Prot} {H : Nat → Blk} {nid : Nat} {v : Val} {u : Upd} {r' : List Nat} {tm : List Val}
variable {dst : Option Tmp} {ty : TypeId} {pos : String} {after : Array Edge} {guard : Option (Nat × Bool)}

theorem does_nb {d : TD} {k : TD → Prog} {r : List Nat} (h : Does (nb d k) H r v u r') : d ≠ .bad ∧ Does (k d) H r v u r' := by
  unfold Does nb at h
  cases d <;> first | exact ⟨by simp, h⟩ | exact h.elim
theorem TOk.good (hT : TOk P T) {t : TypeId} (h : T t ≠ .bad) : Good P (T t) t := (hT t _ rfl).resolve_left h

theorem sound_move {x : Operand} (hi : Inv w0 S φ0 ι φ H w) (ht : TmOk ι φ tm a.tmps) (h : Does (evK tm x valK) H [] v u r') : Step P ⟨dst, .move x, ty, pos, after, guard⟩ a w w0 S φ0 ι φ H nid v u := by
  rw [evK_eq] at h
  obtain ⟨rfl, rfl⟩ := does_valK h
  exact Step.pure_ hi (cv := a.eval x) (by simp [execOp]) (ht.ev x)
theorem sound_assign {x : Operand} (hi : Inv w0 S φ0 ι φ H w) (ht : TmOk ι φ tm a.tmps) (h : Does (evK tm x valK) H [] v u r') : Step P ⟨dst, .assign x, ty, pos, after, guard⟩ a w w0 S φ0 ι φ H nid v u := by
  rw [evK_eq] at h
  obtain ⟨rfl, rfl⟩ := does_valK h
  exact Step.pure_ hi (cv := a.eval x) (by simp [execOp]) (ht.ev x)
theorem does_pickP {t : Bool} {x y : Val} (h : Does (pickP t x y) H [] v u r') : u = [] ∧ v = cond t x y := by
  unfold pickP at h
  split at h
  · obtain ⟨rfl, rfl⟩ := does_valK h
    exact ⟨rfl, by cases t <;> rfl⟩
  · split at h
    · rename_i e
      obtain ⟨rfl, rfl⟩ := does_valK h
      rw [decide_eq_true_eq] at e; subst e
      exact ⟨rfl, by cases t <;> rfl⟩
    · exact h.elim
  · split at h
    · obtain ⟨rfl, rfl⟩ := does_valK h
      exact ⟨rfl, rfl⟩
    · obtain ⟨rfl, rfl⟩ := does_valK h
      exact ⟨rfl, rfl⟩
theorem sound_pick {c x y : Operand} (hi : Inv w0 S φ0 ι φ H w) (ht : TmOk ι φ tm a.tmps)
    (h : Does (evK tm c fun v => match v with
    | .bool t => evK tm x fun x => evK tm y fun y => pickP t x y
    | _ => .fail) H [] v u r') : Step P ⟨dst, .pick c x y, ty, pos, after, guard⟩ a w w0 S φ0 ι φ H nid v u := by
  rw [evK_eq] at h
  have hc := ht.ev c
  split at h
  · rename_i t e
    rw [e] at hc
    have hc := hc.bool_
    rw [evK_eq, evK_eq] at h
    obtain ⟨rfl, rfl⟩ := does_pickP h
    cases t
    · exact Step.pure_ hi (cv := a.eval y) (by simp [execOp, hc, asBool]) (ht.ev y)
    · exact Step.pure_ hi (cv := a.eval x) (by simp [execOp, hc, asBool]) (ht.ev x)
  · exact h.elim

theorem cellsOk_blk {us : List Value} {cs : List Val} (h : CellsOk ι φ cs us) {b c : Nat} (t : TypeId) (hb : ι b = none) (hp : ∀ a v, φ a = some v → a.block < w.heap.size) :
    BlkOk (setM ι b (w.heap.size, c)) φ (w.alloc (.cells us.toArray t)) b (.cells cs) := by
  refine ⟨w.heap.size, c, us.toArray, t, by simp [setM], heap_new _ _, by simpa using h.1, fun i hi => ?_, fun off sp => ?_⟩
  · have e : us.toArray.getD i undef = us.getD i undef := by simp [List.getD_eq_getElem?_getD, Array.getD_eq_getD_getElem?]
    rw [e]
    exact ⟨(h.2 i hi).1, (h.2 i hi).2.mono (setM_le hb) (.refl _)⟩
  · cases hx : φ ⟨w.heap.size, off, sp⟩ with
    | none => rfl
    | some v => have := hp _ v hx; simp at this
theorem Inv.prot_lt (hi : Inv w0 S φ0 ι φ H w) : ∀ a v, φ a = some v → a.block < w.heap.size := fun a v h => cell_lt (hi.sim.prot a v h)

theorem sound_alloc {t : TypeId} (hT : TOk P T) (hi : Inv w0 S φ0 ι φ H w) (hn : (∃ x, (nid, x) ∈ u) → ι nid = none) (h : Does (nb (T t) fun d => appK d.zero [] fun z => .ret (.ptr nid 0) [(nid, .cells z)]) H [] v u r') :
    Step P ⟨dst, .alloc t, ty, pos, after, guard⟩ a w w0 S φ0 ι φ H nid v u := by
  obtain ⟨hb, h⟩ := does_nb h
  rw [appK_eq, List.append_nil] at h
  obtain ⟨rfl, rfl, _⟩ := h
  have hn := hn ⟨_, List.mem_singleton.2 rfl⟩
  obtain ⟨i, z, hin, hsz, hz, hc, _, _⟩ := (hT.good hb).zok
  have hco : CellsOk ι φ (T t).zero z.cells.toList := ⟨(hc φ).1, fun k hk => ⟨((hc φ).2 k hk).1, .c ((hc φ).2 k hk).2⟩⟩
  refine Step.alloc_ hi hn (cv := .pointer (some ⟨w.heap.size, 0, none⟩)) (ob := .cells z.cells.toList.toArray t) (c := 0) ?_ (cellsOk_blk hco t hn hi.prot_lt) (.ptr _ _ _ 0 (by simp [setM]))
  simp [execOp, Instr.alloc, zeroValue, run_info hin, hz, newVar, newRow]
theorem sound_box {t : TypeId} {x : Operand} (hi : Inv w0 S φ0 ι φ H w) (ht : TmOk ι φ tm a.tmps) (hn : (∃ x, (nid, x) ∈ u) → ι nid = none)
    (h : Does (evK tm x fun v => match v with
    | .agg cs => .ret (.ptr nid 0) [(nid, .cells cs)]
    | .und | .tup _ => .fail
    | v => .ret (.ptr nid 0) [(nid, .cells [v])]) H [] v u r') : Step P ⟨dst, .box t x, ty, pos, after, guard⟩ a w w0 S φ0 ι φ H nid v u := by
  rw [evK_eq] at h
  have hx := ht.ev x
  have key : ∀ x', ι nid = none → (∀ cs, evV tm x ≠ .tup cs) → evV tm x ≠ .und → (nid, Blk.cells (cellsOf (evV tm x))) = x' → Step P ⟨dst, .box t x, ty, pos, after, guard⟩ a w w0 S φ0 ι φ H nid (.ptr nid 0) [x'] := by
    rintro x' hn h2 h3 rfl
    refine Step.alloc_ hi hn (cv := .pointer (some ⟨w.heap.size, 0, none⟩)) (ob := .cells (a.eval x).cells.toList.toArray t) (c := 0) ?_ (cellsOk_blk (hx.cells h2 h3) t hn hi.prot_lt) (.ptr _ _ _ 0 (by simp [setM]))
    simp [execOp, Instr.box, newVar, newRow]
  split at h
  · rename_i cs e
    obtain ⟨rfl, rfl, _⟩ := h
    exact key _ (hn ⟨_, List.mem_singleton.2 rfl⟩) (fun cs' e' => by rw [e] at e'; cases e') (fun e' => by rw [e] at e'; cases e') (by rw [e]; rfl)
  · exact h.elim
  · exact h.elim
  · rename_i h1 h2 h3
    obtain ⟨rfl, rfl, _⟩ := h
    refine key _ (hn ⟨_, List.mem_singleton.2 rfl⟩) (fun cs' e' => h3 cs' e') (fun e' => h2 e') ?_
    cases hv : evV tm x <;> first | rfl | exact absurd hv (h1 _)

/-- A load. -/
theorem sound_load {t : TypeId} {x : Operand} (hT : TOk P T) (hi : Inv w0 S φ0 ι φ H w) (ht : TmOk ι φ tm a.tmps) (h : Does (nb (T t) fun d => evK tm x fun a => loadP d a) H [] v u r') :
    Step P ⟨dst, .load t x, ty, pos, after, guard⟩ a w w0 S φ0 ι φ H nid v u := by
  obtain ⟨hb, h⟩ := does_nb h
  rw [evK_eq] at h
  have hg := hT.good hb
  have hx := ht.ev x
  unfold Does loadP at h
  have fin : ∀ {A : Addr} {cs : List Val} {off : Nat} {r : List Nat}, a.eval x = .pointer (some A) → Does (fromP (T t) cs off) H r v u r' →
      (∀ j, off + j < cs.length → ∃ u, w.cell? (A.add j) = some u ∧ u.oneCell' = true ∧ Rel ι φ (cs.getD (off + j) .und) u) → Step P ⟨dst, .load t x, ty, pos, after, guard⟩ a w w0 S φ0 ι φ H nid v u := by
    intro A cs off r he hd hc
    obtain ⟨rfl, cv, hrun, hv⟩ := load_sound hg hd hc
    refine Step.pure_ hi (cv := cv) ?_ hv
    simp [execOp, Instr.loadAt, Instr.sureAddr, he, hrun]
  split at h
  · rename_i b off e
    rw [e] at hx
    obtain ⟨g, c, hm, he⟩ := hx.ptr_
    simp only [Prog.run] at h
    split at h
    · rename_i cs hbk
      have hB := hi.sim.blk b
      rw [hbk] at hB
      obtain ⟨arr, t', _, _, _, hcell⟩ := blk_cell hB hm
      exact fin he h (fun j hj => by rw [add_eq]; exact ⟨_, hcell _ hj⟩)
    · exact h.elim
  · rename_i b sz i j e
    rw [e] at hx
    obtain ⟨g, c, hm, he⟩ := hx.ep_
    simp only [Prog.run] at h
    split at h
    · rename_i te sz' n get pr hbk
      obtain ⟨hin, h⟩ := h
      split at h
      · rename_i hs
        rw [beq_iff_eq] at hs; subst hs
        have hB := hi.sim.blk b
        rw [hbk] at hB
        obtain ⟨arr, _, h0, _, _, _, _, hl, hcell, _⟩ := blk_row hB hm
        refine fin he h (fun k hk => ?_)
        rw [hl i hin] at hk
        obtain ⟨h1, h2, h3⟩ := hcell i (j + k) hin hk
        rw [add_eq, Nat.add_assoc]
        exact ⟨_, h1, h2, .c h3⟩
      · exact h.elim
    · exact h.elim
  · rename_i cs e
    rw [e] at hx
    obtain ⟨A, vals, he, hφ, h1, hr⟩ := hx.rptr_
    refine fin he h (fun j hj => ?_)
    rw [Nat.zero_add] at hj ⊢
    exact ⟨vals j, hi.sim.prot _ _ (hφ j hj), h1 j hj, .c (hr j hj)⟩
  · exact h.elim
end
end
end Go.AM
