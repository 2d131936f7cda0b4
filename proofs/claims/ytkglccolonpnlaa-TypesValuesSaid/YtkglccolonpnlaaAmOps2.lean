/- The operations one by one: stores, addresses, aggregates, numbers. -/
import Derived.Test.YtkglccolonpnlaaAmOps1
set_option linter.unusedVariables false
set_option linter.unusedSimpArgs false
set_option maxRecDepth 100000
namespace Go.AM
noncomputable section
open Go.RowKit

theorem getD_splice {α : Type} (z : α) {l new : List α} {off : Nat} (h : off + new.length ≤ l.length) (k : Nat) :
    (l.take off ++ (new ++ l.drop (off + new.length))).getD k z = if off ≤ k ∧ k < off + new.length then new.getD (k - off) z else l.getD k z := by
  simp only [List.getD_eq_getElem?_getD]
  have ht : (l.take off).length = off := by rw [List.length_take]; omega
  rcases Nat.lt_or_ge k off with h1 | h1
  · rw [if_neg (by omega), List.getElem?_append_left (by omega), List.getElem?_take, if_pos h1]
  · rw [List.getElem?_append_right (by omega), ht]
    rcases Nat.lt_or_ge k (off + new.length) with h2 | h2
    · rw [if_pos ⟨h1, h2⟩, List.getElem?_append_left (by omega)]
    · rw [if_neg (by omega), List.getElem?_append_right (by omega), List.getElem?_drop]
      congr 2; omega
theorem length_splice {α : Type} {l new : List α} {off : Nat} (h : off + new.length ≤ l.length) : (l.take off ++ (new ++ l.drop (off + new.length))).length = l.length := by
  simp only [List.length_append, List.length_take, List.length_drop]; omega
theorem arr_getD (us : Array Value) (k : Nat) : us.toList.getD k undef = us.getD k undef := by simp [List.getD_eq_getElem?_getD, Array.getD_eq_getD_getElem?]
theorem toArr_getD (us : List Value) (k : Nat) : us.toArray.getD k undef = us.getD k undef := by simp [List.getD_eq_getElem?_getD, Array.getD_eq_getD_getElem?]

theorem mem_getD {us : List Value} {p : Value → Prop} (h : ∀ k, k < us.length → p (us.getD k undef)) : ∀ x ∈ us, p x := by
  intro x hx
  obtain ⟨k, hk, rfl⟩ := List.mem_iff_getElem.1 hx
  have := h k hk
  rwa [List.getD_eq_getElem?_getD, List.getElem?_eq_getElem hk] at this

section
variable {P : Program} {T : TypeId → TD} {a : Act} {w w0 : World} {S : Nat → Prop} {φ0 : Prot} {ι : Map} {φ : Prot} {H : Nat → Blk} {nid : Nat} {v : Val} {u : Upd} {r' : List Nat} {tm : List Val}
variable {dst : Option Tmp} {ty : TypeId} {pos : String} {after : Array Edge} {guard : Option (Nat × Bool)}

theorem Step.write_ {o : Oper} (hi : Inv w0 S φ0 ι φ H w) {b g c : Nat} {x : Blk} {w' : World} (hb : ι b = some (g, c)) (hH : H b ≠ .gone) {nx : Next} (hr : (execOp a.eval o).run P w = .ok nx w')
    {cv : Value} (hnx : nx = .value cv ∨ nx = .skip ∧ cv = undef) (hos : w'.os = w.os) (htape : w'.tape = w.tape) (hout : w'.output = w.output) (hsize : w'.heap.size = w.heap.size) (hold : ∀ k, k ≠ g → w'.heap[k]? = w.heap[k]?)
    (hprot : ∀ a v, φ a = some v → a.block = g → w'.cell? a = some v) (hx : BlkOk ι φ w' b x) (hv : Rel ι φ v cv) : Step P o a w w0 S φ0 ι φ H nid v [(b, x)] :=
  ⟨nx, cv, w', ι, φ, hr, hnx, hv, hi.write hb hH hos htape hout hsize hold hprot hx, .refl _, .refl _, fun _ _ => rfl⟩

theorem setRow_size (w : World) (g : Nat) (cs : Array Value) : (w.setRow g cs).heap.size = w.heap.size := by simp [World.setRow]
theorem setRow_cell {w : World} {g : Nat} {old cs : Array Value} {t : TypeId} {fr : Nat × Nat} (hg : w.heap[g]? = some (.cells old t fr)) (off : Nat) (sp : Option Nat) :
    (w.setRow g cs).cell? ⟨g, off, sp⟩ = if sp.isSome then none else cs[off]? := by
  simp only [World.cell?, setRow_heap w g old cs t fr hg]

theorem store_run {t : TypeId} {d : TD} (hg : Good P d t) {us : Value} {g off : Nat} {arr : Array Value} {t' : TypeId} (hh : w.heap[g]? = some (.cells arr t' (0, 0))) (hl : us.cells.toList.length = d.size)
    (hfit : off + us.cells.toList.length ≤ arr.size) (h1 : ∀ x ∈ us.cells.toList, x.oneCell' = true) {x y : Operand} (hx : a.eval x = .pointer (some ⟨g, off, none⟩)) (hy : a.eval y = us) :
    (execOp a.eval ⟨dst, .store t x y, ty, pos, after, guard⟩).run P w = .ok .skip (w.setRow g (arr.toList.take off ++ us.cells.toList ++ arr.toList.drop (off + us.cells.toList.length)).toArray) := by
  have hs : us.cells.size = d.size := by rw [← Array.length_toList]; exact hl
  have hst := run_storeCells_at (P := P) g off t' us.cells.toList 0 arr w hh (by simpa using hfit) h1
  simp only [Nat.add_zero] at hst
  simp [execOp, Instr.storeAt, Instr.sureAddr, hx, hy, storeVar, hg.size_run, hs, hst]

theorem sound_storeC {t : TypeId} {d : TD} (hg : Good P d t) (hi : Inv w0 S φ0 ι φ H w) {va : Val} {cs : List Val} {x y : Operand} (hx : Rel ι φ va (a.eval x)) (hy : CellsOk ι φ cs (a.eval y).cells.toList)
    {r : List Nat} (h : Does (storeC d va cs) H r v u r') : Step P ⟨dst, .store t x y, ty, pos, after, guard⟩ a w w0 S φ0 ι φ H nid v u := by
  unfold Does storeC at h
  split at h
  case h_2 => exact h.elim
  rename_i hcs
  rw [beq_iff_eq] at hcs
  have hl : (a.eval y).cells.toList.length = d.size := by rw [hy.1, hcs]
  have h1 : ∀ z ∈ (a.eval y).cells.toList, z.oneCell' = true := mem_getD fun k hk => (hy.2 k (by rw [← hy.1]; exact hk)).1
  split at h
  · rename_i b off
    obtain ⟨g, c, hm, he⟩ := hx.ptr_
    simp only [Prog.run] at h
    split at h
    case h_2 => exact h.elim
    rename_i old hbk
    have hB := hi.sim.blk b
    rw [hbk] at hB
    obtain ⟨arr, t', hh, hs, hf, hcell⟩ := blk_cell hB hm
    split at h
    case h_2 => exact h.elim
    rename_i hfit
    rw [decide_eq_true_eq] at hfit
    rw [splice_eq] at h
    obtain ⟨rfl, rfl, _⟩ := h
    have hfit' : off + (a.eval y).cells.toList.length ≤ arr.size := by rw [hy.1, hs]; exact hfit
    have hrun := store_run (dst := dst) (ty := ty) (pos := pos) (after := after) (guard := guard) hg hh hl hfit' h1 he rfl
    refine Step.write_ hi hm (by rw [hbk]; simp) hrun (cv := undef) (.inr ⟨rfl, rfl⟩) rfl rfl rfl (setRow_size _ _ _) (fun k hk => setRow_other w g k _ hk) (fun q z hq hqb => ?_) ?_ (rel_undef _ _)
    · have := hf q.off q.spot
      rw [← hqb] at this
      rw [show (⟨q.block, q.off, q.spot⟩ : Addr) = q from rfl, hq] at this; cases this
    · have e : ∀ k, (arr.toList.take off ++ (a.eval y).cells.toList ++ arr.toList.drop (off + (a.eval y).cells.toList.length)).toArray.getD k undef =
          if off ≤ k ∧ k < off + cs.length then (a.eval y).cells.toList.getD (k - off) undef else arr.getD k undef := fun k => by
        rw [toArr_getD, List.append_assoc, getD_splice undef (by simpa using hfit') k, hy.1, arr_getD arr k]
      refine ⟨g, c, _, t', hm, setRow_heap w g arr _ t' _ hh, ?_, fun k hk => ?_, hf⟩
      · rw [List.size_toArray, List.append_assoc, length_splice (by simpa using hfit'), length_splice hfit, Array.length_toList, hs]
      · rw [length_splice hfit] at hk
        rw [e k, getD_splice .und hfit k]
        by_cases hc2 : off ≤ k ∧ k < off + cs.length
        · rw [if_pos hc2, if_pos hc2]; exact hy.2 _ (by omega)
        · rw [if_neg hc2, if_neg hc2]; exact (hcell k hk).2
  · rename_i b sz i j
    obtain ⟨g, c, hm, he⟩ := hx.ep_
    simp only [Prog.run] at h
    split at h
    case h_2 => exact h.elim
    rename_i te sz' n get pr hbk
    have hB := hi.sim.blk b
    rw [hbk] at hB
    obtain ⟨arr, hh, h0, hs, hnc, hc, hpr, hlen, hcell, hone, hf⟩ := blk_row hB hm
    obtain ⟨⟨hin, hpi⟩, h⟩ := h
    split at h
    case h_2 => exact h.elim
    rename_i hb3
    simp only [Bool.and_eq_true, beq_iff_eq, decide_eq_true_eq] at hb3
    obtain ⟨⟨hss, hcl⟩, hj⟩ := hb3
    subst hss
    obtain ⟨rfl, rfl, _⟩ := h
    have hisz : i * sz + sz ≤ c * sz := by
      calc i * sz + sz = (i + 1) * sz := by rw [Nat.add_mul, Nat.one_mul]
        _ ≤ c * sz := Nat.mul_le_mul_right _ (by omega)
    have hfit' : (i * sz + j) + (a.eval y).cells.toList.length ≤ arr.size := by rw [hy.1, hs]; omega
    have hrun := store_run (dst := dst) (ty := ty) (pos := pos) (after := after) (guard := guard) hg hh hl hfit' h1 he rfl
    refine Step.write_ hi hm (by rw [hbk]; simp) hrun (cv := undef) (.inr ⟨rfl, rfl⟩) rfl rfl rfl (setRow_size _ _ _) (fun k hk => setRow_other w g k _ hk) (fun q z hq hqb => ?_) ?_ (rel_undef _ _)
    · obtain ⟨qb, qo, qs⟩ := q
      simp only at hqb; subst hqb
      have hlt : qo < pr * sz := by
        rcases Nat.lt_or_ge qo (pr * sz) with h | h
        · exact h
        · rw [hf qo qs h] at hq; cases hq
      have hle : pr * sz ≤ i * sz := Nat.mul_le_mul_right _ hpi
      have hold := hi.sim.prot _ _ hq
      rw [setRow_cell hh]
      simp only [World.cell?, hh] at hold
      split at hold
      · cases hold
      · rename_i hsp
        rw [if_neg hsp, ← hold]
        simp only [List.append_assoc, List.getElem?_toArray]
        rw [List.getElem?_append_left (by rw [List.length_take, Array.length_toList]; omega), List.getElem?_take, if_pos (by omega), Array.getElem?_toList]
    · have e : ∀ k, (arr.toList.take (i * sz + j) ++ (a.eval y).cells.toList ++ arr.toList.drop (i * sz + j + (a.eval y).cells.toList.length)).toArray.getD k undef =
          if i * sz + j ≤ k ∧ k < i * sz + j + cs.length then (a.eval y).cells.toList.getD (k - (i * sz + j)) undef else arr.getD k undef := fun k => by
        rw [toArr_getD, List.append_assoc, getD_splice undef (by simpa using hfit') k, hy.1, arr_getD arr k]
      have hgl := hlen i hin
      have hsp : j + cs.length ≤ (get i).length := by omega
      have hsize : (arr.toList.take (i * sz + j) ++ (a.eval y).cells.toList ++ arr.toList.drop (i * sz + j + (a.eval y).cells.toList.length)).toArray.size = arr.size := by
        rw [List.size_toArray, List.append_assoc, length_splice (by simpa using hfit'), Array.length_toList]
      refine ⟨g, c, _, hm, setRow_heap w g arr _ te _ hh, h0, by rw [hsize, hs], hnc, hc, hpr, fun k hk => ?_, fun k l hk hll => ?_, fun k hk => ?_, hf⟩
      · by_cases hki : k = i
        · subst hki
          simp only [if_true]
          rw [List.append_assoc, length_splice hsp, hgl]
        · simp only [if_neg hki]; exact hlen k hk
      · rw [e]
        by_cases hki : k = i
        · subst hki
          simp only [if_true]
          rw [List.append_assoc, getD_splice .und hsp l]
          by_cases hin2 : j ≤ l ∧ l < j + cs.length
          · rw [if_pos hin2, if_pos (by omega), show k * sz + l - (k * sz + j) = l - j by omega]
            obtain ⟨_, hr⟩ := hy.2 (l - j) (by omega)
            exact hr.closed_ (closedL_get hcl (by omega))
          · rw [if_neg hin2, if_neg (by omega)]
            exact (hcell k l hin hll).2.2
        · simp only [if_neg hki]
          have hne : ¬ (i * sz + j ≤ k * sz + l ∧ k * sz + l < i * sz + j + cs.length) := by
            rcases Nat.lt_or_gt_of_ne hki with hlt | hgt
            · have : (k + 1) * sz ≤ i * sz := Nat.mul_le_mul_right _ hlt
              rw [Nat.add_mul, Nat.one_mul] at this
              omega
            · have : (i + 1) * sz ≤ k * sz := Nat.mul_le_mul_right _ hgt
              rw [Nat.add_mul, Nat.one_mul] at this
              omega
          rw [if_neg hne]
          exact (hcell k l hk hll).2.2
      · rw [hsize] at hk
        rw [e k]
        by_cases hc2 : i * sz + j ≤ k ∧ k < i * sz + j + cs.length
        · rw [if_pos hc2]; exact (hy.2 _ (by omega)).1
        · rw [if_neg hc2]; exact hone k hk
  · exact h.elim
end
end
end Go.AM
