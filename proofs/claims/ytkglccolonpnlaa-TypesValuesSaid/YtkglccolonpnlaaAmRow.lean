/- The row's reading of arguments as the abstract machine's values. -/
import Derived.Test.YtkglccolonpnlaaAmBase
import Derived.ProofKit
import Derived.OpenShut
set_option linter.unusedVariables false
set_option linter.unusedSimpArgs false
set_option maxRecDepth 100000
namespace Go.AM
open Go.RowKit

mutual
/-- Cells typed by a shape; 'sl': what is known of a slice's elements. -/
def TyS (sl : TypeId → List Val → Prop) : TD → List Val → Prop
  | .bool, vs => ∃ b, vs = [.bool b]
  | .int k, vs => ∃ n, vs = [.int k n] ∧ (Lit.int k n).wf = true
  | .str, vs => ∃ s, vs = [.str s] ∧ s.size ≤ maxLen
  | .struct fs, vs => TyF sl fs vs
  | .arr n e, vs => vs.length = n * e.size ∧ ∀ i, i < n → TyS sl e ((vs.drop (i * e.size)).take e.size)
  | .slice e sz _, vs => ∃ n get, vs = [.ext sz n get] ∧ n ≤ maxLen ∧ ∀ i, i < n → (get i).length = sz ∧ sl e (get i)
  | _, _ => False
def TyF (sl : TypeId → List Val → Prop) : List TD → List Val → Prop
  | [], vs => vs = []
  | d :: ds, vs => d.size ≤ vs.length ∧ TyS sl d (vs.take d.size) ∧ TyF sl ds (vs.drop d.size)
end
def Ty (T : TypeId → TD) : Nat → TD → List Val → Prop
  | 0, _, _ => False
  | f + 1, d, vs => TyS (fun e => Ty T f (T e)) d vs
mutual
/-- the element types of the slices in it; 'none': a shape that is not read -/
def TD.sls : TD → Option (List TypeId)
  | .bool | .int _ | .str => some []
  | .struct fs => TD.slsF fs
  | .arr _ e => e.sls
  | .slice e _ _ => some [e]
  | _ => none
def TD.slsF : List TD → Option (List TypeId)
  | [] => some []
  | d :: ds => match d.sls, TD.slsF ds with
    | some a, some b => some (a ++ b)
    | _, _ => none
end
theorem mapM_get {α β : Type} {f : α → Option β} : ∀ {l : List α} {xs : List β}, l.mapM f = some xs → ∀ a ∈ l, ∃ x, f a = some x
  | [], _, _, a, ha => by simp at ha
  | y :: l, xs, h, a, ha => by
    rw [List.mapM_cons] at h
    cases hy : f y with
    | none => simp [hy] at h
    | some b =>
      cases hl : l.mapM f with
      | none => simp [hy, hl] at h
      | some bs =>
        rcases List.mem_cons.1 ha with rfl | ha
        · exact ⟨b, hy⟩
        · exact mapM_get hl a ha

mutual
theorem TyS.mono {sl sl' : TypeId → List Val → Prop} (h : ∀ e vs, sl e vs → sl' e vs) : ∀ {d : TD} {vs : List Val}, TyS sl d vs → TyS sl' d vs
  | .bool, _, k => k
  | .int _, _, k => k
  | .str, _, k => k
  | .struct fs, _, k => by simp only [TyS] at k ⊢; exact TyF.mono h k
  | .arr n e, _, k => by simp only [TyS] at k ⊢; exact ⟨k.1, fun i hi => TyS.mono h (k.2 i hi)⟩
  | .slice e sz _, _, k => by
    simp only [TyS] at k ⊢
    obtain ⟨n, get, e1, e2, e3⟩ := k
    exact ⟨n, get, e1, e2, fun i hi => ⟨(e3 i hi).1, h _ _ (e3 i hi).2⟩⟩
  | .ptr _, _, k => by simp only [TyS] at k
  | .map .., _, k => by simp only [TyS] at k
  | .func, _, k => by simp only [TyS] at k
  | .iface, _, k => by simp only [TyS] at k
  | .bad, _, k => by simp only [TyS] at k
theorem TyF.mono {sl sl' : TypeId → List Val → Prop} (h : ∀ e vs, sl e vs → sl' e vs) : ∀ {ds : List TD} {vs : List Val}, TyF sl ds vs → TyF sl' ds vs
  | [], _, k => by simp only [TyF] at k ⊢; exact k
  | d :: ds, _, k => by simp only [TyF] at k ⊢; exact ⟨k.1, TyS.mono h k.2.1, TyF.mono h k.2.2⟩
end
theorem Ty.up {T : TypeId → TD} : ∀ {f : Nat} {d : TD} {vs : List Val}, Ty T f d vs → Ty T (f + 1) d vs
  | 0, _, _, h => h.elim
  | _ + 1, _, _, h => TyS.mono (fun _ _ k => Ty.up k) h
theorem Good.cells {P : Program} {d : TD} {t : TypeId} (h : Good P d t) : P.cellsOf t = d.size := by
  obtain ⟨i, z, hi, hs, _⟩ := h.zok
  simp [Program.cellsOf, hi, hs]
/-- Pieces laid one behind the other. -/
theorem glue {φ : Prot} {c n : Nat} {cs : List Value} (hl : cs.length = n * c) {vsi : Nat → List Val} (h : ∀ i, i < n → CellsRel φ (vsi i) ((cs.drop (i * c)).take c)) :
    ∃ vs, vs.length = n * c ∧ CellsRel φ vs cs ∧ ∀ i, i < n → (vs.drop (i * c)).take c = vsi i := by
  rcases Nat.eq_zero_or_pos c with rfl | hc
  · refine ⟨[], by simp, ⟨by simpa using hl, fun k hk => absurd hk (by simp)⟩, fun i hi => ?_⟩
    have := (h i hi).1
    simp only [List.take_zero, List.length_nil] at this
    rw [List.eq_nil_of_length_eq_zero this.symm]; simp
  have hpl : ∀ i, i < n → ((cs.drop (i * c)).take c).length = c := fun i hi => by
    have : i * c + c ≤ n * c := by
      calc i * c + c = (i + 1) * c := by rw [Nat.add_mul, Nat.one_mul]
        _ ≤ n * c := Nat.mul_le_mul_right _ (by omega)
    rw [List.length_take, List.length_drop]; omega
  refine ⟨(List.range (n * c)).map fun k => (vsi (k / c)).getD (k % c) .und, by simp, ⟨by simp [hl], fun k hk => ?_⟩, fun i hi => ?_⟩
  · simp only [List.length_map, List.length_range] at hk
    obtain ⟨i, j, hi, hj, rfl⟩ := idx_of hc hk
    have e1 : (i * c + j) / c = i := by rw [Nat.mul_comm, Nat.mul_add_div hc, Nat.div_eq_of_lt hj, Nat.add_zero]
    have e2 : (i * c + j) % c = j := by rw [Nat.mul_comm, Nat.mul_add_mod, Nat.mod_eq_of_lt hj]
    have e3 : ((List.range (n * c)).map fun k => (vsi (k / c)).getD (k % c) .und).getD (i * c + j) .und = (vsi i).getD j .und := by
      rw [List.getD_eq_getElem?_getD, List.getElem?_map, List.getElem?_range hk]; simp only [Option.map_some, Option.getD_some, e1, e2]
    have hL := h i hi
    have := hL.2 j (by rw [← hL.1, hpl i hi]; exact hj)
    have e4 : ((cs.drop (i * c)).take c).getD j undef = cs.getD (i * c + j) undef := by
      rw [List.getD_eq_getElem?_getD, List.getElem?_take, if_pos hj, List.getElem?_drop, List.getD_eq_getElem?_getD]
    rw [e4] at this
    rw [e3]; exact this
  · have hL := h i hi
    have hlen : (vsi i).length = c := by rw [← hL.1, hpl i hi]
    apply List.ext_getElem?
    intro j
    rcases Nat.lt_or_ge j c with hj | hj
    · have hk : i * c + j < n * c := idx_lt hi hj
      have e1 : (i * c + j) / c = i := by rw [Nat.mul_comm, Nat.mul_add_div hc, Nat.div_eq_of_lt hj, Nat.add_zero]
      have e2 : (i * c + j) % c = j := by rw [Nat.mul_comm, Nat.mul_add_mod, Nat.mod_eq_of_lt hj]
      rw [List.getElem?_take, if_pos hj, List.getElem?_drop, List.getElem?_map, List.getElem?_range hk]
      simp only [Option.map_some, e1, e2]
      rw [List.getD_eq_getElem?_getD, List.getElem?_eq_getElem (by omega)]; rfl
    · rw [List.getElem?_take, if_neg (by omega), List.getElem?_eq_none (by omega)]
end Go.AM
