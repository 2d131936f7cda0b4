/- The row's reading of arguments as the abstract machine's values: opened. -/
import Derived.Test.YtkglccolonpnlaaAmRow
set_option linter.unusedVariables false
set_option linter.unusedSimpArgs false
set_option maxRecDepth 100000
namespace Go.AM
open Go.RowKit

def Known (T : TypeId → TD) (l : List TypeId) : Prop := ∀ e ∈ l, T e ≠ .bad ∧ ∃ l', (T e).sls = some l'
def Closed (T : TypeId → TD) : Prop := ∀ t l, (T t).sls = some l → Known T l
section
variable {P : Program} {T : TypeId → TD} {W : World} {H : Type} {enc : TypeId × Value → H} {spare : Nat → Bool} {held : Bool}
theorem one_rel {φ : Prot} {v : Val} {u : Value} (h1 : u.oneCell' = true) (h2 : RelC φ v u) : CellsRel φ [v] [u] :=
  ⟨rfl, fun k hk => by
    have : k = 0 := by simp at hk; omega
    subst this; exact ⟨h1, h2⟩⟩
theorem slsF_mem : ∀ {fs : List TD} {l : List TypeId}, TD.slsF fs = some l → ∀ d ∈ fs, ∃ l', d.sls = some l' ∧ ∀ e ∈ l', e ∈ l
  | [], _, _, d, hd => by simp at hd
  | f :: fs, l, h, d, hd => by
    simp only [TD.slsF] at h
    split at h
    · rename_i a b ha hb
      injection h with h; subst h
      rcases List.mem_cons.1 hd with rfl | hd
      · exact ⟨a, ha, fun e he => List.mem_append_left _ he⟩
      · obtain ⟨l', h1, h2⟩ := slsF_mem hb d hd
        exact ⟨l', h1, fun e he => List.mem_append_right _ (h2 e he)⟩
    · cases h
def Opens (P : Program) (T : TypeId → TD) (W : World) (enc : TypeId × Value → H) (spare : Nat → Bool) (held : Bool) (fuel : Nat) (d : TD) (t : TypeId) : Prop :=
  ∀ cs dd ps, DataW.trod enc P W 0 spare held fuel t cs = some (dd, ps) → ∃ vs, Ty T fuel d vs ∧ CellsRel W.cell? vs cs
/-- The fields of a struct. -/
theorem open_fields {fuel : Nat} : ∀ {ds : List TD} {fs : List Field} {o : Nat} {cs : List Value}, GoodF P ds fs o → (∀ d ∈ ds, ∀ t, Good P d t → Opens P T W enc spare held fuel d t) → cs.length = o + TD.sizes ds →
    (∀ f ∈ fs, ∃ x, DataW.trod enc P W 0 spare held fuel f.type ((cs.drop f.offset).take (P.cellsOf f.type)) = some x) → ∃ vs, TyF (fun e => Ty T fuel (T e)) ds vs ∧ CellsRel W.cell? vs (cs.drop o)
  | [], [], o, cs, _, _, hl, _ => ⟨[], by simp [TyF], ⟨by simp [TD.sizes] at hl; simp; omega, fun k hk => absurd hk (by simp)⟩⟩
  | [], _ :: _, _, _, h, _, _, _ => by simp [GoodF] at h
  | _ :: _, [], _, _, h, _, _, _ => by simp [GoodF] at h
  | d :: ds, f :: fs, o, cs, h, ho, hl, hf => by
    simp only [GoodF] at h
    obtain ⟨rfl, _, hg, hgs⟩ := h
    obtain ⟨⟨dd, ps⟩, hx⟩ := hf f (by simp)
    rw [hg.cells] at hx
    obtain ⟨v1, t1, r1⟩ := ho d (by simp) _ hg _ _ _ hx
    simp only [TD.sizes] at hl
    obtain ⟨v2, t2, r2⟩ := open_fields hgs (fun d' hd' => ho d' (by simp [hd'])) (cs := cs) (by omega) (fun f' hf' => hf f' (by simp [hf']))
    have hl1 : v1.length = d.size := by rw [← r1.1, List.length_take, List.length_drop]; omega
    refine ⟨v1 ++ v2, ?_, ?_⟩
    · simp only [TyF]
      refine ⟨by simp [hl1], ?_, ?_⟩
      · rw [← hl1, List.take_left]; exact Ty.up t1
      · rw [← hl1, List.drop_left]; exact t2
    · have hsplit : cs.drop f.offset = (cs.drop f.offset).take d.size ++ cs.drop (f.offset + d.size) := by
        rw [← List.drop_drop, List.take_append_drop]
      rw [hsplit]
      refine ⟨by rw [List.length_append, List.length_append, r1.1, r2.1], fun k hk => ?_⟩
      rcases Nat.lt_or_ge k v1.length with h | h
      · have := r1.2 k h
        rw [List.getD_eq_getElem?_getD, List.getElem?_append_left (by rw [r1.1]; exact h), ← List.getD_eq_getElem?_getD]
        rw [show (v1 ++ v2).getD k .und = v1.getD k .und by rw [List.getD_eq_getElem?_getD, List.getElem?_append_left h, List.getD_eq_getElem?_getD]]
        exact this
      · rw [List.length_append] at hk
        have := r2.2 (k - v1.length) (by omega)
        rw [List.getD_eq_getElem?_getD, List.getElem?_append_right (by rw [r1.1]; exact h), r1.1, ← List.getD_eq_getElem?_getD]
        rw [show (v1 ++ v2).getD k .und = v2.getD (k - v1.length) .und by rw [List.getD_eq_getElem?_getD, List.getElem?_append_right h, List.getD_eq_getElem?_getD]]
        exact this

theorem open_ (hT : TOk P T) (hC : Closed T) : ∀ (fuel : Nat) (d : TD) (t : TypeId) (l : List TypeId), Good P d t → d.sls = some l → Known T l → Opens P T W enc spare held fuel d t := by
  intro fuel
  induction fuel with
  | zero => intro d t l _ _ _ cs dd ps h; simp [DataW.trod] at h
  | succ fuel ih =>
    intro d t l hg hl hk cs dd ps h
    cases d <;> simp only [TD.sls] at hl <;> try (cases hl; done)
    case bool =>
      simp only [Good] at hg
      simp only [DataW.trod, hg.1] at h
      split at h <;> simp_all
      rename_i b
      exact ⟨[.bool b], ⟨b, rfl⟩, one_rel rfl (.bool b)⟩
    case int k =>
      simp only [Good] at hg
      simp only [DataW.trod, hg.1] at h
      split at h <;> simp_all
      rename_i k' n _
      obtain ⟨⟨rfl, hw⟩, _⟩ := h
      exact ⟨[.int k' n], ⟨n, rfl, hw⟩, one_rel rfl (.int k' n)⟩
    case str =>
      simp only [Good] at hg
      simp only [DataW.trod, hg.1] at h
      split at h <;> simp_all
      rename_i z
      exact ⟨[.str z], ⟨z, rfl, h.1⟩, one_rel rfl (.str z)⟩
    case struct ds =>
      have hcells := hg.cells
      simp only [Good] at hg
      obtain ⟨⟨fields, hu, hgf⟩, _⟩ := hg
      simp only [DataW.trod, hu] at h
      split at h
      case isFalse => cases h
      rename_i hlen
      cases hm : fields.toList.mapM fun f => DataW.trod enc P W 0 spare held fuel f.type ((cs.drop f.offset).take (P.cellsOf f.type)) with
      | none => rw [hm] at h; cases h
      | some xs =>
        obtain ⟨vs, h1, h2⟩ := open_fields (enc := enc) (spare := spare) (held := held) (T := T) (W := W) (fuel := fuel) hgf (fun d hd t hgd => by
          obtain ⟨l', e1, e2⟩ := slsF_mem hl d hd
          exact ih d t l' hgd e1 fun e he => hk e (e2 e he)) (cs := cs) (by rw [hlen, hcells]; simp [TD.size]) (fun f hf => mapM_get hm f hf)
        exact ⟨vs, by simp only [Ty, TyS]; exact h1, by simpa using h2⟩
    case arr n e =>
      have hcells := hg.cells
      simp only [Good] at hg
      obtain ⟨⟨el, hu, hge⟩, _⟩ := hg
      simp only [DataW.trod, hu] at h
      split at h
      case isFalse => cases h
      rename_i hlen
      cases hm : (List.range n).mapM fun i => DataW.trod enc P W 0 spare held fuel el ((cs.drop (i * P.cellsOf el)).take (P.cellsOf el)) with
      | none => rw [hm] at h; cases h
      | some xs =>
        have hone : ∀ i, i < n → ∃ v, Ty T fuel e v ∧ CellsRel W.cell? v ((cs.drop (i * e.size)).take e.size) := fun i hi => by
          obtain ⟨⟨x1, x2⟩, hx⟩ := mapM_get hm i (List.mem_range.2 hi)
          rw [hge.cells] at hx
          exact ih e el l hge hl hk _ _ _ hx
        let vsi : Nat → List Val := fun i => if h : i < n then (hone i h).choose else []
        have hv : ∀ i (hi : i < n), vsi i = (hone i hi).choose := fun i hi => by simp only [vsi, dif_pos hi]
        obtain ⟨vs, g1, g2, g3⟩ := glue (φ := W.cell?) (c := e.size) (n := n) (cs := cs) (vsi := vsi) (by rw [hlen, hcells]; simp [TD.size]) (fun i hi => by rw [hv i hi]; exact (hone i hi).choose_spec.2)
        refine ⟨vs, ?_, g2⟩
        simp only [Ty, TyS]
        exact ⟨g1, fun i hi => by rw [g3 i hi, hv i hi]; exact Ty.up (hone i hi).choose_spec.1⟩
    case slice e sz by_ =>
      injection hl with hl; subst hl
      obtain ⟨hbe, l', hl'⟩ := hk e (by simp)
      have hge := hT.good hbe
      simp only [Good] at hg
      obtain ⟨hu, ⟨ie, hie, hsz, _⟩, _⟩ := hg
      have hce : P.cellsOf e = sz := by simp [Program.cellsOf, hie, hsz]
      have hTe : (T e).size = sz := by rw [← hge.cells, hce]
      rcases DataW.trod_slice hu h with ⟨rfl, _⟩ | ⟨a, len, cap, elems, rest, n, hfu, rfl, _, _, hlc, hcm, hel, hget, _, _⟩
      · refine ⟨[.ext sz 0 fun _ => []], ?_, one_rel rfl (.extNil _ _)⟩
        simp only [Ty, TyS]
        exact ⟨0, _, rfl, Nat.zero_le _, fun i hi => absurd hi (by omega)⟩
      · obtain rfl : fuel = n := by omega
        have hone : ∀ i, i < len → ∃ v ci, Ty T fuel (T e) v ∧ CellsRel W.cell? v ci ∧ W.cells? 0 (a.add (i * sz)) sz = some ci := fun i hi => by
          have h1 := hget i hi
          rw [List.getElem?_eq_getElem (by omega), hce] at h1
          cases hc : W.cells? 0 (a.add (i * sz)) sz with
          | none => rw [hc] at h1; cases h1
          | some ci =>
            rw [hc] at h1
            obtain ⟨v, k1, k2⟩ := ih (T e) e l' hge hl' (hC e l' hl') ci _ _ h1
            exact ⟨v, ci, k1, k2, rfl⟩
        let get : Nat → List Val := fun i => if h : i < len then (hone i h).choose else []
        let ci : Nat → List Value := fun i => if h : i < len then (hone i h).choose_spec.choose else []
        have hv : ∀ i, i < len → Ty T fuel (T e) (get i) ∧ CellsRel W.cell? (get i) (ci i) ∧ W.cells? 0 (a.add (i * sz)) sz = some (ci i) := fun i hi => by
          simp only [get, ci, dif_pos hi]
          exact (hone i hi).choose_spec.choose_spec
        have hcell : ∀ i j, i < len → j < sz → W.cell? (a.add (i * sz + j)) = some ((ci i).getD j undef) ∧ (ci i).length = sz := fun i j hi hj => by
          obtain ⟨_, k1, k2⟩ := World.cells?_some (hv i hi).2.2
          have := k2 j hj
          rw [add_add] at this
          rw [this, List.getElem?_eq_getElem (by omega), List.getD_eq_getElem?_getD, List.getElem?_eq_getElem (by omega)]
          exact ⟨rfl, k1⟩
        have hlen : ∀ i, i < len → (get i).length = sz := fun i hi => by
          rw [← (hv i hi).2.1.1]
          exact (World.cells?_some (hv i hi).2.2).2.1
        refine ⟨[.ext sz len get], ?_, one_rel rfl (.ext _ _ _ _ _ (fun i j => (ci i).getD j undef) hlc hlen (fun i j hi hj => (hcell i j hi hj).1) (fun i j hi hj => ?_) (fun i j hi hj => ?_))⟩
        · simp only [Ty, TyS]
          exact ⟨len, get, rfl, by omega, fun i hi => ⟨hlen i hi, (hv i hi).1⟩⟩
        · exact ((hv i hi).2.1.2 j (by rw [hlen i hi]; exact hj)).1
        · exact ((hv i hi).2.1.2 j (by rw [hlen i hi]; exact hj)).2
end
end Go.AM
