/- The row's reading of arguments as the abstract machine's values. -/
import Derived.Test.YtafiechoplbieaaAmHg
import Derived.ProofKit
import Derived.OpenShut
import Derived.Below
import Derived.Test.YtafiechoplbieaaAmLib
import Derived.Test.YtafiechoplbieaaAmGV
set_option linter.unusedVariables false
set_option linter.unusedSimpArgs false
set_option maxRecDepth 100000
namespace Go.AM
open Go.RowKit

mutual
/-- Cells typed by a shape; 'sl': what is known of a slice's elements. -/
def TyS (sl : TypeId → List Val → Prop) : TD → List Val → Prop
  | .bool, vs => ∃ b, vs = [.bool b]
  | .int k, vs => ∃ n, vs = [.int k n] ∧ (Lit.int k n).wf = true
  | .str, vs => ∃ s, vs = [.str s] ∧ s.size ≤ maxLen
  | .struct fs, vs => TyF sl fs vs
  | .arr n e, vs => vs.length = n * e.size ∧ ∀ i, i < n → TyS sl e ((vs.drop (i * e.size)).take e.size)
  | .slice e sz _, vs => ∃ n get, vs = [.ext sz n get] ∧ n ≤ maxLen ∧ ∀ i, i < n → (get i).length = sz ∧ sl e (get i)
  | _, _ => False
def TyF (sl : TypeId → List Val → Prop) : List TD → List Val → Prop
  | [], vs => vs = []
  | d :: ds, vs => d.size ≤ vs.length ∧ TyS sl d (vs.take d.size) ∧ TyF sl ds (vs.drop d.size)
end
def Ty (T : TypeId → TD) : Nat → TD → List Val → Prop
  | 0, _, _ => False
  | f + 1, d, vs => TyS (fun e => Ty T f (T e)) d vs
mutual
/-- the element types of the slices in it; 'none': a shape that is not read -/
def TD.sls : TD → Option (List TypeId)
  | .bool | .int _ | .str => some []
  | .struct fs => TD.slsF fs
  | .arr _ e => e.sls
  | .slice e _ _ => some [e]
  | _ => none
def TD.slsF : List TD → Option (List TypeId)
  | [] => some []
  | d :: ds => match d.sls, TD.slsF ds with
    | some a, some b => some (a ++ b)
    | _, _ => none
end
theorem mapM_get {α β : Type} {f : α → Option β} : ∀ {l : List α} {xs : List β}, l.mapM f = some xs → ∀ a ∈ l, ∃ x, f a = some x
  | [], _, _, a, ha => by simp at ha
  | y :: l, xs, h, a, ha => by
    rw [List.mapM_cons] at h
    cases hy : f y with
    | none => simp [hy] at h
    | some b =>
      cases hl : l.mapM f with
      | none => simp [hy, hl] at h
      | some bs =>
        rcases List.mem_cons.1 ha with rfl | ha
        · exact ⟨b, hy⟩
        · exact mapM_get hl a ha

mutual
theorem TyS.mono {sl sl' : TypeId → List Val → Prop} (h : ∀ e vs, sl e vs → sl' e vs) : ∀ {d : TD} {vs : List Val}, TyS sl d vs → TyS sl' d vs
  | .bool, _, k => k
  | .int _, _, k => k
  | .str, _, k => k
  | .struct fs, _, k => by simp only [TyS] at k ⊢; exact TyF.mono h k
  | .arr n e, _, k => by simp only [TyS] at k ⊢; exact ⟨k.1, fun i hi => TyS.mono h (k.2 i hi)⟩
  | .slice e sz _, _, k => by
    simp only [TyS] at k ⊢
    obtain ⟨n, get, e1, e2, e3⟩ := k
    exact ⟨n, get, e1, e2, fun i hi => ⟨(e3 i hi).1, h _ _ (e3 i hi).2⟩⟩
  | .ptr _, _, k => by simp only [TyS] at k
  | .map .., _, k => by simp only [TyS] at k
  | .func, _, k => by simp only [TyS] at k
  | .iface, _, k => by simp only [TyS] at k
  | .bad, _, k => by simp only [TyS] at k
theorem TyF.mono {sl sl' : TypeId → List Val → Prop} (h : ∀ e vs, sl e vs → sl' e vs) : ∀ {ds : List TD} {vs : List Val}, TyF sl ds vs → TyF sl' ds vs
  | [], _, k => by simp only [TyF] at k ⊢; exact k
  | d :: ds, _, k => by simp only [TyF] at k ⊢; exact ⟨k.1, TyS.mono h k.2.1, TyF.mono h k.2.2⟩
end
theorem Ty.up {T : TypeId → TD} : ∀ {f : Nat} {d : TD} {vs : List Val}, Ty T f d vs → Ty T (f + 1) d vs
  | 0, _, _, h => h.elim
  | _ + 1, _, _, h => TyS.mono (fun _ _ k => Ty.up k) h
theorem Good.cells {P : Program} {d : TD} {t : TypeId} (h : Good P d t) : P.cellsOf t = d.size := by
  obtain ⟨i, z, hi, hs, _⟩ := h.zok
  simp [Program.cellsOf, hi, hs]
/-- Pieces laid one behind the other. -/
theorem glue {φ : Prot} {c n : Nat} {cs : List Value} (hl : cs.length = n * c) {vsi : Nat → List Val} (h : ∀ i, i < n → CellsRel φ (vsi i) ((cs.drop (i * c)).take c)) :
    ∃ vs, vs.length = n * c ∧ CellsRel φ vs cs ∧ ∀ i, i < n → (vs.drop (i * c)).take c = vsi i := by
  rcases Nat.eq_zero_or_pos c with rfl | hc
  · refine ⟨[], by simp, ⟨by simpa using hl, fun k hk => absurd hk (by simp)⟩, fun i hi => ?_⟩
    have := (h i hi).1
    simp only [List.take_zero, List.length_nil] at this
    rw [List.eq_nil_of_length_eq_zero this.symm]; simp
  have hpl : ∀ i, i < n → ((cs.drop (i * c)).take c).length = c := fun i hi => by
    have : i * c + c ≤ n * c := by
      calc i * c + c = (i + 1) * c := by rw [Nat.add_mul, Nat.one_mul]
        _ ≤ n * c := Nat.mul_le_mul_right _ (by omega)
    rw [List.length_take, List.length_drop]; omega
  refine ⟨(List.range (n * c)).map fun k => (vsi (k / c)).getD (k % c) .und, by simp, ⟨by simp [hl], fun k hk => ?_⟩, fun i hi => ?_⟩
  · simp only [List.length_map, List.length_range] at hk
    obtain ⟨i, j, hi, hj, rfl⟩ := idx_of hc hk
    have e1 : (i * c + j) / c = i := by rw [Nat.mul_comm, Nat.mul_add_div hc, Nat.div_eq_of_lt hj, Nat.add_zero]
    have e2 : (i * c + j) % c = j := by rw [Nat.mul_comm, Nat.mul_add_mod, Nat.mod_eq_of_lt hj]
    have e3 : ((List.range (n * c)).map fun k => (vsi (k / c)).getD (k % c) .und).getD (i * c + j) .und = (vsi i).getD j .und := by
      rw [List.getD_eq_getElem?_getD, List.getElem?_map, List.getElem?_range hk]; simp only [Option.map_some, Option.getD_some, e1, e2]
    have hL := h i hi
    have := hL.2 j (by rw [← hL.1, hpl i hi]; exact hj)
    have e4 : ((cs.drop (i * c)).take c).getD j undef = cs.getD (i * c + j) undef := by
      rw [List.getD_eq_getElem?_getD, List.getElem?_take, if_pos hj, List.getElem?_drop, List.getD_eq_getElem?_getD]
    rw [e4] at this
    rw [e3]; exact this
  · have hL := h i hi
    have hlen : (vsi i).length = c := by rw [← hL.1, hpl i hi]
    apply List.ext_getElem?
    intro j
    rcases Nat.lt_or_ge j c with hj | hj
    · have hk : i * c + j < n * c := idx_lt hi hj
      have e1 : (i * c + j) / c = i := by rw [Nat.mul_comm, Nat.mul_add_div hc, Nat.div_eq_of_lt hj, Nat.add_zero]
      have e2 : (i * c + j) % c = j := by rw [Nat.mul_comm, Nat.mul_add_mod, Nat.mod_eq_of_lt hj]
      rw [List.getElem?_take, if_pos hj, List.getElem?_drop, List.getElem?_map, List.getElem?_range hk]
      simp only [Option.map_some, e1, e2]
      rw [List.getD_eq_getElem?_getD, List.getElem?_eq_getElem (by omega)]; rfl
    · rw [List.getElem?_take, if_neg (by omega), List.getElem?_eq_none (by omega)]
end Go.AM

set_option linter.unusedVariables false
set_option linter.unusedSimpArgs false
set_option maxRecDepth 100000
namespace Go.AM
open Go.RowKit

def Known (T : TypeId → TD) (l : List TypeId) : Prop := ∀ e ∈ l, T e ≠ .bad ∧ ∃ l', (T e).sls = some l'
def Closed (T : TypeId → TD) : Prop := ∀ t l, (T t).sls = some l → Known T l
section
variable {P : Program} {T : TypeId → TD} {W : World} {H : Type} {enc : TypeId × Value → H} {spare : Nat → Bool} {held : Bool}
theorem one_rel {φ : Prot} {v : Val} {u : Value} (h1 : u.oneCell' = true) (h2 : RelC φ v u) : CellsRel φ [v] [u] :=
  ⟨rfl, fun k hk => by
    have : k = 0 := by simp at hk; omega
    subst this; exact ⟨h1, h2⟩⟩
theorem slsF_mem : ∀ {fs : List TD} {l : List TypeId}, TD.slsF fs = some l → ∀ d ∈ fs, ∃ l', d.sls = some l' ∧ ∀ e ∈ l', e ∈ l
  | [], _, _, d, hd => by simp at hd
  | f :: fs, l, h, d, hd => by
    simp only [TD.slsF] at h
    split at h
    · rename_i a b ha hb
      injection h with h; subst h
      rcases List.mem_cons.1 hd with rfl | hd
      · exact ⟨a, ha, fun e he => List.mem_append_left _ he⟩
      · obtain ⟨l', h1, h2⟩ := slsF_mem hb d hd
        exact ⟨l', h1, fun e he => List.mem_append_right _ (h2 e he)⟩
    · cases h
def Opens (P : Program) (T : TypeId → TD) (W : World) (enc : TypeId × Value → H) (spare : Nat → Bool) (held : Bool) (fuel : Nat) (d : TD) (t : TypeId) : Prop :=
  ∀ cs dd ps, DataW.trod enc P W 0 spare held fuel t cs = some (dd, ps) → ∃ vs, Ty T fuel d vs ∧ CellsRel W.cell? vs cs
/-- The fields of a struct. -/
theorem open_fields {fuel : Nat} : ∀ {ds : List TD} {fs : List Field} {o : Nat} {cs : List Value}, GoodF P ds fs o → (∀ d ∈ ds, ∀ t, Good P d t → Opens P T W enc spare held fuel d t) → cs.length = o + TD.sizes ds →
    (∀ f ∈ fs, ∃ x, DataW.trod enc P W 0 spare held fuel f.type ((cs.drop f.offset).take (P.cellsOf f.type)) = some x) → ∃ vs, TyF (fun e => Ty T fuel (T e)) ds vs ∧ CellsRel W.cell? vs (cs.drop o)
  | [], [], o, cs, _, _, hl, _ => ⟨[], by simp [TyF], ⟨by simp [TD.sizes] at hl; simp; omega, fun k hk => absurd hk (by simp)⟩⟩
  | [], _ :: _, _, _, h, _, _, _ => by simp [GoodF] at h
  | _ :: _, [], _, _, h, _, _, _ => by simp [GoodF] at h
  | d :: ds, f :: fs, o, cs, h, ho, hl, hf => by
    simp only [GoodF] at h
    obtain ⟨rfl, _, hg, hgs⟩ := h
    obtain ⟨⟨dd, ps⟩, hx⟩ := hf f (by simp)
    rw [hg.cells] at hx
    obtain ⟨v1, t1, r1⟩ := ho d (by simp) _ hg _ _ _ hx
    simp only [TD.sizes] at hl
    obtain ⟨v2, t2, r2⟩ := open_fields hgs (fun d' hd' => ho d' (by simp [hd'])) (cs := cs) (by omega) (fun f' hf' => hf f' (by simp [hf']))
    have hl1 : v1.length = d.size := by rw [← r1.1, List.length_take, List.length_drop]; omega
    refine ⟨v1 ++ v2, ?_, ?_⟩
    · simp only [TyF]
      refine ⟨by simp [hl1], ?_, ?_⟩
      · rw [← hl1, List.take_left]; exact Ty.up t1
      · rw [← hl1, List.drop_left]; exact t2
    · have hsplit : cs.drop f.offset = (cs.drop f.offset).take d.size ++ cs.drop (f.offset + d.size) := by
        rw [← List.drop_drop, List.take_append_drop]
      rw [hsplit]
      refine ⟨by rw [List.length_append, List.length_append, r1.1, r2.1], fun k hk => ?_⟩
      rcases Nat.lt_or_ge k v1.length with h | h
      · have := r1.2 k h
        rw [List.getD_eq_getElem?_getD, List.getElem?_append_left (by rw [r1.1]; exact h), ← List.getD_eq_getElem?_getD]
        rw [show (v1 ++ v2).getD k .und = v1.getD k .und by rw [List.getD_eq_getElem?_getD, List.getElem?_append_left h, List.getD_eq_getElem?_getD]]
        exact this
      · rw [List.length_append] at hk
        have := r2.2 (k - v1.length) (by omega)
        rw [List.getD_eq_getElem?_getD, List.getElem?_append_right (by rw [r1.1]; exact h), r1.1, ← List.getD_eq_getElem?_getD]
        rw [show (v1 ++ v2).getD k .und = v2.getD (k - v1.length) .und by rw [List.getD_eq_getElem?_getD, List.getElem?_append_right h, List.getD_eq_getElem?_getD]]
        exact this

theorem open_ (hT : TOk P T) (hC : Closed T) : ∀ (fuel : Nat) (d : TD) (t : TypeId) (l : List TypeId), Good P d t → d.sls = some l → Known T l → Opens P T W enc spare held fuel d t := by
  intro fuel
  induction fuel with
  | zero => intro d t l _ _ _ cs dd ps h; simp [DataW.trod] at h
  | succ fuel ih =>
    intro d t l hg hl hk cs dd ps h
    cases d <;> simp only [TD.sls] at hl <;> try (cases hl; done)
    case bool =>
      simp only [Good] at hg
      simp only [DataW.trod, hg.1] at h
      split at h <;> simp_all
      rename_i b
      exact ⟨[.bool b], ⟨b, rfl⟩, one_rel rfl (.bool b)⟩
    case int k =>
      simp only [Good] at hg
      simp only [DataW.trod, hg.1] at h
      split at h <;> simp_all
      rename_i k' n _
      obtain ⟨⟨rfl, hw⟩, _⟩ := h
      exact ⟨[.int k' n], ⟨n, rfl, hw⟩, one_rel rfl (.int k' n)⟩
    case str =>
      simp only [Good] at hg
      simp only [DataW.trod, hg.1] at h
      split at h <;> simp_all
      rename_i z
      exact ⟨[.str z], ⟨z, rfl, h.1⟩, one_rel rfl (.str z)⟩
    case struct ds =>
      have hcells := hg.cells
      simp only [Good] at hg
      obtain ⟨⟨fields, hu, hgf⟩, _⟩ := hg
      simp only [DataW.trod, hu] at h
      split at h
      case isFalse => cases h
      rename_i hlen
      cases hm : fields.toList.mapM fun f => DataW.trod enc P W 0 spare held fuel f.type ((cs.drop f.offset).take (P.cellsOf f.type)) with
      | none => rw [hm] at h; cases h
      | some xs =>
        obtain ⟨vs, h1, h2⟩ := open_fields (enc := enc) (spare := spare) (held := held) (T := T) (W := W) (fuel := fuel) hgf (fun d hd t hgd => by
          obtain ⟨l', e1, e2⟩ := slsF_mem hl d hd
          exact ih d t l' hgd e1 fun e he => hk e (e2 e he)) (cs := cs) (by rw [hlen, hcells]; simp [TD.size]) (fun f hf => mapM_get hm f hf)
        exact ⟨vs, by simp only [Ty, TyS]; exact h1, by simpa using h2⟩
    case arr n e =>
      have hcells := hg.cells
      simp only [Good] at hg
      obtain ⟨⟨el, hu, hge⟩, _⟩ := hg
      simp only [DataW.trod, hu] at h
      split at h
      case isFalse => cases h
      rename_i hlen
      cases hm : (List.range n).mapM fun i => DataW.trod enc P W 0 spare held fuel el ((cs.drop (i * P.cellsOf el)).take (P.cellsOf el)) with
      | none => rw [hm] at h; cases h
      | some xs =>
        have hone : ∀ i, i < n → ∃ v, Ty T fuel e v ∧ CellsRel W.cell? v ((cs.drop (i * e.size)).take e.size) := fun i hi => by
          obtain ⟨⟨x1, x2⟩, hx⟩ := mapM_get hm i (List.mem_range.2 hi)
          rw [hge.cells] at hx
          exact ih e el l hge hl hk _ _ _ hx
        let vsi : Nat → List Val := fun i => if h : i < n then (hone i h).choose else []
        have hv : ∀ i (hi : i < n), vsi i = (hone i hi).choose := fun i hi => by simp only [vsi, dif_pos hi]
        obtain ⟨vs, g1, g2, g3⟩ := glue (φ := W.cell?) (c := e.size) (n := n) (cs := cs) (vsi := vsi) (by rw [hlen, hcells]; simp [TD.size]) (fun i hi => by rw [hv i hi]; exact (hone i hi).choose_spec.2)
        refine ⟨vs, ?_, g2⟩
        simp only [Ty, TyS]
        exact ⟨g1, fun i hi => by rw [g3 i hi, hv i hi]; exact Ty.up (hone i hi).choose_spec.1⟩
    case slice e sz by_ =>
      injection hl with hl; subst hl
      obtain ⟨hbe, l', hl'⟩ := hk e (by simp)
      have hge := hT.good hbe
      simp only [Good] at hg
      obtain ⟨hu, ⟨ie, hie, hsz, _⟩, _⟩ := hg
      have hce : P.cellsOf e = sz := by simp [Program.cellsOf, hie, hsz]
      have hTe : (T e).size = sz := by rw [← hge.cells, hce]
      rcases DataW.trod_slice hu h with ⟨rfl, _⟩ | ⟨a, len, cap, elems, rest, n, hfu, rfl, _, _, hlc, hcm, hel, hget, _, _⟩
      · refine ⟨[.ext sz 0 fun _ => []], ?_, one_rel rfl (.extNil _ _)⟩
        simp only [Ty, TyS]
        exact ⟨0, _, rfl, Nat.zero_le _, fun i hi => absurd hi (by omega)⟩
      · obtain rfl : fuel = n := by omega
        have hone : ∀ i, i < len → ∃ v ci, Ty T fuel (T e) v ∧ CellsRel W.cell? v ci ∧ W.cells? 0 (a.add (i * sz)) sz = some ci := fun i hi => by
          have h1 := hget i hi
          rw [List.getElem?_eq_getElem (by omega), hce] at h1
          cases hc : W.cells? 0 (a.add (i * sz)) sz with
          | none => rw [hc] at h1; cases h1
          | some ci =>
            rw [hc] at h1
            obtain ⟨v, k1, k2⟩ := ih (T e) e l' hge hl' (hC e l' hl') ci _ _ h1
            exact ⟨v, ci, k1, k2, rfl⟩
        let get : Nat → List Val := fun i => if h : i < len then (hone i h).choose else []
        let ci : Nat → List Value := fun i => if h : i < len then (hone i h).choose_spec.choose else []
        have hv : ∀ i, i < len → Ty T fuel (T e) (get i) ∧ CellsRel W.cell? (get i) (ci i) ∧ W.cells? 0 (a.add (i * sz)) sz = some (ci i) := fun i hi => by
          simp only [get, ci, dif_pos hi]
          exact (hone i hi).choose_spec.choose_spec
        have hcell : ∀ i j, i < len → j < sz → W.cell? (a.add (i * sz + j)) = some ((ci i).getD j undef) ∧ (ci i).length = sz := fun i j hi hj => by
          obtain ⟨_, k1, k2⟩ := World.cells?_some (hv i hi).2.2
          have := k2 j hj
          rw [add_add] at this
          rw [this, List.getElem?_eq_getElem (by omega), List.getD_eq_getElem?_getD, List.getElem?_eq_getElem (by omega)]
          exact ⟨rfl, k1⟩
        have hlen : ∀ i, i < len → (get i).length = sz := fun i hi => by
          rw [← (hv i hi).2.1.1]
          exact (World.cells?_some (hv i hi).2.2).2.1
        refine ⟨[.ext sz len get], ?_, one_rel rfl (.ext _ _ _ _ _ (fun i j => (ci i).getD j undef) hlc hlen (fun i j hi hj => (hcell i j hi hj).1) (fun i j hi hj => ?_) (fun i j hi hj => ?_))⟩
        · simp only [Ty, TyS]
          exact ⟨len, get, rfl, by omega, fun i hi => ⟨hlen i hi, (hv i hi).1⟩⟩
        · exact ((hv i hi).2.1.2 j (by rw [hlen i hi]; exact hj)).1
        · exact ((hv i hi).2.1.2 j (by rw [hlen i hi]; exact hj)).2
end
end Go.AM

set_option linter.unusedVariables false
set_option linter.unusedSimpArgs false
set_option maxRecDepth 100000
namespace Go.AM
open Go.RowKit

theorem ret_true {P : Program} {f : FuncId} {args : List Val} {cargs : Array Value} {W : World} (h : Ret P f args [] (.bool true) []) (hr : TmOk (fun _ => none) W.cell? args cargs) :
    Calls P f cargs W fun e W' => e = .returned (.bool true) ∧ Below W.heap.size W W' := by
  have hs : Sim (fun _ => none) W.cell? (getH []) W := ⟨fun b => by rw [getH_ge (by simp)]; trivial, fun b b' g c c' _ _ e => (by cases e), fun a v e => e⟩
  refine (h.2 (fun _ => none) W.cell? W cargs (fun _ _ => rfl) hs hr).mono fun e W' ⟨cv, ι', φ', he, _, hI, hv, _⟩ => ?_
  have := hv.bool_
  subst this
  exact ⟨he, hI.keep.os, hI.keep.tape, hI.keep.output, hI.keep.size, fun k hk => hI.keep.block k hk fun ⟨b, c, hb, _⟩ => by simp at hb⟩
def closedTB (l : List (TypeId × TD)) : Bool := l.all fun p => match p.2.sls with
  | none => true
  | some es => es.all fun e => (match tableOf l e with | .bad => false | _ => true) && ((tableOf l e).sls).isSome
theorem tableOf_mem : ∀ (l : List (TypeId × TD)) (t : TypeId), tableOf l t = .bad ∨ ∃ p ∈ l, tableOf l t = p.2
  | [], _ => .inl rfl
  | (u, d) :: l, t => by
    unfold tableOf
    split
    · exact .inr ⟨_, List.mem_cons_self .., rfl⟩
    · rcases tableOf_mem l t with h | ⟨p, h1, h2⟩
      · exact .inl h
      · exact .inr ⟨p, List.mem_cons_of_mem _ h1, h2⟩
theorem closedTB_ok {l : List (TypeId × TD)} (h : closedTB l = true) : Closed (tableOf l) := by
  intro t es hes e he
  rcases tableOf_mem l t with hb | ⟨p, hp, hb⟩
  · rw [hb] at hes; cases hes
  · have := List.all_eq_true.1 h p hp
    rw [hb] at hes
    rw [hes] at this
    have := List.all_eq_true.1 this e he
    rw [Bool.and_eq_true] at this
    refine ⟨fun hbad => ?_, Option.isSome_iff_exists.1 this.2⟩
    rw [hbad] at this; exact absurd this.1 (by simp)
section
variable {P : Program} {W : World} {ι : Map} {t : TypeId} {base : Nat} {u : Value} {vs : List Val} {r : Reach}
end
end Go.AM

set_option linter.unusedVariables false
set_option linter.unusedSimpArgs false
set_option maxRecDepth 100000
namespace Go.AM
open Go.RowKit
def I64 (n : Int) : Prop := -9223372036854775808 ≤ n ∧ n ≤ 9223372036854775807
def readable1 : TD → Bool
  | .bool | .int _ | .str | .slice .. => true
  | _ => false
section
variable {P : Program} {W : World} {ι : Map} {t : TypeId} {base : Nat} {u : Value} {r : Reach} {x : Val}
theorem arg_one {d : TD} (hg : Good P d t) (hd : readable1 d = true) (hval : Value.okWide P W r base t u) (hc : CellsRel W.cell? [x] u.cells.toList) : Rel ι W.cell? x u := by
  have hu : u.cells = #[u] := by
    cases d <;> simp only [readable1] at hd <;> try (cases hd; done)
    case bool =>
      simp only [Good] at hg
      simp only [Value.okWide, hg.1, Cell.okWide, Cell.ok] at hval
      cases u <;> simp at hval <;> rfl
    case int k =>
      simp only [Good] at hg
      simp only [Value.okWide, hg.1, Cell.okWide, Cell.ok] at hval
      cases u <;> simp at hval <;> rfl
    case str =>
      simp only [Good] at hg
      simp only [Value.okWide, hg.1, Cell.okWide, Cell.ok] at hval
      cases u <;> simp at hval <;> rfl
    case slice =>
      simp only [Good] at hg
      simp only [Value.okWide, hg.1, Cell.okWide, Cell.ok] at hval
      cases u <;> simp at hval <;> rfl
  rw [hu] at hc
  have := hc.2 0 (by simp)
  exact .c this.2
end
theorem wf64 {n : Int} (h : (Lit.int .u64 n).wf = true) : U n := by
  simp only [Lit.wf, Bool.and_eq_true, decide_eq_true_eq] at h
  have h1 : IntKind.u64.min = 0 := rfl
  have h2 : IntKind.u64.max = 18446744073709551615 := rfl
  rw [h1, h2] at h
  unfold U; omega
theorem wfi64 {n : Int} (h : (Lit.int .i64 n).wf = true) : I64 n := by
  simp only [Lit.wf, Bool.and_eq_true, decide_eq_true_eq] at h
  have h1 : IntKind.i64.min = -9223372036854775808 := rfl
  have h2 : IntKind.i64.max = 9223372036854775807 := rfl
  rw [h1, h2] at h
  exact h
theorem wf8 {n : Int} (h : (Lit.int .u8 n).wf = true) : 0 ≤ n ∧ n < 256 := by
  simp only [Lit.wf, Bool.and_eq_true, decide_eq_true_eq] at h
  have h1 : IntKind.u8.min = 0 := rfl
  have h2 : IntKind.u8.max = 255 := rfl
  rw [h1, h2] at h
  omega
theorem ty_int {T : TypeId → TD} {f : Nat} {k : IntKind} {vs : List Val} (h : Ty T f (.int k) vs) : ∃ n, vs = [.int k n] ∧ (Lit.int k n).wf = true := by
  cases f with
  | zero => exact h.elim
  | succ f => simpa only [Ty, TyS] using h
end Go.AM

set_option linter.unusedVariables false
set_option linter.unusedSimpArgs false
set_option maxRecDepth 100000
namespace Go.AM
open Go.RowKit
section
variable {sl : TypeId → List Val → Prop} {vs : List Val}
theorem tyF_cons {d : TD} {ds : List TD} (h : TyF sl (d :: ds) vs) : ∃ a b, vs = a ++ b ∧ TyS sl d a ∧ TyF sl ds b := by
  simp only [TyF] at h
  exact ⟨_, _, (List.take_append_drop d.size vs).symm, h.2.1, h.2.2⟩
theorem tyF_nil (h : TyF sl [] vs) : vs = [] := by simpa only [TyF] using h
theorem tyS_bool (h : TyS sl .bool vs) : ∃ b, vs = [.bool b] := by simpa only [TyS] using h
theorem tyS_i64 (h : TyS sl (.int .i64) vs) : ∃ n, vs = [.int .i64 n] ∧ I64 n := by
  simp only [TyS] at h
  obtain ⟨n, e, w⟩ := h
  exact ⟨n, e, wfi64 w⟩
theorem tyS_str (h : TyS sl .str vs) : ∃ s, vs = [.str s] ∧ s.size ≤ maxLen := by simpa only [TyS] using h
theorem tyS_nat (h : TyS sl (.arr 4 (.int .u64)) vs) : ∃ n : N, vs = cN n := by
  simp only [TyS, TD.size, Nat.mul_one] at h
  obtain ⟨hl, h⟩ := h
  obtain ⟨a, e0, w0⟩ := h 0 (by omega)
  obtain ⟨b, e1, w1⟩ := h 1 (by omega)
  obtain ⟨c, e2, w2⟩ := h 2 (by omega)
  obtain ⟨d, e3, w3⟩ := h 3 (by omega)
  match vs, hl with
  | [v0, v1, v2, v3], _ =>
    simp at e0 e1 e2 e3
    subst e0; subst e1; subst e2; subst e3
    refine ⟨ofL a b c d, ?_⟩
    have := ofL_l (wf64 w0) (wf64 w1) (wf64 w2) (wf64 w3)
    unfold cN
    rw [this.1, this.2.1, this.2.2.1, this.2.2.2]
theorem tyS_dec (h : TyS sl (.struct [.bool, .arr 4 (.int .u64), .int .i64]) vs) : ∃ d : D, I64 d.scale ∧ vs = cD d := by
  simp only [TyS] at h
  obtain ⟨a0, r0, e0, t0, h⟩ := tyF_cons h
  obtain ⟨a1, r1, e1, t1, h⟩ := tyF_cons h
  obtain ⟨a2, r2, e2, t2, h⟩ := tyF_cons h
  obtain ⟨b, rfl⟩ := tyS_bool t0
  obtain ⟨n, rfl⟩ := tyS_nat t1
  obtain ⟨s, rfl, hs⟩ := tyS_i64 t2
  have := tyF_nil h
  subst this e2 e1 e0
  exact ⟨⟨b, n, s⟩, hs, rfl⟩
structure Vl.wf (v : Vl) : Prop where
  kind : I64 v.kind
  scale : I64 v.num.scale
  text : v.text.size ≤ maxLen
  err : I64 v.err
theorem tyS_val (h : TyS sl (.struct [.int .i64, .struct [.bool, .arr 4 (.int .u64), .int .i64], .bool, .str, .int .i64]) vs) : ∃ v : Vl, v.wf ∧ vs = cV v := by
  rw [TyS] at h
  obtain ⟨a0, r0, e0, t0, h⟩ := tyF_cons h
  obtain ⟨a1, r1, e1, t1, h⟩ := tyF_cons h
  obtain ⟨a2, r2, e2, t2, h⟩ := tyF_cons h
  obtain ⟨a3, r3, e3, t3, h⟩ := tyF_cons h
  obtain ⟨a4, r4, e4, t4, h⟩ := tyF_cons h
  obtain ⟨k, rfl, hk⟩ := tyS_i64 t0
  obtain ⟨d, hd, rfl⟩ := tyS_dec t1
  obtain ⟨f, rfl⟩ := tyS_bool t2
  obtain ⟨s, rfl, hs⟩ := tyS_str t3
  obtain ⟨e, rfl, he⟩ := tyS_i64 t4
  have := tyF_nil h
  subst this e4 e3 e2 e1 e0
  exact ⟨⟨k, d, f, s, e⟩, ⟨hk, hd, hs, he⟩, rfl⟩
structure Sm.wf (s : Sm) : Prop where
  rows : I64 s.rows
  filled : I64 s.filled
  blank : I64 s.blank
  bad : I64 s.bad
  err : I64 s.err
  min : I64 s.min.scale
  max : I64 s.max.scale
end
end Go.AM

set_option linter.unusedVariables false
set_option linter.unusedSimpArgs false
set_option maxRecDepth 100000
namespace Go.AM
theorem list_of {α : Type} {P : α → Prop} {enc : α → List Val} {g : Nat → List Val} : ∀ {n : Nat}, (∀ i, i < n → ∃ a, P a ∧ g i = enc a) → ∃ l : List α, ExtL enc n g l ∧ ∀ x ∈ l, P x
  | 0, _ => ⟨[], ⟨rfl, fun i h => absurd h (by simp)⟩, fun x h => absurd h (by simp)⟩
  | n + 1, h => by
    obtain ⟨l, h1, h2⟩ := list_of (n := n) (fun i hi => h i (by omega))
    obtain ⟨a, ha, hg⟩ := h n (by omega)
    obtain ⟨hl, hi⟩ := h1
    refine ⟨l ++ [a], ⟨by simp [hl], fun i hi' => ?_⟩, fun x hx => ?_⟩
    · rw [List.length_append, List.length_singleton] at hi'
      rcases (by omega : i < l.length ∨ i = l.length) with h | h
      · rw [List.getElem_append_left h]; exact hi i h
      · subst h
        rw [List.getElem_append_right (by omega)]
        simp only [Nat.sub_self, List.getElem_cons_zero]
        rw [hl]; exact hg
    · rcases List.mem_append.1 hx with h | h
      · exact h2 x h
      · rw [List.mem_singleton] at h; subst h; exact ha
section
variable {sl : TypeId → List Val → Prop} {vs : List Val}
structure Stp.wf (s : Stp) : Prop where
  fr : I64 s.fr.scale
  base : I64 s.base.scale
  rate : I64 s.rate.scale
theorem tyS_slice {e : TypeId} {sz by_ : Nat} (h : TyS sl (.slice e sz by_) vs) : ∃ n get, vs = [.ext sz n get] ∧ n ≤ maxLen ∧ ∀ i, i < n → (get i).length = sz ∧ sl e (get i) := by simpa only [TyS] using h
end
/-- a table, as a slice's elements -/
structure TbS where
  name : ByteArray
  n : Nat
  g : Nat → List Val
  l : List Stp
structure TbS.ok (t : TbS) : Prop where
  ext : ExtL cSt t.n t.g t.l
  len : t.n ≤ maxLen
  wf : ∀ s ∈ t.l, s.wf
  name : t.name.size ≤ maxLen
end Go.AM

