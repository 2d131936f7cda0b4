/- The row's reading of arguments, the datum carried along. -/
import Derived.Test.YtlbocjcponegcaaGreatAmHh
import Derived.Test.YtlbocjcponegcaaGreatAmRowZ
import Derived.Test.YtlbocjcponegcaaGreatAmHr
set_option linter.unusedVariables false
set_option linter.unusedSimpArgs false
set_option maxRecDepth 100000
namespace Go.AM
open Go.RowKit
section
variable {H : Type}
mutual
def TyDS (sl : TypeId → List Val → DataW H → Prop) (ar : TD → List Val → Prop) : TD → List Val → DataW H → Prop
  | .bool, vs, _ => ∃ b, vs = [.bool b]
  | .int k, vs, _ => ∃ n, vs = [.int k n] ∧ (Lit.int k n).wf = true
  | .str, vs, dd => ∃ s : ByteArray, vs = [.str s] ∧ s.size ≤ maxLen ∧ dd = .lit (.string s.data.toList)
  | .struct fs, vs, dd => ∃ parts, dd = .agg parts ∧ TyDF sl ar fs vs parts
  | .arr n e, vs, _ => ar (.arr n e) vs
  | .slice e sz _, vs, dd => ∃ n get elems spare, vs = [.ext sz n get] ∧ n ≤ maxLen ∧ ((n = 0 ∧ elems = []) ∨ dd = .slice elems spare) ∧ elems.length = n ∧ ∀ i (h : i < elems.length), (get i).length = sz ∧ sl e (get i) elems[i]
  | _, _, _ => False
def TyDF (sl : TypeId → List Val → DataW H → Prop) (ar : TD → List Val → Prop) : List TD → List Val → List (DataW H) → Prop
  | [], vs, ps => vs = [] ∧ ps = []
  | d :: ds, vs, ps => ∃ v w p q, vs = v ++ w ∧ ps = p :: q ∧ v.length = d.size ∧ TyDS sl ar d v p ∧ TyDF sl ar ds w q
end
def TyD (T : TypeId → TD) : Nat → TD → List Val → DataW H → Prop
  | 0, _, _, _ => False
  | f + 1, d, vs, dd => TyDS (fun e vs dd => TyD T f (T e) vs dd) (fun d vs => Ty T (f + 1) d vs) d vs dd
mutual
theorem TyDS.mono {sl sl' : TypeId → List Val → DataW H → Prop} {ar ar' : TD → List Val → Prop} (h : ∀ e vs dd, sl e vs dd → sl' e vs dd) (ha : ∀ d vs, ar d vs → ar' d vs) : ∀ {d : TD} {vs : List Val} {dd : DataW H}, TyDS sl ar d vs dd → TyDS sl' ar' d vs dd
  | .bool, _, _, k => k
  | .int _, _, _, k => k
  | .str, _, _, k => k
  | .struct fs, _, _, k => by
    simp only [TyDS] at k ⊢
    obtain ⟨parts, e, k⟩ := k
    exact ⟨parts, e, TyDF.mono h ha k⟩
  | .arr n e, _, _, k => by simp only [TyDS] at k ⊢; exact ha _ _ k
  | .slice e sz _, _, _, k => by
    simp only [TyDS] at k ⊢
    obtain ⟨n, get, elems, spare, e1, e2, e3, e4, e5⟩ := k
    exact ⟨n, get, elems, spare, e1, e2, e3, e4, fun i hi => ⟨(e5 i hi).1, h _ _ _ (e5 i hi).2⟩⟩
  | .ptr _, _, _, k => by simp only [TyDS] at k
  | .map .., _, _, k => by simp only [TyDS] at k
  | .func, _, _, k => by simp only [TyDS] at k
  | .iface, _, _, k => by simp only [TyDS] at k
  | .bad, _, _, k => by simp only [TyDS] at k
theorem TyDF.mono {sl sl' : TypeId → List Val → DataW H → Prop} {ar ar' : TD → List Val → Prop} (h : ∀ e vs dd, sl e vs dd → sl' e vs dd) (ha : ∀ d vs, ar d vs → ar' d vs) : ∀ {ds : List TD} {vs : List Val} {ps : List (DataW H)}, TyDF sl ar ds vs ps → TyDF sl' ar' ds vs ps
  | [], _, _, k => by simp only [TyDF] at k ⊢; exact k
  | d :: ds, _, _, k => by
    simp only [TyDF] at k ⊢
    obtain ⟨v, w, p, q, e1, e2, e3, k1, k2⟩ := k
    exact ⟨v, w, p, q, e1, e2, e3, TyDS.mono h ha k1, TyDF.mono h ha k2⟩
end
theorem TyD.up {T : TypeId → TD} : ∀ {f : Nat} {d : TD} {vs : List Val} {dd : DataW H}, TyD T f d vs dd → TyD T (f + 1) d vs dd
  | 0, _, _, _, h => h.elim
  | _ + 1, _, _, _, h => TyDS.mono (fun _ _ _ k => TyD.up k) (fun _ _ k => Ty.up k) h
variable {P : Program} {T : TypeId → TD} {W : World} {enc : TypeId × Value → H} {spare : Nat → Bool} {held : Bool}
def OpensD (P : Program) (T : TypeId → TD) (W : World) (enc : TypeId × Value → H) (spare : Nat → Bool) (held : Bool) (fuel : Nat) (d : TD) (t : TypeId) : Prop :=
  ∀ cs dd ps, DataW.trod enc P W 0 spare held fuel t cs = some (dd, ps) → ∃ vs, TyD T fuel d vs dd ∧ CellsRel W.cell? vs cs
theorem open_fieldsD {fuel : Nat} : ∀ {ds : List TD} {fs : List Field} {o : Nat} {cs : List Value} {xs : List (DataW H × List MemPlace)}, GoodF P ds fs o → (∀ d ∈ ds, ∀ t, Good P d t → OpensD P T W enc spare held fuel d t) → cs.length = o + TD.sizes ds →
    (fs.mapM fun f => DataW.trod enc P W 0 spare held fuel f.type ((cs.drop f.offset).take (P.cellsOf f.type))) = some xs →
      ∃ vs, TyDF (fun e vs dd => TyD T fuel (T e) vs dd) (fun d vs => Ty T (fuel + 1) d vs) ds vs (xs.map (·.1)) ∧ CellsRel W.cell? vs (cs.drop o)
  | [], [], o, cs, xs, _, _, hl, hm => by
    simp only [List.mapM_nil] at hm
    cases hm
    exact ⟨[], by simp [TyDF], ⟨by simp [TD.sizes] at hl; simp; omega, fun k hk => absurd hk (by simp)⟩⟩
  | [], _ :: _, _, _, _, h, _, _, _ => by simp [GoodF] at h
  | _ :: _, [], _, _, _, h, _, _, _ => by simp [GoodF] at h
  | d :: ds, f :: fs, o, cs, xs, h, ho, hl, hm => by
    simp only [GoodF] at h
    obtain ⟨rfl, _, hg, hgs⟩ := h
    rw [List.mapM_cons] at hm
    cases hx : DataW.trod enc P W 0 spare held fuel f.type ((cs.drop f.offset).take (P.cellsOf f.type)) with
    | none => simp [hx] at hm
    | some x =>
      cases hr : fs.mapM fun f => DataW.trod enc P W 0 spare held fuel f.type ((cs.drop f.offset).take (P.cellsOf f.type)) with
      | none => simp [hx, hr] at hm
      | some ys =>
        simp only [hx, hr, Option.pure_def, Option.bind_eq_bind, Option.bind_some, Option.some.injEq] at hm
        subst hm
        obtain ⟨dd, ps⟩ := x
        rw [hg.cells] at hx
        obtain ⟨v1, t1, r1⟩ := ho d (by simp) _ hg _ _ _ hx
        simp only [TD.sizes] at hl
        obtain ⟨v2, t2, r2⟩ := open_fieldsD hgs (fun d' hd' => ho d' (by simp [hd'])) (cs := cs) (by omega) hr
        have hl1 : v1.length = d.size := by rw [← r1.1, List.length_take, List.length_drop]; omega
        refine ⟨v1 ++ v2, ?_, ?_⟩
        · simp only [TyDF, List.map_cons]
          exact ⟨v1, v2, dd, _, rfl, rfl, hl1, TyD.up t1, t2⟩
        · have hsplit : cs.drop f.offset = (cs.drop f.offset).take d.size ++ cs.drop (f.offset + d.size) := by
            rw [← List.drop_drop, List.take_append_drop]
          rw [hsplit]
          refine ⟨by rw [List.length_append, List.length_append, r1.1, r2.1], fun k hk => ?_⟩
          rcases Nat.lt_or_ge k v1.length with h | h
          · have := r1.2 k h
            rw [List.getD_eq_getElem?_getD, List.getElem?_append_left (by rw [r1.1]; exact h), ← List.getD_eq_getElem?_getD]
            rw [show (v1 ++ v2).getD k .und = v1.getD k .und by rw [List.getD_eq_getElem?_getD, List.getElem?_append_left h, List.getD_eq_getElem?_getD]]
            exact this
          · rw [List.length_append] at hk
            have := r2.2 (k - v1.length) (by omega)
            rw [List.getD_eq_getElem?_getD, List.getElem?_append_right (by rw [r1.1]; exact h), r1.1, ← List.getD_eq_getElem?_getD]
            rw [show (v1 ++ v2).getD k .und = v2.getD (k - v1.length) .und by rw [List.getD_eq_getElem?_getD, List.getElem?_append_right h, List.getD_eq_getElem?_getD]]
            exact this
theorem open_D (hT : TOk P T) (hC : Closed T) : ∀ (fuel : Nat) (d : TD) (t : TypeId) (l : List TypeId), Good P d t → d.sls = some l → Known T l → OpensD P T W enc spare held fuel d t := by
  intro fuel
  induction fuel with
  | zero => intro d t l _ _ _ cs dd ps h; simp [DataW.trod] at h
  | succ fuel ih =>
    intro d t l hg hl hk cs dd ps h
    have hwhole := h
    cases d <;> simp only [TD.sls] at hl <;> try (cases hl; done)
    case bool =>
      simp only [Good] at hg
      simp only [DataW.trod, hg.1] at h
      split at h <;> simp_all
      rename_i b
      exact ⟨[.bool b], ⟨b, rfl⟩, one_rel rfl (.bool b)⟩
    case int k =>
      simp only [Good] at hg
      simp only [DataW.trod, hg.1] at h
      split at h <;> simp_all
      rename_i k' n _
      obtain ⟨⟨rfl, hw⟩, _⟩ := h
      exact ⟨[.int k' n], ⟨n, rfl, hw⟩, one_rel rfl (.int k' n)⟩
    case str =>
      simp only [Good] at hg
      simp only [DataW.trod, hg.1] at h
      split at h <;> simp_all
      rename_i z
      exact ⟨[.str z], ⟨z, rfl, h.1, h.2.1.symm⟩, one_rel rfl (.str z)⟩
    case struct ds =>
      have hcells := hg.cells
      simp only [Good] at hg
      obtain ⟨⟨fields, hu, hgf⟩, _⟩ := hg
      simp only [DataW.trod, hu] at h
      split at h
      case isFalse => cases h
      rename_i hlen
      cases hm : fields.toList.mapM fun f => DataW.trod enc P W 0 spare held fuel f.type ((cs.drop f.offset).take (P.cellsOf f.type)) with
      | none => rw [hm] at h; cases h
      | some xs =>
        rw [hm] at h
        obtain ⟨vs, h1, h2⟩ := open_fieldsD (enc := enc) (spare := spare) (held := held) (T := T) (W := W) (fuel := fuel) hgf (fun d hd t hgd => by
          obtain ⟨l', e1, e2⟩ := slsF_mem hl d hd
          exact ih d t l' hgd e1 fun e he => hk e (e2 e he)) (cs := cs) (by rw [hlen, hcells]; simp [TD.size]) hm
        refine ⟨vs, ?_, by simpa using h2⟩
        simp only [TyD, TyDS]
        refine ⟨_, ?_, h1⟩
        simp only [Option.map_some, Option.some.injEq, Prod.mk.injEq] at h
        exact h.1.symm
    case arr n e =>
      obtain ⟨vs, h1, h2⟩ := open_ hT hC (fuel + 1) (.arr n e) t l hg hl hk cs dd ps hwhole
      refine ⟨vs, ?_, h2⟩
      simp only [TyD, TyDS]
      exact h1
    case slice e sz by_ =>
      injection hl with hl; subst hl
      obtain ⟨hbe, l', hl'⟩ := hk e (by simp)
      have hge := hT.good hbe
      simp only [Good] at hg
      obtain ⟨hu, ⟨ie, hie, hsz, _⟩, _⟩ := hg
      have hce : P.cellsOf e = sz := by simp [Program.cellsOf, hie, hsz]
      have hTe : (T e).size = sz := by rw [← hge.cells, hce]
      rcases DataW.trod_slice hu h with ⟨rfl, _⟩ | ⟨a, len, cap, elems, rest, n, hfu, rfl, hdd, _, hlc, hcm, hel, hget, _, _⟩
      · refine ⟨[.ext sz 0 fun _ => []], ?_, one_rel rfl (.extNil _ _)⟩
        simp only [TyD, TyDS]
        exact ⟨0, _, [], [], rfl, Nat.zero_le _, .inl ⟨rfl, rfl⟩, rfl, fun i hi => absurd hi (by simp)⟩
      · obtain rfl : fuel = n := by omega
        have hone : ∀ i (hi : i < len), ∃ v ci, TyD T fuel (T e) v (elems[i]'(by omega)).1 ∧ CellsRel W.cell? v ci ∧ W.cells? 0 (a.add (i * sz)) sz = some ci := fun i hi => by
          have h1 := hget i hi
          rw [List.getElem?_eq_getElem (by omega), hce] at h1
          cases hc : W.cells? 0 (a.add (i * sz)) sz with
          | none => rw [hc] at h1; cases h1
          | some ci =>
            rw [hc] at h1
            obtain ⟨v, k1, k2⟩ := ih (T e) e l' hge hl' (hC e l' hl') ci _ _ h1
            exact ⟨v, ci, k1, k2, rfl⟩
        let get : Nat → List Val := fun i => if h : i < len then (hone i h).choose else []
        let ci : Nat → List Value := fun i => if h : i < len then (hone i h).choose_spec.choose else []
        have hv : ∀ i (hi : i < len), TyD T fuel (T e) (get i) (elems[i]'(by omega)).1 ∧ CellsRel W.cell? (get i) (ci i) ∧ W.cells? 0 (a.add (i * sz)) sz = some (ci i) := fun i hi => by
          simp only [get, ci, dif_pos hi]
          exact (hone i hi).choose_spec.choose_spec
        have hcell : ∀ i j, i < len → j < sz → W.cell? (a.add (i * sz + j)) = some ((ci i).getD j undef) ∧ (ci i).length = sz := fun i j hi hj => by
          obtain ⟨_, k1, k2⟩ := World.cells?_some (hv i hi).2.2
          have := k2 j hj
          rw [add_add] at this
          rw [this, List.getElem?_eq_getElem (by omega), List.getD_eq_getElem?_getD, List.getElem?_eq_getElem (by omega)]
          exact ⟨rfl, k1⟩
        have hlen : ∀ i, i < len → (get i).length = sz := fun i hi => by
          rw [← (hv i hi).2.1.1]
          exact (World.cells?_some (hv i hi).2.2).2.1
        refine ⟨[.ext sz len get], ?_, one_rel rfl (.ext _ _ _ _ _ (fun i j => (ci i).getD j undef) hlc hlen (fun i j hi hj => (hcell i j hi hj).1) (fun i j hi hj => ?_) (fun i j hi hj => ?_))⟩
        · simp only [TyD, TyDS]
          refine ⟨len, get, elems.map (·.1), rest.map (·.1), rfl, by omega, .inr ?_, by simp [hel], fun i hi => ?_⟩
          · injection hdd
          · have hi' : i < len := by simpa [hel] using hi
            refine ⟨hlen i hi', ?_⟩
            rw [List.getElem_map]
            exact (hv i hi').1
        · exact ((hv i hi).2.1.2 j (by rw [hlen i hi]; exact hj)).1
        · exact ((hv i hi).2.1.2 j (by rw [hlen i hi]; exact hj)).2
end
end Go.AM

set_option linter.unusedVariables false
set_option linter.unusedSimpArgs false
set_option maxRecDepth 100000
namespace Go.AM
open Go.RowKit
section
variable {H : Type}
section
variable {sl : TypeId → List Val → DataW H → Prop} {ar : TD → List Val → Prop}
theorem tyDF_cons {d : TD} {ds : List TD} {vs : List Val} {ps : List (DataW H)} (h : TyDF sl ar (d :: ds) vs ps) : ∃ v w p q, vs = v ++ w ∧ ps = p :: q ∧ TyDS sl ar d v p ∧ TyDF sl ar ds w q := by
  simp only [TyDF] at h
  obtain ⟨v, w, p, q, e1, e2, _, h1, h2⟩ := h
  exact ⟨v, w, p, q, e1, e2, h1, h2⟩
theorem tyDF_nil {vs : List Val} {ps : List (DataW H)} (h : TyDF sl ar [] vs ps) : vs = [] ∧ ps = [] := by simpa only [TyDF] using h
theorem tyDS_i64 {vs : List Val} {dd : DataW H} (h : TyDS sl ar (.int .i64) vs dd) : ∃ n, vs = [.int .i64 n] ∧ I64 n := by
  simp only [TyDS] at h
  obtain ⟨n, e, w⟩ := h
  exact ⟨n, e, wfi64 w⟩
theorem tyDS_str {vs : List Val} {dd : DataW H} (h : TyDS sl ar .str vs dd) : ∃ s : ByteArray, vs = [.str s] ∧ s.size ≤ maxLen := by
  simp only [TyDS] at h
  obtain ⟨s, e, w, _⟩ := h
  exact ⟨s, e, w⟩
theorem tyDS_slice {e : TypeId} {sz by_ : Nat} {vs : List Val} {dd : DataW H} (h : TyDS sl ar (.slice e sz by_) vs dd) :
    ∃ n get elems spare, vs = [.ext sz n get] ∧ n ≤ maxLen ∧ ((n = 0 ∧ elems = []) ∨ dd = .slice elems spare) ∧ elems.length = n ∧ ∀ i (h : i < elems.length), (get i).length = sz ∧ sl e (get i) elems[i] := by simpa only [TyDS] using h
end
mutual
/-- what is typed with its datum is typed -/
theorem TyDS.forget {sl : TypeId → List Val → DataW H → Prop} {sl' : TypeId → List Val → Prop} {ar : TD → List Val → Prop} (h : ∀ e vs dd, sl e vs dd → sl' e vs) (ha : ∀ d vs, ar d vs → TyS sl' d vs) : ∀ {d : TD} {vs : List Val} {dd : DataW H}, TyDS sl ar d vs dd → TyS sl' d vs
  | .bool, _, _, k => by simpa only [TyDS, TyS] using k
  | .int _, _, _, k => by simpa only [TyDS, TyS] using k
  | .str, _, _, k => by
    simp only [TyDS, TyS] at k ⊢
    obtain ⟨s, e, w, _⟩ := k
    exact ⟨s, e, w⟩
  | .struct fs, _, _, k => by
    simp only [TyDS, TyS] at k ⊢
    obtain ⟨parts, _, k⟩ := k
    exact TyDF.forget h ha k
  | .arr n e, _, _, k => by simp only [TyDS] at k; exact ha _ _ k
  | .slice e sz _, _, _, k => by
    simp only [TyDS, TyS] at k ⊢
    obtain ⟨n, get, elems, spare, e1, e2, _, e4, e5⟩ := k
    exact ⟨n, get, e1, e2, fun i hi => ⟨(e5 i (by omega)).1, h _ _ _ (e5 i (by omega)).2⟩⟩
  | .ptr _, _, _, k => by simp only [TyDS] at k
  | .map .., _, _, k => by simp only [TyDS] at k
  | .func, _, _, k => by simp only [TyDS] at k
  | .iface, _, _, k => by simp only [TyDS] at k
  | .bad, _, _, k => by simp only [TyDS] at k
theorem TyDF.forget {sl : TypeId → List Val → DataW H → Prop} {sl' : TypeId → List Val → Prop} {ar : TD → List Val → Prop} (h : ∀ e vs dd, sl e vs dd → sl' e vs) (ha : ∀ d vs, ar d vs → TyS sl' d vs) : ∀ {ds : List TD} {vs : List Val} {ps : List (DataW H)}, TyDF sl ar ds vs ps → TyF sl' ds vs
  | [], _, _, k => by simp only [TyDF, TyF] at k ⊢; exact k.1
  | d :: ds, _, _, k => by
    simp only [TyDF, TyF] at k ⊢
    obtain ⟨v, w, p, q, rfl, _, e3, k1, k2⟩ := k
    refine ⟨by simp [e3], ?_, ?_⟩
    · rw [← e3, List.take_left]; exact TyDS.forget h ha k1
    · rw [← e3, List.drop_left]; exact TyDF.forget h ha k2
end
theorem TyD.ty {T : TypeId → TD} : ∀ {f : Nat} {d : TD} {vs : List Val} {dd : DataW H}, TyD T f d vs dd → Ty T f d vs
  | 0, _, _, _, h => h.elim
  | f + 1, _, _, _, h => TyDS.forget (fun _ _ _ k => TyD.ty k) (fun _ _ k => k) h
theorem rows_relD {φ : Prot} {Q : Nat → Xp → Prop} {n : Nat} {get : Nat → List Val} (hl : ∀ i, i < n → (get i).length = 17)
    (ih : ∀ i cs, i < n → CellsRel φ (get i) cs → ∃ x : Xp, Q i x ∧ CellsRel φ (cE x) cs) {u : Value} (hn : ∀ i, i < n → ∃ cs, CellsRel φ (get i) cs) (h : RelC φ (.ext 17 n get) u) :
    ∃ l : List Xp, l.length = n ∧ (∀ i (h : i < l.length), Q i l[i]) ∧ RelC φ (.ext 17 l.length (Xp.rows l)) u := by
  rcases ext_inv h with ⟨rfl, rfl⟩ | ⟨a, c, vals, rfl, hc, hl', hφ, h1, hr⟩
  · exact ⟨[], rfl, fun i hi => absurd hi (by simp), .extNil 17 _⟩
  · have pl : ∀ i, i < n → CellsRel φ (get i) ((List.range 17).map (vals i)) := fun i hi => by
      refine ⟨by rw [hl i hi]; simp, fun k hk => ?_⟩
      rw [hl i hi] at hk
      rw [List.getD_eq_getElem?_getD, List.getElem?_map, List.getElem?_range hk]
      exact ⟨h1 i k hi hk, hr i k hi hk⟩
    obtain ⟨l, e, hq⟩ := pick_list (n := n) (Q := fun i x => Q i x ∧ CellsRel φ (cE x) ((List.range 17).map (vals i))) fun i hi => ih i _ hi (pl i hi)
    obtain ⟨_, hrow⟩ := Xp.rows_ext l
    subst e
    refine ⟨l, rfl, fun i hi => (hq i hi).1, .ext 17 l.length (Xp.rows l) a c vals (by omega) (fun i hi => by rw [hrow i hi]; rfl) (fun i j hi => hφ i j (by omega)) (fun i j hi => h1 i j (by omega)) fun i j hi hj => ?_⟩
    have := ((hq i hi).2.2 j (by exact hj)).2
    have e2 : ((List.range 17).map (vals i)).getD j undef = vals i j := by rw [List.getD_eq_getElem?_getD, List.getElem?_map, List.getElem?_range hj]; rfl
    rw [e2] at this
    rw [hrow i hi]; exact this
theorem cnt_sum {bulk : DataW H → Nat} : ∀ {l : List Xp} {el : List (DataW H)}, l.length = el.length → (∀ i (h : i < l.length) (h' : i < el.length), cntX l[i] ≤ bulk el[i]) → cntL l ≤ (el.map bulk).sum
  | [], [], _, _ => by rw [cntL_nil]; simp
  | x :: l, d :: el, h, hc => by
    have h0 := hc 0 (by simp) (by simp)
    have h1 := cnt_sum (bulk := bulk) (l := l) (el := el) (by simpa using h) (fun i hi hi' => hc (i + 1) (by simpa using hi) (by simpa using hi'))
    simp only [List.getElem_cons_zero] at h0
    rw [cntL_cons, List.map_cons, List.sum_cons]
    omega
  | [], _ :: _, h, _ => by simp at h
  | _ :: _, [], h, _ => by simp at h
theorem weightsAll_get {P : Program} {e : TypeId} {p : Nat → Bool} : ∀ {el : List (DataW H)}, (DataW.weightsAll P e el).all p = true → ∀ i (h : i < el.length), (el[i].weights P e).all p = true
  | [], _, i, h => absurd h (by simp)
  | d :: r, h, i, hi => by
    simp only [DataW.weightsAll, List.all_append, Bool.and_eq_true] at h
    cases i with
    | zero => exact h.1
    | succ i => simpa using weightsAll_get h.2 i (by simpa using hi)
theorem weightsEach_get {P : Program} {p : Nat → Bool} : ∀ {ts : List TypeId} {el : List (DataW H)}, (DataW.weightsEach P ts el).all p = true → ∀ (i : Nat) (t : TypeId) (d : DataW H), ts[i]? = some t → el[i]? = some d → (d.weights P t).all p = true
  | [], _, _, i, t, d, h1, _ => by simp at h1
  | _ :: _, [], _, i, t, d, _, h2 => by simp at h2
  | t0 :: ts, d0 :: el, h, i, t, d, h1, h2 => by
    simp only [DataW.weightsEach, List.all_append, Bool.and_eq_true] at h
    cases i with
    | zero =>
      simp only [List.getElem?_cons_zero, Option.some.injEq] at h1 h2
      subst h1; subst h2
      exact h.1
    | succ i => exact weightsEach_get h.2 i t d (by simpa using h1) (by simpa using h2)
/-- what is said of an expression's weight -/
structure XW (P : Program) (e t7 : TypeId) : Prop where
  st : ∃ fs, P.underlying e = some (.struct fs) ∧ (fs.toList.map (·.type))[7]? = some t7
  sl : P.underlying t7 = some (.slice e)
  by_ : P.bytesOf e = 176
/-- bulk, by what is asked of it -/
structure Bulk (bulk : DataW H → Nat) : Prop where
  agg : ∀ parts p, p ∈ parts → 1 + bulk p ≤ bulk (.agg parts)
  slice : ∀ elems spare, (elems.map bulk).sum ≤ bulk (.slice elems spare)
  one : ∀ d, 1 ≤ bulk d
def XOk (P : Program) (e : TypeId) (bulk : DataW H → Nat) (x : Xp) (dd : DataW H) : Prop := x.Wf ∧ cntX x ≤ bulk dd ∧ ((dd.weights P e).all (· ≤ reachBytes) = true → x.Lens)
theorem open_xpD {P : Program} {φ : Prot} {T : TypeId → TD} {e t7 : TypeId} {by_ : Nat} {bulk : DataW H → Nat} (hT : T e = tdX e by_) (hw : XW P e t7) (hb : Bulk bulk) : ∀ (fuel : Nat) (vs : List Val) (cs : List Value) (dd : DataW H), TyD T fuel (tdX e by_) vs dd → CellsRel φ vs cs →
    ∃ x : Xp, XOk P e bulk x dd ∧ CellsRel φ (cE x) cs := by
  intro fuel
  induction fuel with
  | zero => intro vs cs dd h; exact h.elim
  | succ f ih =>
    intro vs cs dd hty hc
    rw [TyD, TyDS] at hty
    obtain ⟨parts, rfl, hty⟩ := hty
    obtain ⟨a0, r0, d0, q0, e0, g0, t0, hty⟩ := tyDF_cons hty
    obtain ⟨a1, r1, d1, q1, e1, g1, t1, hty⟩ := tyDF_cons hty
    obtain ⟨a2, r2, d2, q2, e2, g2, t2, hty⟩ := tyDF_cons hty
    obtain ⟨a3, r3, d3, q3, e3, g3, t3, hty⟩ := tyDF_cons hty
    obtain ⟨a4, r4, d4, q4, e4, g4, t4, hty⟩ := tyDF_cons hty
    obtain ⟨a5, r5, d5, q5, e5, g5, t5, hty⟩ := tyDF_cons hty
    obtain ⟨a6, r6, d6, q6, e6, g6, t6, hty⟩ := tyDF_cons hty
    obtain ⟨a7, r7, d7, q7, e7, g7, t7', hty⟩ := tyDF_cons hty
    obtain ⟨k, rfl, hk⟩ := tyDS_i64 t0
    obtain ⟨o, rfl, ho⟩ := tyDS_i64 t1
    obtain ⟨n, rfl, hn⟩ := tyDS_str t2
    obtain ⟨s, rfl, hs⟩ := tyDS_str t3
    have t4 := TyDS.forget (sl' := fun e vs => Ty T f (T e) vs) (fun _ _ _ k => TyD.ty k) (fun _ _ k => k) t4
    obtain ⟨v, hv, rfl⟩ := tyS_val t4
    obtain ⟨sc, rfl, hsc⟩ := tyDS_i64 t5
    obtain ⟨p, rfl, hp⟩ := tyDS_i64 t6
    obtain ⟨m, get, elems, spare, rfl, hm, hdd, hel, hget⟩ := tyDS_slice t7'
    obtain ⟨z1, z2⟩ := tyDF_nil hty
    subst z1 e7 e6 e5 e4 e3 e2 e1 e0 z2 g7 g6 g5 g4 g3 g2 g1 g0
    have hlast : RelC φ (.ext 17 m get) (cs.getD 16 undef) := (hc.2 16 (by simp [cV])).2
    obtain ⟨l, hl, hq, hr⟩ := rows_relD (Q := fun i x => ∀ (h : i < elems.length), XOk P e bulk x elems[i]) (n := m) (get := get) (fun i hi => (hget i (by omega)).1) (fun i cs hi hcs => by
      have h2 := (hget i (by omega)).2
      rw [hT] at h2
      obtain ⟨x, h3, h4⟩ := ih (get i) cs elems[i] h2 hcs
      exact ⟨x, fun _ => h3, h4⟩) (fun i hi => by
        rcases ext_inv hlast with ⟨h0, _⟩ | ⟨a, c, vals, _, _, hl', _, h1, hr⟩
        · omega
        · refine ⟨(List.range 17).map (vals i), by rw [hl' i hi]; simp, fun k hk => ?_⟩
          rw [hl' i hi] at hk
          rw [List.getD_eq_getElem?_getD, List.getElem?_map, List.getElem?_range hk]
          exact ⟨h1 i k hi hk, hr i k hi hk⟩) hlast
    have hle : l.length = elems.length := by omega
    refine ⟨.mk k o n s v sc p l, ⟨.mk _ ⟨hk, ho, hn, hs, hv, hsc, hp, by show l.length ≤ maxLen; omega⟩ fun y hy => ?_, ?_, fun hwt => ?_⟩, ?_⟩
    · obtain ⟨i, hi, rfl⟩ := List.mem_iff_getElem.1 (show y ∈ l from hy)
      exact (hq i hi (by omega)).1
    · rw [cntX_mk]
      have h1 := cnt_sum (bulk := bulk) hle fun i hi hi' => (hq i hi hi').2.1
      have h2 := hb.agg [d0, d1, d2, d3, d4, d5, d6, d7] d7 (by simp)
      rcases hdd with ⟨_, rfl⟩ | rfl
      · have : l = [] := List.eq_nil_of_length_eq_zero (by omega)
        subst this
        have := hb.one d7
        rw [cntL_nil]; omega
      · have := hb.slice elems spare; omega
    · obtain ⟨fs, hfs, h7⟩ := hw.st
      simp only [DataW.weights, hfs] at hwt
      have h7' := weightsEach_get hwt 7 t7 d7 h7 rfl
      rcases hdd with ⟨_, rfl⟩ | rfl
      · have : l = [] := List.eq_nil_of_length_eq_zero (by omega)
        subst this
        exact .mk _ (by show 0 * 176 ≤ _; omega) fun y hy => absurd (show y ∈ [] from hy) (by simp)
      · simp only [DataW.weights, hw.sl, List.all_cons, List.all_append, Bool.and_eq_true, decide_eq_true_eq, hw.by_] at h7'
        obtain ⟨h8, h9, _⟩ := h7'
        refine .mk _ ?_ fun y hy => ?_
        · show l.length * 176 ≤ _
          have : reachBytes = 140737488351232 := by decide
          have h10 : elems.length * 176 ≤ (elems.length + spare.length) * 176 := Nat.mul_le_mul_right _ (by omega)
          omega
        · obtain ⟨i, hi, rfl⟩ := List.mem_iff_getElem.1 (show y ∈ l from hy)
          exact (hq i hi (by omega)).2.2 (weightsAll_get h9 i (by omega))
    · rw [cE_split]
      exact CellsRel.last (a := .ext 17 m get) hc hr
end
end Go.AM

