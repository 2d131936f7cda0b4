/- The operations one by one: maps. -/
import Derived.Test.YtkglccolonpnlaaAmOps8
import Derived.MapKept
import Derived.WideKeyRuns
set_option linter.unusedVariables false
set_option linter.unusedSimpArgs false
set_option maxRecDepth 100000
namespace Go.AM
noncomputable section
open Go.RowKit Go.MapKept

/-! ### entries -/
def mix (k : List Leaf) : List MEnt → Option Nat
  | [] => none
  | p :: es => match decide (p.1 = k) with
    | true => some 0
    | false => match mix k es with
      | some i => some (i + 1)
      | none => none
theorem mix_find (k : List Leaf) : ∀ es : List MEnt, mfind k es = match mix k es with
    | some i => some (es.getD i ([], [])).2
    | none => none
  | [] => rfl
  | p :: es => by
    unfold mfind mix
    cases decide (p.1 = k) with
    | true => rfl
    | false =>
      simp only [mix_find k es]
      cases mix k es <;> simp
theorem mix_put (k : List Leaf) (v : List Val) : ∀ es : List MEnt, mput k v es = match mix k es with
    | some i => es.set i (k, v)
    | none => es ++ [(k, v)]
  | [] => rfl
  | p :: es => by
    unfold mput mix
    cases h : decide (p.1 = k) with
    | true => simp
    | false =>
      simp only [mix_put k v es]
      cases mix k es <;> simp
theorem mix_lt {k : List Leaf} : ∀ {es : List MEnt} {i : Nat}, mix k es = some i → i < es.length ∧ (es.getD i ([], [])).1 = k
  | [], _, h => by cases h
  | p :: es, i, h => by
    unfold mix at h
    cases hd : decide (p.1 = k) with
    | true =>
      rw [hd] at h
      simp only [Option.some.injEq] at h; subst h
      exact ⟨by simp, by simpa using of_decide_eq_true hd⟩
    | false =>
      rw [hd] at h
      simp only at h
      cases hm : mix k es with
      | none => rw [hm] at h; cases h
      | some j =>
        rw [hm] at h
        simp only [Option.some.injEq] at h; subst h
        have := mix_lt hm
        exact ⟨by simpa using this.1, by simpa using this.2⟩
section
variable {φ : Prot} {kag vag : Bool} {ks : List LK}
theorem EntsR.length : ∀ {ps : List MEnt} {es : List MapEntry}, EntsR φ kag vag ks ps es → es.length = ps.length
  | [], [], _ => rfl
  | _ :: _, _ :: _, h => by simp [EntsR.length h.2]
  | [], _ :: _, h => h.elim
  | _ :: _, [], h => h.elim
theorem EntsR.get : ∀ {ps : List MEnt} {es : List MapEntry}, EntsR φ kag vag ks ps es → ∀ (i : Nat) (e : MapEntry), es[i]? = some e → ∃ p, ps[i]? = some p ∧ EntR φ kag vag ks p e
  | [], [], _, i, e, he => by simp at he
  | p :: ps, e0 :: es, h, i, e, he => by
    cases i with
    | zero => simp only [List.getElem?_cons_zero, Option.some.injEq] at he; subst he; exact ⟨p, rfl, h.1⟩
    | succ i => simpa using EntsR.get h.2 i e (by simpa using he)
  | [], _ :: _, h, _, _, _ => h.elim
  | _ :: _, [], h, _, _, _ => h.elim
theorem EntsR.set : ∀ {ps : List MEnt} {es : List MapEntry}, EntsR φ kag vag ks ps es → ∀ {i : Nat} {p : MEnt} {e : MapEntry}, EntR φ kag vag ks p e → EntsR φ kag vag ks (ps.set i p) (es.set i e)
  | [], [], _, _, _, _, _ => trivial
  | p0 :: ps, e0 :: es, h, i, p, e, he => by
    cases i with
    | zero => exact ⟨he, h.2⟩
    | succ i => exact ⟨h.1, EntsR.set h.2 he⟩
  | [], _ :: _, h, _, _, _, _ => h.elim
  | _ :: _, [], h, _, _, _, _ => h.elim
theorem EntsR.push : ∀ {ps : List MEnt} {es : List MapEntry}, EntsR φ kag vag ks ps es → ∀ {p : MEnt} {e : MapEntry}, EntR φ kag vag ks p e → EntsR φ kag vag ks (ps ++ [p]) (es ++ [e])
  | [], [], _, _, _, he => ⟨he, trivial⟩
  | p0 :: ps, e0 :: es, h, _, _, he => ⟨h.1, EntsR.push h.2 he⟩
  | [], _ :: _, h, _, _, _ => h.elim
  | _ :: _, [], h, _, _, _ => h.elim
end
/-! ### keys -/
theorem leafOf_ok {ι : Map} {φ : Prot} {v : Val} {u : Value} {l : Leaf} (h : leafOf v = some l) (hr : Rel ι φ v u) : u = leafVal l := by
  cases v <;> simp only [leafOf, Option.some.injEq, reduceCtorEq] at h <;> subst h
  · exact hr.bool_
  · exact hr.int_
  · exact hr.str_
theorem leavesOf_ok {ι : Map} {φ : Prot} : ∀ {vs : List Val} {ls : List Leaf} {us : List Value}, leavesOf vs = some ls → us.length = vs.length → (∀ i, i < vs.length → Rel ι φ (vs.getD i .und) (us.getD i undef)) → us = ls.map leafVal
  | [], ls, us, h, hl, _ => by
    simp only [leavesOf, Option.some.injEq] at h; subst h
    exact List.eq_nil_of_length_eq_zero hl
  | v :: vs, ls, [], h, hl, _ => by simp at hl
  | v :: vs, ls, u :: us, h, hl, hr => by
    unfold leavesOf at h
    cases h1 : leafOf v with
    | none => rw [h1] at h; cases h
    | some l =>
      rw [h1] at h
      simp only at h
      cases h2 : leavesOf vs with
      | none => rw [h2] at h; cases h
      | some ls' =>
        rw [h2] at h
        simp only [Option.some.injEq] at h; subst h
        have e0 : u = leafVal l := leafOf_ok h1 (hr 0 (by simp))
        rw [List.map_cons, e0, leavesOf_ok (us := us) h2 (by simpa using hl) (fun i hi => by simpa using hr (i + 1) (by simpa using hi))]
section
variable {P : Program} {T : TypeId → TD} {a : Act} {w w0 : World} {S : Nat → Prop} {φ0 : Prot} {ι : Map} {φ : Prot} {H : Nat → Blk} {nid : Nat} {v : Val} {u : Upd} {r r' : List Nat} {tm : List Val}
variable {dst : Option Tmp} {ty : TypeId} {pos : String} {after : Array Edge} {guard : Option (Nat × Bool)}
theorem keyP_ok {kag : Bool} {x : Val} {cx : Value} {K : List Leaf → Prog} (hx : Rel ι φ x cx) (h : Does (keyP kag x K) H r v u r') : ∃ k, keyV kag k cx ∧ Does (K k) H r v u r' := by
  unfold Does keyP at h
  split at h
  · rename_i cs
    split at h
    · rename_i k hk
      obtain ⟨us, rfl, hs, _, hr⟩ := hx.agg_
      refine ⟨k, ?_, h⟩
      have := leavesOf_ok (us := us.toList) hk (by simpa using hs) (fun i hi => by rw [arr_getD]; exact hr i hi)
      show Value.agg us = .agg (k.map leafVal).toArray
      rw [← this]
    · exact h.elim
  · split at h
    · rename_i l hk
      exact ⟨[l], ⟨l, rfl, leafOf_ok hk hx⟩, h⟩
    · exact h.elim
  · exact h.elim
theorem tdLK_plain {d : TD} {l : LK} (h : tdLK d = some l) {t : TypeId} (hg : Good P d t) {f : Leaf} (hf : f.lk = l) (em : Bool) (n : Nat) : (Instr.checkKey em (n + 1) t (leafVal f)).run P w = .ok () w := by
  cases d <;> simp only [tdLK, Option.some.injEq, reduceCtorEq] at h <;> subst h <;> simp only [Good] at hg
  · cases f <;> simp only [Leaf.lk, reduceCtorEq] at hf
    simp [Instr.checkKey, run_underlying hg.1, leafVal]
  · cases f <;> simp only [Leaf.lk, reduceCtorEq] at hf
    simp [Instr.checkKey, run_underlying hg.1, leafVal]
  · cases f <;> simp only [Leaf.lk, reduceCtorEq] at hf
    simp [Instr.checkKey, run_underlying hg.1, leafVal]
theorem tdLK_now {d : TD} {l : LK} (h : tdLK d = some l) {t : TypeId} (hg : Good P d t) : ∃ td, P.underlying t = some td ∧ ∀ f g : Leaf, f.lk = l → g.lk = l → Instr.sameNow td (leafVal f) (leafVal g) = some (decide (g = f)) := by
  cases d <;> simp only [tdLK, Option.some.injEq, reduceCtorEq] at h <;> subst h <;> simp only [Good] at hg
  · refine ⟨_, hg.1, fun f g hf hg => ?_⟩
    cases f <;> simp only [Leaf.lk, reduceCtorEq] at hf
    cases g <;> simp only [Leaf.lk, reduceCtorEq] at hg
    rename_i a b
    simp only [leafVal, Instr.sameNow, Option.some.injEq, Leaf.b.injEq]
    cases a <;> cases b <;> rfl
  · refine ⟨_, hg.1, fun f g hf hg => ?_⟩
    cases f <;> simp only [Leaf.lk, reduceCtorEq, LK.i.injEq] at hf
    cases g <;> simp only [Leaf.lk, reduceCtorEq, LK.i.injEq] at hg
    subst hf; subst hg
    rename_i a b
    simp only [leafVal, Instr.sameNow, if_true, Option.some.injEq, Leaf.i.injEq, true_and]
    rw [Bool.eq_iff_iff]; simp only [beq_iff_eq, decide_eq_true_eq]; exact eq_comm
  · refine ⟨_, hg.1, fun f g hf hg => ?_⟩
    cases f <;> simp only [Leaf.lk, reduceCtorEq] at hf
    cases g <;> simp only [Leaf.lk, reduceCtorEq] at hg
    simp only [leafVal, Instr.sameNow, Option.some.injEq, Leaf.s.injEq]
    rw [Bool.eq_iff_iff, bytes_beq, decide_eq_true_eq]; exact eq_comm
/-- what 'findKey' answers -/
def foundAt (k : List Leaf) (ps : List MEnt) (es : List MapEntry) (j : Nat) : Option (Nat × Value) := match mix k ps with
  | some i => some (j + i, (es.getD i default).val)
  | none => none
theorem foundAt_cons {k : List Leaf} {p : MEnt} {ps : List MEnt} {e : MapEntry} {es : List MapEntry} {j : Nat} : foundAt k (p :: ps) (e :: es) j = if p.1 = k then some (j, e.val) else foundAt k ps es (j + 1) := by
  unfold foundAt
  by_cases h : p.1 = k
  · simp [mix, h]
  · simp only [mix, decide_eq_false h, if_neg h]
    cases mix k ps with
    | none => rfl
    | some i => simp; omega
theorem findNow_run {kag vag : Bool} {ks : List LK} {td : TypeDesc} {k : List Leaf} {cx : Value} : ∀ {ps : List MEnt} {es : List MapEntry} (j : Nat), EntsR φ kag vag ks ps es → (∀ p e, EntR φ kag vag ks p e → Instr.sameNow td cx e.key = some (decide (p.1 = k))) →
    Instr.findNow td cx es j = some (foundAt k ps es j)
  | [], [], j, _, _ => rfl
  | p :: ps, e :: es, j, h, hs => by
    unfold Instr.findNow
    rw [hs p e h.1, foundAt_cons]
    by_cases hp : p.1 = k
    · simp [hp]
    · simp only [decide_eq_false hp, if_neg hp]
      exact findNow_run (j + 1) h.2 hs
  | [], _ :: _, _, h, _ => h.elim
  | _ :: _, [], _, h, _ => h.elim
theorem findAsking_run {kag vag : Bool} {ks : List LK} {kt : TypeId} {k : List Leaf} {cx : Value} : ∀ {ps : List MEnt} {es : List MapEntry} (j : Nat), EntsR φ kag vag ks ps es → (∀ p e, EntR φ kag vag ks p e → (Op.equal kt cx e.key).run P w = .ok (decide (p.1 = k)) w) →
    (Instr.findAsking kt cx es j).run P w = .ok (foundAt k ps es j) w
  | [], [], j, _, _ => by simp [Instr.findAsking, foundAt, mix]
  | p :: ps, e :: es, j, h, hs => by
    unfold Instr.findAsking
    simp only [Sem.run_bind, hs p e h.1, Result.andThen_ok]
    rw [foundAt_cons]
    by_cases hp : p.1 = k
    · simp [hp]
    · simp only [decide_eq_false hp, if_neg hp]
      exact findAsking_run (j + 1) h.2 hs
  | [], _ :: _, _, h, _ => h.elim
  | _ :: _, [], _, h, _ => h.elim
theorem tdLKs_get : ∀ {ds : List TD} {ls : List LK}, tdLKs ds = some ls → ls.length = ds.length ∧ TD.flats ds = true ∧ TD.leafss ds = ds ∧ TD.sizes ds = ds.length ∧ TD.depths ds ≤ 1 ∧ ∀ i, i < ds.length → tdLK (ds.getD i .bad) = some (ls.getD i .b)
  | [], ls, h => by
    simp only [tdLKs, Option.some.injEq] at h; subst h
    exact ⟨rfl, rfl, rfl, rfl, by decide, fun i hi => absurd hi (by simp)⟩
  | d :: ds, ls, h => by
    unfold tdLKs at h
    cases h1 : tdLK d with
    | none => rw [h1] at h; cases h
    | some l =>
      rw [h1] at h
      simp only at h
      cases h2 : tdLKs ds with
      | none => rw [h2] at h; cases h
      | some ls' =>
        rw [h2] at h
        simp only [Option.some.injEq] at h; subst h
        obtain ⟨g1, g2, g3, g4, g5, g6⟩ := tdLKs_get h2
        have hd : d.flat = true ∧ d.leafs = [d] ∧ d.size = 1 ∧ d.depth = 1 := by
          cases d <;> simp only [tdLK, reduceCtorEq] at h1 <;> simp [TD.flat, TD.leafs, TD.size, TD.depth]
        refine ⟨by simp [g1], by simp [TD.flats, hd.1, g2], by simp [TD.leafss, hd.2.1, g3], by simp [TD.sizes, hd.2.2.1, g4]; omega, by simp [TD.depths, hd.2.2.2]; omega, fun i hi => ?_⟩
        cases i with
        | zero => simpa using h1
        | succ i => simpa using g6 i (by simpa using hi)
theorem leaf_LP {d : TD} {l : LK} {f g : Leaf} (h : tdLK d = some l) (hf : f.lk = l) (hg : g.lk = l) : LeafP d (leafVal f) (leafVal g) := by
  cases d <;> simp only [tdLK, Option.some.injEq, reduceCtorEq] at h <;> subst h <;> cases f <;> simp only [Leaf.lk, reduceCtorEq, LK.i.injEq] at hf <;> cases g <;> simp only [Leaf.lk, reduceCtorEq, LK.i.injEq] at hg
  · exact ⟨⟨_, rfl⟩, _, rfl⟩
  · subst hf; subst hg; exact ⟨⟨_, rfl⟩, _, rfl⟩
  · exact ⟨⟨_, rfl⟩, _, rfl⟩
theorem leaf_eqB {f g : Leaf} (h : f.lk = g.lk) : eqLeaf (leafVal f) (leafVal g) = decide (g = f) := by
  cases f <;> cases g <;> simp only [Leaf.lk, reduceCtorEq, LK.i.injEq] at h
  · simp only [leafVal, eqLeaf, Leaf.b.injEq]; rename_i a b; cases a <;> cases b <;> rfl
  · subst h
    simp only [leafVal, eqLeaf, Leaf.i.injEq, true_and]
    rw [Bool.eq_iff_iff]; simp only [beq_iff_eq, decide_eq_true_eq]; exact eq_comm
  · simp only [leafVal, eqLeaf, Leaf.s.injEq]
    rename_i a b
    rw [Bool.eq_iff_iff, beq_iff_eq, decide_eq_true_eq]
    constructor
    · intro h
      have e : ∀ s : ByteArray, s.toList = s.data.toList := fun s => ByteArray.toList_eq s
      rw [e, e] at h
      cases a; cases b
      simp only [ByteArray.mk.injEq] at h ⊢
      exact (Array.toList_inj.1 h).symm
    · rintro rfl; rfl
theorem leafs_get (k : List Leaf) (i : Nat) : ((k.map leafVal).toArray).getD i undef = match k[i]? with | some f => leafVal f | none => undef := by
  rw [toArr_getD, List.getD_eq_getElem?_getD, List.getElem?_map]
  cases k[i]? <;> rfl
/-- struct keys -/
theorem eqStructKeys {fs : List TD} {ks : List LK} (hk : tdLKs fs = some ks) {kt : TypeId} (hg : Good P (.struct fs) kt) {k k' : List Leaf} (h : k.map Leaf.lk = ks) (h' : k'.map Leaf.lk = ks) :
    (Op.equal kt (.agg (k.map leafVal).toArray) (.agg (k'.map leafVal).toArray)).run P w = .ok (decide (k' = k)) w := by
  obtain ⟨g1, g2, g3, g4, g5, g6⟩ := tdLKs_get hk
  have l1 : k.length = fs.length := by rw [← g1, ← h]; simp
  have l2 : k'.length = fs.length := by rw [← g1, ← h']; simp
  have lk_get : ∀ {q : List Leaf}, q.map Leaf.lk = ks → ∀ i, (hi : i < q.length) → q[i].lk = ks.getD i .b := fun {q} hq i hi => by
    rw [← hq, List.getD_eq_getElem?_getD, List.getElem?_map, List.getElem?_eq_getElem hi]; rfl
  have hLP : LP (TD.struct fs).leafs 0 (k.map leafVal).toArray (k'.map leafVal).toArray := fun i hi => by
    simp only [TD.leafs, g3] at hi ⊢
    rw [Nat.zero_add, leafs_get, leafs_get, List.getElem?_eq_getElem (by omega), List.getElem?_eq_getElem (by omega)]
    exact leaf_LP (g6 i hi) (lk_get h i (by omega)) (lk_get h' i (by omega))
  have hsz : (TD.struct fs).size = fs.length := by simp [TD.size, g4]
  obtain ⟨x', y', p1, p2, p3⟩ := part_eq w (.struct fs) (by simp [TD.flat, g2]) hg 10000 (by simp only [TD.depth]; omega) (xs := (k.map leafVal).toArray) (ys := (k'.map leafVal).toArray) (off := 0) (by rw [hsz]; simp; omega) (by rw [hsz]; simp; omega) hLP
  rw [part_agg w hg rfl _ 0] at p1
  rw [part_agg w hg rfl _ 0] at p2
  have ex : ∀ zs : Array Value, zs.size = (TD.struct fs).size → zs.extract 0 (0 + (TD.struct fs).size) = zs := fun zs hz => by rw [← hz]; simp
  rw [ex _ (by rw [hsz]; simpa using l1)] at p1
  rw [ex _ (by rw [hsz]; simpa using l2)] at p2
  simp only [Result.ok.injEq, and_true] at p1 p2
  subst p1; subst p2
  have hb : eqs (k.map leafVal).toArray (k'.map leafVal).toArray 0 (TD.struct fs).size = decide (k' = k) := by
    rw [hsz]
    unfold eqs
    rw [Bool.eq_iff_iff, List.all_eq_true, decide_eq_true_eq]
    have each : ∀ i, (hi : i < fs.length) → eqLeaf ((k.map leafVal).toArray.getD (0 + i) undef) ((k'.map leafVal).toArray.getD (0 + i) undef) = decide (k'[i]'(by omega) = k[i]'(by omega)) := fun i hi => by
      rw [Nat.zero_add, leafs_get, leafs_get, List.getElem?_eq_getElem (by omega), List.getElem?_eq_getElem (by omega)]
      exact leaf_eqB (by rw [lk_get h i (by omega), lk_get h' i (by omega)])
    constructor
    · intro hh
      refine List.ext_getElem (by omega) fun i hi hi' => ?_
      have := hh i (List.mem_range.2 (by omega))
      rw [each i (by omega)] at this
      exact of_decide_eq_true this
    · rintro rfl i hi
      rw [each i (List.mem_range.1 hi)]; simp
  rw [hb] at p3
  exact p3
theorem checkFields {em : Bool} {n : Nat} : ∀ {fs : List TD} {fields : List Field} {o : Nat} {ks : List LK} {k0 k : List Leaf}, GoodF P fs fields o → tdLKs fs = some ks → k.map Leaf.lk = ks → k0.length = o →
    (forIn fields PUnit.unit fun f _ => if f.name ≠ "_" then do
      Instr.checkKey em (n + 1) f.type (← part f.type ((k0 ++ k).map leafVal).toArray f.offset)
      pure (ForInStep.yield PUnit.unit) else pure (ForInStep.yield PUnit.unit) : Sem PUnit).run P w = .ok PUnit.unit w
  | [], [], _, _, _, _, _, _, _, _ => by simp
  | d :: ds, f :: fs, o, ks, k0, k, hg, hk, hs, hl => by
    obtain ⟨hoff, hname, hgd, hgr⟩ := hg
    unfold tdLKs at hk
    cases h1 : tdLK d with
    | none => rw [h1] at hk; cases hk
    | some l =>
      rw [h1] at hk
      simp only at hk
      cases h2 : tdLKs ds with
      | none => rw [h2] at hk; cases hk
      | some ls' =>
        rw [h2] at hk
        simp only [Option.some.injEq] at hk; subst hk
        cases k with
        | nil => simp at hs
        | cons q k =>
          simp only [List.map_cons, List.cons.injEq] at hs
          have hd : d.size = 1 ∧ d.isAgg = false := by
            cases d <;> simp only [tdLK, reduceCtorEq] at h1 <;> simp [TD.size, TD.isAgg]
          have hp := part_one w hgd hd.2 (xs := ((k0 ++ q :: k).map leafVal).toArray) (off := o) (by simp; omega)
          have he : ((k0 ++ q :: k).map leafVal).toArray.getD o undef = leafVal q := by
            rw [leafs_get, List.getElem?_append_right (by omega)]
            simp [hl]
          rw [he] at hp
          have hc := tdLK_plain (w := w) h1 hgd hs.1 em n
          have ih := checkFields (em := em) (n := n) (k0 := k0 ++ [q]) hgr h2 hs.2 (by rw [hd.1]; simp [hl])
          rw [show k0 ++ [q] ++ k = k0 ++ q :: k by simp] at ih
          have hn : f.name ≠ "_" := by simpa using hname
          simp only [List.forIn_cons, if_pos hn, Sem.run_bind, hoff, hp, Result.andThen_ok, hc, Sem.run_pure]
          exact ih
  | [], _ :: _, _, _, _, _, h, _, _, _ => h.elim
  | _ :: _, [], _, _, _, _, h, _, _, _ => h.elim
/-- a key of its type: it may be asked, and where it is found -/
theorem key_runs {kd : TD} {kag : Bool} {ks : List LK} (hk : keyTd kd = some (kag, ks)) {kt : TypeId} (hg : Good P kd kt) {k : List Leaf} {cx : Value} (hx : keyV kag k cx) (hs : k.map Leaf.lk = ks) :
    (∀ em, (Instr.checkKey em 10000 kt cx).run P w = .ok () w) ∧ (∀ {vag : Bool} {ps : List MEnt} {es : List MapEntry}, EntsR φ kag vag ks ps es → (Instr.findKey kt cx es).run P w = .ok (foundAt k ps es 0) w) ∧ (Instr.keyThatStays cx cx).run P w = .ok cx w := by
  have one : ∀ {l : LK}, tdLK kd = some l → kag = false → ks = [l] → (∀ em, (Instr.checkKey em 10000 kt cx).run P w = .ok () w) ∧ (∀ {vag : Bool} {ps : List MEnt} {es : List MapEntry}, EntsR φ kag vag ks ps es → (Instr.findKey kt cx es).run P w = .ok (foundAt k ps es 0) w) ∧ (Instr.keyThatStays cx cx).run P w = .ok cx w := by
    intro l hl hkag hks
    subst hkag; subst hks
    obtain ⟨f, rfl, rfl⟩ := hx
    simp only [List.map_cons, List.map_nil, List.cons.injEq, and_true] at hs
    refine ⟨fun em => tdLK_plain hl hg hs em 9999, fun {vag ps es} he => ?_, ?_⟩
    · obtain ⟨td, hu, hnow⟩ := tdLK_now hl hg
      refine run_findKey hu (findNow_run 0 he fun p e hp => ?_)
      obtain ⟨g, hg1, hg2⟩ := hp.key
      have hsh := hp.shape
      rw [hg1] at hsh ⊢
      simp only [List.map_cons, List.map_nil, List.cons.injEq, and_true] at hsh
      rw [hg2, hnow f g hs hsh]
      simp
    · cases f <;> simp [Instr.keyThatStays, leafVal, Instr.sameBits, bytes_beq]
  unfold keyTd at hk
  split at hk
  · rename_i fs
    split at hk
    · rename_i ls hls
      simp only [Option.some.injEq, Prod.mk.injEq] at hk
      obtain ⟨rfl, rfl⟩ := hk
      have hx : cx = .agg (k.map leafVal).toArray := hx
      subst hx
      have hg' := hg
      simp only [Good] at hg'
      obtain ⟨⟨fields, hu, hf⟩, _⟩ := hg'
      refine ⟨fun em => ?_, fun {vag ps es} he => ?_, ?_⟩
      · have := checkFields (P := P) (w := w) (em := em) (n := 9998) (k0 := []) (k := k) hf hls hs rfl
        rw [List.nil_append] at this
        show (Instr.checkKey em (9999 + 1) kt (.agg (k.map leafVal).toArray)).run P w = .ok () w
        rw [Instr.checkKey]
        simp only [Sem.run_bind, run_underlying hu, Result.andThen_ok]
        rw [← Array.forIn_toList]
        simp only [this, Result.andThen_ok, Sem.run_pure]
      · rw [run_findKey_eq w (by rw [hu])]
        refine findAsking_run 0 he fun p e hp => ?_
        have hkey : e.key = .agg (p.1.map leafVal).toArray := hp.key
        rw [hkey]
        exact eqStructKeys hls hg hs hp.shape
      · have hb : Instr.sameBits 10000 (.agg (k.map leafVal).toArray) (.agg (k.map leafVal).toArray) = true := by
          show Instr.sameBits (9999 + 1) _ _ = true
          simp only [Instr.sameBits, beq_self_eq_true, Bool.true_and]
          rw [List.all_eq_true]
          rintro ⟨x, y⟩ hxy
          have hh : x = y ∧ x ∈ k.map leafVal := by
            have := List.of_mem_zip hxy
            have e := List.zip_eq_zipWith (l₁ := k.map leafVal) (l₂ := k.map leafVal)
            rw [List.mem_iff_getElem] at hxy
            obtain ⟨i, hi, he⟩ := hxy
            simp only [List.getElem_zip, Prod.mk.injEq] at he
            exact ⟨he.1.symm.trans he.2, this.1⟩
          obtain ⟨rfl, hm⟩ := hh
          obtain ⟨f, _, rfl⟩ := List.mem_map.1 hm
          cases f <;> simp [leafVal, Instr.sameBits, bytes_beq]
        simp [Instr.keyThatStays, hb]
    · cases hk
  · split at hk
    · rename_i l hl
      simp only [Option.some.injEq, Prod.mk.injEq] at hk
      exact one hl hk.1.symm hk.2.symm
    · cases hk
end
end
end Go.AM
