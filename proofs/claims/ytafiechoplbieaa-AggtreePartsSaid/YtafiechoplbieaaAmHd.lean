/- The operations one by one: maps. -/
import Derived.Test.YtafiechoplbieaaAmHc
import Derived.MapKept
import Derived.WideKeyRuns
import Derived.Tactics
import Derived.Orders
import Derived.Scope
set_option linter.unusedVariables false
set_option linter.unusedSimpArgs false
set_option maxRecDepth 100000
namespace Go.AM
noncomputable section
open Go.RowKit Go.MapKept

/-! ### entries -/
def mix (k : List Leaf) : List MEnt → Option Nat
  | [] => none
  | p :: es => match decide (p.1 = k) with
    | true => some 0
    | false => match mix k es with
      | some i => some (i + 1)
      | none => none
theorem mix_find (k : List Leaf) : ∀ es : List MEnt, mfind k es = match mix k es with
    | some i => some (es.getD i ([], [])).2
    | none => none
  | [] => rfl
  | p :: es => by
    unfold mfind mix
    cases decide (p.1 = k) with
    | true => rfl
    | false =>
      simp only [mix_find k es]
      cases mix k es <;> simp
theorem mix_put (k : List Leaf) (v : List Val) : ∀ es : List MEnt, mput k v es = match mix k es with
    | some i => es.set i (k, v)
    | none => es ++ [(k, v)]
  | [] => rfl
  | p :: es => by
    unfold mput mix
    cases h : decide (p.1 = k) with
    | true => simp
    | false =>
      simp only [mix_put k v es]
      cases mix k es <;> simp
theorem mix_lt {k : List Leaf} : ∀ {es : List MEnt} {i : Nat}, mix k es = some i → i < es.length ∧ (es.getD i ([], [])).1 = k
  | [], _, h => by cases h
  | p :: es, i, h => by
    unfold mix at h
    cases hd : decide (p.1 = k) with
    | true =>
      rw [hd] at h
      simp only [Option.some.injEq] at h; subst h
      exact ⟨by simp, by simpa using of_decide_eq_true hd⟩
    | false =>
      rw [hd] at h
      simp only at h
      cases hm : mix k es with
      | none => rw [hm] at h; cases h
      | some j =>
        rw [hm] at h
        simp only [Option.some.injEq] at h; subst h
        have := mix_lt hm
        exact ⟨by simpa using this.1, by simpa using this.2⟩
section
variable {φ : Prot} {R : Val → Value → Prop} {kag vag : Bool} {ks : List LK}
theorem EntsG.length : ∀ {ps : List MEnt} {es : List MapEntry}, EntsG R kag vag ks ps es → es.length = ps.length
  | [], [], _ => rfl
  | _ :: _, _ :: _, h => by simp [EntsG.length h.2]
  | [], _ :: _, h => h.elim
  | _ :: _, [], h => h.elim
theorem EntsG.get : ∀ {ps : List MEnt} {es : List MapEntry}, EntsG R kag vag ks ps es → ∀ (i : Nat) (e : MapEntry), es[i]? = some e → ∃ p, ps[i]? = some p ∧ EntG R kag vag ks p e
  | [], [], _, i, e, he => by simp at he
  | p :: ps, e0 :: es, h, i, e, he => by
    cases i with
    | zero => simp only [List.getElem?_cons_zero, Option.some.injEq] at he; subst he; exact ⟨p, rfl, h.1⟩
    | succ i => simpa using EntsG.get h.2 i e (by simpa using he)
  | [], _ :: _, h, _, _, _ => h.elim
  | _ :: _, [], h, _, _, _ => h.elim
theorem EntsG.set : ∀ {ps : List MEnt} {es : List MapEntry}, EntsG R kag vag ks ps es → ∀ {i : Nat} {p : MEnt} {e : MapEntry}, EntG R kag vag ks p e → EntsG R kag vag ks (ps.set i p) (es.set i e)
  | [], [], _, _, _, _, _ => trivial
  | p0 :: ps, e0 :: es, h, i, p, e, he => by
    cases i with
    | zero => exact ⟨he, h.2⟩
    | succ i => exact ⟨h.1, EntsG.set h.2 he⟩
  | [], _ :: _, h, _, _, _, _ => h.elim
  | _ :: _, [], h, _, _, _, _ => h.elim
theorem EntsG.push : ∀ {ps : List MEnt} {es : List MapEntry}, EntsG R kag vag ks ps es → ∀ {p : MEnt} {e : MapEntry}, EntG R kag vag ks p e → EntsG R kag vag ks (ps ++ [p]) (es ++ [e])
  | [], [], _, _, _, he => ⟨he, trivial⟩
  | p0 :: ps, e0 :: es, h, _, _, he => ⟨h.1, EntsG.push h.2 he⟩
  | [], _ :: _, h, _, _, _ => h.elim
  | _ :: _, [], h, _, _, _ => h.elim
end
/-! ### keys -/
theorem leafOf_ok {ι : Map} {φ : Prot} {v : Val} {u : Value} {l : Leaf} (h : leafOf v = some l) (hr : Rel ι φ v u) : u = leafVal l := by
  cases v <;> simp only [leafOf, Option.some.injEq, reduceCtorEq] at h <;> subst h
  · exact hr.bool_
  · exact hr.int_
  · exact hr.str_
theorem leavesOf_ok {ι : Map} {φ : Prot} : ∀ {vs : List Val} {ls : List Leaf} {us : List Value}, leavesOf vs = some ls → us.length = vs.length → (∀ i, i < vs.length → Rel ι φ (vs.getD i .und) (us.getD i undef)) → us = ls.map leafVal
  | [], ls, us, h, hl, _ => by
    simp only [leavesOf, Option.some.injEq] at h; subst h
    exact List.eq_nil_of_length_eq_zero hl
  | v :: vs, ls, [], h, hl, _ => by simp at hl
  | v :: vs, ls, u :: us, h, hl, hr => by
    unfold leavesOf at h
    cases h1 : leafOf v with
    | none => rw [h1] at h; cases h
    | some l =>
      rw [h1] at h
      simp only at h
      cases h2 : leavesOf vs with
      | none => rw [h2] at h; cases h
      | some ls' =>
        rw [h2] at h
        simp only [Option.some.injEq] at h; subst h
        have e0 : u = leafVal l := leafOf_ok h1 (hr 0 (by simp))
        rw [List.map_cons, e0, leavesOf_ok (us := us) h2 (by simpa using hl) (fun i hi => by simpa using hr (i + 1) (by simpa using hi))]
section
variable {P : Program} {T : TypeId → TD} {a : Act} {w w0 : World} {S : Nat → Prop} {φ0 : Prot} {ι : Map} {φ : Prot} {H : Nat → Blk} {nid : Nat} {v : Val} {u : Upd} {r r' : List Nat} {tm : List Val}
variable {dst : Option Tmp} {ty : TypeId} {pos : String} {after : Array Edge} {guard : Option (Nat × Bool)}
theorem keyP_ok {kag : Bool} {x : Val} {cx : Value} {K : List Leaf → Prog} (hx : Rel ι φ x cx) (h : Does (keyP kag x K) H r v u r') : ∃ k, keyV kag k cx ∧ Does (K k) H r v u r' := by
  unfold Does keyP at h
  split at h
  · rename_i cs
    split at h
    · rename_i k hk
      obtain ⟨us, rfl, hs, _, hr⟩ := hx.agg_
      refine ⟨k, ?_, h⟩
      have := leavesOf_ok (us := us.toList) hk (by simpa using hs) (fun i hi => by rw [arr_getD]; exact hr i hi)
      show Value.agg us = .agg (k.map leafVal).toArray
      rw [← this]
    · exact h.elim
  · split at h
    · rename_i l hk
      exact ⟨[l], ⟨l, rfl, leafOf_ok hk hx⟩, h⟩
    · exact h.elim
  · exact h.elim
theorem tdLK_plain {d : TD} {l : LK} (h : tdLK d = some l) {t : TypeId} (hg : Good P d t) {f : Leaf} (hf : f.lk = l) (em : Bool) (n : Nat) : (Instr.checkKey em (n + 1) t (leafVal f)).run P w = .ok () w := by
  cases d <;> simp only [tdLK, Option.some.injEq, reduceCtorEq] at h <;> subst h <;> simp only [Good] at hg
  · cases f <;> simp only [Leaf.lk, reduceCtorEq] at hf
    simp [Instr.checkKey, run_underlying hg.1, leafVal]
  · cases f <;> simp only [Leaf.lk, reduceCtorEq] at hf
    simp [Instr.checkKey, run_underlying hg.1, leafVal]
  · cases f <;> simp only [Leaf.lk, reduceCtorEq] at hf
    simp [Instr.checkKey, run_underlying hg.1, leafVal]
theorem tdLK_now {d : TD} {l : LK} (h : tdLK d = some l) {t : TypeId} (hg : Good P d t) : ∃ td, P.underlying t = some td ∧ ∀ f g : Leaf, f.lk = l → g.lk = l → Instr.sameNow td (leafVal f) (leafVal g) = some (decide (g = f)) := by
  cases d <;> simp only [tdLK, Option.some.injEq, reduceCtorEq] at h <;> subst h <;> simp only [Good] at hg
  · refine ⟨_, hg.1, fun f g hf hg => ?_⟩
    cases f <;> simp only [Leaf.lk, reduceCtorEq] at hf
    cases g <;> simp only [Leaf.lk, reduceCtorEq] at hg
    rename_i a b
    simp only [leafVal, Instr.sameNow, Option.some.injEq, Leaf.b.injEq]
    cases a <;> cases b <;> rfl
  · refine ⟨_, hg.1, fun f g hf hg => ?_⟩
    cases f <;> simp only [Leaf.lk, reduceCtorEq, LK.i.injEq] at hf
    cases g <;> simp only [Leaf.lk, reduceCtorEq, LK.i.injEq] at hg
    subst hf; subst hg
    rename_i a b
    simp only [leafVal, Instr.sameNow, if_true, Option.some.injEq, Leaf.i.injEq, true_and]
    rw [Bool.eq_iff_iff]; simp only [beq_iff_eq, decide_eq_true_eq]; exact eq_comm
  · refine ⟨_, hg.1, fun f g hf hg => ?_⟩
    cases f <;> simp only [Leaf.lk, reduceCtorEq] at hf
    cases g <;> simp only [Leaf.lk, reduceCtorEq] at hg
    simp only [leafVal, Instr.sameNow, Option.some.injEq, Leaf.s.injEq]
    rw [Bool.eq_iff_iff, bytes_beq, decide_eq_true_eq]; exact eq_comm
/-- what 'findKey' answers -/
def foundAt (k : List Leaf) (ps : List MEnt) (es : List MapEntry) (j : Nat) : Option (Nat × Value) := match mix k ps with
  | some i => some (j + i, (es.getD i default).val)
  | none => none
theorem foundAt_cons {k : List Leaf} {p : MEnt} {ps : List MEnt} {e : MapEntry} {es : List MapEntry} {j : Nat} : foundAt k (p :: ps) (e :: es) j = if p.1 = k then some (j, e.val) else foundAt k ps es (j + 1) := by
  unfold foundAt
  by_cases h : p.1 = k
  · simp [mix, h]
  · simp only [mix, decide_eq_false h, if_neg h]
    cases mix k ps with
    | none => rfl
    | some i => simp; omega
theorem findNow_run {R : Val → Value → Prop} {kag vag : Bool} {ks : List LK} {td : TypeDesc} {k : List Leaf} {cx : Value} : ∀ {ps : List MEnt} {es : List MapEntry} (j : Nat), EntsG R kag vag ks ps es → (∀ p e, EntG R kag vag ks p e → Instr.sameNow td cx e.key = some (decide (p.1 = k))) →
    Instr.findNow td cx es j = some (foundAt k ps es j)
  | [], [], j, _, _ => rfl
  | p :: ps, e :: es, j, h, hs => by
    unfold Instr.findNow
    rw [hs p e h.1, foundAt_cons]
    by_cases hp : p.1 = k
    · simp [hp]
    · simp only [decide_eq_false hp, if_neg hp]
      exact findNow_run (j + 1) h.2 hs
  | [], _ :: _, _, h, _ => h.elim
  | _ :: _, [], _, h, _ => h.elim
theorem findAsking_run {R : Val → Value → Prop} {kag vag : Bool} {ks : List LK} {kt : TypeId} {k : List Leaf} {cx : Value} : ∀ {ps : List MEnt} {es : List MapEntry} (j : Nat), EntsG R kag vag ks ps es → (∀ p e, EntG R kag vag ks p e → (Op.equal kt cx e.key).run P w = .ok (decide (p.1 = k)) w) →
    (Instr.findAsking kt cx es j).run P w = .ok (foundAt k ps es j) w
  | [], [], j, _, _ => by simp [Instr.findAsking, foundAt, mix]
  | p :: ps, e :: es, j, h, hs => by
    unfold Instr.findAsking
    simp only [Sem.run_bind, hs p e h.1, Result.andThen_ok]
    rw [foundAt_cons]
    by_cases hp : p.1 = k
    · simp [hp]
    · simp only [decide_eq_false hp, if_neg hp]
      exact findAsking_run (j + 1) h.2 hs
  | [], _ :: _, _, h, _ => h.elim
  | _ :: _, [], _, h, _ => h.elim
theorem tdLKs_get : ∀ {ds : List TD} {ls : List LK}, tdLKs ds = some ls → ls.length = ds.length ∧ TD.flats ds = true ∧ TD.leafss ds = ds ∧ TD.sizes ds = ds.length ∧ TD.depths ds ≤ 1 ∧ ∀ i, i < ds.length → tdLK (ds.getD i .bad) = some (ls.getD i .b)
  | [], ls, h => by
    simp only [tdLKs, Option.some.injEq] at h; subst h
    exact ⟨rfl, rfl, rfl, rfl, by decide, fun i hi => absurd hi (by simp)⟩
  | d :: ds, ls, h => by
    unfold tdLKs at h
    cases h1 : tdLK d with
    | none => rw [h1] at h; cases h
    | some l =>
      rw [h1] at h
      simp only at h
      cases h2 : tdLKs ds with
      | none => rw [h2] at h; cases h
      | some ls' =>
        rw [h2] at h
        simp only [Option.some.injEq] at h; subst h
        obtain ⟨g1, g2, g3, g4, g5, g6⟩ := tdLKs_get h2
        have hd : d.flat = true ∧ d.leafs = [d] ∧ d.size = 1 ∧ d.depth = 1 := by
          cases d <;> simp only [tdLK, reduceCtorEq] at h1 <;> simp [TD.flat, TD.leafs, TD.size, TD.depth]
        refine ⟨by simp [g1], by simp [TD.flats, hd.1, g2], by simp [TD.leafss, hd.2.1, g3], by simp [TD.sizes, hd.2.2.1, g4]; omega, by simp [TD.depths, hd.2.2.2]; omega, fun i hi => ?_⟩
        cases i with
        | zero => simpa using h1
        | succ i => simpa using g6 i (by simpa using hi)
theorem leaf_LP {d : TD} {l : LK} {f g : Leaf} (h : tdLK d = some l) (hf : f.lk = l) (hg : g.lk = l) : LeafP d (leafVal f) (leafVal g) := by
  cases d <;> simp only [tdLK, Option.some.injEq, reduceCtorEq] at h <;> subst h <;> cases f <;> simp only [Leaf.lk, reduceCtorEq, LK.i.injEq] at hf <;> cases g <;> simp only [Leaf.lk, reduceCtorEq, LK.i.injEq] at hg
  · exact ⟨⟨_, rfl⟩, _, rfl⟩
  · subst hf; subst hg; exact ⟨⟨_, rfl⟩, _, rfl⟩
  · exact ⟨⟨_, rfl⟩, _, rfl⟩
theorem leaf_eqB {f g : Leaf} (h : f.lk = g.lk) : eqLeaf (leafVal f) (leafVal g) = decide (g = f) := by
  cases f <;> cases g <;> simp only [Leaf.lk, reduceCtorEq, LK.i.injEq] at h
  · simp only [leafVal, eqLeaf, Leaf.b.injEq]; rename_i a b; cases a <;> cases b <;> rfl
  · subst h
    simp only [leafVal, eqLeaf, Leaf.i.injEq, true_and]
    rw [Bool.eq_iff_iff]; simp only [beq_iff_eq, decide_eq_true_eq]; exact eq_comm
  · simp only [leafVal, eqLeaf, Leaf.s.injEq]
    rename_i a b
    rw [Bool.eq_iff_iff, beq_iff_eq, decide_eq_true_eq]
    constructor
    · intro h
      have e : ∀ s : ByteArray, s.toList = s.data.toList := fun s => ByteArray.toList_eq s
      rw [e, e] at h
      cases a; cases b
      simp only [ByteArray.mk.injEq] at h ⊢
      exact (Array.toList_inj.1 h).symm
    · rintro rfl; rfl
theorem leafs_get (k : List Leaf) (i : Nat) : ((k.map leafVal).toArray).getD i undef = match k[i]? with | some f => leafVal f | none => undef := by
  rw [toArr_getD, List.getD_eq_getElem?_getD, List.getElem?_map]
  cases k[i]? <;> rfl
/-- struct keys -/
theorem eqStructKeys {fs : List TD} {ks : List LK} (hk : tdLKs fs = some ks) {kt : TypeId} (hg : Good P (.struct fs) kt) {k k' : List Leaf} (h : k.map Leaf.lk = ks) (h' : k'.map Leaf.lk = ks) :
    (Op.equal kt (.agg (k.map leafVal).toArray) (.agg (k'.map leafVal).toArray)).run P w = .ok (decide (k' = k)) w := by
  obtain ⟨g1, g2, g3, g4, g5, g6⟩ := tdLKs_get hk
  have l1 : k.length = fs.length := by rw [← g1, ← h]; simp
  have l2 : k'.length = fs.length := by rw [← g1, ← h']; simp
  have lk_get : ∀ {q : List Leaf}, q.map Leaf.lk = ks → ∀ i, (hi : i < q.length) → q[i].lk = ks.getD i .b := fun {q} hq i hi => by
    rw [← hq, List.getD_eq_getElem?_getD, List.getElem?_map, List.getElem?_eq_getElem hi]; rfl
  have hLP : LP (TD.struct fs).leafs 0 (k.map leafVal).toArray (k'.map leafVal).toArray := fun i hi => by
    simp only [TD.leafs, g3] at hi ⊢
    rw [Nat.zero_add, leafs_get, leafs_get, List.getElem?_eq_getElem (by omega), List.getElem?_eq_getElem (by omega)]
    exact leaf_LP (g6 i hi) (lk_get h i (by omega)) (lk_get h' i (by omega))
  have hsz : (TD.struct fs).size = fs.length := by simp [TD.size, g4]
  obtain ⟨x', y', p1, p2, p3⟩ := part_eq w (.struct fs) (by simp [TD.flat, g2]) hg 10000 (by simp only [TD.depth]; omega) (xs := (k.map leafVal).toArray) (ys := (k'.map leafVal).toArray) (off := 0) (by rw [hsz]; simp; omega) (by rw [hsz]; simp; omega) hLP
  rw [part_agg w hg rfl _ 0] at p1
  rw [part_agg w hg rfl _ 0] at p2
  have ex : ∀ zs : Array Value, zs.size = (TD.struct fs).size → zs.extract 0 (0 + (TD.struct fs).size) = zs := fun zs hz => by rw [← hz]; simp
  rw [ex _ (by rw [hsz]; simpa using l1)] at p1
  rw [ex _ (by rw [hsz]; simpa using l2)] at p2
  simp only [Result.ok.injEq, and_true] at p1 p2
  subst p1; subst p2
  have hb : eqs (k.map leafVal).toArray (k'.map leafVal).toArray 0 (TD.struct fs).size = decide (k' = k) := by
    rw [hsz]
    unfold eqs
    rw [Bool.eq_iff_iff, List.all_eq_true, decide_eq_true_eq]
    have each : ∀ i, (hi : i < fs.length) → eqLeaf ((k.map leafVal).toArray.getD (0 + i) undef) ((k'.map leafVal).toArray.getD (0 + i) undef) = decide (k'[i]'(by omega) = k[i]'(by omega)) := fun i hi => by
      rw [Nat.zero_add, leafs_get, leafs_get, List.getElem?_eq_getElem (by omega), List.getElem?_eq_getElem (by omega)]
      exact leaf_eqB (by rw [lk_get h i (by omega), lk_get h' i (by omega)])
    constructor
    · intro hh
      refine List.ext_getElem (by omega) fun i hi hi' => ?_
      have := hh i (List.mem_range.2 (by omega))
      rw [each i (by omega)] at this
      exact of_decide_eq_true this
    · rintro rfl i hi
      rw [each i (List.mem_range.1 hi)]; simp
  rw [hb] at p3
  exact p3
theorem checkFields {em : Bool} {n : Nat} : ∀ {fs : List TD} {fields : List Field} {o : Nat} {ks : List LK} {k0 k : List Leaf}, GoodF P fs fields o → tdLKs fs = some ks → k.map Leaf.lk = ks → k0.length = o →
    (forIn fields PUnit.unit fun f _ => if f.name ≠ "_" then do
      Instr.checkKey em (n + 1) f.type (← part f.type ((k0 ++ k).map leafVal).toArray f.offset)
      pure (ForInStep.yield PUnit.unit) else pure (ForInStep.yield PUnit.unit) : Sem PUnit).run P w = .ok PUnit.unit w
  | [], [], _, _, _, _, _, _, _, _ => by simp
  | d :: ds, f :: fs, o, ks, k0, k, hg, hk, hs, hl => by
    obtain ⟨hoff, hname, hgd, hgr⟩ := hg
    unfold tdLKs at hk
    cases h1 : tdLK d with
    | none => rw [h1] at hk; cases hk
    | some l =>
      rw [h1] at hk
      simp only at hk
      cases h2 : tdLKs ds with
      | none => rw [h2] at hk; cases hk
      | some ls' =>
        rw [h2] at hk
        simp only [Option.some.injEq] at hk; subst hk
        cases k with
        | nil => simp at hs
        | cons q k =>
          simp only [List.map_cons, List.cons.injEq] at hs
          have hd : d.size = 1 ∧ d.isAgg = false := by
            cases d <;> simp only [tdLK, reduceCtorEq] at h1 <;> simp [TD.size, TD.isAgg]
          have hp := part_one w hgd hd.2 (xs := ((k0 ++ q :: k).map leafVal).toArray) (off := o) (by simp; omega)
          have he : ((k0 ++ q :: k).map leafVal).toArray.getD o undef = leafVal q := by
            rw [leafs_get, List.getElem?_append_right (by omega)]
            simp [hl]
          rw [he] at hp
          have hc := tdLK_plain (w := w) h1 hgd hs.1 em n
          have ih := checkFields (em := em) (n := n) (k0 := k0 ++ [q]) hgr h2 hs.2 (by rw [hd.1]; simp [hl])
          rw [show k0 ++ [q] ++ k = k0 ++ q :: k by simp] at ih
          have hn : f.name ≠ "_" := by simpa using hname
          simp only [List.forIn_cons, if_pos hn, Sem.run_bind, hoff, hp, Result.andThen_ok, hc, Sem.run_pure]
          exact ih
  | [], _ :: _, _, _, _, _, h, _, _, _ => h.elim
  | _ :: _, [], _, _, _, _, h, _, _, _ => h.elim
/-- a key of its type: it may be asked, and where it is found -/
theorem key_runs {kd : TD} {kag : Bool} {ks : List LK} (hk : keyTd kd = some (kag, ks)) {kt : TypeId} (hg : Good P kd kt) {k : List Leaf} {cx : Value} (hx : keyV kag k cx) (hs : k.map Leaf.lk = ks) :
    (∀ em, (Instr.checkKey em 10000 kt cx).run P w = .ok () w) ∧ (∀ {R : Val → Value → Prop} {vag : Bool} {ps : List MEnt} {es : List MapEntry}, EntsG R kag vag ks ps es → (Instr.findKey kt cx es).run P w = .ok (foundAt k ps es 0) w) ∧ (Instr.keyThatStays cx cx).run P w = .ok cx w := by
  have one : ∀ {l : LK}, tdLK kd = some l → kag = false → ks = [l] → (∀ em, (Instr.checkKey em 10000 kt cx).run P w = .ok () w) ∧ (∀ {R : Val → Value → Prop} {vag : Bool} {ps : List MEnt} {es : List MapEntry}, EntsG R kag vag ks ps es → (Instr.findKey kt cx es).run P w = .ok (foundAt k ps es 0) w) ∧ (Instr.keyThatStays cx cx).run P w = .ok cx w := by
    intro l hl hkag hks
    subst hkag; subst hks
    obtain ⟨f, rfl, rfl⟩ := hx
    simp only [List.map_cons, List.map_nil, List.cons.injEq, and_true] at hs
    refine ⟨fun em => tdLK_plain hl hg hs em 9999, fun {R vag ps es} he => ?_, ?_⟩
    · obtain ⟨td, hu, hnow⟩ := tdLK_now hl hg
      refine run_findKey hu (findNow_run 0 he fun p e hp => ?_)
      obtain ⟨g, hg1, hg2⟩ := hp.key
      have hsh := hp.shape
      rw [hg1] at hsh ⊢
      simp only [List.map_cons, List.map_nil, List.cons.injEq, and_true] at hsh
      rw [hg2, hnow f g hs hsh]
      simp
    · cases f <;> simp [Instr.keyThatStays, leafVal, Instr.sameBits, bytes_beq]
  unfold keyTd at hk
  split at hk
  · rename_i fs
    split at hk
    · rename_i ls hls
      simp only [Option.some.injEq, Prod.mk.injEq] at hk
      obtain ⟨rfl, rfl⟩ := hk
      have hx : cx = .agg (k.map leafVal).toArray := hx
      subst hx
      have hg' := hg
      simp only [Good] at hg'
      obtain ⟨⟨fields, hu, hf⟩, _⟩ := hg'
      refine ⟨fun em => ?_, fun {R vag ps es} he => ?_, ?_⟩
      · have := checkFields (P := P) (w := w) (em := em) (n := 9998) (k0 := []) (k := k) hf hls hs rfl
        rw [List.nil_append] at this
        show (Instr.checkKey em (9999 + 1) kt (.agg (k.map leafVal).toArray)).run P w = .ok () w
        rw [Instr.checkKey]
        simp only [Sem.run_bind, run_underlying hu, Result.andThen_ok]
        rw [← Array.forIn_toList]
        simp only [this, Result.andThen_ok, Sem.run_pure]
      · rw [run_findKey_eq w (by rw [hu])]
        refine findAsking_run 0 he fun p e hp => ?_
        have hkey : e.key = .agg (p.1.map leafVal).toArray := hp.key
        rw [hkey]
        exact eqStructKeys hls hg hs hp.shape
      · have hb : Instr.sameBits 10000 (.agg (k.map leafVal).toArray) (.agg (k.map leafVal).toArray) = true := by
          show Instr.sameBits (9999 + 1) _ _ = true
          simp only [Instr.sameBits, beq_self_eq_true, Bool.true_and]
          rw [List.all_eq_true]
          rintro ⟨x, y⟩ hxy
          have hh : x = y ∧ x ∈ k.map leafVal := by
            have := List.of_mem_zip hxy
            have e := List.zip_eq_zipWith (l₁ := k.map leafVal) (l₂ := k.map leafVal)
            rw [List.mem_iff_getElem] at hxy
            obtain ⟨i, hi, he⟩ := hxy
            simp only [List.getElem_zip, Prod.mk.injEq] at he
            exact ⟨he.1.symm.trans he.2, this.1⟩
          obtain ⟨rfl, hm⟩ := hh
          obtain ⟨f, _, rfl⟩ := List.mem_map.1 hm
          cases f <;> simp [leafVal, Instr.sameBits, bytes_beq]
        simp [Instr.keyThatStays, hb]
    · cases hk
  · split at hk
    · rename_i l hl
      simp only [Option.some.injEq, Prod.mk.injEq] at hk
      exact one hl hk.1.symm hk.2.symm
    · cases hk
end
end
end Go.AM

set_option linter.unusedVariables false
set_option linter.unusedSimpArgs false
set_option maxRecDepth 100000
namespace Go.AM
noncomputable section
open Go.RowKit Go.MapKept
theorem leafVal_inj {x y : Leaf} (h : leafVal x = leafVal y) : x = y := by
  cases x <;> cases y <;> simp_all [leafVal]
theorem keyV_inj {kag : Bool} {k k' : List Leaf} {u : Value} (h : keyV kag k u) (h' : keyV kag k' u) : k = k' := by
  unfold keyV at h h'
  cases kag
  · obtain ⟨l, rfl, e⟩ := h
    obtain ⟨l', rfl, e'⟩ := h'
    rw [leafVal_inj (e.symm.trans e')]
  · have := h.symm.trans h'
    simp only [Value.agg.injEq, Array.mk.injEq] at this
    exact (List.map_inj_right fun a b e => leafVal_inj e).1 this
theorem mix_none {R : Val → Value → Prop} {kag vag : Bool} {ks : List LK} {key : List Leaf} {cy : Value} : ∀ {ps : List MEnt} {es : List MapEntry}, mix key ps = none → EntsG R kag vag ks ps es → keyV kag key cy → ∀ x ∈ es, x.key = cy → False
  | [], [], _, _, _, x, hx, _ => by cases hx
  | p :: ps, e :: es, h, hr, hk, x, hx, he => by
    unfold mix at h
    cases hd : decide (p.1 = key) with
    | true => rw [hd] at h; cases h
    | false =>
      rw [hd] at h
      simp only at h
      have hn : mix key ps = none := by
        cases hm : mix key ps with
        | none => rfl
        | some j => rw [hm] at h; cases h
      rcases List.mem_cons.1 hx with rfl | hx
      · exact of_decide_eq_false hd (keyV_inj hr.1.key (by rw [he]; exact hk))
      · exact mix_none hn hr.2 hk x hx he
  | [], _ :: _, _, h, _, _, _, _ => h.elim
  | _ :: _, [], _, h, _, _, _, _ => h.elim
section
variable {P : Program} {T : TypeId → TD} {a : Act} {w w0 : World} {S : Nat → Prop} {φ0 : Prot} {ι : Map} {φ : Prot} {H : Nat → Blk} {nid : Nat} {v : Val} {u : Upd} {r r' : List Nat} {tm : List Val}
variable {dst : Option Tmp} {ty : TypeId} {pos : String} {after : Array Edge} {guard : Option (Nat × Bool)}
theorem map_type (hT : TOk P T) {t kt et : TypeId} (h : T t = .map kt et) : P.underlying t = some (.map kt et) := by
  have hg : Good P (.map kt et) t := h ▸ hT.good (by rw [h]; simp)
  simp only [Good] at hg
  exact hg.1
theorem sound_makeMap {t : TypeId} {rv : Option Operand} (hT : TOk P T) (hi : Inv w0 S φ0 ι φ H w) (ht : TmOk ι φ tm a.tmps) (hn : (∃ x, (nid, x) ∈ u) → ι nid = none)
    (h : Does (optK tm rv fun rv => makeMapP T (T t) nid rv) H [] v u r') : Step P ⟨dst, .makeMap t rv, ty, pos, after, guard⟩ a w w0 S φ0 ι φ H nid v u := by
  rw [optK_eq] at h
  unfold Does makeMapP at h
  split at h
  case h_2 => exact h.elim
  rename_i kt et hTt
  have hu := map_type hT hTt
  obtain ⟨hbk, h⟩ := does_nb h
  obtain ⟨hbe, h⟩ := does_nb h
  unfold Does at h
  split at h
  case h_2 => exact h.elim
  rename_i kag ks hk
  have fin : (Instr.makeMap t (rv.map a.eval)).run P w = .ok (.map (some w.heap.size)) (w.alloc (.map #[] 0)) → v = .map nid → u = [(nid, mapB kag (T et) ks)] → Step P ⟨dst, .makeMap t rv, ty, pos, after, guard⟩ a w w0 S φ0 ι φ H nid v u := by
    intro hrun hv hu'
    subst hv; subst hu'
    have hn := hn ⟨_, List.mem_singleton.2 rfl⟩
    refine Step.alloc_ hi hn (c := 0) (cv := .map (some w.heap.size)) (ob := .map #[] 0) (by simp [execOp, hrun]) ?_ (.map nid _ 0 (by simp [setM]))
    unfold mapB
    split <;> exact ⟨w.heap.size, 0, #[], 0, by simp [setM], heap_new _ _, trivial, stamped_empty 0⟩
  cases rv with
  | none =>
    simp only [Option.map_none] at h fin
    obtain ⟨hv, hu', _⟩ := h
    exact fin (by simp [Instr.makeMap, newObj]; rfl) hv.symm hu'.symm
  | some x =>
    simp only [Option.map_some] at h fin
    have hx := ht.ev x
    split at h
    · rename_i e; cases e
    · rename_i k n e
      simp only [Option.some.injEq] at e
      rw [e] at hx
      obtain ⟨hv, hu', _⟩ := h
      exact fin (by rw [hx.int_]; simp [Instr.makeMap, run_underlying hu, asInt, asIntOf, newObj]; rfl) hv.symm hu'.symm
    · exact h.elim
/-- what a lookup hands out -/
theorem out_sound {R : Val → Value → Prop} (hR : ∀ v u, R v u → Rel ι φ v u) {ok vag is : Bool} {cs : List Val} {x : Value} (hc : CellsG R cs x.cells.toList) (h1 : vag = true → ∃ us, x = .agg us) (h2 : vag = false → x.oneCell' = true) (h : Does (outP ok vag cs is) H r v u r') :
    u = [] ∧ Rel ι φ v (if ok then .tuple #[x, .bool is] else x) := by
  have hbool : Rel ι φ (.bool is) (.bool is) := .c (.bool is)
  have two : ∀ {p : Val}, Rel ι φ p x → Rel ι φ (.tup [p, .bool is]) (.tuple #[x, .bool is]) := fun {p} hp => .tup _ _ rfl fun i hi => by
    match i, hi with
    | 0, _ => exact hp
    | 1, _ => exact hbool
  have agg_ : vag = true → Rel ι φ (.agg cs) x := fun hv => by
    obtain ⟨us, rfl⟩ := h1 hv
    refine .agg _ _ (by simpa [Value.cells] using hc.1) (fun i hi => ?_) (fun i hi => ?_)
    · have := (hc.2 i hi).1; simp only [Value.cells, arr_getD] at this; exact this
    · have := (hc.2 i hi).2; simp only [Value.cells, arr_getD] at this; exact hR _ _ this
  unfold Does outP at h
  split at h
  · obtain ⟨rfl, rfl⟩ := does_valK h
    exact ⟨rfl, two (agg_ rfl)⟩
  · obtain ⟨rfl, rfl⟩ := does_valK h
    exact ⟨rfl, agg_ rfl⟩
  · have hone := h2 rfl
    have hcells : x.cells.toList = [x] := by cases x <;> first | rfl | cases hone
    split at h
    · rename_i p
      have hp : Rel ι φ p x := by
        have := (hc.2 0 (by simp)).2
        rw [hcells] at this
        exact hR _ _ this
      split at h
      · obtain ⟨rfl, rfl⟩ := does_valK h
        exact ⟨rfl, two hp⟩
      · obtain ⟨rfl, rfl⟩ := does_valK h
        exact ⟨rfl, hp⟩
    · exact h.elim
theorem sound_lookup {t : TypeId} {x y : Operand} {ok : Bool} (hT : TOk P T) (hi : Inv w0 S φ0 ι φ H w) (ht : TmOk ι φ tm a.tmps) (h : Does (evK tm x fun x => evK tm y fun i => lookupP T (T t) x i ok) H [] v u r') :
    Step P ⟨dst, .lookup t x y ok, ty, pos, after, guard⟩ a w w0 S φ0 ι φ H nid v u := by
  rw [evK_eq, evK_eq] at h
  have hx := ht.ev x
  have hy := ht.ev y
  generalize evV tm x = vx at h hx
  generalize evV tm y = vy at h hy
  have hex : (execOp a.eval ⟨dst, .lookup t x y ok, ty, pos, after, guard⟩).run P w = (do pure (Next.value (← Instr.lookup t (a.eval x) (a.eval y) ok)) : Sem Next).run P w := by simp [execOp]
  generalize a.eval x = cx at hx hex
  generalize a.eval y = cy at hy hex
  unfold Does lookupP at h
  split at h
  case h_2 => exact h.elim
  rename_i kt et hTt
  have hu := map_type hT hTt
  obtain ⟨hbk, h⟩ := does_nb h
  obtain ⟨hbe, h⟩ := does_nb h
  unfold Does at h
  split at h
  case h_2 => exact h.elim
  rename_i kag ks hk
  obtain ⟨key, hkey, h⟩ := keyP_ok hy h
  unfold Does at h
  split at h
  case h_2 => exact h.elim
  rename_i hsh
  have hsh := of_decide_eq_true hsh
  obtain ⟨hc1, hc2, _⟩ := key_runs (P := P) (w := w) hk (hT.good hbk) hkey hsh
  obtain ⟨ie, z, hie, hse, hz, hzc, hza, hzo⟩ := (hT.good hbe).zok
  have hzr : (zeroValue et).run P w = .ok z w := by simp [zeroValue, run_info hie, hz]
  cases vx
  case nilm => -- of none
    have hcx := hx
    cases hcx with
    | c hcx =>
      cases hcx
      obtain ⟨rfl, hv⟩ := out_sound (ι := ι) (fun _ _ h => .c h) (hzc φ) hza hzo h
      refine Step.pure_ hi (cv := if ok then .tuple #[z, .bool false] else z) ?_ hv
      have hf := hc2 (R := RelC φ) (vag := true) (ps := []) (es := []) trivial
      rw [hex]
      simp only [Instr.lookup, Sem.run_bind, run_underlying hu, Result.andThen_ok, Sem.run_pure]
      simp [hc1, hf, foundAt, mix, hzr]
  case map b _ _ _ =>
    simp only [Prog.run] at h
    split at h
    · rename_i kag' vag' ks' es hbk'
      split at h
      case h_2 => exact h.elim
      rename_i hb3
      simp only [Bool.and_eq_true, beq_iff_eq, decide_eq_true_eq] at hb3
      obtain ⟨⟨rfl, hvag⟩, rfl⟩ := hb3
      have hB := hi.sim.blk b
      rw [hbk'] at hB
      obtain ⟨g, c, arr, clock, hm, hheap, hents, hst⟩ := hB
      cases hx with
      | c hcx => cases hcx
      | map _ g' c' hm' =>
        rw [hm] at hm'
        simp only [Option.some.injEq, Prod.mk.injEq] at hm'
        obtain ⟨rfl, rfl⟩ := hm'
        have hf := hc2 hents
        have run : ∀ {y : Value} {is : Bool}, (match foundAt key es arr.toList 0 with | some (_, y) => y = y ∧ is = true | none => is = false) → True := fun _ => trivial
        have hmf := mix_find key es
        cases hmx : mix key es with
        | none =>
          rw [hmx] at hmf
          simp only at hmf
          rw [hmf] at h
          obtain ⟨rfl, hv⟩ := out_sound (ι := ι) (fun _ _ h => .c h) (hzc φ) hza hzo h
          refine Step.pure_ hi (cv := if ok then .tuple #[z, .bool false] else z) ?_ hv
          rw [hex]
          simp only [foundAt, hmx] at hf
          simp only [Instr.lookup, Sem.run_bind, run_underlying hu, Result.andThen_ok, Sem.run_pure, Go.MapKept.run_getObj_map hheap, hc1, hf, hzr]
        | some i =>
          rw [hmx] at hmf
          simp only at hmf
          rw [hmf] at h
          simp only at h
          obtain ⟨hil, _⟩ := mix_lt hmx
          have hil' : i < arr.toList.length := by rw [hents.length]; exact hil
          obtain ⟨p, hp, he⟩ := hents.get i arr.toList[i] (List.getElem?_eq_getElem hil')
          have hp' : es.getD i ([], []) = p := by rw [List.getD_eq_getElem?_getD, hp]; rfl
          rw [hp'] at h
          have hev : (arr.toList.getD i default).val = (arr.toList[i]).val := by rw [List.getD_eq_getElem?_getD, List.getElem?_eq_getElem hil']; rfl
          obtain ⟨rfl, hv⟩ := out_sound (ι := ι) (fun _ _ h => .c h) he.cells (fun hh => he.agg (by rw [← hvag]; exact hh)) (fun hh => he.one (by rw [← hvag]; exact hh)) h
          refine Step.pure_ hi (cv := if ok then .tuple #[(arr.toList[i]).val, .bool true] else (arr.toList[i]).val) ?_ hv
          rw [hex]
          simp only [foundAt, hmx, hev] at hf
          simp only [Instr.lookup, Sem.run_bind, run_underlying hu, Result.andThen_ok, Sem.run_pure, Go.MapKept.run_getObj_map hheap, hc1, hf]
    · rename_i kag' ks' es hbk'
      split at h
      case h_2 => exact h.elim
      rename_i hb3
      simp only [Bool.and_eq_true, beq_iff_eq, decide_eq_true_eq] at hb3
      obtain ⟨⟨rfl, hvag⟩, rfl⟩ := hb3
      have hB := hi.sim.blk b
      rw [hbk'] at hB
      obtain ⟨g, c, arr, clock, hm, hheap, hents, hst⟩ := hB
      cases hx with
      | c hcx => cases hcx
      | map _ g' c' hm' =>
        rw [hm] at hm'
        simp only [Option.some.injEq, Prod.mk.injEq] at hm'
        obtain ⟨rfl, rfl⟩ := hm'
        have hf := hc2 hents
        have run : ∀ {y : Value} {is : Bool}, (match foundAt key es arr.toList 0 with | some (_, y) => y = y ∧ is = true | none => is = false) → True := fun _ => trivial
        have hmf := mix_find key es
        cases hmx : mix key es with
        | none =>
          rw [hmx] at hmf
          simp only at hmf
          rw [hmf] at h
          obtain ⟨rfl, hv⟩ := out_sound (ι := ι) (R := RelC φ) (vag := false) (is := false) (cs := (T et).zero) (fun _ _ h => .c h) (hzc φ) (fun e => by cases e) (fun _ => hzo hvag) h
          refine Step.pure_ hi (cv := if ok then .tuple #[z, .bool false] else z) ?_ hv
          rw [hex]
          simp only [foundAt, hmx] at hf
          simp only [Instr.lookup, Sem.run_bind, run_underlying hu, Result.andThen_ok, Sem.run_pure, Go.MapKept.run_getObj_map hheap, hc1, hf, hzr]
        | some i =>
          rw [hmx] at hmf
          simp only at hmf
          rw [hmf] at h
          simp only at h
          obtain ⟨hil, _⟩ := mix_lt hmx
          have hil' : i < arr.toList.length := by rw [hents.length]; exact hil
          obtain ⟨p, hp, he⟩ := hents.get i arr.toList[i] (List.getElem?_eq_getElem hil')
          have hp' : es.getD i ([], []) = p := by rw [List.getD_eq_getElem?_getD, hp]; rfl
          rw [hp'] at h
          have hev : (arr.toList.getD i default).val = (arr.toList[i]).val := by rw [List.getD_eq_getElem?_getD, List.getElem?_eq_getElem hil']; rfl
          obtain ⟨rfl, hv⟩ := out_sound (ι := ι) (fun _ _ h => h) he.cells he.agg he.one h
          refine Step.pure_ hi (cv := if ok then .tuple #[(arr.toList[i]).val, .bool true] else (arr.toList[i]).val) ?_ hv
          rw [hex]
          simp only [foundAt, hmx, hev] at hf
          simp only [Instr.lookup, Sem.run_bind, run_underlying hu, Result.andThen_ok, Sem.run_pure, Go.MapKept.run_getObj_map hheap, hc1, hf]
    · exact h.elim
  all_goals exact h.elim
theorem cellsV_ok {vag : Bool} {x : Val} {cx : Value} {K : List Val → Prog} (hx : Rel ι φ x cx) (h : Does (cellsV vag x K) H r v u r') :
    ∃ cs, Does (K cs) H r v u r' ∧ CellsOk ι φ cs cx.cells.toList ∧ (vag = true → ∃ us, cx = .agg us) ∧ (vag = false → cx.oneCell' = true) := by
  unfold Does cellsV at h
  split at h
  · rename_i cs
    obtain ⟨us, rfl, hs, h1, hr⟩ := hx.agg_
    exact ⟨cs, h, ⟨by simpa [Value.cells] using hs, fun k hk => by simp only [Value.cells, arr_getD]; exact ⟨h1 k hk, hr k hk⟩⟩, (fun _ => ⟨us, rfl⟩), (fun e => (by cases e))⟩
  · exact h.elim
  · exact h.elim
  · exact h.elim
  · rename_i n1 n2 n3
    have ho := hx.one_cell (fun cs e => n1 cs e) (fun cs e => n2 cs e) (fun e => n3 e)
    have hc := hx.cells (fun cs e => n2 cs e) (fun e => n3 e)
    have : cellsOf x = [x] := by cases x <;> first | rfl | exact absurd rfl (n1 _)
    rw [this] at hc
    exact ⟨[x], h, hc, (fun e => (by cases e)), (fun _ => ho)⟩
  · exact h.elim
theorem mapUpdate_core {t : TypeId} (hT : TOk P T) (hi : Inv w0 S φ0 ι φ H w) {vx vy vz : Val} {cx cy cz : Value} (hx : Rel ι φ vx cx) (hy : Rel ι φ vy cy) (hz : Rel ι φ vz cz) {o : Oper}
    (hex : (execOp a.eval o).run P w = (do let _ ← Instr.mapUpdate t cx cy cz; pure Next.skip : Sem Next).run P w) (h : Does (mapUpdateP T (T t) vx vy vz) H [] v u r') : Step P o a w w0 S φ0 ι φ H nid v u := by
  unfold Does mapUpdateP at h
  split at h
  case h_2 => exact h.elim
  rename_i kt et hTt
  have hu := map_type hT hTt
  obtain ⟨hbk, h⟩ := does_nb h
  unfold Does at h
  split at h
  case h_2 => exact h.elim
  rename_i kag ks hk
  obtain ⟨key, hkey, h⟩ := keyP_ok hy h
  unfold Does at h
  split at h
  case h_2 => exact h.elim
  rename_i hsh
  have hsh := of_decide_eq_true hsh
  cases vx
  case map b _ _ =>
    simp only [Prog.run] at h
    split at h
    · rename_i kag' vag ks' es hbk'
      split at h
      case h_2 => exact h.elim
      rename_i hb3
      simp only [Bool.and_eq_true, beq_iff_eq, decide_eq_true_eq] at hb3
      obtain ⟨rfl, rfl⟩ := hb3
      obtain ⟨cs, h, hcs, hc1, hc2⟩ := cellsV_ok hz h
      unfold Does at h
      split at h
      case h_2 => exact h.elim
      rename_i hcl
      obtain ⟨rfl, rfl, _⟩ := h
      obtain ⟨k1, k2, k3⟩ := key_runs (P := P) (w := w) hk (hT.good hbk) hkey hsh
      have hB := hi.sim.blk b
      rw [hbk'] at hB
      obtain ⟨g, c, arr, clock, hm, hheap, hents, hst⟩ := hB
      have hcR : CellsR φ cs cz.cells.toList := ⟨hcs.1, fun k hk => ⟨(hcs.2 k hk).1, (hcs.2 k hk).2.closed_ (closedL_get hcl hk)⟩⟩
      have hbg : H b ≠ .gone := by rw [hbk']; simp
      have hcx : cx = .map (some g) := by
        cases hx with
        | c hcx => cases hcx
        | map _ g' c' hm' => rw [hm] at hm'; simp only [Option.some.injEq, Prod.mk.injEq] at hm'; rw [hm'.1]
      subst hcx
      have hf := k2 hents
      have wr : ∀ {arr' : Array MapEntry} {clock' : Nat}, EntsR φ kag vag ks (mput key cs es) arr'.toList → Stamped arr' clock' → (Instr.mapUpdate t (.map (some g)) cy cz).run P w = .ok () { w with heap := w.heap.setIfInBounds g (.map arr' clock') } →
          Step P o a w w0 S φ0 ι φ H nid (.tup []) [(b, .map kag vag ks (mput key cs es))] := by
        intro arr' clock' hents' hst' hrun
        obtain ⟨s1, s2⟩ := Go.MapKept.heap_set (o' := Obj.map arr' clock') hheap
        have hinv := hi.write (x := .map kag vag ks (mput key cs es)) (w' := { w with heap := w.heap.setIfInBounds g (.map arr' clock') }) hm hbg rfl rfl rfl (by simp) (fun k hk => s2 k hk) (fun q z hq hqb => ?_)
          ⟨g, c, arr', clock', hm, s1, hents', hst'⟩
        · exact ⟨_, undef, _, ι, φ, by rw [hex]; simp only [Sem.run_bind, hrun, Result.andThen_ok, Sem.run_pure], .inr ⟨rfl, rfl⟩, rel_undef ι φ, hinv, .refl _, .refl _, fun _ _ => rfl⟩
        · have := hi.sim.prot q z hq
          obtain ⟨qb, qo, qs⟩ := q
          simp only at hqb; subst hqb
          simp only [World.cell?, hheap] at this
          cases this
      have hent : EntR φ kag vag ks (key, cs) { key := cy, val := cz, born := clock } := ⟨hkey, hsh, hcR, hc1, hc2⟩
      have hmp := mix_put key cs es
      cases hmx : mix key es with
      | none =>
        rw [hmx] at hmp
        simp only at hmp
        simp only [foundAt, hmx] at hf
        refine wr (arr' := arr.push { key := cy, val := cz, born := clock }) (clock' := clock + 1) (by rw [hmp, Array.toList_push]; exact hents.push hent) (stamped_push hst (fun x hx he => mix_none hmx hents hkey x hx he)) ?_
        simp only [Instr.mapUpdate, Sem.run_bind, run_underlying hu, Result.andThen_ok, Go.MapKept.run_getObj_map hheap, k1, hf, Go.MapKept.run_setObj_map _ hheap]
      | some i =>
        rw [hmx] at hmp
        simp only at hmp
        obtain ⟨hil, hie⟩ := mix_lt hmx
        have hil' : i < arr.toList.length := by rw [hents.length]; exact hil
        have his : i < arr.size := by simpa using hil'
        obtain ⟨p, hp, he⟩ := hents.get i arr.toList[i] (List.getElem?_eq_getElem hil')
        have hpk : p.1 = key := by rw [← hie, List.getD_eq_getElem?_getD, hp]; rfl
        have hek : (arr.toList[i]).key = cy := by
          have := he.key
          rw [hpk] at this
          unfold keyV at this hkey
          cases kag
          · obtain ⟨l, e1, e2⟩ := this
            obtain ⟨l', e1', e2'⟩ := hkey
            rw [e1] at e1'
            simp only [List.cons.injEq, and_true] at e1'
            rw [e2, e2', e1']
          · exact this.trans hkey.symm
        have hmod : (arr.modify i fun e => { e with key := cy, val := cz }).toList = arr.toList.set i { key := cy, val := cz, born := (arr.toList[i]).born } := by
          rw [Array.toList_modify]
          refine List.ext_getElem? fun j => ?_
          rw [List.getElem?_modify, List.getElem?_set]
          by_cases hj : i = j
          · subst hj
            rw [if_pos rfl, if_pos hil', List.getElem?_eq_getElem hil']
            simp
          · rw [if_neg hj]
            simp [hj]
        simp only [foundAt, hmx] at hf
        refine wr (arr' := arr.modify i fun e => { e with key := cy, val := cz }) (clock' := clock) ?_ ?_ ?_
        · rw [hmp, hmod]
          exact hents.set ⟨hkey, hsh, hcR, hc1, hc2⟩
        · refine stamped_modify hst i _ (fun _ _ => rfl) fun e _ he => ?_
          rw [Array.getElem?_eq_getElem his, Option.some.injEq] at he
          subst he
          exact hek.symm
        · simp only [Instr.mapUpdate, Sem.run_bind, run_underlying hu, Result.andThen_ok, Go.MapKept.run_getObj_map hheap, k1, hf]
          have : ((arr[0 + i]?).map (·.key)).getD cy = cy := by
            rw [Nat.zero_add, Array.getElem?_eq_getElem his]
            simpa using hek
          rw [this]
          simp only [k3, Result.andThen_ok, Go.MapKept.run_setObj_map _ hheap, Nat.zero_add]
    · rename_i kag' ks' es hbk'
      split at h
      case h_2 => exact h.elim
      rename_i hb3
      simp only [Bool.and_eq_true, beq_iff_eq, decide_eq_true_eq] at hb3
      obtain ⟨rfl, rfl⟩ := hb3
      obtain ⟨cs, h, hcs, hc1, hc2⟩ := cellsV_ok hz h
      obtain ⟨rfl, rfl, _⟩ := h
      obtain ⟨k1, k2, k3⟩ := key_runs (P := P) (w := w) hk (hT.good hbk) hkey hsh
      have hB := hi.sim.blk b
      rw [hbk'] at hB
      obtain ⟨g, c, arr, clock, hm, hheap, hents, hst⟩ := hB
      have hcR : CellsG (Rel ι φ) cs cz.cells.toList := hcs
      have hbg : H b ≠ .gone := by rw [hbk']; simp
      have hcx : cx = .map (some g) := by
        cases hx with
        | c hcx => cases hcx
        | map _ g' c' hm' => rw [hm] at hm'; simp only [Option.some.injEq, Prod.mk.injEq] at hm'; rw [hm'.1]
      subst hcx
      have hf := k2 hents
      have wr : ∀ {arr' : Array MapEntry} {clock' : Nat}, EntsG (Rel ι φ) kag false ks (mput key cs es) arr'.toList → Stamped arr' clock' → (Instr.mapUpdate t (.map (some g)) cy cz).run P w = .ok () { w with heap := w.heap.setIfInBounds g (.map arr' clock') } →
          Step P o a w w0 S φ0 ι φ H nid (.tup []) [(b, .pmap kag ks (mput key cs es))] := by
        intro arr' clock' hents' hst' hrun
        obtain ⟨s1, s2⟩ := Go.MapKept.heap_set (o' := Obj.map arr' clock') hheap
        have hinv := hi.write (x := .pmap kag ks (mput key cs es)) (w' := { w with heap := w.heap.setIfInBounds g (.map arr' clock') }) hm hbg rfl rfl rfl (by simp) (fun k hk => s2 k hk) (fun q z hq hqb => ?_)
          ⟨g, c, arr', clock', hm, s1, hents', hst'⟩
        · exact ⟨_, undef, _, ι, φ, by rw [hex]; simp only [Sem.run_bind, hrun, Result.andThen_ok, Sem.run_pure], .inr ⟨rfl, rfl⟩, rel_undef ι φ, hinv, .refl _, .refl _, fun _ _ => rfl⟩
        · have := hi.sim.prot q z hq
          obtain ⟨qb, qo, qs⟩ := q
          simp only at hqb; subst hqb
          simp only [World.cell?, hheap] at this
          cases this
      have hent : EntG (Rel ι φ) kag false ks (key, cs) { key := cy, val := cz, born := clock } := ⟨hkey, hsh, hcR, hc1, hc2⟩
      have hmp := mix_put key cs es
      cases hmx : mix key es with
      | none =>
        rw [hmx] at hmp
        simp only at hmp
        simp only [foundAt, hmx] at hf
        refine wr (arr' := arr.push { key := cy, val := cz, born := clock }) (clock' := clock + 1) (by rw [hmp, Array.toList_push]; exact hents.push hent) (stamped_push hst (fun x hx he => mix_none hmx hents hkey x hx he)) ?_
        simp only [Instr.mapUpdate, Sem.run_bind, run_underlying hu, Result.andThen_ok, Go.MapKept.run_getObj_map hheap, k1, hf, Go.MapKept.run_setObj_map _ hheap]
      | some i =>
        rw [hmx] at hmp
        simp only at hmp
        obtain ⟨hil, hie⟩ := mix_lt hmx
        have hil' : i < arr.toList.length := by rw [hents.length]; exact hil
        have his : i < arr.size := by simpa using hil'
        obtain ⟨p, hp, he⟩ := hents.get i arr.toList[i] (List.getElem?_eq_getElem hil')
        have hpk : p.1 = key := by rw [← hie, List.getD_eq_getElem?_getD, hp]; rfl
        have hek : (arr.toList[i]).key = cy := by
          have := he.key
          rw [hpk] at this
          unfold keyV at this hkey
          cases kag
          · obtain ⟨l, e1, e2⟩ := this
            obtain ⟨l', e1', e2'⟩ := hkey
            rw [e1] at e1'
            simp only [List.cons.injEq, and_true] at e1'
            rw [e2, e2', e1']
          · exact this.trans hkey.symm
        have hmod : (arr.modify i fun e => { e with key := cy, val := cz }).toList = arr.toList.set i { key := cy, val := cz, born := (arr.toList[i]).born } := by
          rw [Array.toList_modify]
          refine List.ext_getElem? fun j => ?_
          rw [List.getElem?_modify, List.getElem?_set]
          by_cases hj : i = j
          · subst hj
            rw [if_pos rfl, if_pos hil', List.getElem?_eq_getElem hil']
            simp
          · rw [if_neg hj]
            simp [hj]
        simp only [foundAt, hmx] at hf
        refine wr (arr' := arr.modify i fun e => { e with key := cy, val := cz }) (clock' := clock) ?_ ?_ ?_
        · rw [hmp, hmod]
          exact hents.set ⟨hkey, hsh, hcR, hc1, hc2⟩
        · refine stamped_modify hst i _ (fun _ _ => rfl) fun e _ he => ?_
          rw [Array.getElem?_eq_getElem his, Option.some.injEq] at he
          subst he
          exact hek.symm
        · simp only [Instr.mapUpdate, Sem.run_bind, run_underlying hu, Result.andThen_ok, Go.MapKept.run_getObj_map hheap, k1, hf]
          have : ((arr[0 + i]?).map (·.key)).getD cy = cy := by
            rw [Nat.zero_add, Array.getElem?_eq_getElem his]
            simpa using hek
          rw [this]
          simp only [k3, Result.andThen_ok, Go.MapKept.run_setObj_map _ hheap, Nat.zero_add]
    · exact h.elim
  all_goals exact h.elim
theorem sound_mapUpdate {t : TypeId} {x y z : Operand} (hT : TOk P T) (hi : Inv w0 S φ0 ι φ H w) (ht : TmOk ι φ tm a.tmps) (h : Does (evK tm x fun m => evK tm y fun k => evK tm z fun v => mapUpdateP T (T t) m k v) H [] v u r') :
    Step P ⟨dst, .mapUpdate t x y z, ty, pos, after, guard⟩ a w w0 S φ0 ι φ H nid v u := by
  rw [evK_eq, evK_eq, evK_eq] at h
  exact mapUpdate_core hT hi (ht.ev x) (ht.ev y) (ht.ev z) (by simp [execOp]) h
theorem sound_insert {t : TypeId} {x y z : Operand} (hT : TOk P T) (hi : Inv w0 S φ0 ι φ H w) (ht : TmOk ι φ tm a.tmps) (h : Does (evK tm x fun m => evK tm y fun k => evK tm z fun v => mapUpdateP T (T t) m k v) H [] v u r') :
    Step P ⟨dst, .insert t x y z, ty, pos, after, guard⟩ a w w0 S φ0 ι φ H nid v u := by
  rw [evK_eq, evK_eq, evK_eq] at h
  exact mapUpdate_core hT hi (ht.ev x) (ht.ev y) (ht.ev z) (by simp [execOp]) h
end
end
end Go.AM

set_option linter.unusedVariables false
set_option linter.unusedSimpArgs false
set_option maxRecDepth 100000
namespace Go.AM
noncomputable section
open Go.RowKit

section
variable {P : Program} {T : TypeId → TD} {a : Act} {w w0 : World} {S : Nat → Prop} {φ0 : Prot} {ι : Map} {φ : Prot} {H : Nat → Blk} {nid : Nat} {v : Val} {u : Upd} {r r' : List Nat} {tm : List Val}
variable {dst : Option Tmp} {ty : TypeId} {pos : String} {after : Array Edge} {guard : Option (Nat × Bool)}

theorem len_sound {t : TypeId} {x : Val} {cx : Value} {ats : Array TypeId} {args : Array Value} (h0 : ats[0]? = some t) (h1 : args[0]? = some cx) (hT : TOk P T) (hB : ∀ b, BlkOk ι φ w b (H b)) (hx : Rel ι φ x cx) (h : Does (lenP (T t) x) H [] v u r') :
    u = [] ∧ ∃ n : Nat, v = .int .i64 n ∧ (Builtin.len_ ats ty args).run P w = .ok (.int .i64 n) w := by
  unfold Does lenP at h
  have fin : ∀ {n : Nat}, Does (valK (.int .i64 n)) H [] v u r' → (Builtin.len_ ats ty args).run P w = .ok (.int .i64 n) w → u = [] ∧ ∃ n : Nat, v = .int .i64 n ∧ (Builtin.len_ ats ty args).run P w = .ok (.int .i64 n) w := by
    intro n hd hr
    obtain ⟨rfl, rfl⟩ := does_valK hd
    exact ⟨rfl, n, rfl, hr⟩
  have sl : ∀ {e sz by_ A c} {n : Nat}, T t = .slice e sz by_ → cx = .slice A n c → (Builtin.len_ ats ty args).run P w = .ok (.int .i64 n) w := by
    intro e sz by_ A c n hTt hc
    obtain ⟨hu, _⟩ := Good.slice_ hT hTt
    subst hc
    simp [Builtin.len_, h0, h1, run_underlying hu, goInt]
  split at h
  · rename_i s hTt
    have hg : Good P .str t := hTt ▸ hT.good (by rw [hTt]; simp)
    simp only [Good] at hg
    have hc := hx.str_
    subst hc
    exact fin h (by simp [Builtin.len_, h0, h1, run_underlying hg.1, goInt])
  · rename_i n e hTt
    have hg : Good P (.arr n e) t := hTt ▸ hT.good (by rw [hTt]; simp)
    simp only [Good] at hg
    obtain ⟨⟨el, hu, _⟩, _⟩ := hg
    exact fin h (by simp [Builtin.len_, h0, h1, run_underlying hu, goInt])
  · rename_i hTt; exact fin (n := 0) h (sl hTt hx.nils_)
  · rename_i hTt; obtain ⟨A, e⟩ := hx.emp_; exact fin (n := 0) h (sl hTt e)
  · rename_i hTt
    rcases hx.ext_ with ⟨rfl, e⟩ | ⟨A, c, vals, e, _⟩
    · exact fin h (sl hTt e)
    · exact fin h (sl hTt e)
  · rename_i hTt; obtain ⟨g, c, _, _, e⟩ := hx.row_; exact fin h (sl hTt e)
  · rename_i hTt; obtain ⟨g, c, cap, _, _, e⟩ := hx.asl_; exact fin h (sl hTt e)
  · rename_i kt et hTt
    have hu := map_type hT hTt
    cases hx with
    | c hcx => cases hcx; exact fin (n := 0) h (by simp [Builtin.len_, h0, h1, run_underlying hu, goInt])
  · rename_i kt et b hTt
    have hu := map_type hT hTt
    simp only [Prog.run] at h
    split at h
    · rename_i kag vag ks es hbk
      have hBb := hB b
      rw [hbk] at hBb
      obtain ⟨g, c, arr, clock, hm, hheap, hents, _⟩ := hBb
      cases hx with
      | c hcx => cases hcx
      | map _ g' c' hm' =>
        rw [hm] at hm'
        simp only [Option.some.injEq, Prod.mk.injEq] at hm'
        obtain ⟨rfl, rfl⟩ := hm'
        have hl := hents.length
        rw [Array.length_toList] at hl
        obtain ⟨hv, hu', _⟩ := h
        subst hv; subst hu'
        exact ⟨rfl, es.length, rfl, by simp [Builtin.len_, h0, h1, run_underlying hu, Go.MapKept.run_getObj_map hheap, goInt, hl]⟩
    · rename_i kag ks es hbk
      have hBb := hB b
      rw [hbk] at hBb
      obtain ⟨g, c, arr, clock, hm, hheap, hents, _⟩ := hBb
      cases hx with
      | c hcx => cases hcx
      | map _ g' c' hm' =>
        rw [hm] at hm'
        simp only [Option.some.injEq, Prod.mk.injEq] at hm'
        obtain ⟨rfl, rfl⟩ := hm'
        have hl := hents.length
        rw [Array.length_toList] at hl
        obtain ⟨hv, hu', _⟩ := h
        subst hv; subst hu'
        exact ⟨rfl, es.length, rfl, by simp [Builtin.len_, h0, h1, run_underlying hu, Go.MapKept.run_getObj_map hheap, goInt, hl]⟩
    · exact h.elim
  · exact h.elim

theorem minP_sound {mx : Bool} : ∀ {xs : List Val} {us : List Value} {k : IntKind} {n : Int}, us.length = xs.length → (∀ i, i < xs.length → Rel ι φ (xs.getD i .und) (us.getD i undef)) → Does (minP mx (.int k n) xs) H [] v u r' →
    u = [] ∧ ∃ m : Int, v = .int k m ∧ (us.foldlM (match mx with | true => Builtin.max2 | false => Builtin.min2) (.int k n)).run P w = .ok (.int k m) w
  | [], us, k, n, hl, _, h => by
    have : us = [] := List.eq_nil_of_length_eq_zero (by simpa using hl)
    subst this
    unfold Does minP at h
    obtain ⟨rfl, rfl⟩ := does_valK h
    exact ⟨rfl, n, rfl, by simp⟩
  | x :: xs, [], k, n, hl, _, h => by simp at hl
  | x :: xs, y :: us, k, n, hl, hr, h => by
    unfold Does at h
    cases x <;> first | exact h.elim | skip
    rename_i k' b
    have hy : y = .int k' b := Rel.int_ (ι := ι) (φ := φ) (hr 0 (by simp))
    subst hy
    have hr' : ∀ i, i < xs.length → Rel ι φ (xs.getD i .und) (us.getD i undef) := fun i hi => by
      have := hr (i + 1) (by simpa using hi)
      simpa using this
    cases mx with
    | true =>
      obtain ⟨h1, m, h2, h3⟩ := minP_sound (mx := true) (us := us) (by simpa using hl) hr' h
      refine ⟨h1, m, h2, ?_⟩
      rw [List.foldlM_cons, ← h3]
      simp [Builtin.max2, pickM]
    | false =>
      obtain ⟨h1, m, h2, h3⟩ := minP_sound (mx := false) (us := us) (by simpa using hl) hr' h
      refine ⟨h1, m, h2, ?_⟩
      rw [List.foldlM_cons, ← h3]
      simp [Builtin.min2, pickM]

theorem sound_builtin {b : Builtin} {c : Call} (hc : c.callee = .builtin b) (hT : TOk P T) (hi : Inv w0 S φ0 ι φ H w) (ht : TmOk ι φ tm a.tmps) (hn : (∃ x, (nid, x) ∈ u) → ι nid = none)
    (h : Does (evsK tm c.args.toList fun xs => builtinP T b c.argTypes.toList nid xs) H [] v u r') : Step P ⟨dst, .call c, ty, pos, after, guard⟩ a w w0 S φ0 ι φ H nid v u := by
  rw [evsK_eq] at h
  obtain ⟨cal, args, ats⟩ := c
  obtain ⟨args⟩ := args
  obtain ⟨ats⟩ := ats
  simp only at hc h
  subst hc
  have hrel : ∀ i, i < args.length → Rel ι φ ((args.map (evV tm)).getD i .und) ((args.map a.eval).getD i undef) := fun i hi => by
    have e1 : (args.map (evV tm)).getD i .und = evV tm args[i] := by
      rw [List.getD_eq_getElem?_getD, List.getElem?_map, List.getElem?_eq_getElem hi]; rfl
    have e2 : (args.map a.eval).getD i undef = a.eval args[i] := by
      rw [List.getD_eq_getElem?_getD, List.getElem?_map, List.getElem?_eq_getElem hi]; rfl
    rw [e1, e2]; exact ht.ev _
  have mm : ∀ {mx : Bool} {k : IntKind} {n : Int} {x : Operand} {rest : List Operand}, args = x :: rest → evV tm x = .int k n → Does (minP mx (.int k n) (rest.map (evV tm))) H [] v u r' → b = (match mx with | true => .max | false => .min) →
      Step P ⟨dst, .call ⟨.builtin b, ⟨args⟩, ⟨ats⟩⟩, ty, pos, after, guard⟩ a w w0 S φ0 ι φ H nid v u := by
    intro mx k n x rest he hx hd hb
    subst he
    obtain ⟨rfl, m, rfl, hr⟩ := minP_sound (P := P) (w := w) (us := rest.map a.eval) (by simp) (fun i hi => by
      have := hrel (i + 1) (by simpa using hi)
      simpa using this) hd
    refine Step.pure_ hi (cv := .int k m) ?_ (.c (.int _ _))
    have hx' := ht.ev x
    rw [hx] at hx'
    have hxe := hx'.int_
    cases mx with
    | true =>
      subst hb
      simp only at hr
      simp [execOp, resolve, invoke, builtin, Builtin.max_, hxe, hr]
    | false =>
      subst hb
      simp only at hr
      simp [execOp, resolve, invoke, builtin, Builtin.min_, hxe, hr]
  unfold Does builtinP at h
  split at h
  · rename_i t u2 x y e2
    split at h
    case h_2 => exact h.elim
    rename_i htu
    rw [beq_iff_eq] at htu; subst htu
    cases args with
    | nil => simp at e2
    | cons x0 args => cases args with
      | nil => simp at e2
      | cons y0 args => cases args with
        | cons z0 args => simp at e2
        | nil =>
          simp only [List.map_cons, List.map_nil, List.cons.injEq, and_true] at e2
          obtain ⟨rfl, rfl⟩ := e2
          exact sound_append (cl := ⟨.builtin .append, ⟨[x0, y0]⟩, ⟨[t, t]⟩⟩) rfl hT hi ht hn h
  · rename_i t x e2
    cases args with
    | nil => simp at e2
    | cons x0 args => cases args with
      | cons y0 args => simp at e2
      | nil =>
        simp only [List.map_cons, List.map_nil, List.cons.injEq, and_true] at e2
        subst e2
        obtain ⟨rfl, n, rfl, hr⟩ := len_sound (P := P) (w := w) (ty := ty) (ats := #[t]) (args := #[a.eval x0]) rfl rfl hT hi.sim.blk (ht.ev x0) h
        refine Step.pure_ hi (cv := .int .i64 n) ?_ (.c (.int _ _))
        simp [execOp, resolve, invoke, builtin, hr]
  · rename_i k n rest e2
    cases args with
    | nil => simp at e2
    | cons x0 args =>
      simp only [List.map_cons, List.cons.injEq] at e2
      obtain ⟨hx, rfl⟩ := e2
      exact mm (mx := false) rfl hx h rfl
  · rename_i k n rest e2
    cases args with
    | nil => simp at e2
    | cons x0 args =>
      simp only [List.map_cons, List.cons.injEq] at e2
      obtain ⟨hx, rfl⟩ := e2
      exact mm (mx := true) rfl hx h rfl
  · exact h.elim

/-- EVERY OPERATION: what the program says, the model does. -/
theorem op_sound {o : Oper} (hT : TOk P T) (hi : Inv w0 S φ0 ι φ H w) (ht : TmOk ι φ tm a.tmps) (hn : (∃ x, (nid, x) ∈ u) → ι nid = none) (h : Does (opP T o tm nid) H [] v u r') : Step P o a w w0 S φ0 ι φ H nid v u := by
  obtain ⟨dst, op, ty, pos, after, guard⟩ := o
  unfold opP at h
  cases op <;> simp only at h
  case move => exact sound_move hi ht h
  case assign => exact sound_assign hi ht h
  case pick => exact sound_pick hi ht h
  case alloc => exact sound_alloc hT hi hn h
  case box => exact sound_box hi ht hn h
  case build => exact sound_build hT hi ht h
  case buildSlice => exact sound_buildSlice hT hi ht hn h
  case load => exact sound_load hT hi ht h
  case store => exact sound_store hT hi ht h
  case nilCheck => exact sound_nilCheck hi ht h
  case binOp => exact sound_binOp hT hi ht h
  case unOp => exact sound_unOp hi ht h
  case convert => exact sound_convert hT hi ht h
  case sliceToArrayPointer => exact sound_arrPtr hT hi ht h
  case makeInterface => exact sound_makeInterface hT hi ht h
  case makeFunc f x y =>
    cases f <;> first | exact sound_makeFunc hi ht h | exact h.elim
  case makeSlice => exact sound_makeSlice hT hi ht hn h
  case slice => exact sound_slice hT hi ht h
  case fieldAddr => exact sound_fieldAddr hT hi ht h
  case field => exact sound_field hT hi ht h
  case indexAddr => exact sound_indexAddr hT hi ht h
  case index => exact sound_index hT hi ht h
  case extract => exact sound_extract hi ht h
  case makeMap => exact sound_makeMap hT hi ht hn h
  case lookup => exact sound_lookup hT hi ht h
  case mapUpdate => exact sound_mapUpdate hT hi ht h
  case insert => exact sound_insert hT hi ht h
  case call c =>
    cases hc : c.callee <;> rw [hc] at h <;> simp only at h
    case builtin b => exact sound_builtin hc hT hi ht hn h
    all_goals exact h.elim
  all_goals exact h.elim
end
end
end Go.AM

set_option linter.unusedVariables false
set_option linter.unusedSimpArgs false
set_option maxRecDepth 100000
namespace Go.AM
noncomputable section

inductive Ex where
  | normal
  | exit (id : Nat)
  | goto (l : Nat)
  | ret

def getBK {α : Type} : List Blk → Nat → (Blk → α) → α
  | [], _, K => K .gone
  | x :: _, 0, K => K x
  | _ :: l, n + 1, K => getBK l n K
def setBK : List Blk → Nat → Blk → (List Blk → Prop) → Prop
  | [], 0, x, K => K [x]
  | [], _ + 1, _, _ => False
  | _ :: l, 0, x, K => K (x :: l)
  | y :: l, n + 1, x, K => setBK l n x fun l' => K (y :: l')
def updK : List Blk → Upd → (List Blk → Prop) → Prop
  | hp, [], K => K hp
  | hp, (b, x) :: u, K => setBK hp b x fun hp' => updK hp' u K
/-- One more thing that is needed. -/
def more (o : Option Prop) (p : Prop) : Option Prop := match o with
  | none => some p
  | some q => some (q ∧ p)
/- What a walk stops at: each is a structure, so that 'whnf' stands still there. -/
/-- Something must hold. -/
structure Need (p G : Prop) : Prop where
  here : p
  rest : G
/-- A truth value decides. -/
structure Pick (b : Bool) (K : Bool → Prop) : Prop where
  yes : b = true → K true
  no : b = false → K false
def needK (o : Option Prop) (G : Prop) : Prop := match o with
  | none => G
  | some p => Need p G
/-- What is needed is gathered, and asked for at the end: so that no step of the run stands behind an '∧'. -/
def Prog.runL : Prog → List Blk → List Nat → Option Prop → (Val → Upd → List Nat → Option Prop → Prop) → Prop
  | .ret v u, _, r, o, K => K v u r o
  | .get b k, hp, r, o, K => getBK hp b fun x => (k x).runL hp (b :: r) o K
  | @Prog.need p _ k, hp, r, o, K => k.runL hp r (more o p) K
  | .fail, _, _, _, _ => False
def ids : List Nat := [0, 1, 2, 3, 4, 5, 6, 7, 8, 9, 10, 11, 12, 13, 14, 15, 16, 17, 18, 19, 20, 21, 22, 23, 24, 25, 26, 27, 28, 29, 30, 31, 32, 33, 34, 35, 36, 37, 38, 39, 40, 41, 42, 43, 44, 45, 46, 47, 48, 49, 50, 51, 52, 53, 54, 55, 56, 57, 58, 59, 60, 61, 62, 63, 64, 65, 66, 67, 68, 69, 70, 71, 72, 73, 74, 75, 76, 77, 78, 79, 80, 81, 82, 83, 84, 85, 86, 87, 88, 89, 90, 91, 92, 93, 94, 95, 96, 97, 98, 99]
def lenK : List Blk → List Nat → (Nat → Prop) → Prop
  | [], i :: _, K => K i
  | _ :: l, _ :: is, K => lenK l is K
  | _, [], _ => False

/-! ### blocks under other names -/
mutual
def renV (σ : Nat → Option Nat) : Val → Val
  | .ptr b off => match σ b with | some b' => .ptr b' off | none => .und
  | .ep b sz i j => match σ b with | some b' => .ep b' sz i j | none => .und
  | .row b n => match σ b with | some b' => .row b' n | none => .und
  | .asl b off n => match σ b with | some b' => .asl b' off n | none => .und
  | .map b => match σ b with | some b' => .map b' | none => .und
  | .fn f fs cs => .fn f (renL σ fs) (renL σ cs)
  | .ifc t v => .ifc t (renV σ v)
  | .agg cs => .agg (renL σ cs)
  | .tup vs => .tup (renL σ vs)
  | .bool b => .bool b
  | .int k n => .int k n
  | .str s => .str s
  | .rptr cs => .rptr cs
  | .nilp => .nilp
  | .ext sz n g => .ext sz n g
  | .nils => .nils
  | .emp => .emp
  | .nilf => .nilf
  | .nilm => .nilm
  | .nili => .nili
  | .und => .und
  | .raw u => .raw u
def renL (σ : Nat → Option Nat) : List Val → List Val
  | [] => []
  | v :: vs => renV σ v :: renL σ vs
end
def renE (σ : Nat → Option Nat) : List MEnt → List MEnt
  | [] => []
  | p :: es => (p.1, renL σ p.2) :: renE σ es
def renB (σ : Nat → Option Nat) : Blk → Blk
  | .cells cs => .cells (renL σ cs)
  | .row e sz n g pr => .row e sz n g pr
  | .map a b ks es => .map a b ks es
  | .pmap a ks es => .pmap a ks (renE σ es)
  | .gone => .gone
/-- where k stands in a list -/
def idx : List Nat → Nat → Option Nat
  | [], _ => none
  | x :: l, k => match x == k with
    | true => some 0
    | false => match idx l k with
      | some i => some (i + 1)
      | none => none
def nodupB : List Nat → Bool
  | [] => true
  | x :: l => !(l.elem x) && nodupB l
def pickK (σ : Nat → Option Nat) (hp : List Blk) : List Nat → (List Blk → Prop) → Prop
  | [], K => K []
  | k :: ks, K => getBK hp k fun x => pickK σ hp ks fun l => K (renB σ x :: l)
def maskK (σ : Nat → Option Nat) : List Val → List Bool → (List Val → Prop) → Prop
  | [], _, K => K []
  | _ :: tm, [], K => maskK σ tm [] fun l => K (.und :: l)
  | _ :: tm, false :: m, K => maskK σ tm m fun l => K (.und :: l)
  | v :: tm, true :: m, K => maskK σ tm m fun l => K (renV σ v :: l)
/-- The blocks ks, under new names. -/
def sel (ks : List Nat) (hp : List Blk) : List Blk := ks.map fun k => renB (idx ks) (getBK hp k id)
/-- The blocks ks alone, the temporaries of the mask alone. -/
def gcK (ks : List Nat) (m : List Bool) (tm : List Val) (hp : List Blk) (K : List Val → List Blk → Prop) : Prop :=
  pickK (idx ks) hp ks fun hp' => maskK (idx ks) tm m fun tm' => K tm' hp'

/-! ### calls -/
def getH (h : List Blk) (b : Nat) : Blk := h.getD b .gone
def handed (ι : Map) (h : List Blk) (g : Nat) : Prop := ∃ b c, b < h.length ∧ getH h b ≠ .gone ∧ ι b = some (g, c)
/-- What a call of the function does: handed the values args and the blocks h, it hands back v; the blocks are h' then (those of h first). -/
def Ret (P : Program) (f : FuncId) (args : List Val) (h : List Blk) (v : Val) (h' : List Blk) : Prop :=
  (∃ fn c, P.funcs[f]? = some fn ∧ (fn.name == "runtime.NumGoroutine") = false ∧ fn.body = some c) ∧
  ∀ ι φ w cargs, (∀ b, h.length ≤ b → ι b = none) → Sim ι φ (getH h) w → TmOk ι φ args cargs →
    Calls P f cargs w fun e w' => ∃ cv ι' φ', e = .returned cv ∧ MapLe ι ι' ∧ Inv w (handed ι h) φ ι' φ' (getH h') w' ∧ Rel ι' φ' v cv ∧ ∀ b, h'.length ≤ b → ι' b = none

def closedA : Val → Bool
  | .agg cs => closedL cs
  | v => closed v
def closedAs : List Val → Bool
  | [] => true
  | v :: vs => closedA v && closedAs vs
/-- A row becomes outer memory (its cells are to be such as are never written again). -/
def lentK (hp : List Blk) (r : List Nat) (o : Option Prop) (v : Val) (K : Val → List Nat → Option Prop → Prop) : Prop :=
  match v with
  | .row b n => getBK hp b fun x => match x with
    | .row _ sz m g pr => K (.ext sz n g) (b :: r) (more o (n ≤ m ∧ n ≤ pr))
    | _ => False
  | v => K v r o
def lentLK (hp : List Blk) (r : List Nat) (o : Option Prop) : List Val → (List Val → List Nat → Option Prop → Prop) → Prop
  | [], K => K [] r o
  | v :: vs, K => lentK hp r o v fun v' r' o' => lentLK hp r' o' vs fun l r'' o'' => K (v' :: l) r'' o''
def lentAK (hp : List Blk) (r : List Nat) (o : Option Prop) (v : Val) (K : Val → List Nat → Option Prop → Prop) : Prop :=
  match v with
  | .agg cs => lentLK hp r o cs fun l r' o' => K (.agg l) r' o'
  | v => lentK hp r o v K
def lentAsK (hp : List Blk) (r : List Nat) (o : Option Prop) : List Val → (List Val → List Nat → Option Prop → Prop) → Prop
  | [], K => K [] r o
  | v :: vs, K => lentAK hp r o v fun v' r' o' => lentAsK hp r' o' vs fun l r'' o'' => K (v' :: l) r'' o''
def shift (nid : Nat) (b : Nat) : Option Nat := some (nid + b)
def newUpd (σ : Nat → Option Nat) : Nat → List Blk → Upd
  | _, [] => []
  | n, x :: l => (n, renB σ x) :: newUpd σ (n + 1) l
/-- What a call hands back, under the caller's names. -/
def newsK {α : Type} (nid : Nat) (v : Val) (h1 : List Blk) (K : Val → Upd → α) : α :=
  match h1 with
  | [] => K v []
  | x :: l => K (renV (shift nid) v) (newUpd (shift nid) nid (x :: l))
/-- The names that the caller has for the callee's blocks: those that it handed, and new ones. -/
def back (ks : List Nat) (nid j : Nat) : Option Nat := match ks[j]? with
  | some k => some k
  | none => some (nid + (j - ks.length))
def backUpd (σ : Nat → Option Nat) : List Nat → Nat → List Blk → Upd
  | _, _, [] => []
  | k :: ks, n, x :: l => (k, renB σ x) :: backUpd σ ks n l
  | [], n, x :: l => (n, renB σ x) :: backUpd σ [] (n + 1) l
def liveB : Blk → Bool
  | .gone => false
  | _ => true
def handB (hp : List Blk) (nid : Nat) (ks : List Nat) : Bool := nodupB ks && ks.all fun k => decide (k < nid) && liveB (getBK hp k id)
/-- A value that is read alone, its block's memory as it stands: what may be named without a block. -/
def readC (hp : List Blk) (v : Val) : Option (Val × List Nat) := match v with
  | .row b n => getBK hp b fun x => match x with
    | .row _ sz m g _ => match decide (n ≤ m) with
      | true => some (.ext sz n g, [b])
      | false => none
    | _ => none
  | v => match closed v with
    | true => some (v, [])
    | false => none
def preC (hp : List Blk) : List Val → List Val × List Nat
  | [] => ([], [])
  | v :: vs => match readC hp v with
    | some p => (p.1 :: (preC hp vs).1, p.2 ++ (preC hp vs).2)
    | none => ([], [])
def readV (hp : List Blk) (v : Val) : Val × List Nat := match v with
  | .ptr b 0 => getBK hp b fun x => match x with
    | .cells cs => (.rptr (preC hp cs).1, b :: (preC hp cs).2)
    | _ => (.und, [])
  | v => match readC hp v with
    | some p => p
    | none => (.und, [])
def readAs (hp : List Blk) : List Val → List Val × List Nat
  | [] => ([], [])
  | v :: vs => ((readV hp v).1 :: (readAs hp vs).1, (readV hp v).2 ++ (readAs hp vs).2)
/-- a value that names no memory at all -/
def plain1 : Val → Bool
  | .bool _ => true
  | .int .. => true
  | .str _ => true
  | .nilp => true
  | .nils => true
  | _ => false
def plainL : List Val → Bool
  | [] => true
  | v :: vs => plain1 v && plainL vs
def plainV : Val → Bool
  | .tup vs => plainL vs
  | .agg vs => plainL vs
  | v => plain1 v
/-- A call to which the blocks ks are handed. -/
inductive CalledH (P : Program) (f : FuncId) (as : List Val) (hp : List Blk) (nid : Nat) (K : Val → Upd → List Nat → Prop) : Prop
  | mk (ks : List Nat) (v : Val) (h1 : List Blk) (hb : handB hp nid ks = true) (hl : ks.length ≤ h1.length) (hr : Ret P f (renL (idx ks) as) (sel ks hp) v h1)
      (hk : K (renV (back ks nid) v) (backUpd (back ks nid) ks nid h1) ks)
  /-- all that is handed is read alone -/
  | read (v : Val) (hr : Ret P f (readAs hp as).1 [] v []) (hv : plainV v = true) (hk : K v [] (readAs hp as).2)
/-- A call, no block handed: its rows lent ('as'); or its rows handed as blocks ('as0'). -/
inductive Called (P : Program) (f : FuncId) (as as0 : List Val) (hp : List Blk) (nid : Nat) (r : List Nat) (K : Val → Upd → List Nat → Prop) : Prop
  | mk (v : Val) (h1 : List Blk) (hr : Ret P f as [] v h1) (hk : newsK nid v h1 fun v u => K v u r)
  | own (h : CalledH P f as0 hp nid K)
/-- What is needed where rows are lent; or the call with its rows handed as blocks, for which nothing is. -/
inductive NeedC (p G A : Prop) : Prop
  | mk (here : p) (rest : G)
  | own (a : A)
def needC (o : Option Prop) (A G : Prop) : Prop := match o with
  | none => G
  | some p => NeedC p G A
def callRun (P : Program) (fv : Val) (xs : List Val) (hp : List Blk) (nid : Nat) (K : Val → Upd → List Nat → Prop) : Prop :=
  match fv with
  | .fn f fs cs => appK fs xs fun a1 => appK a1 cs fun as => lentAsK hp [] none as fun as' r o => needC o (CalledH P f as hp nid K) <| match closedAs as' with
    | true => Called P f as' as hp nid r K
    | false => CalledH P f as' hp nid fun v u ks => K v u (ks ++ r)
  | _ => False
/-- What an operation puts into a row or a map: rows in it become outer memory. -/
def lentTK (hp : List Blk) : List Operand → List Nat → Option Prop → List Val → (List Val → List Nat → Option Prop → Prop) → Prop
  | [], r, o, tm, K => K tm r o
  | .tmp t :: xs, r, o, tm, K => getK tm t fun v => lentAK hp r o v fun v' r' o' => putK tm t v' fun tm' => lentTK hp xs r' o' tm' K
  | _ :: xs, r, o, tm, K => lentTK hp xs r o tm K
/-- the operands that are put there -/
def putsOf : Op → List Operand
  | .buildSlice _ _ ps => ps.toList.map Prod.snd
  | .mapUpdate _ _ _ v => [v]
  | .insert _ _ _ v => [v]
  | _ => []
def opRun (P : Program) (T : TypeId → TD) (o : Oper) (tm : List Val) (hp : List Blk) (K : Val → Upd → List Nat → Prop) : Prop :=
  lenK hp ids fun nid => match o.op with
    | .call c => match c.callee with
      | .value x => evK tm x fun fv => evsK tm c.args.toList fun xs => callRun P fv xs hp nid K
      | _ => (opP T o tm nid).runL hp [] none fun v u r o => needK o (K v u r)
    | _ => lentTK hp (putsOf o.op) [] none tm fun tm' r o' => (opP T o tm' nid).runL hp r o' fun v u r o => needK o (K v u r)

/-! ### regions -/
def dstK {α : Type} (all : List Oper) (j : Nat) (K : Option Tmp → α) : α :=
  match all, j with
  | [], _ => K none
  | o :: _, 0 => K o.dst
  | _ :: l, j + 1 => dstK l j K
/-- Is the operation carried out? -/
def wantK (all : List Oper) (o : Oper) (tm : List Val) (K : Bool → List Val → Prop) : Prop :=
  match o.guard with
  | none => K true tm
  | some (j, want) => dstK all j fun d => match d with
    | none => K false tm
    | some d => getK tm d fun v => match v with
      | .bool b => Pick b fun b => putK tm d (.bool b) fun tm' => K (b == want) tm'
      | .tup [] => K false tm
      | _ => False
def putDK {α : Type} (tm : List Val) (d : Option Tmp) (v : Val) (K : List Val → α) : α :=
  match d with
  | none => K tm
  | some t => putK tm t v K
/- In what follows the rest of the run ('C', 'K') is named once in each definition: the kernel compares it once. -/
/-- All rows are to be written no more. -/
def raiseB : Blk → Blk
  | .row e sz n g _ => .row e sz n g n
  | b => b
def raiseC {α : Type} (x : Blk) (k : Blk → α) : α := match x with
  | .row e sz n g _ => k (.row e sz n g n)
  | .cells cs => k (.cells cs)
  | .map a b ks es => k (.map a b ks es)
  | .pmap a ks es => k (.pmap a ks es)
  | .gone => k .gone
def raiseK {α : Type} : List Blk → (List Blk → α) → α
  | [], K => K []
  | x :: l, K => raiseC x fun y => raiseK l fun l' => K (y :: l')

/-- New rows, given up to be read alone from the first ('fl'). -/
def raiseUK {α : Type} (fl : Bool) : Upd → (Upd → α) → α
  | [], K => K []
  | (b, x) :: u, K => (match fl with
    | true => raiseC x
    | false => fun k => k x) fun y => raiseUK fl u fun u' => K ((b, y) :: u')
def stepK (P : Program) (T : TypeId → TD) (fl : Bool) (o : Oper) (b : Bool) (tm : List Val) (hp : List Blk) (C : List Val → List Blk → Prop) : Prop :=
  match b with
  | true => opRun P T o tm hp fun v u _ => raiseUK fl u fun u => updK hp u fun hp' => putDK tm o.dst v fun tm' => C tm' hp'
  | false => putDK tm o.dst (.tup []) fun tm' => C tm' hp
def regK (P : Program) (T : TypeId → TD) (fl : Bool) (all : List Oper) : List Oper → List Val → List Blk → (List Val → List Blk → Prop) → Prop
  | [], tm, hp, K => K tm hp
  | o :: rest, tm, hp, K => wantK all o tm fun b tm => stepK P T fl o b tm hp fun tm' hp' => regK P T fl all rest tm' hp' K
/-- What an operation read and wrote. -/
abbrev Log := List Nat × List Nat
def domK {α : Type} : Upd → (List Nat → α) → α
  | [], K => K []
  | (b, _) :: u, K => domK u fun l => K (b :: l)
def stepDK (P : Program) (T : TypeId → TD) (fl : Bool) (o : Oper) (b : Bool) (tm : List Val) (hp : List Blk) (C : List Val → List Blk → Log → Prop) : Prop :=
  match b with
  | true => opRun P T o tm hp fun v u r => raiseUK fl u fun u => updK hp u fun hp' => putDK tm o.dst v fun tm' => domK u fun d => C tm' hp' (r, d)
  | false => putDK tm o.dst (.tup []) fun tm' => C tm' hp ([], [])
def drawK (P : Program) (T : TypeId → TD) (fl : Bool) (all : List Oper) : List Oper → List Val → List Blk → List Log → (List Val → List Blk → List Log → Prop) → Prop
  | [], tm, hp, lg, K => K tm hp lg
  | o :: rest, tm, hp, lg, K => wantK all o tm fun b tm => stepDK P T fl o b tm hp fun tm' hp' g => drawK P T fl all rest tm' hp' (g :: lg) K
/-- What stands before an operation, as bits. -/
def orAll (as : List Nat) : List Edge → Nat
  | [] => 0
  | e :: es => match Region.binds .any e with
    | true => (2 ^ e.on ||| as.getD e.on 0) ||| orAll as es
    | false => orAll as es
/-- The operations' ancestors, the earlier ones' being there. -/
def anc (as : List Nat) : List Oper → List Nat
  | [] => as
  | o :: rest => anc (as ++ [orAll as o.after.toList]) rest
def meets : List Nat → List Nat → Bool
  | [], _ => false
  | x :: l, m => m.elem x || meets l m
/-- The pairs i < j that are not ordered: nothing that the one writes does the other touch. -/
def pairB (ops : List Oper) (o : Oper) (lg : Log) (a : Nat) : Nat → List Oper → List Log → Bool
  | _, [], _ => true
  | _, _ :: _, [] => false
  | i, p :: ps, g :: gs => (a.testBit i || (p.apart ops.toArray o && !(meets g.2 lg.1) && !(meets g.2 lg.2) && !(meets g.1 lg.2))) && pairB ops o lg a (i + 1) ps gs
def edgesB (i : Nat) (es : List Edge) : Bool := es.all fun e => !Region.binds .any e || decide (e.on < i)
def pairsB (ops : List Oper) (as : List Nat) (done : List Oper) (dl : List Log) : Nat → List Oper → List Log → Bool
  | _, [], _ => true
  | _, _ :: _, [] => false
  | j, o :: rest, g :: gs => edgesB j o.after.toList && pairB ops o g (as.getD j 0) 0 done dl && pairsB ops as (done ++ [o]) (dl ++ [g]) (j + 1) rest gs
def regionB (ops : List Oper) (lg : List Log) : Bool := pairsB ops (anc [] ops) [] [] 0 ops lg.reverse

def hasL : Code → Nat → Bool
  | .seq a b, l => hasL a l || hasL b l
  | .label l', l => l' == l
  | _, _ => false

/-- The blocks that are kept: the first n in their places. -/
def keepB (n : Nat) (ks : List Nat) : Bool := nodupB ks && (List.range n).isPrefixOf ks
abbrev Kont := Ex → List Val → List Blk → Prop
def thenK (f : List Val → List Blk → Kont → Prop) (K : Kont) : Kont := fun e tm hp => match e with
  | .normal => f tm hp K
  | e => K e tm hp
def blockK (id : Nat) (K : Kont) : Kont := fun e tm hp => K (match e with
  | .exit i => match i == id with
    | true => .normal
    | false => .exit i
  | e => e) tm hp
def loopK (I : List Val → List Blk → Prop) (K : Kont) : Kont := fun e tm hp => match e with
  | .normal => I tm hp
  | e => K e tm hp
def jumpK (J : Nat → List Val → List Blk → Prop) (K : Kont) : Kont := fun e tm hp => match e with
  | .goto l => J l tm hp
  | e => K e tm hp
def normK (K : Kont) : List Val → List Blk → Prop := fun tm hp => K .normal tm hp
def drawnK (ops : List Oper) (K : Kont) : List Val → List Blk → List Log → Prop := fun tm hp lg => Need (regionB ops lg = true) (K .normal tm hp)
/-- A truth value decides between two pieces of code. -/
structure Cond (b : Bool) (X Y : Option Nat → List Val → List Blk → Kont → Prop) (tm : List Val) (hp : List Blk) (K : Kont) : Prop where
  yes : b = true → X none tm hp K
  no : b = false → Y none tm hp K
def hasCall : List Oper → Bool
  | [] => false
  | o :: l => match o.op with
    | .call c => match c.callee with
      | .value _ => true
      | _ => hasCall l
    | _ => hasCall l
/-- The usual: rows are given up to be read alone where something is called. -/
def atCalls (_ : Nat) (ops : List Oper) : Bool := hasCall ops
def atNone (_ : Nat) (_ : List Oper) : Bool := false
def goK (P : Program) (T : TypeId → TD) (fl : Bool) (ops : List Oper) (d : Bool) (tm : List Val) (K : Kont) (hp : List Blk) : Prop :=
  match d with
  | false => regK P T fl ops ops tm hp (normK K)
  | true => drawK P T fl ops ops tm hp [] (drawnK ops K)
/-- What code does, from its start ('none') or from a label. 'R': the regions before which rows are given up to be read alone; 'n': how many blocks the caller handed. -/
def wp (P : Program) (T : TypeId → TD) (R : Nat → List Oper → Bool) (n : Nat) : Code → Option Nat → List Val → List Blk → Kont → Prop
  | .skip, none, tm, hp, K => K .normal tm hp
  | .region id ops d, none, tm, hp, K => (match R id ops.toList with
    | true => raiseK hp
    | false => fun go => go hp) (goK P T (R id ops.toList) ops.toList d tm K)
  | .seq a b, none, tm, hp, K => wp P T R n a none tm hp (thenK (wp P T R n b none) K)
  | .seq a b, some l, tm, hp, K => match hasL a l with
    | true => wp P T R n a (some l) tm hp (thenK (wp P T R n b none) K)
    | false => wp P T R n b (some l) tm hp K
  | .cond c x y, none, tm, hp, K => evK tm c fun v => match v with
    | .bool b => Cond b (wp P T R n x) (wp P T R n y) tm hp K
    | _ => False
  | .block id c, none, tm, hp, K => wp P T R n c none tm hp (blockK id K)
  | .loop c, none, tm, hp, K => ∀ I : List Val → List Blk → Prop, (∀ ks m tm hp, keepB n ks = true → gcK ks m tm hp I → I tm hp) →
    (∀ tm hp, wp P T R n c none tm hp (loopK I K) → I tm hp) → I tm hp
  | .exit id, none, tm, hp, K => K (.exit id) tm hp
  | .scope c, none, tm, hp, K => ∀ J : Nat → List Val → List Blk → Prop, (∀ l ks m tm hp, keepB n ks = true → gcK ks m tm hp (J l) → J l tm hp) →
    (∀ l tm hp, wp P T R n c (some l) tm hp (jumpK J K) → J l tm hp) → wp P T R n c none tm hp (jumpK J K)
  | .label _, none, tm, hp, K => K .normal tm hp
  | .label l', some l, tm, hp, K => match l' == l with
    | true => K .normal tm hp
    | false => False
  | .goto l, none, tm, hp, K => K (.goto l) tm hp
  | .ret, none, tm, hp, K => K .ret tm hp
  | _, _, _, _, _ => False

/-! ### a function -/
def resK (T : TypeId → TD) (tm : List Val) (hp : List Blk) : List ResultVar → (List Val → Prop) → Prop
  | [], K => K []
  | .tmp t :: rs, K => getK tm t fun v => resK T tm hp rs fun vs => K (v :: vs)
  | .cell t ty :: rs, K => getK tm t fun a => (nb (T ty) fun d => loadP d a).runL hp [] none fun v u _ o => needK o <| match u with
    | [] => resK T tm hp rs fun vs => K (v :: vs)
    | _ => False
def tupK {α : Type} (vs : List Val) (K : Val → α) : α :=
  match vs with
  | [v] => K v
  | vs => K (.tup vs)
def closedR : Val → Bool
  | .tup vs => closedAs vs
  | v => closedA v
structure End (v vt : Val) (ht : List Blk) : Prop where
  val : v = vt
  none : ht = []
/-- Blocks are handed back: ks of them, the caller's own first. -/
inductive EndH (n : Nat) (v : Val) (hp : List Blk) (vt : Val) (ht : List Blk) : Prop
  | mk (ks : List Nat) (hk : keepB n ks = true) (hv : renV (idx ks) v = vt) (hh : sel ks hp = ht)
/-- The end: the value and the blocks, as the contract names them. -/
def endK (n : Nat) (v : Val) (hp : List Blk) (vt : Val) (ht : List Blk) : Prop :=
  match n, closedR v with
  | 0, true => End v vt ht
  | n, _ => EndH n v hp vt ht
def blankK {α : Type} : Nat → (List Val → α) → α
  | 0, K => K []
  | n + 1, K => blankK n fun l => K (.tup [] :: l)
def padK {α : Type} : List Val → Nat → (List Val → α) → α
  | [], n, K => blankK n K
  | v :: vs, n, K => padK vs (n - 1) fun l => K (v :: l)
def finK (T : TypeId → TD) (rs : List ResultVar) (n : Nat) (v : Val) (h' : List Blk) : Kont := fun e tm hp => match e with
  | .normal | .ret => resK T tm hp rs fun vs => tupK vs fun x => endK n x hp v h'
  | _ => False
/-- The goal from which a contract follows. -/
def body (P : Program) (T : TypeId → TD) (R : Nat → List Oper → Bool) (k : Nat) (rs : List ResultVar) (c : Code) (args : List Val) (h : List Blk) (v : Val) (h' : List Blk) : Prop :=
  padK args k fun tm => wp P T R h.length c none tm h (finK T rs h.length v h')
end
end Go.AM

